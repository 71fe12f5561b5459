/- Printed by amprint2.py: functions of YtfonnghgbcoipaaDoor on the abstract machine. -/
import Derived.Test.YtfonnghgbcoipaaDoorAmWp
import Derived.Test.YtfonnghgbcoipaaDoorProg
set_option linter.all false
set_option linter.unusedVariables false
set_option maxRecDepth 100000
namespace Go.AM.Cap
open Go.AM Go.Proofs

def fid_law03_WireLists : Nat := 3
def fid_law03_WireBack : Nat := 4
def fid_law03_WireCuts : Nat := 5
def fid_law03_WireJoins : Nat := 6
def fid_book_LendItems : Nat := 7
def fid_wire_Encode : Nat := 8
def fid_ref03_Encode : Nat := 9
def fid_wire_Decode : Nat := 10
def fid_ref03_Decode : Nat := 11
def fid_book_SameItems : Nat := 12
def fid_book_KeptItems : Nat := 13
def fid_law03_works : Nat := 14
def fid_ref03_May : Nat := 15
def fid_ref03_Bytes : Nat := 16
def fid_wire_list : Nat := 17
def fid_wire_fault : Nat := 18
def fid_ref03_Fault : Nat := 19
def fid_ref03_item : Nat := 20
def fid_ref03_One : Nat := 21
def fid_wire_bad : Nat := 22
def fid_wire_unsigned : Nat := 23
def fid_wire_item : Nat := 24
def fid_errors_As : Nat := 25
def tid_string : Nat := 9
def tid_wire_broken : Nat := 56
def tid_p_wire_broken : Nat := 58

/-! ### capstan/capstanbook.LendItems -/
def F_book_LendItems (x0 : V) : M V :=
  bnd (
    bnd (bslc 3 0 (rep 0 [Value.bool false, Value.int .i64 0, Value.string ⟨#[]⟩]) []) fun x4 =>
    bnd (appV 3 32 x4 x0) fun x6 =>
    bnd (lift (build [Value.bool false, Value.int .i64 0, Value.string ⟨#[]⟩] [(1, 1, (Value.int .i64 (-77)))])) fun x8 =>
    bnd (bslc 3 1 (rep 1 [Value.bool false, Value.int .i64 0, Value.string ⟨#[]⟩]) [(0, 3, x8)]) fun x9 =>
    bnd (appV 3 32 x6 x9) fun x10 =>
    bnd (lift (lenSlc x0)) fun x13 =>
    bnd (lift (subV 3 x10 none (some x13))) fun x14 =>
    ret (.ret [x14])
    ) fun o => finM o fun vs => ret (outV [(at_ vs 0)])
def h_book_LendItems : Hint := (.seq [] .leaf (.seq [] .leaf (.seq [] .leaf (.seq [] .leaf .leaf))))
def A_book_LendItems (l : List V) : M V := match l with | [x0] => F_book_LendItems x0 | _ => fail
theorem e_book_LendItems (x0 : V) : funM Tryd.prog (ovr [] noC) fid_book_LendItems h_book_LendItems [x0] = F_book_LendItems x0 := by kernel_rfl
theorem K_book_LendItems : Known Tryd.prog fid_book_LendItems (A_book_LendItems) := known_of (σ := ovr [] noC) (hint := h_book_LendItems) (by kernel_rfl) simAll_nil0 fun l H r H' h => by
  unfold A_book_LendItems at h; split at h
  · rw [e_book_LendItems]; exact h
  · exact (fail_ne h).elim

/-! ### capstan/wire.Encode -/
def wire_Encode_k0 (vs_7 : List V) : M Out :=
  bnd (lift (bin .sub (at_ vs_7 3) (Value.int .i64 8))) fun x32 =>
  ret (.nxt [(at_ vs_7 0), (at_ vs_7 1), (at_ vs_7 2), x32, (at_ vs_7 4), (at_ vs_7 5), (at_ vs_7 6)])
def wire_Encode_k1 (vs_6 : List V) : M Out :=
  bnd (
  bnd (
    bnd (lift (faddr 1 (at_ vs_6 2))) fun x34 =>
    bnd (ld1 x34) fun x35 =>
    bnd (lift (cvi .u64 x35)) fun x36 =>
    bnd (lift (bin .shr x36 (at_ vs_6 3))) fun x38 =>
    bnd (lift (cvi .u8 x38)) fun x39 =>
    bnd (bslc 1 1 (rep 1 [Value.int .u8 0]) [(0, 1, x39)]) fun x40 =>
    bnd (appV 1 1 (at_ vs_6 0) x40) fun x41 =>
    ret (.nxt [x41, (at_ vs_6 1), (at_ vs_6 2), (at_ vs_6 3), (at_ vs_6 4), (at_ vs_6 5), (at_ vs_6 6)])
    ) fun o => ret (unblk 4 o)
  ) fun o => nx o wire_Encode_k0
def wire_Encode_l2 (vs_5 : List V) : M Out :=
  bnd (
  bnd (lift (bin .geq (at_ vs_5 3) (Value.int .i64 0))) fun x30 =>
  condM x30 (
    ret (.nxt [(at_ vs_5 0), (at_ vs_5 1), (at_ vs_5 2), (at_ vs_5 3), (at_ vs_5 4), (at_ vs_5 5), (at_ vs_5 6)])
    ) (
    ret (.brk 3 [(at_ vs_5 0), (at_ vs_5 1), (at_ vs_5 4), (at_ vs_5 5), (at_ vs_5 6)])
    )
  ) fun o => nx o wire_Encode_k1
def wire_Encode_k3 (vs_4 : List V) : M Out :=
      condM (at_ vs_4 6) (
        ret (.ret [(Value.string ⟨#[]⟩), (Value.int .i64 4)])
        ) (
        bnd (lift (lenSlc (at_ vs_4 0))) fun x66 =>
        bnd (lift (bin .gtr x66 (Value.int .i64 65536))) fun x67 =>
        condM x67 (
          ret (.nxt [(at_ vs_4 0), (Value.bool true), (at_ vs_4 3), (at_ vs_4 4), (at_ vs_4 5)])
          ) (
          bnd (lift (faddr 0 (at_ vs_4 2))) fun x69 =>
          bnd (ld1 x69) fun x70 =>
          condM x70 (
            withH fun h0 =>
            bnd (lift (faddr 2 (at_ vs_4 2))) fun x72 =>
            bnd (lift (faddr 2 (at_ vs_4 2))) fun x77 =>
            bnd (lift (faddr 2 (at_ vs_4 2))) fun x83 =>
            bnd (ld1 x72) fun x73 =>
            bnd (lift (lenStr x73)) fun x74 =>
            bnd (lift (bin .shr x74 (Value.int .u64 8))) fun x75 =>
            bnd (lift (cvi .u8 x75)) fun x76 =>
            bnd (ld1 x77) fun x78 =>
            bnd (lift (lenStr x78)) fun x79 =>
            bnd (lift (cvi .u8 x79)) fun x80 =>
            bnd (ld1 x83) fun x84 =>
            bndH (bslc 1 3 (rep 3 [Value.int .u8 0]) [(0, 1, (Value.int .u8 36)), (1, 1, x76), (2, 1, x80)]) fun ha x81 h1 =>
            bndH (appV 1 1 (at_ vs_4 0) x81) fun ha_2 x82 h2 =>
            bndH (appS x82 x84) fun ha_3 x85 h3 =>
            need (chk (ld1 x83) h1 x84) <|
            need (chk (ld1 x83) h2 x84) <|
            ret (.nxt [x85, (at_ vs_4 1), (at_ vs_4 3), (at_ vs_4 4), (at_ vs_4 5)])
            ) (
            bnd (bslc 1 1 (rep 1 [Value.int .u8 0]) [(0, 1, (Value.int .u8 35))]) fun x27 =>
            bnd (appV 1 1 (at_ vs_4 0) x27) fun x28 =>
            bnd (
              loopM FUEL wire_Encode_l2 [x28, (at_ vs_4 1), (at_ vs_4 2), (Value.int .i64 56), (at_ vs_4 3), (at_ vs_4 4), (at_ vs_4 5)]
              ) fun o => ret (unblk 3 o)
            )
          )
        )
def wire_Encode_k4 (vs_8 : List V) : M Out :=
  bnd (lift (bin .add (at_ vs_8 4) (Value.int .i64 1))) fun x86 =>
  ret (.nxt [(at_ vs_8 0), (at_ vs_8 1), (at_ vs_8 2), (at_ vs_8 3), x86])
def wire_Encode_k5 (vs_3 : List V) : M Out :=
  bnd (
  bnd (
    bnd (lift (iaddrS 3 (at_ vs_3 2) (at_ vs_3 4))) fun x24 =>
    bnd (ldn 3 x24) fun x25 =>
    bnd (newc [Value.bool false, Value.int .i64 0, Value.string ⟨#[]⟩]) fun x7 =>
    bnd (stn 3 x7 x25) fun _ =>
    bnd (
      bnd (
        bnd (lift (faddr 0 x7)) fun x43 =>
        bnd (ld1 x43) fun x44 =>
        bnd (gd x44 true (lift (faddr 1 x7))) fun x46 =>
        bnd (gd x44 true (ld1 x46)) fun x47 =>
        bnd (gd x44 true (lift (bin .neq x47 (Value.int .i64 0)))) fun x48 =>
        bnd (gd x44 true (lift (some x48))) fun x49 =>
        bnd (gd x49 false (lift (faddr 2 x7))) fun x50 =>
        bnd (gd x49 false (ld1 x50)) fun x51 =>
        bnd (gd x49 false (lift (lenStr x51))) fun x52 =>
        bnd (gd x49 false (lift (bin .gtr x52 (Value.int .i64 65535)))) fun x53 =>
        bnd (gd x44 true (lift (pickV x49 (Value.bool true) x53))) fun x54 =>
        bnd (lift (pickV x44 x54 (Value.bool false))) fun x55 =>
        condM x55 (
          ret (.nxt [(at_ vs_3 0), (at_ vs_3 1), x7, (at_ vs_3 2), (at_ vs_3 3), (at_ vs_3 4), x55])
          ) (
          bnd (lift (faddr 0 x7)) fun x56 =>
          bnd (ld1 x56) fun x57 =>
          bnd (lift (un .not x57)) fun x58 =>
          bnd (gd x58 true (lift (faddr 2 x7))) fun x60 =>
          bnd (gd x58 true (ld1 x60)) fun x61 =>
          bnd (gd x58 true (lift (bin .neq x61 (Value.string ⟨#[]⟩)))) fun x62 =>
          bnd (lift (pickV x58 x62 (Value.bool false))) fun x63 =>
          ret (.nxt [(at_ vs_3 0), (at_ vs_3 1), x7, (at_ vs_3 2), (at_ vs_3 3), (at_ vs_3 4), x63])
          )
        ) fun o => nx o wire_Encode_k3
      ) fun o => ret (unblk 2 o)
    ) fun o => ret (unblk 1 o)
  ) fun o => nx o wire_Encode_k4
def wire_Encode_l6 (vs_2 : List V) : M Out :=
  bnd (lift (bin .lss (at_ vs_2 4) (at_ vs_2 3))) fun x23 =>
  bnd (
  condM x23 (
    ret (.nxt [(at_ vs_2 0), (at_ vs_2 1), (at_ vs_2 2), (at_ vs_2 3), (at_ vs_2 4)])
    ) (
    ret (.brk 0 [(at_ vs_2 0), (at_ vs_2 1)])
    )
  ) fun o => nx o wire_Encode_k5
def wire_Encode_k7 (vs_10 : List V) : M Out :=
  bnd (b2s (at_ vs_10 0)) fun x94 =>
  ret (.ret [x94, (Value.int .i64 0)])
def wire_Encode_k8 (vs_9 : List V) : M Out :=
  bnd (
    bnd (gd (at_ vs_9 1) false (lift (some (at_ vs_9 0)))) fun x89 =>
    bnd (gd (at_ vs_9 1) false (lift (lenSlc x89))) fun x90 =>
    bnd (gd (at_ vs_9 1) false (lift (bin .gtr x90 (Value.int .i64 65536)))) fun x91 =>
    bnd (lift (pickV (at_ vs_9 1) (Value.bool true) x91)) fun x92 =>
    condM x92 (
      ret (.ret [(Value.string ⟨#[]⟩), (Value.int .i64 2)])
      ) (
      ret (.nxt [(at_ vs_9 0)])
      )
    ) fun o => nx o wire_Encode_k7
def wire_Encode_k9 (vs : List V) : M Out :=
  bnd (lift (lenSlc (at_ vs 0))) fun x13 =>
  bnd (lift (bin .shr x13 (Value.int .u64 8))) fun x14 =>
  bnd (lift (cvi .u8 x14)) fun x15 =>
  bnd (lift (lenSlc (at_ vs 0))) fun x17 =>
  bnd (lift (cvi .u8 x17)) fun x18 =>
  bnd (bslc 1 2 (rep 2 [Value.int .u8 0]) [(0, 1, x15), (1, 1, x18)]) fun x19 =>
  bnd (
    bnd (lift (lenSlc (at_ vs 0))) fun x21 =>
    bnd (
      loopM FUEL wire_Encode_l6 [x19, (Value.bool false), (at_ vs 0), x21, (Value.int .i64 0)]
      ) fun o => ret (unblk 0 o)
    ) fun o => nx o wire_Encode_k8
def F_wire_Encode (x0 : V) : M V :=
  bnd (
    bnd (
      bnd (lift (lenSlc x0)) fun x10 =>
      bnd (lift (bin .gtr x10 (Value.int .i64 1000))) fun x11 =>
      condM x11 (
        ret (.ret [(Value.string ⟨#[]⟩), (Value.int .i64 2)])
        ) (
        ret (.nxt [x0])
        )
      ) fun o => nx o wire_Encode_k9
    ) fun o => finM o fun vs => ret (outV [(at_ vs 0), (at_ vs 1)])
def h_wire_Encode : Hint := (.seq [] .leaf (.seq [0] (.seq [] .leaf (.cond (.seq [] .leaf .leaf) .leaf)) (.seq [] .leaf (.seq [] .leaf (.seq [4, 5] (.seq [] .leaf (.blk (.loop [4, 5, 20, 21, 22] (.seq [] .leaf (.seq [4, 5, 20, 21, 22] (.cond .leaf .leaf) (.seq [4, 5, 20, 21, 22] (.blk (.seq [] .leaf (.blk (.seq [4, 5, 7, 20, 21, 22, 42] (.seq [] .leaf (.cond .leaf .leaf)) (.cond (.seq [] .leaf .leaf) (.seq [] .leaf (.cond .leaf (.seq [] .leaf (.cond (.reg [0, 1, 6, 12, 2, 3, 4, 5, 7, 8, 9, 13, 10, 11, 14, 15] []) (.seq [] .leaf (.seq [] .leaf (.blk (.loop [4, 5, 7, 8, 20, 21, 22] (.seq [4, 5, 7, 8, 20, 21, 22] (.seq [] .leaf (.cond .leaf .leaf)) (.seq [4, 5, 7, 8, 20, 21, 22] (.blk .leaf) .leaf))))))))))))))) .leaf)))))) (.seq [4] (.seq [] .leaf (.cond (.seq [] .leaf .leaf) .leaf)) (.seq [] .leaf .leaf)))))))
def A_wire_Encode (l : List V) : M V := match l with | [x0] => F_wire_Encode x0 | _ => fail
theorem e_wire_Encode (x0 : V) : funM Tryd.prog (ovr [] noC) fid_wire_Encode h_wire_Encode [x0] = F_wire_Encode x0 := by kernel_rfl
theorem K_wire_Encode : Known Tryd.prog fid_wire_Encode (A_wire_Encode) := known_of (σ := ovr [] noC) (hint := h_wire_Encode) (by kernel_rfl) simAll_nil0 fun l H r H' h => by
  unfold A_wire_Encode at h; split at h
  · rw [e_wire_Encode]; exact h
  · exact (fail_ne h).elim

/-! ### capstan/capstanref03.May -/
def F_ref03_May (x0 : V) : M V :=
  bnd (
    bnd (boxv x0) fun x1 =>
    bnd (lift (faddr 0 x1)) fun x3 =>
    bnd (ld1 x3) fun x4 =>
    bnd (gd x4 true (lift (faddr 1 x1))) fun x6 =>
    bnd (gd x4 true (ld1 x6)) fun x7 =>
    bnd (gd x4 true (lift (bin .eql x7 (Value.int .i64 0)))) fun x8 =>
    bnd (lift (pickV x4 x8 (Value.bool false))) fun x9 =>
    bnd (gd x9 true (lift (faddr 2 x1))) fun x11 =>
    bnd (gd x9 true (ld1 x11)) fun x12 =>
    bnd (gd x9 true (lift (lenStr x12))) fun x13 =>
    bnd (gd x9 true (lift (bin .leq x13 (Value.int .i64 65535)))) fun x14 =>
    bnd (lift (pickV x9 x14 (Value.bool false))) fun x15 =>
    bnd (gd x15 false (lift (faddr 0 x1))) fun x17 =>
    bnd (gd x15 false (ld1 x17)) fun x18 =>
    bnd (gd x15 false (lift (un .not x18))) fun x19 =>
    bnd (gd x15 false (lift (some x19))) fun x20 =>
    bnd (gd x20 true (lift (faddr 2 x1))) fun x21 =>
    bnd (gd x20 true (ld1 x21)) fun x22 =>
    bnd (gd x20 true (lift (bin .eql x22 (Value.string ⟨#[]⟩)))) fun x23 =>
    bnd (gd x15 false (lift (pickV x20 x23 (Value.bool false)))) fun x24 =>
    bnd (lift (pickV x15 (Value.bool true) x24)) fun x25 =>
    ret (.ret [x25])
    ) fun o => finM o fun vs => ret (outV [(at_ vs 0)])
def h_ref03_May : Hint := (.seq [] .leaf (.seq [] .leaf .leaf))
def A_ref03_May (l : List V) : M V := match l with | [x0] => F_ref03_May x0 | _ => fail
theorem e_ref03_May (x0 : V) : funM Tryd.prog (ovr [] noC) fid_ref03_May h_ref03_May [x0] = F_ref03_May x0 := by kernel_rfl
theorem K_ref03_May : Known Tryd.prog fid_ref03_May (A_ref03_May) := known_of (σ := ovr [] noC) (hint := h_ref03_May) (by kernel_rfl) simAll_nil0 fun l H r H' h => by
  unfold A_ref03_May at h; split at h
  · rw [e_ref03_May]; exact h
  · exact (fail_ne h).elim

/-! ### capstan/capstanref03.One -/
def ref03_One_k0 (vs_4 : List V) : M Out :=
  bnd (lift (bin .sub (at_ vs_4 2) (Value.int .i64 1))) fun x26 =>
  ret (.nxt [(at_ vs_4 0), (at_ vs_4 1), x26])
def ref03_One_k1 (vs_3 : List V) : M Out :=
  bnd (
  bnd (
    bnd (lift (faddr 1 (at_ vs_3 0))) fun x28 =>
    bnd (ld1 x28) fun x29 =>
    bnd (lift (cvi .u64 x29)) fun x30 =>
    bnd (lift (bin .mul (Value.int .i64 8) (at_ vs_3 2))) fun x32 =>
    bnd (lift (bin .shr x30 x32)) fun x33 =>
    bnd (lift (cvi .u8 x33)) fun x34 =>
    bnd (bslc 1 1 (rep 1 [Value.int .u8 0]) [(0, 1, x34)]) fun x35 =>
    bnd (appV 1 1 (at_ vs_3 1) x35) fun x36 =>
    ret (.nxt [(at_ vs_3 0), x36, (at_ vs_3 2)])
    ) fun o => ret (unblk 1 o)
  ) fun o => nx o ref03_One_k0
def ref03_One_l2 (vs_2 : List V) : M Out :=
  bnd (
  bnd (lift (bin .geq (at_ vs_2 2) (Value.int .i64 0))) fun x24 =>
  condM x24 (
    ret (.nxt [(at_ vs_2 0), (at_ vs_2 1), (at_ vs_2 2)])
    ) (
    ret (.brk 0 [(at_ vs_2 1)])
    )
  ) fun o => nx o ref03_One_k1
def ref03_One_k3 (vs_5 : List V) : M Out :=
  bnd (b2s (at_ vs_5 0)) fun x38 =>
  ret (.ret [x38])
def ref03_One_k4 (vs : List V) : M Out :=
  bnd (bslc 1 1 (rep 1 [Value.int .u8 0]) [(0, 1, (Value.int .u8 35))]) fun x22 =>
  bnd (
    bnd (
      loopM FUEL ref03_One_l2 [(at_ vs 0), x22, (Value.int .i64 7)]
      ) fun o => ret (unblk 0 o)
    ) fun o => nx o ref03_One_k3
def F_ref03_One (x0 : V) : M V :=
  bnd (
    bnd (boxv x0) fun x1 =>
    bnd (
      bnd (lift (faddr 0 x1)) fun x5 =>
      bnd (ld1 x5) fun x6 =>
      condM x6 (
        bnd (lift (faddr 2 x1)) fun x7 =>
        bnd (ld1 x7) fun x8 =>
        bnd (lift (lenStr x8)) fun x9 =>
        bnd (lift (bin .quo x9 (Value.int .i64 256))) fun x10 =>
        bnd (lift (cvi .u8 x10)) fun x11 =>
        bnd (lift (faddr 2 x1)) fun x12 =>
        bnd (ld1 x12) fun x13 =>
        bnd (lift (lenStr x13)) fun x14 =>
        bnd (lift (bin .rem x14 (Value.int .i64 256))) fun x15 =>
        bnd (lift (cvi .u8 x15)) fun x16 =>
        bnd (bslc 1 3 (rep 3 [Value.int .u8 0]) [(0, 1, (Value.int .u8 36)), (1, 1, x11), (2, 1, x16)]) fun x17 =>
        bnd (b2s x17) fun x18 =>
        bnd (lift (faddr 2 x1)) fun x19 =>
        bnd (ld1 x19) fun x20 =>
        bnd (lift (bin .add x18 x20)) fun x21 =>
        ret (.ret [x21])
        ) (
        ret (.nxt [x1])
        )
      ) fun o => nx o ref03_One_k4
    ) fun o => finM o fun vs => ret (outV [(at_ vs 0)])
def h_ref03_One : Hint := (.seq [] .leaf (.seq [1] (.seq [] .leaf (.cond (.seq [] .leaf .leaf) .leaf)) (.seq [] .leaf (.seq [3] (.seq [] .leaf (.blk (.loop [1, 3, 4] (.seq [1, 3, 4] (.seq [] .leaf (.cond .leaf .leaf)) (.seq [1, 3, 4] (.blk .leaf) .leaf))))) (.seq [] .leaf .leaf)))))
def A_ref03_One (l : List V) : M V := match l with | [x0] => F_ref03_One x0 | _ => fail
theorem e_ref03_One (x0 : V) : funM Tryd.prog (ovr [] noC) fid_ref03_One h_ref03_One [x0] = F_ref03_One x0 := by kernel_rfl
theorem K_ref03_One : Known Tryd.prog fid_ref03_One (A_ref03_One) := known_of (σ := ovr [] noC) (hint := h_ref03_One) (by kernel_rfl) simAll_nil0 fun l H r H' h => by
  unfold A_ref03_One at h; split at h
  · rw [e_ref03_One]; exact h
  · exact (fail_ne h).elim

/-! ### capstan/capstanref03.Bytes -/
def ref03_Bytes_k0 (vs_3 : List V) : M Out :=
  bnd (lift (bin .add (at_ vs_3 2) (Value.int .i64 1))) fun x24 =>
  ret (.nxt [(at_ vs_3 0), (at_ vs_3 1), x24])
def ref03_Bytes_k1 (vs_2 : List V) : M Out :=
  bnd (
  bnd (
    bnd (lift (iaddrS 3 (at_ vs_2 0) (at_ vs_2 2))) fun x28 =>
    bnd (ldn 3 x28) fun x29 =>
    bnd (A_ref03_One [x29]) fun x30 =>
    bnd (appS (at_ vs_2 1) x30) fun x31 =>
    ret (.nxt [(at_ vs_2 0), x31, (at_ vs_2 2)])
    ) fun o => ret (unblk 1 o)
  ) fun o => nx o ref03_Bytes_k0
def ref03_Bytes_l2 (vs : List V) : M Out :=
  bnd (
  bnd (lift (lenSlc (at_ vs 0))) fun x16 =>
  bnd (lift (bin .lss (at_ vs 2) x16)) fun x17 =>
  bnd (gd x17 true (lift (some (at_ vs 1)))) fun x19 =>
  bnd (gd x17 true (lift (lenSlc x19))) fun x20 =>
  bnd (gd x17 true (lift (bin .leq x20 (Value.int .i64 65536)))) fun x21 =>
  bnd (lift (pickV x17 x21 (Value.bool false))) fun x22 =>
  condM x22 (
    ret (.nxt [(at_ vs 0), (at_ vs 1), (at_ vs 2)])
    ) (
    ret (.brk 0 [(at_ vs 1)])
    )
  ) fun o => nx o ref03_Bytes_k1
def ref03_Bytes_k3 (vs_4 : List V) : M Out :=
  bnd (b2s (at_ vs_4 0)) fun x33 =>
  ret (.ret [x33])
def F_ref03_Bytes (x0 : V) : M V :=
  bnd (
    bnd (lift (lenSlc x0)) fun x6 =>
    bnd (lift (bin .quo x6 (Value.int .i64 256))) fun x7 =>
    bnd (lift (cvi .u8 x7)) fun x8 =>
    bnd (lift (lenSlc x0)) fun x10 =>
    bnd (lift (bin .rem x10 (Value.int .i64 256))) fun x11 =>
    bnd (lift (cvi .u8 x11)) fun x12 =>
    bnd (bslc 1 2 (rep 2 [Value.int .u8 0]) [(0, 1, x8), (1, 1, x12)]) fun x13 =>
    bnd (
      bnd (
        loopM FUEL ref03_Bytes_l2 [x0, x13, (Value.int .i64 0)]
        ) fun o => ret (unblk 0 o)
      ) fun o => nx o ref03_Bytes_k3
    ) fun o => finM o fun vs => ret (outV [(at_ vs 0)])
def h_ref03_Bytes : Hint := (.seq [] .leaf (.seq [] .leaf (.seq [3] (.seq [] .leaf (.blk (.loop [0, 3, 4] (.seq [0, 3, 4] (.seq [] .leaf (.cond .leaf .leaf)) (.seq [0, 3, 4] (.blk .leaf) .leaf))))) (.seq [] .leaf .leaf))))
def A_ref03_Bytes (l : List V) : M V := match l with | [x0] => F_ref03_Bytes x0 | _ => fail
theorem e_ref03_Bytes (x0 : V) : funM Tryd.prog (ovr [(fid_ref03_One, A_ref03_One)] noC) fid_ref03_Bytes h_ref03_Bytes [x0] = F_ref03_Bytes x0 := by kernel_rfl
theorem K_ref03_Bytes : Known Tryd.prog fid_ref03_Bytes (A_ref03_Bytes) := known_of (σ := ovr [(fid_ref03_One, A_ref03_One)] noC) (hint := h_ref03_Bytes) (by kernel_rfl) (simAll_ovr K_ref03_One simAll_nil0) fun l H r H' h => by
  unfold A_ref03_Bytes at h; split at h
  · rw [e_ref03_Bytes]; exact h
  · exact (fail_ne h).elim

/-! ### capstan/capstanref03.Encode -/
def ref03_Encode_k0 (vs_4 : List V) : M Out :=
  bnd (lift (bin .add (at_ vs_4 1) (Value.int .i64 1))) fun x14 =>
  ret (.nxt [(at_ vs_4 0), x14])
def ref03_Encode_k1 (vs_3 : List V) : M Out :=
  bnd (
  bnd (
    bnd (lift (iaddrS 3 (at_ vs_3 0) (at_ vs_3 1))) fun x17 =>
    bnd (ldn 3 x17) fun x18 =>
    bnd (A_ref03_May [x18]) fun x19 =>
    bnd (lift (un .not x19)) fun x20 =>
    condM x20 (
      ret (.ret [(Value.string ⟨#[]⟩), (Value.int .i64 4)])
      ) (
      ret (.nxt [(at_ vs_3 0), (at_ vs_3 1)])
      )
    ) fun o => ret (unblk 1 o)
  ) fun o => nx o ref03_Encode_k0
def ref03_Encode_l2 (vs_2 : List V) : M Out :=
  bnd (
  bnd (lift (lenSlc (at_ vs_2 0))) fun x11 =>
  bnd (lift (bin .lss (at_ vs_2 1) x11)) fun x12 =>
  condM x12 (
    ret (.nxt [(at_ vs_2 0), (at_ vs_2 1)])
    ) (
    ret (.brk 0 [(at_ vs_2 0)])
    )
  ) fun o => nx o ref03_Encode_k1
def ref03_Encode_k3 (vs_6 : List V) : M Out :=
  ret (.ret [(at_ vs_6 0), (Value.int .i64 0)])
def ref03_Encode_k4 (vs_5 : List V) : M Out :=
  bnd (A_ref03_Bytes [(at_ vs_5 0)]) fun x22 =>
  bnd (
    bnd (lift (lenStr x22)) fun x24 =>
    bnd (lift (bin .gtr x24 (Value.int .i64 65536))) fun x25 =>
    condM x25 (
      ret (.ret [(Value.string ⟨#[]⟩), (Value.int .i64 2)])
      ) (
      ret (.nxt [x22])
      )
    ) fun o => nx o ref03_Encode_k3
def ref03_Encode_k5 (vs : List V) : M Out :=
  bnd (
    bnd (
      loopM FUEL ref03_Encode_l2 [(at_ vs 0), (Value.int .i64 0)]
      ) fun o => ret (unblk 0 o)
    ) fun o => nx o ref03_Encode_k4
def F_ref03_Encode (x0 : V) : M V :=
  bnd (
    bnd (
      bnd (lift (lenSlc x0)) fun x7 =>
      bnd (lift (bin .gtr x7 (Value.int .i64 1000))) fun x8 =>
      condM x8 (
        ret (.ret [(Value.string ⟨#[]⟩), (Value.int .i64 2)])
        ) (
        ret (.nxt [x0])
        )
      ) fun o => nx o ref03_Encode_k5
    ) fun o => finM o fun vs => ret (outV [(at_ vs 0), (at_ vs 1)])
def h_ref03_Encode : Hint := (.seq [] .leaf (.seq [0] (.seq [] .leaf (.cond (.seq [] .leaf .leaf) .leaf)) (.seq [0] (.seq [] .leaf (.blk (.loop [0, 4] (.seq [0, 4] (.seq [] .leaf (.cond .leaf .leaf)) (.seq [0, 4] (.blk (.seq [] .leaf (.cond (.seq [] .leaf .leaf) .leaf))) .leaf))))) (.seq [] .leaf (.seq [5] (.seq [] .leaf (.cond (.seq [] .leaf .leaf) .leaf)) (.seq [] .leaf .leaf))))))
def A_ref03_Encode (l : List V) : M V := match l with | [x0] => F_ref03_Encode x0 | _ => fail
theorem e_ref03_Encode (x0 : V) : funM Tryd.prog (ovr [(fid_ref03_May, A_ref03_May), (fid_ref03_Bytes, A_ref03_Bytes)] noC) fid_ref03_Encode h_ref03_Encode [x0] = F_ref03_Encode x0 := by kernel_rfl
theorem K_ref03_Encode : Known Tryd.prog fid_ref03_Encode (A_ref03_Encode) := known_of (σ := ovr [(fid_ref03_May, A_ref03_May), (fid_ref03_Bytes, A_ref03_Bytes)] noC) (hint := h_ref03_Encode) (by kernel_rfl) (simAll_ovr K_ref03_May (simAll_ovr K_ref03_Bytes simAll_nil0)) fun l H r H' h => by
  unfold A_ref03_Encode at h; split at h
  · rw [e_ref03_Encode]; exact h
  · exact (fail_ne h).elim

/-! ### capstan/wire.bad -/
def F_wire_bad (x0 x1 : V) : M V :=
  bnd (
    bnd (lift (build [Value.int .i64 0, Value.int .i64 0] [(0, 1, x0), (1, 1, x1)])) fun x7 =>
    bnd (lift (build [Value.int .i64 0, Value.int .i64 0] [(0, 2, x7)])) fun x8 =>
    bnd (lift (some (Value.iface tid_wire_broken x8))) fun x9 =>
    ret (.ret [x9])
    ) fun o => finM o fun vs => ret (outV [(at_ vs 0)])
def h_wire_bad : Hint := (.seq [] .leaf (.seq [] .leaf .leaf))
def A_wire_bad (l : List V) : M V := match l with | [x0, x1] => F_wire_bad x0 x1 | _ => fail
theorem e_wire_bad (x0 x1 : V) : funM Tryd.prog (ovr [] noC) fid_wire_bad h_wire_bad [x0, x1] = F_wire_bad x0 x1 := by kernel_rfl
theorem K_wire_bad : Known Tryd.prog fid_wire_bad (A_wire_bad) := known_of (σ := ovr [] noC) (hint := h_wire_bad) (by kernel_rfl) simAll_nil0 fun l H r H' h => by
  unfold A_wire_bad at h; split at h
  · rw [e_wire_bad]; exact h
  · exact (fail_ne h).elim

/-! ### capstan/wire.unsigned -/
def wire_unsigned_k0 (vs_3 : List V) : M Out :=
  bnd (lift (bin .add (at_ vs_3 3) (Value.int .i64 1))) fun x16 =>
  ret (.nxt [(at_ vs_3 0), (at_ vs_3 1), (at_ vs_3 2), x16])
def wire_unsigned_k1 (vs_2 : List V) : M Out :=
  bnd (
  bnd (
    bnd (lift (bin .shl (at_ vs_2 1) (Value.int .u64 8))) fun x10 =>
    bnd (lift (idxS (at_ vs_2 0) (at_ vs_2 3))) fun x13 =>
    bnd (lift (cvi .u64 x13)) fun x14 =>
    bnd (lift (bin .or x10 x14)) fun x15 =>
    ret (.nxt [(at_ vs_2 0), x15, (at_ vs_2 2), (at_ vs_2 3)])
    ) fun o => ret (unblk 1 o)
  ) fun o => nx o wire_unsigned_k0
def wire_unsigned_l2 (vs : List V) : M Out :=
  bnd (lift (bin .lss (at_ vs 3) (at_ vs 2))) fun x7 =>
  bnd (
  condM x7 (
    ret (.nxt [(at_ vs 0), (at_ vs 1), (at_ vs 2), (at_ vs 3)])
    ) (
    ret (.brk 0 [(at_ vs 1)])
    )
  ) fun o => nx o wire_unsigned_k1
def wire_unsigned_k3 (vs_4 : List V) : M Out :=
  ret (.ret [(at_ vs_4 0)])
def F_wire_unsigned (x0 : V) : M V :=
  bnd (
    bnd (
      bnd (lift (lenStr x0)) fun x5 =>
      bnd (
        loopM FUEL wire_unsigned_l2 [x0, (Value.int .u64 0), x5, (Value.int .i64 0)]
        ) fun o => ret (unblk 0 o)
      ) fun o => nx o wire_unsigned_k3
    ) fun o => finM o fun vs => ret (outV [(at_ vs 0)])
def h_wire_unsigned : Hint := (.seq [] .leaf (.seq [2] (.seq [] .leaf (.blk (.loop [0, 2, 5, 6] (.seq [] .leaf (.seq [0, 2, 5, 6] (.cond .leaf .leaf) (.seq [0, 2, 5, 6] (.blk (.seq [] .leaf .leaf)) .leaf)))))) (.seq [] .leaf .leaf)))
def A_wire_unsigned (l : List V) : M V := match l with | [x0] => F_wire_unsigned x0 | _ => fail
theorem e_wire_unsigned (x0 : V) : funM Tryd.prog (ovr [] noC) fid_wire_unsigned h_wire_unsigned [x0] = F_wire_unsigned x0 := by kernel_rfl
theorem K_wire_unsigned : Known Tryd.prog fid_wire_unsigned (A_wire_unsigned) := known_of (σ := ovr [] noC) (hint := h_wire_unsigned) (by kernel_rfl) simAll_nil0 fun l H r H' h => by
  unfold A_wire_unsigned at h; split at h
  · rw [e_wire_unsigned]; exact h
  · exact (fail_ne h).elim

/-! ### capstan/wire.item -/
def wire_item_k0 (vs : List V) : M Out :=
  withH fun h0_3 =>
  bnd (ldn 3 (at_ vs 1)) fun x73 =>
  bndH (A_wire_bad [(at_ vs 0), (Value.int .i64 30)]) fun ha_5 x75 h1_3 =>
  bndH (stn 3 (at_ vs 1) x73) fun ha_6 u_3 h2_3 =>
  need (chk (ldn 3 (at_ vs 1)) h1_3 x73) <|
  ret (.ret [(at_ vs 1), (Value.int .i64 0), x75])
def F_wire_item (x0 x1 : V) : M V :=
  bnd (
    bnd (newc [Value.bool false, Value.int .i64 0, Value.string ⟨#[]⟩]) fun x4 =>
    bnd (lift (subS x0 (some x1) none)) fun x11 =>
    bnd (
      bnd (
        bnd (lift (bin .eql x11 (Value.string ⟨#[]⟩))) fun x14 =>
        condM x14 (
          withH fun h0 =>
          bnd (ldn 3 x4) fun x15 =>
          bndH (A_wire_bad [x1, (Value.int .i64 30)]) fun ha x17 h1 =>
          bndH (stn 3 x4 x15) fun ha_2 u h2 =>
          need (chk (ldn 3 x4) h1 x15) <|
          ret (.ret [x4, (Value.int .i64 0), x17])
          ) (
          bnd (lift (idxS x11 (Value.int .i64 0))) fun x20 =>
          bnd (lift (bin .eql x20 (Value.int .u8 35))) fun x21 =>
          bnd (gd x21 true (lift (some x11))) fun x23 =>
          bnd (gd x21 true (lift (lenStr x23))) fun x24 =>
          bnd (gd x21 true (lift (bin .geq x24 (Value.int .i64 9)))) fun x25 =>
          bnd (lift (pickV x21 x25 (Value.bool false))) fun x26 =>
          condM x26 (
            bnd (lift (subS x11 (some (Value.int .i64 1)) (some (Value.int .i64 9)))) fun x28 =>
            bnd (A_wire_unsigned [x28]) fun x29 =>
            bnd (lift (cvi .i64 x29)) fun x30 =>
            bnd (lift (build [Value.bool false, Value.int .i64 0, Value.string ⟨#[]⟩] [(1, 1, x30)])) fun x31 =>
            bnd (lift (bin .add x1 (Value.int .i64 9))) fun x33 =>
            bnd (stn 3 x4 x31) fun _ =>
            ret (.ret [x4, x33, Value.nilIface])
            ) (
            bnd (lift (idxS x11 (Value.int .i64 0))) fun x36 =>
            bnd (lift (bin .eql x36 (Value.int .u8 36))) fun x37 =>
            bnd (gd x37 true (lift (some x11))) fun x39 =>
            bnd (gd x37 true (lift (lenStr x39))) fun x40 =>
            bnd (gd x37 true (lift (bin .geq x40 (Value.int .i64 3)))) fun x41 =>
            bnd (lift (pickV x37 x41 (Value.bool false))) fun x42 =>
            condM x42 (
              bnd (lift (subS x11 (some (Value.int .i64 1)) (some (Value.int .i64 3)))) fun x44 =>
              bnd (A_wire_unsigned [x44]) fun x45 =>
              bnd (lift (cvi .i64 x45)) fun x46 =>
              bnd (lift (lenStr x11)) fun x48 =>
              bnd (lift (bin .add (Value.int .i64 3) x46)) fun x50 =>
              bnd (lift (bin .geq x48 x50)) fun x51 =>
              condM x51 (
                bnd (lift (bin .add (Value.int .i64 3) x46)) fun x54 =>
                bnd (lift (subS x11 (some (Value.int .i64 3)) (some x54))) fun x55 =>
                bnd (lift (build [Value.bool false, Value.int .i64 0, Value.string ⟨#[]⟩] [(0, 1, (Value.bool true)), (2, 1, x55)])) fun x56 =>
                bnd (lift (bin .add x1 (Value.int .i64 3))) fun x58 =>
                bnd (lift (bin .add x58 x46)) fun x60 =>
                bnd (stn 3 x4 x56) fun _ =>
                ret (.ret [x4, x60, Value.nilIface])
                ) (
                ret (.nxt [x1, x4])
                )
              ) (
              bnd (lift (idxS x11 (Value.int .i64 0))) fun x63 =>
              bnd (lift (bin .neq x63 (Value.int .u8 35))) fun x64 =>
              bnd (gd x64 true (lift (some x11))) fun x66 =>
              bnd (gd x64 true (lift (idxS x66 (Value.int .i64 0)))) fun x67 =>
              bnd (gd x64 true (lift (bin .neq x67 (Value.int .u8 36)))) fun x68 =>
              bnd (lift (pickV x64 x68 (Value.bool false))) fun x69 =>
              condM x69 (
                withH fun h0_2 =>
                bnd (ldn 3 x4) fun x70 =>
                bndH (A_wire_bad [x1, (Value.int .i64 3)]) fun ha_3 x72 h1_2 =>
                bndH (stn 3 x4 x70) fun ha_4 u_2 h2_2 =>
                need (chk (ldn 3 x4) h1_2 x70) <|
                ret (.ret [x4, (Value.int .i64 0), x72])
                ) (
                ret (.nxt [x1, x4])
                )
              )
            )
          )
        ) fun o => ret (unblk 0 o)
      ) fun o => nx o wire_item_k0
    ) fun o => finM o fun vs => bnd (ldn 3 (at_ vs 0)) fun r0 => ret (outV [r0, (at_ vs 1), (at_ vs 2)])
def h_wire_item : Hint := (.seq [] .leaf (.seq [] .leaf (.seq [1, 4] (.blk (.seq [] .leaf (.cond (.seq [] (.reg [1, 0, 2, 3, 4, 5] []) .leaf) (.seq [] .leaf (.cond (.seq [] .leaf .leaf) (.seq [] .leaf (.cond (.seq [] .leaf (.seq [] .leaf (.cond (.seq [] .leaf .leaf) .leaf))) (.seq [] .leaf (.cond (.seq [] (.reg [1, 0, 2, 3, 4, 5] []) .leaf) .leaf))))))))) (.seq [] (.reg [1, 0, 2, 3, 4, 5] []) .leaf))))
def A_wire_item (l : List V) : M V := match l with | [x0, x1] => F_wire_item x0 x1 | _ => fail
theorem e_wire_item (x0 x1 : V) : funM Tryd.prog (ovr [(fid_wire_bad, A_wire_bad), (fid_wire_unsigned, A_wire_unsigned)] noC) fid_wire_item h_wire_item [x0, x1] = F_wire_item x0 x1 := by kernel_rfl
theorem K_wire_item : Known Tryd.prog fid_wire_item (A_wire_item) := known_of (σ := ovr [(fid_wire_bad, A_wire_bad), (fid_wire_unsigned, A_wire_unsigned)] noC) (hint := h_wire_item) (by kernel_rfl) (simAll_ovr K_wire_bad (simAll_ovr K_wire_unsigned simAll_nil0)) fun l H r H' h => by
  unfold A_wire_item at h; split at h
  · rw [e_wire_item]; exact h
  · exact (fail_ne h).elim

/-! ### capstan/wire.list -/
def wire_list_k0 (vs_4 : List V) : M Out :=
    bnd (ldn 3 (at_ vs_4 2)) fun x40 =>
    bnd (bslc 3 1 (rep 1 [Value.bool false, Value.int .i64 0, Value.string ⟨#[]⟩]) [(0, 3, x40)]) fun x41 =>
    bnd (appV 3 32 (at_ vs_4 1) x41) fun x42 =>
    ret (.nxt [(at_ vs_4 0), x42, (at_ vs_4 3), (at_ vs_4 4), (at_ vs_4 5)])
def wire_list_k1 (vs_5 : List V) : M Out :=
  bnd (lift (bin .add (at_ vs_5 4) (Value.int .u64 1))) fun x44 =>
  ret (.nxt [(at_ vs_5 0), (at_ vs_5 1), (at_ vs_5 2), (at_ vs_5 3), x44])
def wire_list_k2 (vs_3 : List V) : M Out :=
  bnd (
  bnd (
    bnd (A_wire_item [(at_ vs_3 0), (at_ vs_3 2)]) fun x32 =>
    bnd (lift (ext 0 x32)) fun x33 =>
    bnd (lift (ext 1 x32)) fun x34 =>
    bnd (lift (ext 2 x32)) fun x35 =>
    bnd (newc [Value.bool false, Value.int .i64 0, Value.string ⟨#[]⟩]) fun x5 =>
    bnd (stn 3 x5 x33) fun _ =>
    bnd (
      bnd (lift (notIf true (isNil .i x35))) fun x37 =>
      condM x37 (
        ret (.ret [(Value.slice none 0 0), x35])
        ) (
        ret (.nxt [(at_ vs_3 0), (at_ vs_3 1), x5, x34, (at_ vs_3 3), (at_ vs_3 4)])
        )
      ) fun o => nx o wire_list_k0
    ) fun o => ret (unblk 2 o)
  ) fun o => nx o wire_list_k1
def wire_list_l3 (vs_2 : List V) : M Out :=
  bnd (lift (bin .lss (at_ vs_2 4) (at_ vs_2 3))) fun x28 =>
  bnd (
  condM x28 (
    ret (.nxt [(at_ vs_2 0), (at_ vs_2 1), (at_ vs_2 2), (at_ vs_2 3), (at_ vs_2 4)])
    ) (
    ret (.brk 1 [(at_ vs_2 0), (at_ vs_2 1), (at_ vs_2 2)])
    )
  ) fun o => nx o wire_list_k2
def wire_list_k4 (vs_7 : List V) : M Out :=
  ret (.ret [(at_ vs_7 0), Value.nilIface])
def wire_list_k5 (vs_6 : List V) : M Out :=
  bnd (
    bnd (lift (lenStr (at_ vs_6 0))) fun x47 =>
    bnd (lift (bin .lss (at_ vs_6 2) x47)) fun x48 =>
    condM x48 (
      bnd (A_wire_bad [(at_ vs_6 2), (Value.int .i64 31)]) fun x50 =>
      ret (.ret [(Value.slice none 0 0), x50])
      ) (
      ret (.nxt [(at_ vs_6 1)])
      )
    ) fun o => nx o wire_list_k4
def wire_list_k6 (vs : List V) : M Out :=
  bnd (
    bnd (lift (subS (at_ vs 0) none (some (Value.int .i64 2)))) fun x25 =>
    bnd (A_wire_unsigned [x25]) fun x26 =>
    bnd (
      loopM FUEL wire_list_l3 [(at_ vs 0), (at_ vs 1), (Value.int .i64 2), x26, (Value.int .u64 0)]
      ) fun o => ret (unblk 1 o)
    ) fun o => nx o wire_list_k5
def F_wire_list (x0 : V) : M V :=
  bnd (
    bnd (
      bnd (
        bnd (lift (lenStr x0)) fun x10 =>
        bnd (lift (bin .gtr x10 (Value.int .i64 65536))) fun x11 =>
        condM x11 (
          bnd (A_wire_bad [(Value.int .i64 0), (Value.int .i64 2)]) fun x12 =>
          ret (.ret [(Value.slice none 0 0), x12])
          ) (
          bnd (lift (lenStr x0)) fun x15 =>
          bnd (lift (bin .lss x15 (Value.int .i64 2))) fun x16 =>
          condM x16 (
            bnd (A_wire_bad [(Value.int .i64 0), (Value.int .i64 30)]) fun x17 =>
            ret (.ret [(Value.slice none 0 0), x17])
            ) (
            bnd (lift (subS x0 none (some (Value.int .i64 2)))) fun x20 =>
            bnd (A_wire_unsigned [x20]) fun x21 =>
            bnd (lift (bin .gtr x21 (Value.int .u64 1000))) fun x22 =>
            condM x22 (
              bnd (A_wire_bad [(Value.int .i64 0), (Value.int .i64 2)]) fun x23 =>
              ret (.ret [(Value.slice none 0 0), x23])
              ) (
              ret (.nxt [x0, (Value.slice none 0 0)])
              )
            )
          )
        ) fun o => ret (unblk 0 o)
      ) fun o => nx o wire_list_k6
    ) fun o => finM o fun vs => ret (outV [(at_ vs 0), (at_ vs 1)])
def h_wire_list : Hint := (.seq [] .leaf (.seq [0, 2] (.blk (.seq [] .leaf (.cond (.seq [] .leaf .leaf) (.seq [] .leaf (.cond (.seq [] .leaf .leaf) (.seq [] .leaf (.cond (.seq [] .leaf .leaf) .leaf))))))) (.seq [] .leaf (.seq [0, 2, 4] (.seq [] .leaf (.blk (.loop [0, 2, 4, 26, 27] (.seq [] .leaf (.seq [0, 2, 4, 26, 27] (.cond .leaf .leaf) (.seq [0, 2, 4, 26, 27] (.blk (.seq [] .leaf (.seq [0, 2, 5, 6, 26, 27] (.seq [] .leaf (.cond (.seq [] .leaf .leaf) .leaf)) .leaf))) .leaf)))))) (.seq [2] (.seq [] .leaf (.cond (.seq [] .leaf .leaf) .leaf)) (.seq [] .leaf .leaf))))))
def A_wire_list (l : List V) : M V := match l with | [x0] => F_wire_list x0 | _ => fail
theorem e_wire_list (x0 : V) : funM Tryd.prog (ovr [(fid_wire_bad, A_wire_bad), (fid_wire_unsigned, A_wire_unsigned), (fid_wire_item, A_wire_item)] noC) fid_wire_list h_wire_list [x0] = F_wire_list x0 := by kernel_rfl
theorem K_wire_list : Known Tryd.prog fid_wire_list (A_wire_list) := known_of (σ := ovr [(fid_wire_bad, A_wire_bad), (fid_wire_unsigned, A_wire_unsigned), (fid_wire_item, A_wire_item)] noC) (hint := h_wire_list) (by kernel_rfl) (simAll_ovr K_wire_bad (simAll_ovr K_wire_unsigned (simAll_ovr K_wire_item simAll_nil0))) fun l H r H' h => by
  unfold A_wire_list at h; split at h
  · rw [e_wire_list]; exact h
  · exact (fail_ne h).elim

/-! ### capstan/wire.fault -/
def wire_fault_k0 (G_errors_As : List V → M V) (vs : List V) : M Out :=
  bnd (lift (build [Value.int .i64 0, Value.int .i64 0] [])) fun x9 =>
  bnd (stn 2 (at_ vs 0) x9) fun _ =>
  ret (.ret [(at_ vs 0)])
def F_wire_fault (G_errors_As : List V → M V) (x0 : V) : M V :=
  bnd (
    bnd (newc [Value.int .i64 0, Value.int .i64 0]) fun x2 =>
    bnd (newc [Value.int .i64 0, Value.int .i64 0]) fun x3 =>
    bnd (
      bnd (lift (some (Value.iface tid_p_wire_broken x3))) fun x5 =>
      bnd (G_errors_As [x0, x5]) fun x6 =>
      condM x6 (
        bnd (lift (faddr 0 x3)) fun x7 =>
        bnd (ldn 2 x7) fun x8 =>
        bnd (stn 2 x2 x8) fun _ =>
        ret (.ret [x2])
        ) (
        ret (.nxt [x2])
        )
      ) fun o => nx o (wire_fault_k0 G_errors_As)
    ) fun o => finM o fun vs => bnd (ldn 2 (at_ vs 0)) fun r0 => ret (outV [r0])
def h_wire_fault : Hint := (.seq [] .leaf (.seq [] .leaf (.seq [2] (.seq [] .leaf (.cond (.seq [] .leaf .leaf) .leaf)) (.seq [] .leaf .leaf))))
def A_wire_fault (G_errors_As : List V → M V) (l : List V) : M V := match l with | [x0] => F_wire_fault G_errors_As x0 | _ => fail
theorem e_wire_fault (G_errors_As : List V → M V) (x0 : V) : funM Tryd.prog (ovr [(fid_errors_As, G_errors_As)] noC) fid_wire_fault h_wire_fault [x0] = F_wire_fault G_errors_As x0 := by kernel_rfl
theorem K_wire_fault {G_errors_As : List V → M V} (k_errors_As : Known Tryd.prog fid_errors_As G_errors_As) : Known Tryd.prog fid_wire_fault (A_wire_fault G_errors_As) := known_of (σ := ovr [(fid_errors_As, G_errors_As)] noC) (hint := h_wire_fault) (by kernel_rfl) (simAll_ovr k_errors_As simAll_nil0) fun l H r H' h => by
  unfold A_wire_fault at h; split at h
  · rw [e_wire_fault]; exact h
  · exact (fail_ne h).elim

/-! ### capstan/wire.Decode -/
def F_wire_Decode (G_errors_As : List V → M V) (x0 : V) : M V :=
  bnd (
    bnd (newc [Value.int .i64 0, Value.int .i64 0]) fun x3 =>
    bnd (A_wire_list [x0]) fun x8 =>
    bnd (lift (ext 0 x8)) fun x9 =>
    bnd (lift (ext 1 x8)) fun x10 =>
    bnd ((A_wire_fault G_errors_As) [x10]) fun x13 =>
    bnd (stn 2 x3 x13) fun _ =>
    ret (.ret [x9, x3])
    ) fun o => finM o fun vs => bnd (ldn 2 (at_ vs 1)) fun r1 => ret (outV [(at_ vs 0), r1])
def h_wire_Decode : Hint := (.seq [] .leaf (.seq [] .leaf (.seq [] .leaf .leaf)))
def A_wire_Decode (G_errors_As : List V → M V) (l : List V) : M V := match l with | [x0] => F_wire_Decode G_errors_As x0 | _ => fail
theorem e_wire_Decode (G_errors_As : List V → M V) (x0 : V) : funM Tryd.prog (ovr [(fid_wire_list, A_wire_list), (fid_wire_fault, A_wire_fault G_errors_As)] noC) fid_wire_Decode h_wire_Decode [x0] = F_wire_Decode G_errors_As x0 := by kernel_rfl
theorem K_wire_Decode {G_errors_As : List V → M V} (k_errors_As : Known Tryd.prog fid_errors_As G_errors_As) : Known Tryd.prog fid_wire_Decode (A_wire_Decode G_errors_As) := known_of (σ := ovr [(fid_wire_list, A_wire_list), (fid_wire_fault, A_wire_fault G_errors_As)] noC) (hint := h_wire_Decode) (by kernel_rfl) (simAll_ovr K_wire_list (simAll_ovr (K_wire_fault k_errors_As) simAll_nil0)) fun l H r H' h => by
  unfold A_wire_Decode at h; split at h
  · rw [e_wire_Decode]; exact h
  · exact (fail_ne h).elim

/-! ### capstan/capstanref03.Fault -/
def F_ref03_Fault (x0 x1 : V) : M V :=
  bnd (
    bnd (newc [Value.int .i64 0, Value.int .i64 0]) fun x4 =>
    bnd (lift (build [Value.int .i64 0, Value.int .i64 0] [(0, 1, x0), (1, 1, x1)])) fun x7 =>
    bnd (stn 2 x4 x7) fun _ =>
    ret (.ret [x4])
    ) fun o => finM o fun vs => bnd (ldn 2 (at_ vs 0)) fun r0 => ret (outV [r0])
def h_ref03_Fault : Hint := (.seq [] .leaf (.seq [] .leaf .leaf))
def A_ref03_Fault (l : List V) : M V := match l with | [x0, x1] => F_ref03_Fault x0 x1 | _ => fail
theorem e_ref03_Fault (x0 x1 : V) : funM Tryd.prog (ovr [] noC) fid_ref03_Fault h_ref03_Fault [x0, x1] = F_ref03_Fault x0 x1 := by kernel_rfl
theorem K_ref03_Fault : Known Tryd.prog fid_ref03_Fault (A_ref03_Fault) := known_of (σ := ovr [] noC) (hint := h_ref03_Fault) (by kernel_rfl) simAll_nil0 fun l H r H' h => by
  unfold A_ref03_Fault at h; split at h
  · rw [e_ref03_Fault]; exact h
  · exact (fail_ne h).elim

/-! ### capstan/capstanref03.item -/
def ref03_item_k0 (vs_5 : List V) : M Out :=
  bnd (lift (bin .add (at_ vs_5 4) (Value.int .i64 1))) fun x30 =>
  ret (.nxt [(at_ vs_5 0), (at_ vs_5 1), (at_ vs_5 2), (at_ vs_5 3), x30])
def ref03_item_k1 (vs_4 : List V) : M Out :=
  bnd (
  bnd (
    bnd (lift (bin .mul (at_ vs_4 3) (Value.int .u64 256))) fun x32 =>
    bnd (lift (bin .add (at_ vs_4 1) (at_ vs_4 4))) fun x36 =>
    bnd (lift (idxS (at_ vs_4 0) x36)) fun x37 =>
    bnd (lift (cvi .u64 x37)) fun x38 =>
    bnd (lift (bin .add x32 x38)) fun x39 =>
    ret (.nxt [(at_ vs_4 0), (at_ vs_4 1), (at_ vs_4 2), x39, (at_ vs_4 4)])
    ) fun o => ret (unblk 1 o)
  ) fun o => nx o ref03_item_k0
def ref03_item_l2 (vs_3 : List V) : M Out :=
  bnd (
  bnd (lift (bin .lss (at_ vs_3 4) (Value.int .i64 9))) fun x28 =>
  condM x28 (
    ret (.nxt [(at_ vs_3 0), (at_ vs_3 1), (at_ vs_3 2), (at_ vs_3 3), (at_ vs_3 4)])
    ) (
    ret (.brk 0 [(at_ vs_3 1), (at_ vs_3 2), (at_ vs_3 3)])
    )
  ) fun o => nx o ref03_item_k1
def ref03_item_k3 (vs_6 : List V) : M Out :=
      bnd (lift (cvi .i64 (at_ vs_6 2))) fun x41 =>
      bnd (lift (build [Value.bool false, Value.int .i64 0, Value.string ⟨#[]⟩] [(1, 1, x41)])) fun x42 =>
      bnd (lift (bin .add (at_ vs_6 0) (Value.int .i64 9))) fun x44 =>
      bnd (stn 3 (at_ vs_6 1) x42) fun _ =>
      ret (.ret [(at_ vs_6 1), x44, (Value.int .i64 0)])
def ref03_item_k4 (vs_2 : List V) : M Out :=
      bnd (
        bnd (
          loopM FUEL ref03_item_l2 [(at_ vs_2 0), (at_ vs_2 1), (at_ vs_2 2), (Value.int .u64 0), (Value.int .i64 1)]
          ) fun o => ret (unblk 0 o)
        ) fun o => nx o ref03_item_k3
def ref03_item_k5 (vs_10 : List V) : M Out :=
  bnd (lift (bin .add (at_ vs_10 1) (Value.int .i64 3))) fun x78 =>
  bnd (lift (bin .add (at_ vs_10 1) (Value.int .i64 3))) fun x80 =>
  bnd (lift (bin .add x80 (at_ vs_10 3))) fun x82 =>
  bnd (lift (subS (at_ vs_10 0) (some x78) (some x82))) fun x83 =>
  bnd (lift (build [Value.bool false, Value.int .i64 0, Value.string ⟨#[]⟩] [(0, 1, (Value.bool true)), (2, 1, x83)])) fun x84 =>
  bnd (lift (bin .add (at_ vs_10 1) (Value.int .i64 3))) fun x86 =>
  bnd (lift (bin .add x86 (at_ vs_10 3))) fun x88 =>
  bnd (stn 3 (at_ vs_10 2) x84) fun _ =>
  ret (.ret [(at_ vs_10 2), x88, (Value.int .i64 0)])
def ref03_item_k6 (vs_9 : List V) : M Out :=
  bnd (lift (bin .add (at_ vs_9 1) (Value.int .i64 1))) fun x58 =>
  bnd (lift (idxS (at_ vs_9 0) x58)) fun x59 =>
  bnd (lift (cvi .i64 x59)) fun x60 =>
  bnd (lift (bin .mul x60 (Value.int .i64 256))) fun x61 =>
  bnd (lift (bin .add (at_ vs_9 1) (Value.int .i64 2))) fun x64 =>
  bnd (lift (idxS (at_ vs_9 0) x64)) fun x65 =>
  bnd (lift (cvi .i64 x65)) fun x66 =>
  bnd (lift (bin .add x61 x66)) fun x67 =>
  bnd (
    bnd (lift (lenStr (at_ vs_9 0))) fun x69 =>
    bnd (lift (bin .sub x69 (at_ vs_9 1))) fun x71 =>
    bnd (lift (bin .sub x71 (Value.int .i64 3))) fun x72 =>
    bnd (lift (bin .lss x72 x67)) fun x74 =>
    condM x74 (
      bnd (ldn 3 (at_ vs_9 3)) fun x75 =>
      bnd (stn 3 (at_ vs_9 2) x75) fun _ =>
      ret (.ret [(at_ vs_9 2), (Value.int .i64 0), (Value.int .i64 30)])
      ) (
      ret (.nxt [(at_ vs_9 0), (at_ vs_9 1), (at_ vs_9 2), x67])
      )
    ) fun o => nx o ref03_item_k5
def ref03_item_k7 (vs_8 : List V) : M Out :=
  bnd (
    bnd (lift (lenStr (at_ vs_8 0))) fun x51 =>
    bnd (lift (bin .sub x51 (at_ vs_8 1))) fun x53 =>
    bnd (lift (bin .lss x53 (Value.int .i64 3))) fun x54 =>
    condM x54 (
      bnd (ldn 3 (at_ vs_8 3)) fun x55 =>
      bnd (stn 3 (at_ vs_8 2) x55) fun _ =>
      ret (.ret [(at_ vs_8 2), (Value.int .i64 0), (Value.int .i64 30)])
      ) (
      ret (.nxt [(at_ vs_8 0), (at_ vs_8 1), (at_ vs_8 2), (at_ vs_8 3)])
      )
    ) fun o => nx o ref03_item_k6
def ref03_item_k8 (vs_7 : List V) : M Out :=
  bnd (
    bnd (lift (idxS (at_ vs_7 0) (at_ vs_7 1))) fun x47 =>
    bnd (lift (bin .neq x47 (Value.int .u8 36))) fun x48 =>
    condM x48 (
      bnd (ldn 3 (at_ vs_7 3)) fun x49 =>
      bnd (stn 3 (at_ vs_7 2) x49) fun _ =>
      ret (.ret [(at_ vs_7 2), (Value.int .i64 0), (Value.int .i64 3)])
      ) (
      ret (.nxt [(at_ vs_7 0), (at_ vs_7 1), (at_ vs_7 2), (at_ vs_7 3)])
      )
    ) fun o => nx o ref03_item_k7
def ref03_item_k9 (vs : List V) : M Out :=
  bnd (
    bnd (lift (idxS (at_ vs 0) (at_ vs 1))) fun x19 =>
    bnd (lift (bin .eql x19 (Value.int .u8 35))) fun x20 =>
    condM x20 (
      bnd (
        bnd (lift (lenStr (at_ vs 0))) fun x22 =>
        bnd (lift (bin .sub x22 (at_ vs 1))) fun x24 =>
        bnd (lift (bin .lss x24 (Value.int .i64 9))) fun x25 =>
        condM x25 (
          bnd (ldn 3 (at_ vs 3)) fun x26 =>
          bnd (stn 3 (at_ vs 2) x26) fun _ =>
          ret (.ret [(at_ vs 2), (Value.int .i64 0), (Value.int .i64 30)])
          ) (
          ret (.nxt [(at_ vs 0), (at_ vs 1), (at_ vs 2)])
          )
        ) fun o => nx o ref03_item_k4
      ) (
      ret (.nxt [(at_ vs 0), (at_ vs 1), (at_ vs 2), (at_ vs 3)])
      )
    ) fun o => nx o ref03_item_k8
def F_ref03_item (x0 x1 : V) : M V :=
  bnd (
    bnd (newc [Value.bool false, Value.int .i64 0, Value.string ⟨#[]⟩]) fun x4 =>
    bnd (lift (build [Value.bool false, Value.int .i64 0, Value.string ⟨#[]⟩] [])) fun x11 =>
    bnd (newc [Value.bool false, Value.int .i64 0, Value.string ⟨#[]⟩]) fun x7 =>
    bnd (stn 3 x7 x11) fun _ =>
    bnd (
      bnd (lift (lenStr x0)) fun x14 =>
      bnd (lift (bin .geq x1 x14)) fun x15 =>
      condM x15 (
        bnd (ldn 3 x7) fun x16 =>
        bnd (stn 3 x4 x16) fun _ =>
        ret (.ret [x4, (Value.int .i64 0), (Value.int .i64 30)])
        ) (
        ret (.nxt [x0, x1, x4, x7])
        )
      ) fun o => nx o ref03_item_k9
    ) fun o => finM o fun vs => bnd (ldn 3 (at_ vs 0)) fun r0 => ret (outV [r0, (at_ vs 1), (at_ vs 2)])
def h_ref03_item : Hint := (.seq [] .leaf (.seq [] .leaf (.seq [0, 1, 4, 7] (.seq [] .leaf (.cond (.seq [] .leaf .leaf) .leaf)) (.seq [0, 1, 4, 7] (.seq [] .leaf (.cond (.seq [0, 1, 4] (.seq [] .leaf (.cond (.seq [] .leaf .leaf) .leaf)) (.seq [] .leaf (.seq [1, 4, 8] (.seq [] .leaf (.blk (.loop [0, 1, 4, 8, 9] (.seq [0, 1, 4, 8, 9] (.seq [] .leaf (.cond .leaf .leaf)) (.seq [0, 1, 4, 8, 9] (.blk .leaf) .leaf))))) (.seq [] .leaf .leaf)))) .leaf)) (.seq [0, 1, 4, 7] (.seq [] .leaf (.cond (.seq [] .leaf .leaf) .leaf)) (.seq [0, 1, 4, 7] (.seq [] .leaf (.cond (.seq [] .leaf .leaf) .leaf)) (.seq [] (.reg [0, 1, 2, 3, 4, 5, 6, 7, 8, 9, 10, 11, 12] []) (.seq [0, 1, 4, 10] (.seq [] .leaf (.cond (.seq [] .leaf .leaf) .leaf)) (.seq [] .leaf .leaf)))))))))
def A_ref03_item (l : List V) : M V := match l with | [x0, x1] => F_ref03_item x0 x1 | _ => fail
theorem e_ref03_item (x0 x1 : V) : funM Tryd.prog (ovr [] noC) fid_ref03_item h_ref03_item [x0, x1] = F_ref03_item x0 x1 := by kernel_rfl
theorem K_ref03_item : Known Tryd.prog fid_ref03_item (A_ref03_item) := known_of (σ := ovr [] noC) (hint := h_ref03_item) (by kernel_rfl) simAll_nil0 fun l H r H' h => by
  unfold A_ref03_item at h; split at h
  · rw [e_ref03_item]; exact h
  · exact (fail_ne h).elim

/-! ### capstan/capstanref03.Decode -/
def ref03_Decode_k0 (vs_6 : List V) : M Out :=
    bnd (ldn 3 (at_ vs_6 5)) fun x48 =>
    bnd (bslc 3 1 (rep 1 [Value.bool false, Value.int .i64 0, Value.string ⟨#[]⟩]) [(0, 3, x48)]) fun x49 =>
    bnd (appV 3 32 (at_ vs_6 3) x49) fun x50 =>
    ret (.nxt [(at_ vs_6 0), (at_ vs_6 1), (at_ vs_6 2), x50, (at_ vs_6 6), (at_ vs_6 4)])
def ref03_Decode_k1 (vs_7 : List V) : M Out :=
  bnd (lift (bin .add (at_ vs_7 5) (Value.int .i64 1))) fun x34 =>
  ret (.nxt [(at_ vs_7 0), (at_ vs_7 1), (at_ vs_7 2), (at_ vs_7 3), (at_ vs_7 4), x34])
def ref03_Decode_k2 (vs_5 : List V) : M Out :=
  bnd (
  bnd (
    bnd (A_ref03_item [(at_ vs_5 0), (at_ vs_5 4)]) fun x38 =>
    bnd (lift (ext 0 x38)) fun x39 =>
    bnd (lift (ext 1 x38)) fun x40 =>
    bnd (lift (ext 2 x38)) fun x41 =>
    bnd (newc [Value.bool false, Value.int .i64 0, Value.string ⟨#[]⟩]) fun x8 =>
    bnd (stn 3 x8 x39) fun _ =>
    bnd (
      bnd (lift (bin .neq x41 (Value.int .i64 0))) fun x43 =>
      condM x43 (
        bnd (A_ref03_Fault [(at_ vs_5 4), x41]) fun x46 =>
        bnd (stn 2 (at_ vs_5 1) x46) fun _ =>
        ret (.ret [(Value.slice none 0 0), (at_ vs_5 1)])
        ) (
        ret (.nxt [(at_ vs_5 0), (at_ vs_5 1), (at_ vs_5 2), (at_ vs_5 3), (at_ vs_5 5), x8, x40])
        )
      ) fun o => nx o ref03_Decode_k0
    ) fun o => ret (unblk 1 o)
  ) fun o => nx o ref03_Decode_k1
def ref03_Decode_l3 (vs_4 : List V) : M Out :=
  bnd (
  bnd (lift (bin .lss (at_ vs_4 5) (at_ vs_4 2))) fun x32 =>
  condM x32 (
    ret (.nxt [(at_ vs_4 0), (at_ vs_4 1), (at_ vs_4 2), (at_ vs_4 3), (at_ vs_4 4), (at_ vs_4 5)])
    ) (
    ret (.brk 0 [(at_ vs_4 0), (at_ vs_4 1), (at_ vs_4 3), (at_ vs_4 4)])
    )
  ) fun o => nx o ref03_Decode_k2
def ref03_Decode_k4 (vs_9 : List V) : M Out :=
  bnd (lift (build [Value.int .i64 0, Value.int .i64 0] [])) fun x59 =>
  bnd (stn 2 (at_ vs_9 0) x59) fun _ =>
  ret (.ret [(at_ vs_9 1), (at_ vs_9 0)])
def ref03_Decode_k5 (vs_8 : List V) : M Out :=
  bnd (
    bnd (lift (lenStr (at_ vs_8 0))) fun x54 =>
    bnd (lift (bin .lss (at_ vs_8 3) x54)) fun x55 =>
    condM x55 (
      bnd (A_ref03_Fault [(at_ vs_8 3), (Value.int .i64 31)]) fun x57 =>
      bnd (stn 2 (at_ vs_8 1) x57) fun _ =>
      ret (.ret [(Value.slice none 0 0), (at_ vs_8 1)])
      ) (
      ret (.nxt [(at_ vs_8 1), (at_ vs_8 2)])
      )
    ) fun o => nx o ref03_Decode_k4
def ref03_Decode_k6 (vs_3 : List V) : M Out :=
  bnd (
    bnd (
      loopM FUEL ref03_Decode_l3 [(at_ vs_3 0), (at_ vs_3 1), (at_ vs_3 2), (Value.slice none 0 0), (Value.int .i64 2), (Value.int .i64 0)]
      ) fun o => ret (unblk 0 o)
    ) fun o => nx o ref03_Decode_k5
def ref03_Decode_k7 (vs_2 : List V) : M Out :=
  bnd (lift (idxS (at_ vs_2 0) (Value.int .i64 0))) fun x20 =>
  bnd (lift (cvi .i64 x20)) fun x21 =>
  bnd (lift (bin .mul x21 (Value.int .i64 256))) fun x22 =>
  bnd (lift (idxS (at_ vs_2 0) (Value.int .i64 1))) fun x24 =>
  bnd (lift (cvi .i64 x24)) fun x25 =>
  bnd (lift (bin .add x22 x25)) fun x26 =>
  bnd (
    bnd (lift (bin .gtr x26 (Value.int .i64 1000))) fun x28 =>
    condM x28 (
      bnd (A_ref03_Fault [(Value.int .i64 0), (Value.int .i64 2)]) fun x29 =>
      bnd (stn 2 (at_ vs_2 1) x29) fun _ =>
      ret (.ret [(Value.slice none 0 0), (at_ vs_2 1)])
      ) (
      ret (.nxt [(at_ vs_2 0), (at_ vs_2 1), x26])
      )
    ) fun o => nx o ref03_Decode_k6
def ref03_Decode_k8 (vs : List V) : M Out :=
  bnd (
    bnd (lift (lenStr (at_ vs 0))) fun x16 =>
    bnd (lift (bin .lss x16 (Value.int .i64 2))) fun x17 =>
    condM x17 (
      bnd (A_ref03_Fault [(Value.int .i64 0), (Value.int .i64 30)]) fun x18 =>
      bnd (stn 2 (at_ vs 1) x18) fun _ =>
      ret (.ret [(Value.slice none 0 0), (at_ vs 1)])
      ) (
      ret (.nxt [(at_ vs 0), (at_ vs 1)])
      )
    ) fun o => nx o ref03_Decode_k7
def F_ref03_Decode (x0 : V) : M V :=
  bnd (
    bnd (newc [Value.int .i64 0, Value.int .i64 0]) fun x3 =>
    bnd (
      bnd (lift (lenStr x0)) fun x12 =>
      bnd (lift (bin .gtr x12 (Value.int .i64 65536))) fun x13 =>
      condM x13 (
        bnd (A_ref03_Fault [(Value.int .i64 0), (Value.int .i64 2)]) fun x14 =>
        bnd (stn 2 x3 x14) fun _ =>
        ret (.ret [(Value.slice none 0 0), x3])
        ) (
        ret (.nxt [x0, x3])
        )
      ) fun o => nx o ref03_Decode_k8
    ) fun o => finM o fun vs => bnd (ldn 2 (at_ vs 1)) fun r1 => ret (outV [(at_ vs 0), r1])
def h_ref03_Decode : Hint := (.seq [] .leaf (.seq [0, 3] (.seq [] .leaf (.cond (.seq [] .leaf .leaf) .leaf)) (.seq [0, 3] (.seq [] .leaf (.cond (.seq [] .leaf .leaf) .leaf)) (.seq [] (.reg [0, 1, 2, 3, 4, 5, 6, 7, 8] []) (.seq [0, 3, 4] (.seq [] .leaf (.cond (.seq [] .leaf .leaf) .leaf)) (.seq [] .leaf (.seq [] .leaf (.seq [0, 3, 5, 6] (.seq [] .leaf (.blk (.loop [0, 3, 4, 5, 6, 7] (.seq [0, 3, 4, 5, 6, 7] (.seq [] .leaf (.cond .leaf .leaf)) (.seq [0, 3, 4, 5, 6, 7] (.blk (.seq [] .leaf (.seq [0, 3, 4, 5, 7, 8, 9] (.seq [] .leaf (.cond (.seq [] .leaf .leaf) .leaf)) (.seq [] .leaf .leaf)))) .leaf))))) (.seq [3, 5] (.seq [] .leaf (.cond (.seq [] .leaf .leaf) .leaf)) (.seq [] .leaf .leaf))))))))))
def A_ref03_Decode (l : List V) : M V := match l with | [x0] => F_ref03_Decode x0 | _ => fail
theorem e_ref03_Decode (x0 : V) : funM Tryd.prog (ovr [(fid_ref03_Fault, A_ref03_Fault), (fid_ref03_item, A_ref03_item)] noC) fid_ref03_Decode h_ref03_Decode [x0] = F_ref03_Decode x0 := by kernel_rfl
theorem K_ref03_Decode : Known Tryd.prog fid_ref03_Decode (A_ref03_Decode) := known_of (σ := ovr [(fid_ref03_Fault, A_ref03_Fault), (fid_ref03_item, A_ref03_item)] noC) (hint := h_ref03_Decode) (by kernel_rfl) (simAll_ovr K_ref03_Fault (simAll_ovr K_ref03_item simAll_nil0)) fun l H r H' h => by
  unfold A_ref03_Decode at h; split at h
  · rw [e_ref03_Decode]; exact h
  · exact (fail_ne h).elim

/-! ### capstan/capstanbook.SameItems -/
def book_SameItems_k0 (vs_4 : List V) : M Out :=
  bnd (lift (bin .add (at_ vs_4 2) (Value.int .i64 1))) fun x16 =>
  ret (.nxt [(at_ vs_4 0), (at_ vs_4 1), x16])
def book_SameItems_k1 (vs_3 : List V) : M Out :=
  bnd (
  bnd (
    bnd (lift (iaddrS 3 (at_ vs_3 0) (at_ vs_3 2))) fun x19 =>
    bnd (lift (iaddrS 3 (at_ vs_3 1) (at_ vs_3 2))) fun x23 =>
    bnd (ldn 3 x19) fun x20 =>
    bnd (ldn 3 x23) fun x24 =>
    bnd (lift (notIf true (eqAgg [.b, .i, .s] x20 x24))) fun x25 =>
    condM x25 (
      ret (.ret [(Value.bool false)])
      ) (
      ret (.nxt [(at_ vs_3 0), (at_ vs_3 1), (at_ vs_3 2)])
      )
    ) fun o => ret (unblk 1 o)
  ) fun o => nx o book_SameItems_k0
def book_SameItems_l2 (vs_2 : List V) : M Out :=
  bnd (
  bnd (lift (lenSlc (at_ vs_2 0))) fun x13 =>
  bnd (lift (bin .lss (at_ vs_2 2) x13)) fun x14 =>
  condM x14 (
    ret (.nxt [(at_ vs_2 0), (at_ vs_2 1), (at_ vs_2 2)])
    ) (
    ret (.brk 0 [])
    )
  ) fun o => nx o book_SameItems_k1
def book_SameItems_k3 (vs_5 : List V) : M Out :=
  ret (.ret [(Value.bool true)])
def book_SameItems_k4 (vs : List V) : M Out :=
  bnd (
    bnd (
      loopM FUEL book_SameItems_l2 [(at_ vs 0), (at_ vs 1), (Value.int .i64 0)]
      ) fun o => ret (unblk 0 o)
    ) fun o => nx o book_SameItems_k3
def F_book_SameItems (x0 x1 : V) : M V :=
  bnd (
    bnd (
      bnd (lift (lenSlc x0)) fun x7 =>
      bnd (lift (lenSlc x1)) fun x9 =>
      bnd (lift (bin .neq x7 x9)) fun x10 =>
      condM x10 (
        ret (.ret [(Value.bool false)])
        ) (
        ret (.nxt [x0, x1])
        )
      ) fun o => nx o book_SameItems_k4
    ) fun o => finM o fun vs => ret (outV [(at_ vs 0)])
def h_book_SameItems : Hint := (.seq [] .leaf (.seq [0, 1] (.seq [] .leaf (.cond (.seq [] .leaf .leaf) .leaf)) (.seq [] (.seq [] .leaf (.blk (.loop [0, 1, 5] (.seq [0, 1, 5] (.seq [] .leaf (.cond .leaf .leaf)) (.seq [0, 1, 5] (.blk (.seq [] (.reg [0, 1, 2, 4, 5, 6, 3, 7, 8] []) (.cond (.seq [] .leaf .leaf) .leaf))) .leaf))))) (.seq [] .leaf .leaf))))
def A_book_SameItems (l : List V) : M V := match l with | [x0, x1] => F_book_SameItems x0 x1 | _ => fail
theorem e_book_SameItems (x0 x1 : V) : funM Tryd.prog (ovr [] noC) fid_book_SameItems h_book_SameItems [x0, x1] = F_book_SameItems x0 x1 := by kernel_rfl
theorem K_book_SameItems : Known Tryd.prog fid_book_SameItems (A_book_SameItems) := known_of (σ := ovr [] noC) (hint := h_book_SameItems) (by kernel_rfl) simAll_nil0 fun l H r H' h => by
  unfold A_book_SameItems at h; split at h
  · rw [e_book_SameItems]; exact h
  · exact (fail_ne h).elim

/-! ### capstan/capstanbook.KeptItems -/
def F_book_KeptItems (x0 x1 : V) : M V :=
  bnd (
    bnd (A_book_SameItems [x0, x1]) fun x7 =>
    bnd (gd x7 true (lift (some x0))) fun x9 =>
    bnd (gd x7 true (lift (some x1))) fun x10 =>
    bnd (gd x7 true (lift (lenSlc x10))) fun x11 =>
    bnd (gd x7 true (lift (bin .add x11 (Value.int .i64 1)))) fun x12 =>
    bnd (gd x7 true (lift (subV 3 x9 none (some x12)))) fun x13 =>
    bnd (gd x7 true (lift (some x1))) fun x14 =>
    bnd (gd x7 true (lift (lenSlc x14))) fun x15 =>
    bnd (gd x7 true (lift (iaddrS 3 x13 x15))) fun x16 =>
    bnd (gd x7 true (lift (faddr 1 x16))) fun x17 =>
    bnd (gd x7 true (ld1 x17)) fun x18 =>
    bnd (gd x7 true (lift (bin .eql x18 (Value.int .i64 (-77))))) fun x19 =>
    bnd (lift (pickV x7 x19 (Value.bool false))) fun x20 =>
    ret (.ret [x20])
    ) fun o => finM o fun vs => ret (outV [(at_ vs 0)])
def h_book_KeptItems : Hint := (.seq [] .leaf (.seq [] .leaf .leaf))
def A_book_KeptItems (l : List V) : M V := match l with | [x0, x1] => F_book_KeptItems x0 x1 | _ => fail
theorem e_book_KeptItems (x0 x1 : V) : funM Tryd.prog (ovr [(fid_book_SameItems, A_book_SameItems)] noC) fid_book_KeptItems h_book_KeptItems [x0, x1] = F_book_KeptItems x0 x1 := by kernel_rfl
theorem K_book_KeptItems : Known Tryd.prog fid_book_KeptItems (A_book_KeptItems) := known_of (σ := ovr [(fid_book_SameItems, A_book_SameItems)] noC) (hint := h_book_KeptItems) (by kernel_rfl) (simAll_ovr K_book_SameItems simAll_nil0) fun l H r H' h => by
  unfold A_book_KeptItems at h; split at h
  · rw [e_book_KeptItems]; exact h
  · exact (fail_ne h).elim

/-! ### capstan/capstanlaw03.works -/
def F_law03_works (G_errors_As : List V → M V) : M V :=
  bnd (
    bnd (lift (build [Value.bool false, Value.int .i64 0, Value.string ⟨#[]⟩] [(1, 1, (Value.int .i64 1))])) fun x6 =>
    bnd (lift (build [Value.bool false, Value.int .i64 0, Value.string ⟨#[]⟩] [(0, 1, (Value.bool true)), (2, 1, (Value.string ⟨#[97, 98]⟩))])) fun x7 =>
    bnd (bslc 3 2 (rep 2 [Value.bool false, Value.int .i64 0, Value.string ⟨#[]⟩]) [(0, 3, x6), (3, 3, x7)]) fun x8 =>
    bnd (A_wire_Encode [x8]) fun x9 =>
    bnd (lift (ext 0 x9)) fun x10 =>
    bnd (lift (ext 1 x9)) fun x11 =>
    bnd ((A_wire_Decode G_errors_As) [(Value.string ⟨#[0, 1, 35, 255, 255, 255, 255, 255, 255, 255, 255]⟩)]) fun x13 =>
    bnd (lift (ext 0 x13)) fun x14 =>
    bnd (lift (ext 1 x13)) fun x15 =>
    bnd (newc [Value.int .i64 0, Value.int .i64 0]) fun x4 =>
    bnd (stn 2 x4 x15) fun _ =>
    bnd (lift (bin .eql x10 (Value.string ⟨#[0, 2, 35, 0, 0, 0, 0, 0, 0, 0, 1, 36, 0, 2, 97, 98]⟩))) fun x17 =>
    bnd (gd x17 true (lift (some x11))) fun x19 =>
    bnd (gd x17 true (lift (bin .eql x19 (Value.int .i64 0)))) fun x20 =>
    bnd (lift (pickV x17 x20 (Value.bool false))) fun x21 =>
    bnd (gd x21 true (lift (some x14))) fun x23 =>
    bnd (gd x21 true (lift (lenSlc x23))) fun x24 =>
    bnd (gd x21 true (lift (bin .eql x24 (Value.int .i64 1)))) fun x25 =>
    bnd (lift (pickV x21 x25 (Value.bool false))) fun x26 =>
    bnd (gd x26 true (lift (some x14))) fun x28 =>
    bnd (gd x26 true (lift (iaddrS 3 x28 (Value.int .i64 0)))) fun x29 =>
    bnd (gd x26 true (lift (faddr 1 x29))) fun x30 =>
    bnd (gd x26 true (ld1 x30)) fun x31 =>
    bnd (gd x26 true (lift (bin .eql x31 (Value.int .i64 (-1))))) fun x32 =>
    bnd (lift (pickV x26 x32 (Value.bool false))) fun x33 =>
    bnd (gd x33 true (ldn 2 x4)) fun x35 =>
    bnd (gd x33 true (lift (build [Value.int .i64 0, Value.int .i64 0] []))) fun x36 =>
    bnd (gd x33 true (lift (notIf false (eqAgg [.i, .i] x35 x36)))) fun x37 =>
    bnd (lift (pickV x33 x37 (Value.bool false))) fun x38 =>
    ret (.ret [x38])
    ) fun o => finM o fun vs => ret (outV [(at_ vs 0)])
def h_law03_works : Hint := (.seq [] .leaf (.seq [] .leaf (.seq [] .leaf (.seq [] .leaf .leaf))))
def A_law03_works (G_errors_As : List V → M V) (l : List V) : M V := match l with | [] => F_law03_works G_errors_As  | _ => fail
theorem e_law03_works (G_errors_As : List V → M V) : funM Tryd.prog (ovr [(fid_wire_Encode, A_wire_Encode), (fid_wire_Decode, A_wire_Decode G_errors_As)] noC) fid_law03_works h_law03_works [] = F_law03_works G_errors_As  := by kernel_rfl
theorem K_law03_works {G_errors_As : List V → M V} (k_errors_As : Known Tryd.prog fid_errors_As G_errors_As) : Known Tryd.prog fid_law03_works (A_law03_works G_errors_As) := known_of (σ := ovr [(fid_wire_Encode, A_wire_Encode), (fid_wire_Decode, A_wire_Decode G_errors_As)] noC) (hint := h_law03_works) (by kernel_rfl) (simAll_ovr K_wire_Encode (simAll_ovr (K_wire_Decode k_errors_As) simAll_nil0)) fun l H r H' h => by
  unfold A_law03_works at h; split at h
  · rw [e_law03_works]; exact h
  · exact (fail_ne h).elim

/-! ### capstan/capstanlaw03.WireLists -/
def F_law03_WireLists (G_errors_As : List V → M V) (x0 x1 : V) : M V :=
  bnd (
    bnd (A_book_LendItems [x0]) fun x15 =>
    bnd (A_wire_Encode [x15]) fun x18 =>
    bnd (lift (ext 0 x18)) fun x19 =>
    bnd (lift (ext 1 x18)) fun x20 =>
    bnd (A_ref03_Encode [x0]) fun x23 =>
    bnd (lift (ext 0 x23)) fun x24 =>
    bnd (lift (ext 1 x23)) fun x25 =>
    bnd ((A_wire_Decode G_errors_As) [x1]) fun x28 =>
    bnd (lift (ext 0 x28)) fun x29 =>
    bnd (lift (ext 1 x28)) fun x30 =>
    bnd (newc [Value.int .i64 0, Value.int .i64 0]) fun x11 =>
    bnd (stn 2 x11 x30) fun _ =>
    bnd (A_ref03_Decode [x1]) fun x33 =>
    bnd (lift (ext 0 x33)) fun x34 =>
    bnd (lift (ext 1 x33)) fun x35 =>
    bnd (newc [Value.int .i64 0, Value.int .i64 0]) fun x13 =>
    bnd (stn 2 x13 x35) fun _ =>
    bnd (gd (Value.bool true) true (lift (some x19))) fun x37 =>
    bnd (gd (Value.bool true) true (lift (some x24))) fun x38 =>
    bnd (gd (Value.bool true) true (lift (bin .eql x37 x38))) fun x39 =>
    bnd (lift (pickV (Value.bool true) x39 (Value.bool false))) fun x40 =>
    bnd (gd x40 true (lift (some x20))) fun x42 =>
    bnd (gd x40 true (lift (some x25))) fun x43 =>
    bnd (gd x40 true (lift (bin .eql x42 x43))) fun x44 =>
    bnd (lift (pickV x40 x44 (Value.bool false))) fun x45 =>
    bnd (gd x45 true (lift (some x29))) fun x47 =>
    bnd (gd x45 true (lift (some x34))) fun x48 =>
    bnd (gd x45 true (A_book_SameItems [x47, x48])) fun x49 =>
    bnd (lift (pickV x45 x49 (Value.bool false))) fun x50 =>
    bnd (gd x50 true (ldn 2 x11)) fun x52 =>
    bnd (gd x50 true (ldn 2 x13)) fun x53 =>
    bnd (gd x50 true (lift (notIf false (eqAgg [.i, .i] x52 x53)))) fun x54 =>
    bnd (lift (pickV x50 x54 (Value.bool false))) fun x55 =>
    bnd (gd x55 true (lift (some x15))) fun x57 =>
    bnd (gd x55 true (lift (some x0))) fun x58 =>
    bnd (gd x55 true (A_book_KeptItems [x57, x58])) fun x59 =>
    bnd (lift (pickV x55 x59 (Value.bool false))) fun x60 =>
    bnd (gd x60 true ((A_law03_works G_errors_As) [])) fun x62 =>
    bnd (lift (pickV x60 x62 (Value.bool false))) fun x63 =>
    ret (.ret [x63])
    ) fun o => finM o fun vs => ret (outV [(at_ vs 0)])
def h_law03_WireLists : Hint := (.seq [] .leaf (.seq [] .leaf (.seq [] .leaf (.seq [] .leaf (.seq [] .leaf (.seq [] .leaf (.seq [] .leaf .leaf)))))))
def A_law03_WireLists (G_errors_As : List V → M V) (l : List V) : M V := match l with | [x0, x1] => F_law03_WireLists G_errors_As x0 x1 | _ => fail
theorem e_law03_WireLists (G_errors_As : List V → M V) (x0 x1 : V) : funM Tryd.prog (ovr [(fid_book_LendItems, A_book_LendItems), (fid_wire_Encode, A_wire_Encode), (fid_ref03_Encode, A_ref03_Encode), (fid_wire_Decode, A_wire_Decode G_errors_As), (fid_ref03_Decode, A_ref03_Decode), (fid_book_SameItems, A_book_SameItems), (fid_book_KeptItems, A_book_KeptItems), (fid_law03_works, A_law03_works G_errors_As)] noC) fid_law03_WireLists h_law03_WireLists [x0, x1] = F_law03_WireLists G_errors_As x0 x1 := by kernel_rfl
theorem K_law03_WireLists {G_errors_As : List V → M V} (k_errors_As : Known Tryd.prog fid_errors_As G_errors_As) : Known Tryd.prog fid_law03_WireLists (A_law03_WireLists G_errors_As) := known_of (σ := ovr [(fid_book_LendItems, A_book_LendItems), (fid_wire_Encode, A_wire_Encode), (fid_ref03_Encode, A_ref03_Encode), (fid_wire_Decode, A_wire_Decode G_errors_As), (fid_ref03_Decode, A_ref03_Decode), (fid_book_SameItems, A_book_SameItems), (fid_book_KeptItems, A_book_KeptItems), (fid_law03_works, A_law03_works G_errors_As)] noC) (hint := h_law03_WireLists) (by kernel_rfl) (simAll_ovr K_book_LendItems (simAll_ovr K_wire_Encode (simAll_ovr K_ref03_Encode (simAll_ovr (K_wire_Decode k_errors_As) (simAll_ovr K_ref03_Decode (simAll_ovr K_book_SameItems (simAll_ovr K_book_KeptItems (simAll_ovr (K_law03_works k_errors_As) simAll_nil0)))))))) fun l H r H' h => by
  unfold A_law03_WireLists at h; split at h
  · rw [e_law03_WireLists]; exact h
  · exact (fail_ne h).elim

/-! ### capstan/capstanlaw03.WireBack -/
def law03_WireBack_k0 (G_errors_As : List V → M V) (vs_3 : List V) : M Out :=
  bnd (A_wire_Encode [(at_ vs_3 1)]) fun x51 =>
  bnd (lift (ext 0 x51)) fun x52 =>
  bnd (lift (ext 1 x51)) fun x53 =>
  bnd (lift (bin .eql x53 (Value.int .i64 0))) fun x55 =>
  bnd (gd x55 true (lift (some x52))) fun x57 =>
  bnd (gd x55 true (lift (some (at_ vs_3 0)))) fun x58 =>
  bnd (gd x55 true (lift (bin .eql x57 x58))) fun x59 =>
  bnd (lift (pickV x55 x59 (Value.bool false))) fun x60 =>
  ret (.ret [x60])
def law03_WireBack_k1 (G_errors_As : List V → M V) (vs_2 : List V) : M Out :=
  bnd ((A_wire_Decode G_errors_As) [(at_ vs_2 0)]) fun x40 =>
  bnd (lift (ext 0 x40)) fun x41 =>
  bnd (lift (ext 1 x40)) fun x42 =>
  bnd (newc [Value.int .i64 0, Value.int .i64 0]) fun x10 =>
  bnd (stn 2 x10 x42) fun _ =>
  bnd (
    bnd (ldn 2 x10) fun x43 =>
    bnd (lift (build [Value.int .i64 0, Value.int .i64 0] [])) fun x44 =>
    bnd (lift (notIf true (eqAgg [.i, .i] x43 x44))) fun x45 =>
    condM x45 (
      bnd (lift (lenSlc x41)) fun x47 =>
      bnd (lift (bin .eql x47 (Value.int .i64 0))) fun x48 =>
      ret (.ret [x48])
      ) (
      ret (.nxt [(at_ vs_2 0), x41])
      )
    ) fun o => nx o (law03_WireBack_k0 G_errors_As)
def law03_WireBack_k2 (G_errors_As : List V → M V) (vs : List V) : M Out :=
  bnd (
    bnd (A_wire_Encode [(at_ vs 0)]) fun x17 =>
    bnd (lift (ext 0 x17)) fun x18 =>
    bnd (lift (ext 1 x17)) fun x19 =>
    bnd (lift (bin .eql x19 (Value.int .i64 0))) fun x21 =>
    condM x21 (
      bnd ((A_wire_Decode G_errors_As) [x18]) fun x24 =>
      bnd (lift (ext 0 x24)) fun x25 =>
      bnd (lift (ext 1 x24)) fun x26 =>
      bnd (newc [Value.int .i64 0, Value.int .i64 0]) fun x8 =>
      bnd (stn 2 x8 x26) fun _ =>
      bnd (ldn 2 x8) fun x27 =>
      bnd (lift (build [Value.int .i64 0, Value.int .i64 0] [])) fun x28 =>
      bnd (lift (notIf true (eqAgg [.i, .i] x27 x28))) fun x29 =>
      bnd (gd x29 false (lift (some x25))) fun x31 =>
      bnd (gd x29 false (lift (some (at_ vs 0)))) fun x32 =>
      bnd (gd x29 false (A_book_SameItems [x31, x32])) fun x33 =>
      bnd (gd x29 false (lift (un .not x33))) fun x34 =>
      bnd (lift (pickV x29 (Value.bool true) x34)) fun x35 =>
      condM x35 (
        ret (.ret [(Value.bool false)])
        ) (
        ret (.nxt [(at_ vs 1)])
        )
      ) (
      bnd (lift (bin .neq x18 (Value.string ⟨#[]⟩))) fun x37 =>
      condM x37 (
        ret (.ret [(Value.bool false)])
        ) (
        ret (.nxt [(at_ vs 1)])
        )
      )
    ) fun o => nx o (law03_WireBack_k1 G_errors_As)
def F_law03_WireBack (G_errors_As : List V → M V) (x0 x1 : V) : M V :=
  bnd (
    bnd (
      bnd ((A_law03_works G_errors_As) []) fun x13 =>
      bnd (lift (un .not x13)) fun x14 =>
      condM x14 (
        ret (.ret [(Value.bool false)])
        ) (
        ret (.nxt [x0, x1])
        )
      ) fun o => nx o (law03_WireBack_k2 G_errors_As)
    ) fun o => finM o fun vs => ret (outV [(at_ vs 0)])
def h_law03_WireBack : Hint := (.seq [] .leaf (.seq [0, 1] (.seq [] .leaf (.cond (.seq [] .leaf .leaf) .leaf)) (.seq [1] (.seq [] .leaf (.seq [] .leaf (.cond (.seq [] .leaf (.seq [] .leaf (.cond (.seq [] .leaf .leaf) .leaf))) (.seq [] .leaf (.cond (.seq [] .leaf .leaf) .leaf))))) (.seq [] .leaf (.seq [1, 9] (.seq [] .leaf (.cond (.seq [] .leaf .leaf) .leaf)) (.seq [] .leaf (.seq [] .leaf .leaf)))))))
def A_law03_WireBack (G_errors_As : List V → M V) (l : List V) : M V := match l with | [x0, x1] => F_law03_WireBack G_errors_As x0 x1 | _ => fail
theorem e_law03_WireBack (G_errors_As : List V → M V) (x0 x1 : V) : funM Tryd.prog (ovr [(fid_law03_works, A_law03_works G_errors_As), (fid_wire_Encode, A_wire_Encode), (fid_wire_Decode, A_wire_Decode G_errors_As), (fid_book_SameItems, A_book_SameItems)] noC) fid_law03_WireBack h_law03_WireBack [x0, x1] = F_law03_WireBack G_errors_As x0 x1 := by kernel_rfl
theorem K_law03_WireBack {G_errors_As : List V → M V} (k_errors_As : Known Tryd.prog fid_errors_As G_errors_As) : Known Tryd.prog fid_law03_WireBack (A_law03_WireBack G_errors_As) := known_of (σ := ovr [(fid_law03_works, A_law03_works G_errors_As), (fid_wire_Encode, A_wire_Encode), (fid_wire_Decode, A_wire_Decode G_errors_As), (fid_book_SameItems, A_book_SameItems)] noC) (hint := h_law03_WireBack) (by kernel_rfl) (simAll_ovr (K_law03_works k_errors_As) (simAll_ovr K_wire_Encode (simAll_ovr (K_wire_Decode k_errors_As) (simAll_ovr K_book_SameItems simAll_nil0)))) fun l H r H' h => by
  unfold A_law03_WireBack at h; split at h
  · rw [e_law03_WireBack]; exact h
  · exact (fail_ne h).elim

/-! ### capstan/capstanlaw03.WireCuts -/
def law03_WireCuts_k0 (G_errors_As : List V → M V) (vs_4 : List V) : M Out :=
  bnd (bslc 1 1 (rep 1 [Value.int .u8 0]) [(0, 1, (at_ vs_4 0))]) fun x59 =>
  bnd (b2s x59) fun x60 =>
  bnd (lift (bin .add (at_ vs_4 1) x60)) fun x61 =>
  bnd ((A_wire_Decode G_errors_As) [x61]) fun x62 =>
  bnd (lift (ext 0 x62)) fun x63 =>
  bnd (lift (ext 1 x62)) fun x64 =>
  bnd (newc [Value.int .i64 0, Value.int .i64 0]) fun x13 =>
  bnd (stn 2 x13 x64) fun _ =>
  bnd (ldn 2 x13) fun x65 =>
  bnd (lift (lenStr (at_ vs_4 1))) fun x67 =>
  bnd (lift (build [Value.int .i64 0, Value.int .i64 0] [(0, 1, x67), (1, 1, (Value.int .i64 31))])) fun x68 =>
  bnd (lift (notIf false (eqAgg [.i, .i] x65 x68))) fun x69 =>
  ret (.ret [x69])
def law03_WireCuts_k1 (G_errors_As : List V → M V) (vs_3 : List V) : M Out :=
  bnd (
    bnd (lift (lenStr (at_ vs_3 1))) fun x54 =>
    bnd (lift (bin .eql x54 (Value.int .i64 65536))) fun x55 =>
    condM x55 (
      ret (.ret [(Value.bool true)])
      ) (
      ret (.nxt [(at_ vs_3 0), (at_ vs_3 1)])
      )
    ) fun o => nx o (law03_WireCuts_k0 G_errors_As)
def law03_WireCuts_k2 (G_errors_As : List V → M V) (vs_2 : List V) : M Out :=
  bnd (lift (cvi .u64 (at_ vs_2 0))) fun x26 =>
  bnd (lift (lenStr (at_ vs_2 2))) fun x28 =>
  bnd (lift (cvi .u64 x28)) fun x29 =>
  bnd (lift (bin .rem x26 x29)) fun x30 =>
  bnd (lift (cvi .i64 x30)) fun x31 =>
  bnd (lift (subS (at_ vs_2 2) none (some x31))) fun x35 =>
  bnd ((A_wire_Decode G_errors_As) [x35]) fun x36 =>
  bnd (lift (ext 0 x36)) fun x37 =>
  bnd (lift (ext 1 x36)) fun x38 =>
  bnd (newc [Value.int .i64 0, Value.int .i64 0]) fun x11 =>
  bnd (stn 2 x11 x38) fun _ =>
  bnd (
    bnd (lift (faddr 1 x11)) fun x39 =>
    bnd (ld1 x39) fun x40 =>
    bnd (lift (bin .neq x40 (Value.int .i64 30))) fun x41 =>
    bnd (gd x41 false (lift (some x37))) fun x43 =>
    bnd (gd x41 false (lift (lenSlc x43))) fun x44 =>
    bnd (gd x41 false (lift (bin .neq x44 (Value.int .i64 0)))) fun x45 =>
    bnd (lift (pickV x41 (Value.bool true) x45)) fun x46 =>
    bnd (gd x46 false (lift (faddr 0 x11))) fun x48 =>
    bnd (gd x46 false (ld1 x48)) fun x49 =>
    bnd (gd x46 false (lift (some x31))) fun x50 =>
    bnd (gd x46 false (lift (bin .gtr x49 x50))) fun x51 =>
    bnd (lift (pickV x46 (Value.bool true) x51)) fun x52 =>
    condM x52 (
      ret (.ret [(Value.bool false)])
      ) (
      ret (.nxt [(at_ vs_2 1), (at_ vs_2 2)])
      )
    ) fun o => nx o (law03_WireCuts_k1 G_errors_As)
def law03_WireCuts_k3 (G_errors_As : List V → M V) (vs : List V) : M Out :=
  bnd (A_wire_Encode [(at_ vs 0)]) fun x18 =>
  bnd (lift (ext 0 x18)) fun x19 =>
  bnd (lift (ext 1 x18)) fun x20 =>
  bnd (
    bnd (lift (bin .neq x20 (Value.int .i64 0))) fun x22 =>
    condM x22 (
      bnd (lift (bin .eql x19 (Value.string ⟨#[]⟩))) fun x24 =>
      ret (.ret [x24])
      ) (
      ret (.nxt [(at_ vs 1), (at_ vs 2), x19])
      )
    ) fun o => nx o (law03_WireCuts_k2 G_errors_As)
def F_law03_WireCuts (G_errors_As : List V → M V) (x0 x1 x2 : V) : M V :=
  bnd (
    bnd (
      bnd ((A_law03_works G_errors_As) []) fun x14 =>
      bnd (lift (un .not x14)) fun x15 =>
      condM x15 (
        ret (.ret [(Value.bool false)])
        ) (
        ret (.nxt [x0, x1, x2])
        )
      ) fun o => nx o (law03_WireCuts_k3 G_errors_As)
    ) fun o => finM o fun vs => ret (outV [(at_ vs 0)])
def h_law03_WireCuts : Hint := (.seq [] .leaf (.seq [0, 1, 2] (.seq [] .leaf (.cond (.seq [] .leaf .leaf) .leaf)) (.seq [] .leaf (.seq [1, 2, 7] (.seq [] .leaf (.cond (.seq [] .leaf .leaf) .leaf)) (.seq [] .leaf (.seq [] .leaf (.seq [2, 7] (.seq [] .leaf (.cond (.seq [] .leaf .leaf) .leaf)) (.seq [2, 7] (.seq [] .leaf (.cond (.seq [] .leaf .leaf) .leaf)) (.seq [] .leaf (.seq [] .leaf .leaf))))))))))
def A_law03_WireCuts (G_errors_As : List V → M V) (l : List V) : M V := match l with | [x0, x1, x2] => F_law03_WireCuts G_errors_As x0 x1 x2 | _ => fail
theorem e_law03_WireCuts (G_errors_As : List V → M V) (x0 x1 x2 : V) : funM Tryd.prog (ovr [(fid_law03_works, A_law03_works G_errors_As), (fid_wire_Encode, A_wire_Encode), (fid_wire_Decode, A_wire_Decode G_errors_As)] noC) fid_law03_WireCuts h_law03_WireCuts [x0, x1, x2] = F_law03_WireCuts G_errors_As x0 x1 x2 := by kernel_rfl
theorem K_law03_WireCuts {G_errors_As : List V → M V} (k_errors_As : Known Tryd.prog fid_errors_As G_errors_As) : Known Tryd.prog fid_law03_WireCuts (A_law03_WireCuts G_errors_As) := known_of (σ := ovr [(fid_law03_works, A_law03_works G_errors_As), (fid_wire_Encode, A_wire_Encode), (fid_wire_Decode, A_wire_Decode G_errors_As)] noC) (hint := h_law03_WireCuts) (by kernel_rfl) (simAll_ovr (K_law03_works k_errors_As) (simAll_ovr K_wire_Encode (simAll_ovr (K_wire_Decode k_errors_As) simAll_nil0))) fun l H r H' h => by
  unfold A_law03_WireCuts at h; split at h
  · rw [e_law03_WireCuts]; exact h
  · exact (fail_ne h).elim

/-! ### capstan/capstanlaw03.WireJoins -/
def law03_WireJoins_k0 (G_errors_As : List V → M V) (vs_3 : List V) : M Out :=
  bnd (lift (bin .eql (at_ vs_3 5) (Value.int .i64 0))) fun x58 =>
  bnd (gd x58 true (lift (some (at_ vs_3 4)))) fun x60 =>
  bnd (gd x58 true (lift (subS x60 (some (Value.int .i64 2)) none))) fun x61 =>
  bnd (gd x58 true (lift (some (at_ vs_3 2)))) fun x62 =>
  bnd (gd x58 true (lift (subS x62 (some (Value.int .i64 2)) none))) fun x63 =>
  bnd (gd x58 true (lift (some (at_ vs_3 3)))) fun x64 =>
  bnd (gd x58 true (lift (subS x64 (some (Value.int .i64 2)) none))) fun x65 =>
  bnd (gd x58 true (lift (bin .add x63 x65))) fun x66 =>
  bnd (gd x58 true (lift (bin .eql x61 x66))) fun x67 =>
  bnd (lift (pickV x58 x67 (Value.bool false))) fun x68 =>
  bnd (gd x68 true (lift (some (at_ vs_3 4)))) fun x70 =>
  bnd (gd x68 true (lift (idxS x70 (Value.int .i64 0)))) fun x71 =>
  bnd (gd x68 true (lift (cvi .i64 x71))) fun x72 =>
  bnd (gd x68 true (lift (bin .mul x72 (Value.int .i64 256)))) fun x73 =>
  bnd (gd x68 true (lift (some (at_ vs_3 4)))) fun x74 =>
  bnd (gd x68 true (lift (idxS x74 (Value.int .i64 1)))) fun x75 =>
  bnd (gd x68 true (lift (cvi .i64 x75))) fun x76 =>
  bnd (gd x68 true (lift (bin .add x73 x76))) fun x77 =>
  bnd (gd x68 true (lift (some (at_ vs_3 0)))) fun x78 =>
  bnd (gd x68 true (lift (lenSlc x78))) fun x79 =>
  bnd (gd x68 true (lift (some (at_ vs_3 1)))) fun x80 =>
  bnd (gd x68 true (lift (lenSlc x80))) fun x81 =>
  bnd (gd x68 true (lift (bin .add x79 x81))) fun x82 =>
  bnd (gd x68 true (lift (bin .eql x77 x82))) fun x83 =>
  bnd (lift (pickV x68 x83 (Value.bool false))) fun x84 =>
  ret (.ret [x84])
def law03_WireJoins_k1 (G_errors_As : List V → M V) (vs_2 : List V) : M Out :=
  bnd (
    bnd (lift (bin .eql (at_ vs_2 5) (Value.int .i64 2))) fun x41 =>
    condM x41 (
      bnd (lift (lenSlc (at_ vs_2 0))) fun x43 =>
      bnd (lift (lenSlc (at_ vs_2 1))) fun x45 =>
      bnd (lift (bin .add x43 x45)) fun x46 =>
      bnd (lift (bin .gtr x46 (Value.int .i64 1000))) fun x47 =>
      bnd (gd x47 false (lift (some (at_ vs_2 2)))) fun x49 =>
      bnd (gd x47 false (lift (lenStr x49))) fun x50 =>
      bnd (gd x47 false (lift (some (at_ vs_2 3)))) fun x51 =>
      bnd (gd x47 false (lift (lenStr x51))) fun x52 =>
      bnd (gd x47 false (lift (bin .add x50 x52))) fun x53 =>
      bnd (gd x47 false (lift (bin .sub x53 (Value.int .i64 2)))) fun x54 =>
      bnd (gd x47 false (lift (bin .gtr x54 (Value.int .i64 65536)))) fun x55 =>
      bnd (lift (pickV x47 (Value.bool true) x55)) fun x56 =>
      ret (.ret [x56])
      ) (
      ret (.nxt [(at_ vs_2 0), (at_ vs_2 1), (at_ vs_2 2), (at_ vs_2 3), (at_ vs_2 4), (at_ vs_2 5)])
      )
    ) fun o => nx o (law03_WireJoins_k0 G_errors_As)
def law03_WireJoins_k2 (G_errors_As : List V → M V) (vs : List V) : M Out :=
  bnd (A_wire_Encode [(at_ vs 0)]) fun x15 =>
  bnd (lift (ext 0 x15)) fun x16 =>
  bnd (lift (ext 1 x15)) fun x17 =>
  bnd (A_wire_Encode [(at_ vs 1)]) fun x20 =>
  bnd (lift (ext 0 x20)) fun x21 =>
  bnd (lift (ext 1 x20)) fun x22 =>
  bnd (bslc 3 0 (rep 0 [Value.bool false, Value.int .i64 0, Value.string ⟨#[]⟩]) []) fun x24 =>
  bnd (appV 3 32 x24 (at_ vs 0)) fun x26 =>
  bnd (appV 3 32 x26 (at_ vs 1)) fun x28 =>
  bnd (A_wire_Encode [x28]) fun x29 =>
  bnd (lift (ext 0 x29)) fun x30 =>
  bnd (lift (ext 1 x29)) fun x31 =>
  bnd (
    bnd (lift (bin .neq x17 (Value.int .i64 0))) fun x33 =>
    bnd (gd x33 false (lift (some x22))) fun x35 =>
    bnd (gd x33 false (lift (bin .neq x35 (Value.int .i64 0)))) fun x36 =>
    bnd (lift (pickV x33 (Value.bool true) x36)) fun x37 =>
    condM x37 (
      bnd (lift (bin .neq x31 (Value.int .i64 0))) fun x39 =>
      ret (.ret [x39])
      ) (
      ret (.nxt [(at_ vs 0), (at_ vs 1), x16, x21, x30, x31])
      )
    ) fun o => nx o (law03_WireJoins_k1 G_errors_As)
def F_law03_WireJoins (G_errors_As : List V → M V) (x0 x1 : V) : M V :=
  bnd (
    bnd (
      bnd ((A_law03_works G_errors_As) []) fun x11 =>
      bnd (lift (un .not x11)) fun x12 =>
      condM x12 (
        ret (.ret [(Value.bool false)])
        ) (
        ret (.nxt [x0, x1])
        )
      ) fun o => nx o (law03_WireJoins_k2 G_errors_As)
    ) fun o => finM o fun vs => ret (outV [(at_ vs 0)])
def h_law03_WireJoins : Hint := (.seq [] .leaf (.seq [0, 1] (.seq [] .leaf (.cond (.seq [] .leaf .leaf) .leaf)) (.seq [] .leaf (.seq [] .leaf (.seq [] .leaf (.seq [0, 1, 5, 7, 9, 10] (.seq [] .leaf (.cond (.seq [] .leaf .leaf) .leaf)) (.seq [0, 1, 5, 7, 9, 10] (.seq [] .leaf (.cond (.seq [] .leaf .leaf) .leaf)) (.seq [] (.reg [0, 1, 2, 3, 4, 5, 6, 7, 8, 9, 10, 11, 12, 13, 14, 15, 16, 17, 18, 19, 20, 21, 22, 23, 24, 25, 26, 27, 28] []) .leaf))))))))
def A_law03_WireJoins (G_errors_As : List V → M V) (l : List V) : M V := match l with | [x0, x1] => F_law03_WireJoins G_errors_As x0 x1 | _ => fail
theorem e_law03_WireJoins (G_errors_As : List V → M V) (x0 x1 : V) : funM Tryd.prog (ovr [(fid_law03_works, A_law03_works G_errors_As), (fid_wire_Encode, A_wire_Encode)] noC) fid_law03_WireJoins h_law03_WireJoins [x0, x1] = F_law03_WireJoins G_errors_As x0 x1 := by kernel_rfl
theorem K_law03_WireJoins {G_errors_As : List V → M V} (k_errors_As : Known Tryd.prog fid_errors_As G_errors_As) : Known Tryd.prog fid_law03_WireJoins (A_law03_WireJoins G_errors_As) := known_of (σ := ovr [(fid_law03_works, A_law03_works G_errors_As), (fid_wire_Encode, A_wire_Encode)] noC) (hint := h_law03_WireJoins) (by kernel_rfl) (simAll_ovr (K_law03_works k_errors_As) (simAll_ovr K_wire_Encode simAll_nil0)) fun l H r H' h => by
  unfold A_law03_WireJoins at h; split at h
  · rw [e_law03_WireJoins]; exact h
  · exact (fail_ne h).elim

end Go.AM.Cap
