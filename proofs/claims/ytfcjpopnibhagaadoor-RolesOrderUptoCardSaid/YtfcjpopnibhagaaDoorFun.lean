/- Printed by amprint2.py: functions of YtfcjpopnibhagaaDoor on the abstract machine. -/
import Derived.Test.YtfcjpopnibhagaaDoorAmWp
import Derived.Test.YtfcjpopnibhagaaDoorProg
set_option linter.all false
set_option linter.unusedVariables false
set_option maxRecDepth 100000
namespace Go.AM.Cap
open Go.AM Go.Proofs

def gid_roles_needs : Nat := 0
def gid_unicode_utf8_first : Nat := 1
def gid_unicode_utf8_acceptRanges : Nat := 2
def fid_law24_RolesNest : Nat := 3
def fid_law24_RolesOrder : Nat := 4
def fid_law24_works : Nat := 5
def fid_roles_Check : Nat := 6
def fid_roles_Needs : Nat := 7
def fid_roles_May : Nat := 8
def fid_roles_Aims : Nat := 9
def fid_book_SameInts : Nat := 10
def fid_roles_formed : Nat := 11
def fid_roles_Find : Nat := 12
def fid_roles_wrong : Nat := 13
def fid_roles_asked : Nat := 14
def fid_slices_ContainsFunc_S_api_Role_api_Role : Nat := 15
def fid_roles_May_1 : Nat := 16
def fid_roles_level : Nat := 17
def fid_strings_Trim : Nat := 18
def fid_slices_IndexFunc_S_api_User_api_User : Nat := 19
def fid_roles_Find_1 : Nat := 20
def fid_slices_Contains_S_int_int : Nat := 21
def fid_slices_IndexFunc_S_api_Role_api_Role : Nat := 22
def fid_roles_level_1 : Nat := 23
def fid_strings_trimLeftByte : Nat := 24
def fid_strings_trimRightByte : Nat := 25
def fid_strings_makeASCIISet : Nat := 26
def fid_strings_trimLeftASCII : Nat := 27
def fid_strings_trimRightASCII : Nat := 28
def fid_strings_trimLeftUnicode : Nat := 29
def fid_strings_trimRightUnicode : Nat := 30
def fid_slices_Index_S_int_int : Nat := 31
def fid_strings_asciiSet_contains : Nat := 32
def fid_unicode_utf8_DecodeRuneInString : Nat := 33
def fid_strings_ContainsRune : Nat := 34
def fid_unicode_utf8_DecodeLastRuneInString : Nat := 35
def fid_unicode_utf8_decodeRuneInStringSlow : Nat := 36
def fid_strings_IndexRune : Nat := 37
def fid_unicode_utf8_RuneStart : Nat := 38
def fid_strings_IndexByte : Nat := 39
def fid_unicode_utf8_ValidRune : Nat := 40
def fid_internal_bytealg_Cutover : Nat := 41
def fid_internal_stringslite_IndexByte : Nat := 43
def fid_internal_bytealg_IndexByteString : Nat := 44

/-! ### strings.trimRightByte -/
def strings_trimRightByte_k0 (vs_2 : List V) : M Out :=
  bnd (
  bnd (lift (lenStr (at_ vs_2 0))) fun x19 =>
  bnd (lift (bin .sub x19 (Value.int .i64 1))) fun x20 =>
  bnd (lift (subS (at_ vs_2 0) none (some x20))) fun x21 =>
  ret (.nxt [x21, (at_ vs_2 1)])
  ) fun o => ret (unblk 1 o)
def strings_trimRightByte_l1 (vs : List V) : M Out :=
  bnd (
  bnd (lift (lenStr (at_ vs 0))) fun x6 =>
  bnd (lift (bin .gtr x6 (Value.int .i64 0))) fun x7 =>
  bnd (gd x7 true (lift (some (at_ vs 0)))) fun x9 =>
  bnd (gd x7 true (lift (some (at_ vs 0)))) fun x10 =>
  bnd (gd x7 true (lift (lenStr x10))) fun x11 =>
  bnd (gd x7 true (lift (bin .sub x11 (Value.int .i64 1)))) fun x12 =>
  bnd (gd x7 true (lift (idxS x9 x12))) fun x13 =>
  bnd (gd x7 true (lift (some (at_ vs 1)))) fun x14 =>
  bnd (gd x7 true (lift (bin .eql x13 x14))) fun x15 =>
  bnd (lift (pickV x7 x15 (Value.bool false))) fun x16 =>
  condM x16 (
    ret (.nxt [(at_ vs 0), (at_ vs 1)])
    ) (
    ret (.brk 0 [(at_ vs 0)])
    )
  ) fun o => nx o strings_trimRightByte_k0
def strings_trimRightByte_k2 (vs_3 : List V) : M Out :=
  ret (.ret [(at_ vs_3 0)])
def F_strings_trimRightByte (x0 x1 : V) : M V :=
  bnd (
    bnd (
      bnd (
        loopM FUEL strings_trimRightByte_l1 [x0, x1]
        ) fun o => ret (unblk 0 o)
      ) fun o => nx o strings_trimRightByte_k2
    ) fun o => finM o fun vs => ret (outV [(at_ vs 0)])
def h_strings_trimRightByte : Hint := (.seq [] .leaf (.seq [0] (.blk (.loop [0, 1] (.seq [0, 1] (.seq [] .leaf (.cond .leaf .leaf)) (.blk .leaf)))) (.seq [] .leaf .leaf)))
def A_strings_trimRightByte (l : List V) : M V := match l with | [x0, x1] => F_strings_trimRightByte x0 x1 | _ => fail
theorem e_strings_trimRightByte (x0 x1 : V) : funM Tryd.prog (ovr [] noC) fid_strings_trimRightByte h_strings_trimRightByte [x0, x1] = F_strings_trimRightByte x0 x1 := by kernel_rfl
theorem K_strings_trimRightByte : Known Tryd.prog fid_strings_trimRightByte (A_strings_trimRightByte) := known_of (σ := ovr [] noC) (hint := h_strings_trimRightByte) (by kernel_rfl) simAll_nil0 fun l H r H' h => by
  unfold A_strings_trimRightByte at h; split at h
  · rw [e_strings_trimRightByte]; exact h
  · exact (fail_ne h).elim

/-! ### strings.trimLeftByte -/
def strings_trimLeftByte_k0 (vs_2 : List V) : M Out :=
  bnd (
  bnd (lift (subS (at_ vs_2 0) (some (Value.int .i64 1)) none)) fun x15 =>
  ret (.nxt [x15, (at_ vs_2 1)])
  ) fun o => ret (unblk 1 o)
def strings_trimLeftByte_l1 (vs : List V) : M Out :=
  bnd (
  bnd (lift (lenStr (at_ vs 0))) fun x6 =>
  bnd (lift (bin .gtr x6 (Value.int .i64 0))) fun x7 =>
  bnd (gd x7 true (lift (some (at_ vs 0)))) fun x9 =>
  bnd (gd x7 true (lift (idxS x9 (Value.int .i64 0)))) fun x10 =>
  bnd (gd x7 true (lift (some (at_ vs 1)))) fun x11 =>
  bnd (gd x7 true (lift (bin .eql x10 x11))) fun x12 =>
  bnd (lift (pickV x7 x12 (Value.bool false))) fun x13 =>
  condM x13 (
    ret (.nxt [(at_ vs 0), (at_ vs 1)])
    ) (
    ret (.brk 0 [(at_ vs 0)])
    )
  ) fun o => nx o strings_trimLeftByte_k0
def strings_trimLeftByte_k2 (vs_3 : List V) : M Out :=
  ret (.ret [(at_ vs_3 0)])
def F_strings_trimLeftByte (x0 x1 : V) : M V :=
  bnd (
    bnd (
      bnd (
        loopM FUEL strings_trimLeftByte_l1 [x0, x1]
        ) fun o => ret (unblk 0 o)
      ) fun o => nx o strings_trimLeftByte_k2
    ) fun o => finM o fun vs => ret (outV [(at_ vs 0)])
def h_strings_trimLeftByte : Hint := (.seq [] .leaf (.seq [0] (.blk (.loop [0, 1] (.seq [0, 1] (.seq [] .leaf (.cond .leaf .leaf)) (.blk .leaf)))) (.seq [] .leaf .leaf)))
def A_strings_trimLeftByte (l : List V) : M V := match l with | [x0, x1] => F_strings_trimLeftByte x0 x1 | _ => fail
theorem e_strings_trimLeftByte (x0 x1 : V) : funM Tryd.prog (ovr [] noC) fid_strings_trimLeftByte h_strings_trimLeftByte [x0, x1] = F_strings_trimLeftByte x0 x1 := by kernel_rfl
theorem K_strings_trimLeftByte : Known Tryd.prog fid_strings_trimLeftByte (A_strings_trimLeftByte) := known_of (σ := ovr [] noC) (hint := h_strings_trimLeftByte) (by kernel_rfl) simAll_nil0 fun l H r H' h => by
  unfold A_strings_trimLeftByte at h; split at h
  · rw [e_strings_trimLeftByte]; exact h
  · exact (fail_ne h).elim

/-! ### strings.makeASCIISet -/
def strings_makeASCIISet_k0 (vs_3 : List V) : M Out :=
    bnd (lift (iaddrA 256 1 (at_ vs_3 1) (at_ vs_3 3))) fun x19 =>
    bnd (st1 x19 (Value.bool true)) fun _ =>
    ret (.nxt [(at_ vs_3 0), (at_ vs_3 1), (at_ vs_3 2)])
def strings_makeASCIISet_k1 (vs_4 : List V) : M Out :=
  bnd (lift (bin .add (at_ vs_4 2) (Value.int .i64 1))) fun x11 =>
  ret (.nxt [(at_ vs_4 0), (at_ vs_4 1), x11])
def strings_makeASCIISet_k2 (vs_2 : List V) : M Out :=
  bnd (
  bnd (
    bnd (lift (idxS (at_ vs_2 0) (at_ vs_2 2))) fun x14 =>
    bnd (
      bnd (lift (bin .geq x14 (Value.int .u8 128))) fun x16 =>
      condM x16 (
        bnd (ldn 256 (at_ vs_2 1)) fun x17 =>
        bnd (stn 256 (at_ vs_2 1) x17) fun _ =>
        ret (.ret [(at_ vs_2 1), (Value.bool false)])
        ) (
        ret (.nxt [(at_ vs_2 0), (at_ vs_2 1), (at_ vs_2 2), x14])
        )
      ) fun o => nx o strings_makeASCIISet_k0
    ) fun o => ret (unblk 1 o)
  ) fun o => nx o strings_makeASCIISet_k1
def strings_makeASCIISet_l3 (vs : List V) : M Out :=
  bnd (
  bnd (lift (lenStr (at_ vs 0))) fun x8 =>
  bnd (lift (bin .lss (at_ vs 2) x8)) fun x9 =>
  condM x9 (
    ret (.nxt [(at_ vs 0), (at_ vs 1), (at_ vs 2)])
    ) (
    ret (.brk 0 [(at_ vs 1)])
    )
  ) fun o => nx o strings_makeASCIISet_k2
def strings_makeASCIISet_k4 (vs_5 : List V) : M Out :=
  bnd (ldn 256 (at_ vs_5 0)) fun x20 =>
  bnd (stn 256 (at_ vs_5 0) x20) fun _ =>
  ret (.ret [(at_ vs_5 0), (Value.bool true)])
def F_strings_makeASCIISet (x0 : V) : M V :=
  bnd (
    bnd (newc (List.replicate 256 (Value.bool false))) fun x2 =>
    bnd (
      bnd (
        loopM FUEL strings_makeASCIISet_l3 [x0, x2, (Value.int .i64 0)]
        ) fun o => ret (unblk 0 o)
      ) fun o => nx o strings_makeASCIISet_k4
    ) fun o => finM o fun vs => bnd (ldn 256 (at_ vs 0)) fun r0 => ret (outV [r0, (at_ vs 1)])
def h_strings_makeASCIISet : Hint := (.seq [] .leaf (.seq [2] (.seq [] .leaf (.blk (.loop [0, 2, 4] (.seq [0, 2, 4] (.seq [] .leaf (.cond .leaf .leaf)) (.seq [0, 2, 4] (.blk (.seq [] .leaf (.seq [0, 2, 4, 5] (.seq [] .leaf (.cond (.seq [] .leaf .leaf) .leaf)) .leaf))) .leaf))))) (.seq [] .leaf .leaf)))
def A_strings_makeASCIISet (l : List V) : M V := match l with | [x0] => F_strings_makeASCIISet x0 | _ => fail
theorem e_strings_makeASCIISet (x0 : V) : funM Tryd.prog (ovr [] noC) fid_strings_makeASCIISet h_strings_makeASCIISet [x0] = F_strings_makeASCIISet x0 := by kernel_rfl
theorem K_strings_makeASCIISet : Known Tryd.prog fid_strings_makeASCIISet (A_strings_makeASCIISet) := known_of (σ := ovr [] noC) (hint := h_strings_makeASCIISet) (by kernel_rfl) simAll_nil0 fun l H r H' h => by
  unfold A_strings_makeASCIISet at h; split at h
  · rw [e_strings_makeASCIISet]; exact h
  · exact (fail_ne h).elim

/-! ### (*strings.asciiSet).contains -/
def F_strings_asciiSet_contains (x0 x1 : V) : M V :=
  bnd (
    bnd (lift (nilck x0)) fun x7 =>
    bnd (lift (iaddrA 256 1 x7 x1)) fun x8 =>
    bnd (ld1 x8) fun x9 =>
    ret (.ret [x9])
    ) fun o => finM o fun vs => ret (outV [(at_ vs 0)])
def h_strings_asciiSet_contains : Hint := (.seq [] .leaf (.seq [] .leaf .leaf))
def A_strings_asciiSet_contains (l : List V) : M V := match l with | [x0, x1] => F_strings_asciiSet_contains x0 x1 | _ => fail
theorem e_strings_asciiSet_contains (x0 x1 : V) : funM Tryd.prog (ovr [] noC) fid_strings_asciiSet_contains h_strings_asciiSet_contains [x0, x1] = F_strings_asciiSet_contains x0 x1 := by kernel_rfl
theorem K_strings_asciiSet_contains : Known Tryd.prog fid_strings_asciiSet_contains (A_strings_asciiSet_contains) := known_of (σ := ovr [] noC) (hint := h_strings_asciiSet_contains) (by kernel_rfl) simAll_nil0 fun l H r H' h => by
  unfold A_strings_asciiSet_contains at h; split at h
  · rw [e_strings_asciiSet_contains]; exact h
  · exact (fail_ne h).elim

/-! ### strings.trimRightASCII -/
def strings_trimRightASCII_k0 (vs_3 : List V) : M Out :=
  bnd (lift (lenStr (at_ vs_3 0))) fun x18 =>
  bnd (lift (bin .sub x18 (Value.int .i64 1))) fun x19 =>
  bnd (lift (subS (at_ vs_3 0) none (some x19))) fun x20 =>
  ret (.nxt [x20, (at_ vs_3 1)])
def strings_trimRightASCII_k1 (vs_2 : List V) : M Out :=
  bnd (
  bnd (
    bnd (lift (lenStr (at_ vs_2 0))) fun x11 =>
    bnd (lift (bin .sub x11 (Value.int .i64 1))) fun x12 =>
    bnd (lift (idxS (at_ vs_2 0) x12)) fun x13 =>
    bnd (A_strings_asciiSet_contains [(at_ vs_2 1), x13]) fun x14 =>
    bnd (lift (un .not x14)) fun x15 =>
    condM x15 (
      ret (.brk 0 [(at_ vs_2 0)])
      ) (
      ret (.nxt [(at_ vs_2 0), (at_ vs_2 1)])
      )
    ) fun o => nx o strings_trimRightASCII_k0
  ) fun o => ret (unblk 1 o)
def strings_trimRightASCII_l2 (vs : List V) : M Out :=
  bnd (
  bnd (lift (lenStr (at_ vs 0))) fun x6 =>
  bnd (lift (bin .gtr x6 (Value.int .i64 0))) fun x7 =>
  condM x7 (
    ret (.nxt [(at_ vs 0), (at_ vs 1)])
    ) (
    ret (.brk 0 [(at_ vs 0)])
    )
  ) fun o => nx o strings_trimRightASCII_k1
def strings_trimRightASCII_k3 (vs_4 : List V) : M Out :=
  ret (.ret [(at_ vs_4 0)])
def F_strings_trimRightASCII (x0 x1 : V) : M V :=
  bnd (
    bnd (
      bnd (
        loopM FUEL strings_trimRightASCII_l2 [x0, x1]
        ) fun o => ret (unblk 0 o)
      ) fun o => nx o strings_trimRightASCII_k3
    ) fun o => finM o fun vs => ret (outV [(at_ vs 0)])
def h_strings_trimRightASCII : Hint := (.seq [] .leaf (.seq [0] (.blk (.loop [0, 1] (.seq [0, 1] (.seq [] .leaf (.cond .leaf .leaf)) (.blk (.seq [0, 1] (.seq [] .leaf (.cond .leaf .leaf)) .leaf))))) (.seq [] .leaf .leaf)))
def A_strings_trimRightASCII (l : List V) : M V := match l with | [x0, x1] => F_strings_trimRightASCII x0 x1 | _ => fail
theorem e_strings_trimRightASCII (x0 x1 : V) : funM Tryd.prog (ovr [(fid_strings_asciiSet_contains, A_strings_asciiSet_contains)] noC) fid_strings_trimRightASCII h_strings_trimRightASCII [x0, x1] = F_strings_trimRightASCII x0 x1 := by kernel_rfl
theorem K_strings_trimRightASCII : Known Tryd.prog fid_strings_trimRightASCII (A_strings_trimRightASCII) := known_of (σ := ovr [(fid_strings_asciiSet_contains, A_strings_asciiSet_contains)] noC) (hint := h_strings_trimRightASCII) (by kernel_rfl) (simAll_ovr K_strings_asciiSet_contains simAll_nil0) fun l H r H' h => by
  unfold A_strings_trimRightASCII at h; split at h
  · rw [e_strings_trimRightASCII]; exact h
  · exact (fail_ne h).elim

/-! ### strings.trimLeftASCII -/
def strings_trimLeftASCII_k0 (vs_3 : List V) : M Out :=
  bnd (lift (subS (at_ vs_3 0) (some (Value.int .i64 1)) none)) fun x14 =>
  ret (.nxt [x14, (at_ vs_3 1)])
def strings_trimLeftASCII_k1 (vs_2 : List V) : M Out :=
  bnd (
  bnd (
    bnd (lift (idxS (at_ vs_2 0) (Value.int .i64 0))) fun x10 =>
    bnd (A_strings_asciiSet_contains [(at_ vs_2 1), x10]) fun x11 =>
    bnd (lift (un .not x11)) fun x12 =>
    condM x12 (
      ret (.brk 0 [(at_ vs_2 0)])
      ) (
      ret (.nxt [(at_ vs_2 0), (at_ vs_2 1)])
      )
    ) fun o => nx o strings_trimLeftASCII_k0
  ) fun o => ret (unblk 1 o)
def strings_trimLeftASCII_l2 (vs : List V) : M Out :=
  bnd (
  bnd (lift (lenStr (at_ vs 0))) fun x6 =>
  bnd (lift (bin .gtr x6 (Value.int .i64 0))) fun x7 =>
  condM x7 (
    ret (.nxt [(at_ vs 0), (at_ vs 1)])
    ) (
    ret (.brk 0 [(at_ vs 0)])
    )
  ) fun o => nx o strings_trimLeftASCII_k1
def strings_trimLeftASCII_k3 (vs_4 : List V) : M Out :=
  ret (.ret [(at_ vs_4 0)])
def F_strings_trimLeftASCII (x0 x1 : V) : M V :=
  bnd (
    bnd (
      bnd (
        loopM FUEL strings_trimLeftASCII_l2 [x0, x1]
        ) fun o => ret (unblk 0 o)
      ) fun o => nx o strings_trimLeftASCII_k3
    ) fun o => finM o fun vs => ret (outV [(at_ vs 0)])
def h_strings_trimLeftASCII : Hint := (.seq [] .leaf (.seq [0] (.blk (.loop [0, 1] (.seq [0, 1] (.seq [] .leaf (.cond .leaf .leaf)) (.blk (.seq [0, 1] (.seq [] .leaf (.cond .leaf .leaf)) .leaf))))) (.seq [] .leaf .leaf)))
def A_strings_trimLeftASCII (l : List V) : M V := match l with | [x0, x1] => F_strings_trimLeftASCII x0 x1 | _ => fail
theorem e_strings_trimLeftASCII (x0 x1 : V) : funM Tryd.prog (ovr [(fid_strings_asciiSet_contains, A_strings_asciiSet_contains)] noC) fid_strings_trimLeftASCII h_strings_trimLeftASCII [x0, x1] = F_strings_trimLeftASCII x0 x1 := by kernel_rfl
theorem K_strings_trimLeftASCII : Known Tryd.prog fid_strings_trimLeftASCII (A_strings_trimLeftASCII) := known_of (σ := ovr [(fid_strings_asciiSet_contains, A_strings_asciiSet_contains)] noC) (hint := h_strings_trimLeftASCII) (by kernel_rfl) (simAll_ovr K_strings_asciiSet_contains simAll_nil0) fun l H r H' h => by
  unfold A_strings_trimLeftASCII at h; split at h
  · rw [e_strings_trimLeftASCII]; exact h
  · exact (fail_ne h).elim

/-! ### unicode/utf8.RuneStart -/
def F_unicode_utf8_RuneStart (x0 : V) : M V :=
  bnd (
    bnd (lift (bin .and x0 (Value.int .u8 192))) fun x4 =>
    bnd (lift (bin .neq x4 (Value.int .u8 128))) fun x5 =>
    ret (.ret [x5])
    ) fun o => finM o fun vs => ret (outV [(at_ vs 0)])
def h_unicode_utf8_RuneStart : Hint := (.seq [] .leaf (.seq [] .leaf .leaf))
def A_unicode_utf8_RuneStart (l : List V) : M V := match l with | [x0] => F_unicode_utf8_RuneStart x0 | _ => fail
theorem e_unicode_utf8_RuneStart (x0 : V) : funM Tryd.prog (ovr [] noC) fid_unicode_utf8_RuneStart h_unicode_utf8_RuneStart [x0] = F_unicode_utf8_RuneStart x0 := by kernel_rfl
theorem K_unicode_utf8_RuneStart : Known Tryd.prog fid_unicode_utf8_RuneStart (A_unicode_utf8_RuneStart) := known_of (σ := ovr [] noC) (hint := h_unicode_utf8_RuneStart) (by kernel_rfl) simAll_nil0 fun l H r H' h => by
  unfold A_unicode_utf8_RuneStart at h; split at h
  · rw [e_unicode_utf8_RuneStart]; exact h
  · exact (fail_ne h).elim

/-! ### unicode/utf8.decodeRuneInStringSlow -/
def unicode_utf8_decodeRuneInStringSlow_k0 (vs_8 : List V) : M Out :=
  bnd (lift (bin .and (at_ vs_8 0) (Value.int .u8 7))) fun x100 =>
  bnd (lift (cvi .i32 x100)) fun x101 =>
  bnd (lift (bin .shl x101 (Value.int .u64 18))) fun x102 =>
  bnd (lift (bin .and (at_ vs_8 1) (Value.int .u8 63))) fun x104 =>
  bnd (lift (cvi .i32 x104)) fun x105 =>
  bnd (lift (bin .shl x105 (Value.int .u64 12))) fun x106 =>
  bnd (lift (bin .or x102 x106)) fun x107 =>
  bnd (lift (bin .and (at_ vs_8 2) (Value.int .u8 63))) fun x109 =>
  bnd (lift (cvi .i32 x109)) fun x110 =>
  bnd (lift (bin .shl x110 (Value.int .u64 6))) fun x111 =>
  bnd (lift (bin .or x107 x111)) fun x112 =>
  bnd (lift (bin .and (at_ vs_8 3) (Value.int .u8 63))) fun x114 =>
  bnd (lift (cvi .i32 x114)) fun x115 =>
  bnd (lift (bin .or x112 x115)) fun x116 =>
  ret (.ret [x116, (Value.int .i64 4)])
def unicode_utf8_decodeRuneInStringSlow_k1 (vs_7 : List V) : M Out :=
  bnd (lift (idxS (at_ vs_7 0) (Value.int .i64 3))) fun x92 =>
  bnd (
    bnd (lift (bin .lss x92 (Value.int .u8 128))) fun x94 =>
    bnd (gd x94 false (lift (some x92))) fun x96 =>
    bnd (gd x94 false (lift (bin .lss (Value.int .u8 191) x96))) fun x97 =>
    bnd (lift (pickV x94 (Value.bool true) x97)) fun x98 =>
    condM x98 (
      ret (.ret [(Value.int .i32 65533), (Value.int .i64 1)])
      ) (
      ret (.nxt [(at_ vs_7 1), (at_ vs_7 2), (at_ vs_7 3), x92])
      )
    ) fun o => nx o unicode_utf8_decodeRuneInStringSlow_k0
def unicode_utf8_decodeRuneInStringSlow_k2 (vs_6 : List V) : M Out :=
  bnd (
    bnd (lift (bin .leq (at_ vs_6 2) (Value.int .i64 3))) fun x77 =>
    condM x77 (
      bnd (lift (bin .and (at_ vs_6 1) (Value.int .u8 15))) fun x79 =>
      bnd (lift (cvi .i32 x79)) fun x80 =>
      bnd (lift (bin .shl x80 (Value.int .u64 12))) fun x81 =>
      bnd (lift (bin .and (at_ vs_6 3) (Value.int .u8 63))) fun x83 =>
      bnd (lift (cvi .i32 x83)) fun x84 =>
      bnd (lift (bin .shl x84 (Value.int .u64 6))) fun x85 =>
      bnd (lift (bin .or x81 x85)) fun x86 =>
      bnd (lift (bin .and (at_ vs_6 4) (Value.int .u8 63))) fun x88 =>
      bnd (lift (cvi .i32 x88)) fun x89 =>
      bnd (lift (bin .or x86 x89)) fun x90 =>
      ret (.ret [x90, (Value.int .i64 3)])
      ) (
      ret (.nxt [(at_ vs_6 0), (at_ vs_6 1), (at_ vs_6 3), (at_ vs_6 4)])
      )
    ) fun o => nx o unicode_utf8_decodeRuneInStringSlow_k1
def unicode_utf8_decodeRuneInStringSlow_k3 (vs_5 : List V) : M Out :=
  bnd (lift (idxS (at_ vs_5 0) (Value.int .i64 2))) fun x69 =>
  bnd (
    bnd (lift (bin .lss x69 (Value.int .u8 128))) fun x71 =>
    bnd (gd x71 false (lift (some x69))) fun x73 =>
    bnd (gd x71 false (lift (bin .lss (Value.int .u8 191) x73))) fun x74 =>
    bnd (lift (pickV x71 (Value.bool true) x74)) fun x75 =>
    condM x75 (
      ret (.ret [(Value.int .i32 65533), (Value.int .i64 1)])
      ) (
      ret (.nxt [(at_ vs_5 0), (at_ vs_5 1), (at_ vs_5 2), (at_ vs_5 3), x69])
      )
    ) fun o => nx o unicode_utf8_decodeRuneInStringSlow_k2
def unicode_utf8_decodeRuneInStringSlow_k4 (vs_4 : List V) : M Out :=
  bnd (
    bnd (lift (bin .leq (at_ vs_4 2) (Value.int .i64 2))) fun x59 =>
    condM x59 (
      bnd (lift (bin .and (at_ vs_4 1) (Value.int .u8 31))) fun x61 =>
      bnd (lift (cvi .i32 x61)) fun x62 =>
      bnd (lift (bin .shl x62 (Value.int .u64 6))) fun x63 =>
      bnd (lift (bin .and (at_ vs_4 3) (Value.int .u8 63))) fun x65 =>
      bnd (lift (cvi .i32 x65)) fun x66 =>
      bnd (lift (bin .or x63 x66)) fun x67 =>
      ret (.ret [x67, (Value.int .i64 2)])
      ) (
      ret (.nxt [(at_ vs_4 0), (at_ vs_4 1), (at_ vs_4 2), (at_ vs_4 3)])
      )
    ) fun o => nx o unicode_utf8_decodeRuneInStringSlow_k3
def unicode_utf8_decodeRuneInStringSlow_k5 (vs_3 : List V) : M Out :=
  bnd (lift (idxS (at_ vs_3 0) (Value.int .i64 1))) fun x47 =>
  bnd (
    bnd (lift (faddr 0 (at_ vs_3 3))) fun x49 =>
    bnd (ld1 x49) fun x50 =>
    bnd (lift (bin .lss x47 x50)) fun x51 =>
    bnd (gd x51 false (lift (faddr 1 (at_ vs_3 3)))) fun x53 =>
    bnd (gd x51 false (ld1 x53)) fun x54 =>
    bnd (gd x51 false (lift (some x47))) fun x55 =>
    bnd (gd x51 false (lift (bin .lss x54 x55))) fun x56 =>
    bnd (lift (pickV x51 (Value.bool true) x56)) fun x57 =>
    condM x57 (
      ret (.ret [(Value.int .i32 65533), (Value.int .i64 1)])
      ) (
      ret (.nxt [(at_ vs_3 0), (at_ vs_3 1), (at_ vs_3 2), x47])
      )
    ) fun o => nx o unicode_utf8_decodeRuneInStringSlow_k4
def unicode_utf8_decodeRuneInStringSlow_k6 (vs_2 : List V) : M Out :=
  bnd (lift (bin .and (at_ vs_2 3) (Value.int .u8 7))) fun x37 =>
  bnd (lift (cvi .i64 x37)) fun x38 =>
  bnd (lift (bin .shr (at_ vs_2 3) (Value.int .u64 4))) fun x40 =>
  bnd (lift (iaddrA 16 2 (ptr gid_unicode_utf8_acceptRanges 0) x40)) fun x41 =>
  bnd (ldn 2 x41) fun x42 =>
  bnd (newc [Value.int .u8 0, Value.int .u8 0]) fun x9 =>
  bnd (stn 2 x9 x42) fun _ =>
  bnd (
    bnd (lift (bin .lss (at_ vs_2 1) x38)) fun x45 =>
    condM x45 (
      ret (.ret [(Value.int .i32 65533), (Value.int .i64 1)])
      ) (
      ret (.nxt [(at_ vs_2 0), (at_ vs_2 2), x38, x9])
      )
    ) fun o => nx o unicode_utf8_decodeRuneInStringSlow_k5
def unicode_utf8_decodeRuneInStringSlow_k7 (vs : List V) : M Out :=
  bnd (lift (idxS (at_ vs 0) (Value.int .i64 0))) fun x18 =>
  bnd (lift (iaddrA 256 1 (ptr gid_unicode_utf8_first 0) x18)) fun x20 =>
  bnd (ld1 x20) fun x21 =>
  bnd (
    bnd (lift (bin .geq x21 (Value.int .u8 240))) fun x23 =>
    condM x23 (
      bnd (lift (cvi .i32 x21)) fun x25 =>
      bnd (lift (bin .shl x25 (Value.int .u64 31))) fun x26 =>
      bnd (lift (bin .shr x26 (Value.int .u64 31))) fun x27 =>
      bnd (lift (idxS (at_ vs 0) (Value.int .i64 0))) fun x29 =>
      bnd (lift (cvi .i32 x29)) fun x30 =>
      bnd (lift (bin .andNot x30 x27)) fun x32 =>
      bnd (lift (bin .and (Value.int .i32 65533) x27)) fun x34 =>
      bnd (lift (bin .or x32 x34)) fun x35 =>
      ret (.ret [x35, (Value.int .i64 1)])
      ) (
      ret (.nxt [(at_ vs 0), (at_ vs 1), x18, x21])
      )
    ) fun o => nx o unicode_utf8_decodeRuneInStringSlow_k6
def F_unicode_utf8_decodeRuneInStringSlow (x0 : V) : M V :=
  bnd (
    bnd (lift (lenStr x0)) fun x14 =>
    bnd (
      bnd (lift (bin .lss x14 (Value.int .i64 1))) fun x16 =>
      condM x16 (
        ret (.ret [(Value.int .i32 65533), (Value.int .i64 0)])
        ) (
        ret (.nxt [x0, x14])
        )
      ) fun o => nx o unicode_utf8_decodeRuneInStringSlow_k7
    ) fun o => finM o fun vs => ret (outV [(at_ vs 0), (at_ vs 1)])
def h_unicode_utf8_decodeRuneInStringSlow : Hint := (.seq [] .leaf (.seq [] .leaf (.seq [0, 4] (.seq [] .leaf (.cond (.seq [] .leaf .leaf) .leaf)) (.seq [] .leaf (.seq [] .leaf (.seq [0, 4, 5, 6] (.seq [] .leaf (.cond (.seq [] .leaf (.seq [] .leaf .leaf)) .leaf)) (.seq [] .leaf (.seq [] .leaf (.seq [0, 5, 8, 9] (.seq [] .leaf (.cond (.seq [] .leaf .leaf) .leaf)) (.seq [] .leaf (.seq [0, 5, 8, 10] (.seq [] .leaf (.cond (.seq [] .leaf .leaf) .leaf)) (.seq [0, 5, 8, 10] (.seq [] .leaf (.cond (.seq [] .leaf .leaf) .leaf)) (.seq [] .leaf (.seq [0, 5, 8, 10, 11] (.seq [] .leaf (.cond (.seq [] .leaf .leaf) .leaf)) (.seq [0, 5, 10, 11] (.seq [] .leaf (.cond (.seq [] .leaf .leaf) .leaf)) (.seq [] .leaf (.seq [5, 10, 11, 12] (.seq [] .leaf (.cond (.seq [] .leaf .leaf) .leaf)) (.seq [] .leaf .leaf))))))))))))))))))
def A_unicode_utf8_decodeRuneInStringSlow (l : List V) : M V := match l with | [x0] => F_unicode_utf8_decodeRuneInStringSlow x0 | _ => fail
theorem e_unicode_utf8_decodeRuneInStringSlow (x0 : V) : funM Tryd.prog (ovr [] noC) fid_unicode_utf8_decodeRuneInStringSlow h_unicode_utf8_decodeRuneInStringSlow [x0] = F_unicode_utf8_decodeRuneInStringSlow x0 := by kernel_rfl
theorem K_unicode_utf8_decodeRuneInStringSlow : Known Tryd.prog fid_unicode_utf8_decodeRuneInStringSlow (A_unicode_utf8_decodeRuneInStringSlow) := known_of (σ := ovr [] noC) (hint := h_unicode_utf8_decodeRuneInStringSlow) (by kernel_rfl) simAll_nil0 fun l H r H' h => by
  unfold A_unicode_utf8_decodeRuneInStringSlow at h; split at h
  · rw [e_unicode_utf8_decodeRuneInStringSlow]; exact h
  · exact (fail_ne h).elim

/-! ### unicode/utf8.DecodeRuneInString -/
def unicode_utf8_DecodeRuneInString_k0 (vs : List V) : M Out :=
  ret (.ret [(at_ vs 0), (at_ vs 1)])
def F_unicode_utf8_DecodeRuneInString (x0 : V) : M V :=
  bnd (
    bnd (
      bnd (lift (bin .neq x0 (Value.string ⟨#[]⟩))) fun x5 =>
      bnd (gd x5 true (lift (some x0))) fun x7 =>
      bnd (gd x5 true (lift (idxS x7 (Value.int .i64 0)))) fun x8 =>
      bnd (gd x5 true (lift (bin .lss x8 (Value.int .u8 128)))) fun x9 =>
      bnd (lift (pickV x5 x9 (Value.bool false))) fun x10 =>
      condM x10 (
        bnd (lift (idxS x0 (Value.int .i64 0))) fun x12 =>
        bnd (lift (cvi .i32 x12)) fun x13 =>
        ret (.ret [x13, (Value.int .i64 1)])
        ) (
        bnd (A_unicode_utf8_decodeRuneInStringSlow [x0]) fun x16 =>
        bnd (lift (ext 0 x16)) fun x17 =>
        bnd (lift (ext 1 x16)) fun x18 =>
        ret (.nxt [x17, x18])
        )
      ) fun o => nx o unicode_utf8_DecodeRuneInString_k0
    ) fun o => finM o fun vs => ret (outV [(at_ vs 0), (at_ vs 1)])
def h_unicode_utf8_DecodeRuneInString : Hint := (.seq [] .leaf (.seq [2, 3] (.seq [] .leaf (.cond (.seq [] .leaf .leaf) .leaf)) .leaf))
def A_unicode_utf8_DecodeRuneInString (l : List V) : M V := match l with | [x0] => F_unicode_utf8_DecodeRuneInString x0 | _ => fail
theorem e_unicode_utf8_DecodeRuneInString (x0 : V) : funM Tryd.prog (ovr [(fid_unicode_utf8_decodeRuneInStringSlow, A_unicode_utf8_decodeRuneInStringSlow)] noC) fid_unicode_utf8_DecodeRuneInString h_unicode_utf8_DecodeRuneInString [x0] = F_unicode_utf8_DecodeRuneInString x0 := by kernel_rfl
theorem K_unicode_utf8_DecodeRuneInString : Known Tryd.prog fid_unicode_utf8_DecodeRuneInString (A_unicode_utf8_DecodeRuneInString) := known_of (σ := ovr [(fid_unicode_utf8_decodeRuneInStringSlow, A_unicode_utf8_decodeRuneInStringSlow)] noC) (hint := h_unicode_utf8_DecodeRuneInString) (by kernel_rfl) (simAll_ovr K_unicode_utf8_decodeRuneInStringSlow simAll_nil0) fun l H r H' h => by
  unfold A_unicode_utf8_DecodeRuneInString at h; split at h
  · rw [e_unicode_utf8_DecodeRuneInString]; exact h
  · exact (fail_ne h).elim

/-! ### unicode/utf8.DecodeLastRuneInString -/
def unicode_utf8_DecodeLastRuneInString_k0 (vs_5 : List V) : M Out :=
  bnd (lift (bin .sub (at_ vs_5 2) (Value.int .i64 1))) fun x29 =>
  ret (.nxt [(at_ vs_5 0), (at_ vs_5 1), x29, (at_ vs_5 3)])
def unicode_utf8_DecodeLastRuneInString_k1 (vs_4 : List V) : M Out :=
  bnd (
  bnd (
    bnd (lift (idxS (at_ vs_4 0) (at_ vs_4 2))) fun x32 =>
    bnd (A_unicode_utf8_RuneStart [x32]) fun x33 =>
    condM x33 (
      ret (.brk 0 [(at_ vs_4 0), (at_ vs_4 1), (at_ vs_4 2)])
      ) (
      ret (.nxt [(at_ vs_4 0), (at_ vs_4 1), (at_ vs_4 2), (at_ vs_4 3)])
      )
    ) fun o => ret (unblk 1 o)
  ) fun o => nx o unicode_utf8_DecodeLastRuneInString_k0
def unicode_utf8_DecodeLastRuneInString_l2 (vs_3 : List V) : M Out :=
  bnd (
  bnd (lift (bin .geq (at_ vs_3 2) (at_ vs_3 3))) fun x27 =>
  condM x27 (
    ret (.nxt [(at_ vs_3 0), (at_ vs_3 1), (at_ vs_3 2), (at_ vs_3 3)])
    ) (
    ret (.brk 0 [(at_ vs_3 0), (at_ vs_3 1), (at_ vs_3 2)])
    )
  ) fun o => nx o unicode_utf8_DecodeLastRuneInString_k1
def unicode_utf8_DecodeLastRuneInString_k3 (vs_8 : List V) : M Out :=
  ret (.ret [(at_ vs_8 0), (at_ vs_8 1)])
def unicode_utf8_DecodeLastRuneInString_k4 (vs_7 : List V) : M Out :=
  bnd (lift (subS (at_ vs_7 0) (some (at_ vs_7 2)) (some (at_ vs_7 1)))) fun x40 =>
  bnd (A_unicode_utf8_DecodeRuneInString [x40]) fun x41 =>
  bnd (lift (ext 0 x41)) fun x42 =>
  bnd (lift (ext 1 x41)) fun x43 =>
  bnd (
    bnd (lift (bin .add (at_ vs_7 2) x43)) fun x46 =>
    bnd (lift (bin .neq x46 (at_ vs_7 1))) fun x48 =>
    condM x48 (
      ret (.ret [(Value.int .i32 65533), (Value.int .i64 1)])
      ) (
      ret (.nxt [x42, x43])
      )
    ) fun o => nx o unicode_utf8_DecodeLastRuneInString_k3
def unicode_utf8_DecodeLastRuneInString_k5 (vs_6 : List V) : M Out :=
  bnd (
    bnd (lift (bin .lss (at_ vs_6 2) (Value.int .i64 0))) fun x35 =>
    condM x35 (
      ret (.nxt [(at_ vs_6 0), (at_ vs_6 1), (Value.int .i64 0)])
      ) (
      ret (.nxt [(at_ vs_6 0), (at_ vs_6 1), (at_ vs_6 2)])
      )
    ) fun o => nx o unicode_utf8_DecodeLastRuneInString_k4
def unicode_utf8_DecodeLastRuneInString_k6 (vs_2 : List V) : M Out :=
  bnd (lift (bin .sub (at_ vs_2 1) (Value.int .i64 4))) fun x21 =>
  bnd (lift (maxV x21 (Value.int .i64 0))) fun x22 =>
  bnd (
    bnd (lift (bin .sub (at_ vs_2 2) (Value.int .i64 1))) fun x24 =>
    bnd (
      loopM FUEL unicode_utf8_DecodeLastRuneInString_l2 [(at_ vs_2 0), (at_ vs_2 1), x24, x22]
      ) fun o => ret (unblk 0 o)
    ) fun o => nx o unicode_utf8_DecodeLastRuneInString_k5
def unicode_utf8_DecodeLastRuneInString_k7 (vs : List V) : M Out :=
  bnd (lift (bin .sub (at_ vs 1) (Value.int .i64 1))) fun x12 =>
  bnd (lift (idxS (at_ vs 0) x12)) fun x15 =>
  bnd (lift (cvi .i32 x15)) fun x16 =>
  bnd (
    bnd (lift (bin .lss x16 (Value.int .i32 128))) fun x18 =>
    condM x18 (
      ret (.ret [x16, (Value.int .i64 1)])
      ) (
      ret (.nxt [(at_ vs 0), (at_ vs 1), x12])
      )
    ) fun o => nx o unicode_utf8_DecodeLastRuneInString_k6
def F_unicode_utf8_DecodeLastRuneInString (x0 : V) : M V :=
  bnd (
    bnd (lift (lenStr x0)) fun x8 =>
    bnd (
      bnd (lift (bin .eql x8 (Value.int .i64 0))) fun x10 =>
      condM x10 (
        ret (.ret [(Value.int .i32 65533), (Value.int .i64 0)])
        ) (
        ret (.nxt [x0, x8])
        )
      ) fun o => nx o unicode_utf8_DecodeLastRuneInString_k7
    ) fun o => finM o fun vs => ret (outV [(at_ vs 0), (at_ vs 1)])
def h_unicode_utf8_DecodeLastRuneInString : Hint := (.seq [] .leaf (.seq [] .leaf (.seq [0, 4] (.seq [] .leaf (.cond (.seq [] .leaf .leaf) .leaf)) (.seq [] .leaf (.seq [] .leaf (.seq [0, 4, 5] (.seq [] .leaf (.cond (.seq [] .leaf .leaf) .leaf)) (.seq [] .leaf (.seq [0, 4, 5] (.seq [] .leaf (.blk (.loop [0, 4, 5, 6] (.seq [0, 4, 5, 6] (.seq [] .leaf (.cond .leaf .leaf)) (.seq [0, 4, 5, 6] (.blk (.seq [] .leaf (.cond .leaf .leaf))) .leaf))))) (.seq [0, 4, 5] (.seq [] .leaf (.cond .leaf .leaf)) (.seq [] .leaf (.seq [2, 3] (.seq [] .leaf (.cond (.seq [] .leaf .leaf) .leaf)) (.seq [] .leaf .leaf))))))))))))
def A_unicode_utf8_DecodeLastRuneInString (l : List V) : M V := match l with | [x0] => F_unicode_utf8_DecodeLastRuneInString x0 | _ => fail
theorem e_unicode_utf8_DecodeLastRuneInString (x0 : V) : funM Tryd.prog (ovr [(fid_unicode_utf8_RuneStart, A_unicode_utf8_RuneStart), (fid_unicode_utf8_DecodeRuneInString, A_unicode_utf8_DecodeRuneInString)] noC) fid_unicode_utf8_DecodeLastRuneInString h_unicode_utf8_DecodeLastRuneInString [x0] = F_unicode_utf8_DecodeLastRuneInString x0 := by kernel_rfl
theorem K_unicode_utf8_DecodeLastRuneInString : Known Tryd.prog fid_unicode_utf8_DecodeLastRuneInString (A_unicode_utf8_DecodeLastRuneInString) := known_of (σ := ovr [(fid_unicode_utf8_RuneStart, A_unicode_utf8_RuneStart), (fid_unicode_utf8_DecodeRuneInString, A_unicode_utf8_DecodeRuneInString)] noC) (hint := h_unicode_utf8_DecodeLastRuneInString) (by kernel_rfl) (simAll_ovr K_unicode_utf8_RuneStart (simAll_ovr K_unicode_utf8_DecodeRuneInString simAll_nil0)) fun l H r H' h => by
  unfold A_unicode_utf8_DecodeLastRuneInString at h; split at h
  · rw [e_unicode_utf8_DecodeLastRuneInString]; exact h
  · exact (fail_ne h).elim

/-! ### internal/stringslite.IndexByte -/
def F_internal_stringslite_IndexByte (G_internal_bytealg_IndexByteString : List V → M V) (x0 x1 : V) : M V :=
  bnd (
    bnd (G_internal_bytealg_IndexByteString [x0, x1]) fun x7 =>
    ret (.ret [x7])
    ) fun o => finM o fun vs => ret (outV [(at_ vs 0)])
def h_internal_stringslite_IndexByte : Hint := (.seq [] .leaf (.seq [] .leaf .leaf))
def A_internal_stringslite_IndexByte (G_internal_bytealg_IndexByteString : List V → M V) (l : List V) : M V := match l with | [x0, x1] => F_internal_stringslite_IndexByte G_internal_bytealg_IndexByteString x0 x1 | _ => fail
theorem e_internal_stringslite_IndexByte (G_internal_bytealg_IndexByteString : List V → M V) (x0 x1 : V) : funM Tryd.prog (ovr [(fid_internal_bytealg_IndexByteString, G_internal_bytealg_IndexByteString)] noC) fid_internal_stringslite_IndexByte h_internal_stringslite_IndexByte [x0, x1] = F_internal_stringslite_IndexByte G_internal_bytealg_IndexByteString x0 x1 := by kernel_rfl
theorem K_internal_stringslite_IndexByte {G_internal_bytealg_IndexByteString : List V → M V} (k_internal_bytealg_IndexByteString : Known Tryd.prog fid_internal_bytealg_IndexByteString G_internal_bytealg_IndexByteString) : Known Tryd.prog fid_internal_stringslite_IndexByte (A_internal_stringslite_IndexByte G_internal_bytealg_IndexByteString) := known_of (σ := ovr [(fid_internal_bytealg_IndexByteString, G_internal_bytealg_IndexByteString)] noC) (hint := h_internal_stringslite_IndexByte) (by kernel_rfl) (simAll_ovr k_internal_bytealg_IndexByteString simAll_nil0) fun l H r H' h => by
  unfold A_internal_stringslite_IndexByte at h; split at h
  · rw [e_internal_stringslite_IndexByte]; exact h
  · exact (fail_ne h).elim

/-! ### strings.IndexByte -/
def F_strings_IndexByte (G_internal_bytealg_IndexByteString : List V → M V) (x0 x1 : V) : M V :=
  bnd (
    bnd ((A_internal_stringslite_IndexByte G_internal_bytealg_IndexByteString) [x0, x1]) fun x7 =>
    ret (.ret [x7])
    ) fun o => finM o fun vs => ret (outV [(at_ vs 0)])
def h_strings_IndexByte : Hint := (.seq [] .leaf (.seq [] .leaf .leaf))
def A_strings_IndexByte (G_internal_bytealg_IndexByteString : List V → M V) (l : List V) : M V := match l with | [x0, x1] => F_strings_IndexByte G_internal_bytealg_IndexByteString x0 x1 | _ => fail
theorem e_strings_IndexByte (G_internal_bytealg_IndexByteString : List V → M V) (x0 x1 : V) : funM Tryd.prog (ovr [(fid_internal_stringslite_IndexByte, A_internal_stringslite_IndexByte G_internal_bytealg_IndexByteString)] noC) fid_strings_IndexByte h_strings_IndexByte [x0, x1] = F_strings_IndexByte G_internal_bytealg_IndexByteString x0 x1 := by kernel_rfl
theorem K_strings_IndexByte {G_internal_bytealg_IndexByteString : List V → M V} (k_internal_bytealg_IndexByteString : Known Tryd.prog fid_internal_bytealg_IndexByteString G_internal_bytealg_IndexByteString) : Known Tryd.prog fid_strings_IndexByte (A_strings_IndexByte G_internal_bytealg_IndexByteString) := known_of (σ := ovr [(fid_internal_stringslite_IndexByte, A_internal_stringslite_IndexByte G_internal_bytealg_IndexByteString)] noC) (hint := h_strings_IndexByte) (by kernel_rfl) (simAll_ovr (K_internal_stringslite_IndexByte k_internal_bytealg_IndexByteString) simAll_nil0) fun l H r H' h => by
  unfold A_strings_IndexByte at h; split at h
  · rw [e_strings_IndexByte]; exact h
  · exact (fail_ne h).elim

/-! ### unicode/utf8.ValidRune -/
def unicode_utf8_ValidRune_k0 (vs : List V) : M Out :=
  ret (.ret [(Value.bool false)])
def F_unicode_utf8_ValidRune (x0 : V) : M V :=
  bnd (
    bnd (
      bnd (
        bnd (lift (bin .leq (Value.int .i32 0) x0)) fun x5 =>
        bnd (gd x5 true (lift (some x0))) fun x7 =>
        bnd (gd x5 true (lift (bin .lss x7 (Value.int .i32 55296)))) fun x8 =>
        bnd (lift (pickV x5 x8 (Value.bool false))) fun x9 =>
        condM x9 (
          ret (.ret [(Value.bool true)])
          ) (
          bnd (lift (bin .lss (Value.int .i32 57343) x0)) fun x12 =>
          bnd (gd x12 true (lift (some x0))) fun x14 =>
          bnd (gd x12 true (lift (bin .leq x14 (Value.int .i32 1114111)))) fun x15 =>
          bnd (lift (pickV x12 x15 (Value.bool false))) fun x16 =>
          condM x16 (
            ret (.ret [(Value.bool true)])
            ) (
            ret (.nxt [])
            )
          )
        ) fun o => ret (unblk 0 o)
      ) fun o => nx o unicode_utf8_ValidRune_k0
    ) fun o => finM o fun vs => ret (outV [(at_ vs 0)])
def h_unicode_utf8_ValidRune : Hint := (.seq [] .leaf (.seq [] (.blk (.seq [] .leaf (.cond (.seq [] .leaf .leaf) (.seq [] .leaf (.cond (.seq [] .leaf .leaf) .leaf))))) (.seq [] .leaf .leaf)))
def A_unicode_utf8_ValidRune (l : List V) : M V := match l with | [x0] => F_unicode_utf8_ValidRune x0 | _ => fail
theorem e_unicode_utf8_ValidRune (x0 : V) : funM Tryd.prog (ovr [] noC) fid_unicode_utf8_ValidRune h_unicode_utf8_ValidRune [x0] = F_unicode_utf8_ValidRune x0 := by kernel_rfl
theorem K_unicode_utf8_ValidRune : Known Tryd.prog fid_unicode_utf8_ValidRune (A_unicode_utf8_ValidRune) := known_of (σ := ovr [] noC) (hint := h_unicode_utf8_ValidRune) (by kernel_rfl) simAll_nil0 fun l H r H' h => by
  unfold A_unicode_utf8_ValidRune at h; split at h
  · rw [e_unicode_utf8_ValidRune]; exact h
  · exact (fail_ne h).elim

/-! ### internal/bytealg.Cutover -/
def F_internal_bytealg_Cutover (x0 : V) : M V :=
  bnd (
    bnd (lift (bin .add x0 (Value.int .i64 16))) fun x4 =>
    bnd (lift (bin .quo x4 (Value.int .i64 8))) fun x5 =>
    ret (.ret [x5])
    ) fun o => finM o fun vs => ret (outV [(at_ vs 0)])
def h_internal_bytealg_Cutover : Hint := (.seq [] .leaf (.seq [] .leaf .leaf))
def A_internal_bytealg_Cutover (l : List V) : M V := match l with | [x0] => F_internal_bytealg_Cutover x0 | _ => fail
theorem e_internal_bytealg_Cutover (x0 : V) : funM Tryd.prog (ovr [] noC) fid_internal_bytealg_Cutover h_internal_bytealg_Cutover [x0] = F_internal_bytealg_Cutover x0 := by kernel_rfl
theorem K_internal_bytealg_Cutover : Known Tryd.prog fid_internal_bytealg_Cutover (A_internal_bytealg_Cutover) := known_of (σ := ovr [] noC) (hint := h_internal_bytealg_Cutover) (by kernel_rfl) simAll_nil0 fun l H r H' h => by
  unfold A_internal_bytealg_Cutover at h; split at h
  · rw [e_internal_bytealg_Cutover]; exact h
  · exact (fail_ne h).elim

/-! ### strings.ContainsRune -/
def F_strings_ContainsRune (G_strings_IndexRune : List V → M V) (x0 x1 : V) : M V :=
  bnd (
    bnd (G_strings_IndexRune [x0, x1]) fun x7 =>
    bnd (lift (bin .geq x7 (Value.int .i64 0))) fun x8 =>
    ret (.ret [x8])
    ) fun o => finM o fun vs => ret (outV [(at_ vs 0)])
def h_strings_ContainsRune : Hint := (.seq [] .leaf (.seq [] .leaf .leaf))
def A_strings_ContainsRune (G_strings_IndexRune : List V → M V) (l : List V) : M V := match l with | [x0, x1] => F_strings_ContainsRune G_strings_IndexRune x0 x1 | _ => fail
theorem e_strings_ContainsRune (G_strings_IndexRune : List V → M V) (x0 x1 : V) : funM Tryd.prog (ovr [(fid_strings_IndexRune, G_strings_IndexRune)] noC) fid_strings_ContainsRune h_strings_ContainsRune [x0, x1] = F_strings_ContainsRune G_strings_IndexRune x0 x1 := by kernel_rfl
theorem K_strings_ContainsRune {G_strings_IndexRune : List V → M V} (k_strings_IndexRune : Known Tryd.prog fid_strings_IndexRune G_strings_IndexRune) : Known Tryd.prog fid_strings_ContainsRune (A_strings_ContainsRune G_strings_IndexRune) := known_of (σ := ovr [(fid_strings_IndexRune, G_strings_IndexRune)] noC) (hint := h_strings_ContainsRune) (by kernel_rfl) (simAll_ovr k_strings_IndexRune simAll_nil0) fun l H r H' h => by
  unfold A_strings_ContainsRune at h; split at h
  · rw [e_strings_ContainsRune]; exact h
  · exact (fail_ne h).elim

/-! ### strings.trimRightUnicode -/
def strings_trimRightUnicode_k0 (G_strings_IndexRune : List V → M V) (vs_4 : List V) : M Out :=
  bnd (lift (lenStr (at_ vs_4 0))) fun x29 =>
  bnd (lift (bin .sub x29 (at_ vs_4 2))) fun x31 =>
  bnd (lift (subS (at_ vs_4 0) none (some x31))) fun x32 =>
  ret (.nxt [x32, (at_ vs_4 1)])
def strings_trimRightUnicode_k1 (G_strings_IndexRune : List V → M V) (vs_3 : List V) : M Out :=
  bnd (
    bnd ((A_strings_ContainsRune G_strings_IndexRune) [(at_ vs_3 1), (at_ vs_3 2)]) fun x25 =>
    bnd (lift (un .not x25)) fun x26 =>
    condM x26 (
      ret (.brk 0 [(at_ vs_3 0)])
      ) (
      ret (.nxt [(at_ vs_3 0), (at_ vs_3 1), (at_ vs_3 3)])
      )
    ) fun o => nx o (strings_trimRightUnicode_k0 G_strings_IndexRune)
def strings_trimRightUnicode_k2 (G_strings_IndexRune : List V → M V) (vs_2 : List V) : M Out :=
  bnd (
  bnd (lift (lenStr (at_ vs_2 0))) fun x12 =>
  bnd (lift (bin .sub x12 (Value.int .i64 1))) fun x13 =>
  bnd (lift (idxS (at_ vs_2 0) x13)) fun x14 =>
  bnd (lift (cvi .i32 x14)) fun x15 =>
  bnd (
    bnd (lift (bin .geq x15 (Value.int .i32 128))) fun x17 =>
    condM x17 (
      bnd (A_unicode_utf8_DecodeLastRuneInString [(at_ vs_2 0)]) fun x20 =>
      bnd (lift (ext 0 x20)) fun x21 =>
      bnd (lift (ext 1 x20)) fun x22 =>
      ret (.nxt [(at_ vs_2 0), (at_ vs_2 1), x21, x22])
      ) (
      ret (.nxt [(at_ vs_2 0), (at_ vs_2 1), x15, (Value.int .i64 1)])
      )
    ) fun o => nx o (strings_trimRightUnicode_k1 G_strings_IndexRune)
  ) fun o => ret (unblk 1 o)
def strings_trimRightUnicode_l3 (G_strings_IndexRune : List V → M V) (vs : List V) : M Out :=
  bnd (
  bnd (lift (lenStr (at_ vs 0))) fun x8 =>
  bnd (lift (bin .gtr x8 (Value.int .i64 0))) fun x9 =>
  condM x9 (
    ret (.nxt [(at_ vs 0), (at_ vs 1)])
    ) (
    ret (.brk 0 [(at_ vs 0)])
    )
  ) fun o => nx o (strings_trimRightUnicode_k2 G_strings_IndexRune)
def strings_trimRightUnicode_k4 (G_strings_IndexRune : List V → M V) (vs_5 : List V) : M Out :=
  ret (.ret [(at_ vs_5 0)])
def F_strings_trimRightUnicode (G_strings_IndexRune : List V → M V) (x0 x1 : V) : M V :=
  bnd (
    bnd (
      bnd (
        loopM FUEL (strings_trimRightUnicode_l3 G_strings_IndexRune) [x0, x1]
        ) fun o => ret (unblk 0 o)
      ) fun o => nx o (strings_trimRightUnicode_k4 G_strings_IndexRune)
    ) fun o => finM o fun vs => ret (outV [(at_ vs 0)])
def h_strings_trimRightUnicode : Hint := (.seq [] .leaf (.seq [0] (.blk (.loop [0, 1] (.seq [0, 1] (.seq [] .leaf (.cond .leaf .leaf)) (.blk (.seq [] .leaf (.seq [0, 1, 5, 6] (.seq [] .leaf (.cond .leaf .leaf)) (.seq [0, 1, 6] (.seq [] .leaf (.cond .leaf .leaf)) .leaf))))))) (.seq [] .leaf .leaf)))
def A_strings_trimRightUnicode (G_strings_IndexRune : List V → M V) (l : List V) : M V := match l with | [x0, x1] => F_strings_trimRightUnicode G_strings_IndexRune x0 x1 | _ => fail
theorem e_strings_trimRightUnicode (G_strings_IndexRune : List V → M V) (x0 x1 : V) : funM Tryd.prog (ovr [(fid_unicode_utf8_DecodeLastRuneInString, A_unicode_utf8_DecodeLastRuneInString), (fid_strings_ContainsRune, A_strings_ContainsRune G_strings_IndexRune)] noC) fid_strings_trimRightUnicode h_strings_trimRightUnicode [x0, x1] = F_strings_trimRightUnicode G_strings_IndexRune x0 x1 := by kernel_rfl
theorem K_strings_trimRightUnicode {G_strings_IndexRune : List V → M V} (k_strings_IndexRune : Known Tryd.prog fid_strings_IndexRune G_strings_IndexRune) : Known Tryd.prog fid_strings_trimRightUnicode (A_strings_trimRightUnicode G_strings_IndexRune) := known_of (σ := ovr [(fid_unicode_utf8_DecodeLastRuneInString, A_unicode_utf8_DecodeLastRuneInString), (fid_strings_ContainsRune, A_strings_ContainsRune G_strings_IndexRune)] noC) (hint := h_strings_trimRightUnicode) (by kernel_rfl) (simAll_ovr K_unicode_utf8_DecodeLastRuneInString (simAll_ovr (K_strings_ContainsRune k_strings_IndexRune) simAll_nil0)) fun l H r H' h => by
  unfold A_strings_trimRightUnicode at h; split at h
  · rw [e_strings_trimRightUnicode]; exact h
  · exact (fail_ne h).elim

/-! ### strings.trimLeftUnicode -/
def strings_trimLeftUnicode_k0 (G_strings_IndexRune : List V → M V) (vs_3 : List V) : M Out :=
  bnd (lift (subS (at_ vs_3 0) (some (at_ vs_3 2)) none)) fun x21 =>
  ret (.nxt [x21, (at_ vs_3 1)])
def strings_trimLeftUnicode_k1 (G_strings_IndexRune : List V → M V) (vs_2 : List V) : M Out :=
  bnd (
  bnd (A_unicode_utf8_DecodeRuneInString [(at_ vs_2 0)]) fun x12 =>
  bnd (lift (ext 0 x12)) fun x13 =>
  bnd (lift (ext 1 x12)) fun x14 =>
  bnd (
    bnd ((A_strings_ContainsRune G_strings_IndexRune) [(at_ vs_2 1), x13]) fun x17 =>
    bnd (lift (un .not x17)) fun x18 =>
    condM x18 (
      ret (.brk 0 [(at_ vs_2 0)])
      ) (
      ret (.nxt [(at_ vs_2 0), (at_ vs_2 1), x14])
      )
    ) fun o => nx o (strings_trimLeftUnicode_k0 G_strings_IndexRune)
  ) fun o => ret (unblk 1 o)
def strings_trimLeftUnicode_l2 (G_strings_IndexRune : List V → M V) (vs : List V) : M Out :=
  bnd (
  bnd (lift (lenStr (at_ vs 0))) fun x8 =>
  bnd (lift (bin .gtr x8 (Value.int .i64 0))) fun x9 =>
  condM x9 (
    ret (.nxt [(at_ vs 0), (at_ vs 1)])
    ) (
    ret (.brk 0 [(at_ vs 0)])
    )
  ) fun o => nx o (strings_trimLeftUnicode_k1 G_strings_IndexRune)
def strings_trimLeftUnicode_k3 (G_strings_IndexRune : List V → M V) (vs_4 : List V) : M Out :=
  ret (.ret [(at_ vs_4 0)])
def F_strings_trimLeftUnicode (G_strings_IndexRune : List V → M V) (x0 x1 : V) : M V :=
  bnd (
    bnd (
      bnd (
        loopM FUEL (strings_trimLeftUnicode_l2 G_strings_IndexRune) [x0, x1]
        ) fun o => ret (unblk 0 o)
      ) fun o => nx o (strings_trimLeftUnicode_k3 G_strings_IndexRune)
    ) fun o => finM o fun vs => ret (outV [(at_ vs 0)])
def h_strings_trimLeftUnicode : Hint := (.seq [] .leaf (.seq [0] (.blk (.loop [0, 1] (.seq [0, 1] (.seq [] .leaf (.cond .leaf .leaf)) (.blk (.seq [] .leaf (.seq [0, 1, 6] (.seq [] .leaf (.cond .leaf .leaf)) .leaf)))))) (.seq [] .leaf .leaf)))
def A_strings_trimLeftUnicode (G_strings_IndexRune : List V → M V) (l : List V) : M V := match l with | [x0, x1] => F_strings_trimLeftUnicode G_strings_IndexRune x0 x1 | _ => fail
theorem e_strings_trimLeftUnicode (G_strings_IndexRune : List V → M V) (x0 x1 : V) : funM Tryd.prog (ovr [(fid_unicode_utf8_DecodeRuneInString, A_unicode_utf8_DecodeRuneInString), (fid_strings_ContainsRune, A_strings_ContainsRune G_strings_IndexRune)] noC) fid_strings_trimLeftUnicode h_strings_trimLeftUnicode [x0, x1] = F_strings_trimLeftUnicode G_strings_IndexRune x0 x1 := by kernel_rfl
theorem K_strings_trimLeftUnicode {G_strings_IndexRune : List V → M V} (k_strings_IndexRune : Known Tryd.prog fid_strings_IndexRune G_strings_IndexRune) : Known Tryd.prog fid_strings_trimLeftUnicode (A_strings_trimLeftUnicode G_strings_IndexRune) := known_of (σ := ovr [(fid_unicode_utf8_DecodeRuneInString, A_unicode_utf8_DecodeRuneInString), (fid_strings_ContainsRune, A_strings_ContainsRune G_strings_IndexRune)] noC) (hint := h_strings_trimLeftUnicode) (by kernel_rfl) (simAll_ovr K_unicode_utf8_DecodeRuneInString (simAll_ovr (K_strings_ContainsRune k_strings_IndexRune) simAll_nil0)) fun l H r H' h => by
  unfold A_strings_trimLeftUnicode at h; split at h
  · rw [e_strings_trimLeftUnicode]; exact h
  · exact (fail_ne h).elim

/-! ### strings.Trim -/
def strings_Trim_k0 (G_strings_IndexRune : List V → M V) (vs_3 : List V) : M Out :=
  bnd ((A_strings_trimRightUnicode G_strings_IndexRune) [(at_ vs_3 0), (at_ vs_3 1)]) fun x40 =>
  bnd ((A_strings_trimLeftUnicode G_strings_IndexRune) [x40, (at_ vs_3 1)]) fun x42 =>
  ret (.ret [x42])
def strings_Trim_k1 (G_strings_IndexRune : List V → M V) (vs_2 : List V) : M Out :=
  bnd (
    bnd (A_strings_makeASCIISet [(at_ vs_2 1)]) fun x31 =>
    bnd (lift (ext 0 x31)) fun x32 =>
    bnd (lift (ext 1 x31)) fun x33 =>
    bnd (newc (List.replicate 256 (Value.bool false))) fun x5 =>
    bnd (stn 256 x5 x32) fun _ =>
    condM x33 (
      bnd (A_strings_trimRightASCII [(at_ vs_2 0), x5]) fun x36 =>
      bnd (A_strings_trimLeftASCII [x36, x5]) fun x37 =>
      ret (.ret [x37])
      ) (
      ret (.nxt [(at_ vs_2 0), (at_ vs_2 1)])
      )
    ) fun o => nx o (strings_Trim_k0 G_strings_IndexRune)
def strings_Trim_k2 (G_strings_IndexRune : List V → M V) (vs : List V) : M Out :=
  bnd (
    bnd (lift (lenStr (at_ vs 1))) fun x15 =>
    bnd (lift (bin .eql x15 (Value.int .i64 1))) fun x16 =>
    bnd (gd x16 true (lift (some (at_ vs 1)))) fun x18 =>
    bnd (gd x16 true (lift (idxS x18 (Value.int .i64 0)))) fun x19 =>
    bnd (gd x16 true (lift (bin .lss x19 (Value.int .u8 128)))) fun x20 =>
    bnd (lift (pickV x16 x20 (Value.bool false))) fun x21 =>
    condM x21 (
      bnd (lift (idxS (at_ vs 1) (Value.int .i64 0))) fun x24 =>
      bnd (lift (idxS (at_ vs 1) (Value.int .i64 0))) fun x27 =>
      bnd (A_strings_trimRightByte [(at_ vs 0), x24]) fun x25 =>
      bnd (A_strings_trimLeftByte [x25, x27]) fun x28 =>
      ret (.ret [x28])
      ) (
      ret (.nxt [(at_ vs 0), (at_ vs 1)])
      )
    ) fun o => nx o (strings_Trim_k1 G_strings_IndexRune)
def F_strings_Trim (G_strings_IndexRune : List V → M V) (x0 x1 : V) : M V :=
  bnd (
    bnd (
      bnd (lift (bin .eql x0 (Value.string ⟨#[]⟩))) fun x8 =>
      bnd (gd x8 false (lift (some x1))) fun x10 =>
      bnd (gd x8 false (lift (bin .eql x10 (Value.string ⟨#[]⟩)))) fun x11 =>
      bnd (lift (pickV x8 (Value.bool true) x11)) fun x12 =>
      condM x12 (
        ret (.ret [x0])
        ) (
        ret (.nxt [x0, x1])
        )
      ) fun o => nx o (strings_Trim_k2 G_strings_IndexRune)
    ) fun o => finM o fun vs => ret (outV [(at_ vs 0)])
def h_strings_Trim : Hint := (.seq [] .leaf (.seq [0, 1] (.seq [] .leaf (.cond (.seq [] .leaf .leaf) .leaf)) (.seq [0, 1] (.seq [] .leaf (.cond (.seq [] (.reg [0, 1, 2, 4, 5, 3, 6, 7] []) .leaf) .leaf)) (.seq [0, 1] (.seq [] .leaf (.seq [] .leaf (.cond (.seq [] .leaf .leaf) .leaf))) (.seq [] .leaf .leaf)))))
def A_strings_Trim (G_strings_IndexRune : List V → M V) (l : List V) : M V := match l with | [x0, x1] => F_strings_Trim G_strings_IndexRune x0 x1 | _ => fail
theorem e_strings_Trim (G_strings_IndexRune : List V → M V) (x0 x1 : V) : funM Tryd.prog (ovr [(fid_strings_trimRightByte, A_strings_trimRightByte), (fid_strings_trimLeftByte, A_strings_trimLeftByte), (fid_strings_makeASCIISet, A_strings_makeASCIISet), (fid_strings_trimRightASCII, A_strings_trimRightASCII), (fid_strings_trimLeftASCII, A_strings_trimLeftASCII), (fid_strings_trimRightUnicode, A_strings_trimRightUnicode G_strings_IndexRune), (fid_strings_trimLeftUnicode, A_strings_trimLeftUnicode G_strings_IndexRune)] noC) fid_strings_Trim h_strings_Trim [x0, x1] = F_strings_Trim G_strings_IndexRune x0 x1 := by kernel_rfl
theorem K_strings_Trim {G_strings_IndexRune : List V → M V} (k_strings_IndexRune : Known Tryd.prog fid_strings_IndexRune G_strings_IndexRune) : Known Tryd.prog fid_strings_Trim (A_strings_Trim G_strings_IndexRune) := known_of (σ := ovr [(fid_strings_trimRightByte, A_strings_trimRightByte), (fid_strings_trimLeftByte, A_strings_trimLeftByte), (fid_strings_makeASCIISet, A_strings_makeASCIISet), (fid_strings_trimRightASCII, A_strings_trimRightASCII), (fid_strings_trimLeftASCII, A_strings_trimLeftASCII), (fid_strings_trimRightUnicode, A_strings_trimRightUnicode G_strings_IndexRune), (fid_strings_trimLeftUnicode, A_strings_trimLeftUnicode G_strings_IndexRune)] noC) (hint := h_strings_Trim) (by kernel_rfl) (simAll_ovr K_strings_trimRightByte (simAll_ovr K_strings_trimLeftByte (simAll_ovr K_strings_makeASCIISet (simAll_ovr K_strings_trimRightASCII (simAll_ovr K_strings_trimLeftASCII (simAll_ovr (K_strings_trimRightUnicode k_strings_IndexRune) (simAll_ovr (K_strings_trimLeftUnicode k_strings_IndexRune) simAll_nil0))))))) fun l H r H' h => by
  unfold A_strings_Trim at h; split at h
  · rw [e_strings_Trim]; exact h
  · exact (fail_ne h).elim

/-! ### capstan/roles.formed -/
def F_roles_formed (G_strings_IndexRune : List V → M V) (x0 : V) : M V :=
  bnd (
    bnd (boxv x0) fun x1 =>
    bnd (lift (faddr 0 x1)) fun x3 =>
    bnd (ld1 x3) fun x4 =>
    bnd (lift (bin .neq x4 (Value.string ⟨#[]⟩))) fun x5 =>
    bnd (gd x5 true (lift (faddr 0 x1))) fun x7 =>
    bnd (gd x5 true (ld1 x7)) fun x8 =>
    bnd (gd x5 true (lift (lenStr x8))) fun x9 =>
    bnd (gd x5 true (lift (bin .leq x9 (Value.int .i64 24)))) fun x10 =>
    bnd (lift (pickV x5 x10 (Value.bool false))) fun x11 =>
    bnd (gd x11 true (lift (faddr 0 x1))) fun x13 =>
    bnd (gd x11 true (ld1 x13)) fun x14 =>
    bnd (gd x11 true ((A_strings_Trim G_strings_IndexRune) [x14, (Value.string ⟨#[97, 98, 99, 100, 101, 102, 103, 104, 105, 106, 107, 108, 109, 110, 111, 112, 113, 114, 115, 116, 117, 118, 119, 120, 121, 122, 48, 49, 50, 51, 52, 53, 54, 55, 56, 57]⟩)])) fun x15 =>
    bnd (gd x11 true (lift (bin .eql x15 (Value.string ⟨#[]⟩)))) fun x16 =>
    bnd (lift (pickV x11 x16 (Value.bool false))) fun x17 =>
    bnd (gd x17 true (lift (faddr 1 x1))) fun x19 =>
    bnd (gd x17 true (ld1 x19)) fun x20 =>
    bnd (gd x17 true (lift (lenStr x20))) fun x21 =>
    bnd (gd x17 true (lift (bin .geq x21 (Value.int .i64 16)))) fun x22 =>
    bnd (lift (pickV x17 x22 (Value.bool false))) fun x23 =>
    bnd (gd x23 true (lift (faddr 1 x1))) fun x25 =>
    bnd (gd x23 true (ld1 x25)) fun x26 =>
    bnd (gd x23 true (lift (lenStr x26))) fun x27 =>
    bnd (gd x23 true (lift (bin .leq x27 (Value.int .i64 64)))) fun x28 =>
    bnd (lift (pickV x23 x28 (Value.bool false))) fun x29 =>
    ret (.ret [x29])
    ) fun o => finM o fun vs => ret (outV [(at_ vs 0)])
def h_roles_formed : Hint := (.seq [] .leaf (.seq [] .leaf .leaf))
def A_roles_formed (G_strings_IndexRune : List V → M V) (l : List V) : M V := match l with | [x0] => F_roles_formed G_strings_IndexRune x0 | _ => fail
theorem e_roles_formed (G_strings_IndexRune : List V → M V) (x0 : V) : funM Tryd.prog (ovr [(fid_strings_Trim, A_strings_Trim G_strings_IndexRune)] noC) fid_roles_formed h_roles_formed [x0] = F_roles_formed G_strings_IndexRune x0 := by kernel_rfl
theorem K_roles_formed {G_strings_IndexRune : List V → M V} (k_strings_IndexRune : Known Tryd.prog fid_strings_IndexRune G_strings_IndexRune) : Known Tryd.prog fid_roles_formed (A_roles_formed G_strings_IndexRune) := known_of (σ := ovr [(fid_strings_Trim, A_strings_Trim G_strings_IndexRune)] noC) (hint := h_roles_formed) (by kernel_rfl) (simAll_ovr (K_strings_Trim k_strings_IndexRune) simAll_nil0) fun l H r H' h => by
  unfold A_roles_formed at h; split at h
  · rw [e_roles_formed]; exact h
  · exact (fail_ne h).elim

/-! ### capstan/roles.Find$1 -/
def F_roles_Find_1 (x0 x1 : V) : M V :=
  bnd (
    bnd (boxv x0) fun x2 =>
    bnd (lift (faddr 0 x2)) fun x4 =>
    bnd (ld1 x4) fun x5 =>
    bnd (ld1 x1) fun x6 =>
    bnd (lift (bin .eql x5 x6)) fun x7 =>
    ret (.ret [x7])
    ) fun o => finM o fun vs => ret (outV [(at_ vs 0)])
def h_roles_Find_1 : Hint := (.seq [] .leaf (.seq [] .leaf .leaf))
def A_roles_Find_1 (l : List V) : M V := match l with | [x0, x1] => F_roles_Find_1 x0 x1 | _ => fail
theorem e_roles_Find_1 (x0 x1 : V) : funM Tryd.prog (ovr [] noC) fid_roles_Find_1 h_roles_Find_1 [x0, x1] = F_roles_Find_1 x0 x1 := by kernel_rfl
theorem K_roles_Find_1 : Known Tryd.prog fid_roles_Find_1 (A_roles_Find_1) := known_of (σ := ovr [] noC) (hint := h_roles_Find_1) (by kernel_rfl) simAll_nil0 fun l H r H' h => by
  unfold A_roles_Find_1 at h; split at h
  · rw [e_roles_Find_1]; exact h
  · exact (fail_ne h).elim

/-! ### slices.IndexFunc[[]capstan/api.User,capstan/api.User] -/
def slices_IndexFunc_S_api_User_api_User_k0 (S : Calls') (vs_3 : List V) : M Out :=
  bnd (lift (bin .add (at_ vs_3 3) (Value.int .i64 1))) fun x18 =>
  ret (.nxt [(at_ vs_3 0), (at_ vs_3 1), (at_ vs_3 2), x18])
def slices_IndexFunc_S_api_User_api_User_k1 (S : Calls') (vs_2 : List V) : M Out :=
  bnd (
  bnd (
    bnd (lift (iaddrS 3 (at_ vs_2 0) (at_ vs_2 3))) fun x14 =>
    bnd (ldn 3 x14) fun x15 =>
    bnd (callM (ovr [] S) (at_ vs_2 1) [x15]) fun x16 =>
    condM x16 (
      ret (.ret [(at_ vs_2 3)])
      ) (
      ret (.nxt [(at_ vs_2 0), (at_ vs_2 1), (at_ vs_2 2), (at_ vs_2 3)])
      )
    ) fun o => ret (unblk 1 o)
  ) fun o => nx o (slices_IndexFunc_S_api_User_api_User_k0 S)
def slices_IndexFunc_S_api_User_api_User_l2 (S : Calls') (vs : List V) : M Out :=
  bnd (lift (bin .lss (at_ vs 3) (at_ vs 2))) fun x9 =>
  bnd (
  condM x9 (
    ret (.nxt [(at_ vs 0), (at_ vs 1), (at_ vs 2), (at_ vs 3)])
    ) (
    ret (.brk 0 [])
    )
  ) fun o => nx o (slices_IndexFunc_S_api_User_api_User_k1 S)
def slices_IndexFunc_S_api_User_api_User_k3 (S : Calls') (vs_4 : List V) : M Out :=
  ret (.ret [(Value.int .i64 (-1))])
def F_slices_IndexFunc_S_api_User_api_User (S : Calls') (x0 x1 : V) : M V :=
  bnd (
    bnd (
      bnd (lift (lenSlc x0)) fun x7 =>
      bnd (
        loopM FUEL (slices_IndexFunc_S_api_User_api_User_l2 S) [x0, x1, x7, (Value.int .i64 0)]
        ) fun o => ret (unblk 0 o)
      ) fun o => nx o (slices_IndexFunc_S_api_User_api_User_k3 S)
    ) fun o => finM o fun vs => ret (outV [(at_ vs 0)])
def h_slices_IndexFunc_S_api_User_api_User : Hint := (.seq [] .leaf (.seq [] (.seq [] .leaf (.blk (.loop [0, 1, 7, 8] (.seq [] .leaf (.seq [0, 1, 7, 8] (.cond .leaf .leaf) (.seq [0, 1, 7, 8] (.blk (.seq [] .leaf (.seq [] .leaf (.cond (.seq [] .leaf .leaf) .leaf)))) .leaf)))))) (.seq [] .leaf .leaf)))
def A_slices_IndexFunc_S_api_User_api_User (S : Calls') (l : List V) : M V := match l with | [x0, x1] => F_slices_IndexFunc_S_api_User_api_User S x0 x1 | _ => fail
theorem e_slices_IndexFunc_S_api_User_api_User (S : Calls') (x0 x1 : V) : funM Tryd.prog (ovr [] S) fid_slices_IndexFunc_S_api_User_api_User h_slices_IndexFunc_S_api_User_api_User [x0, x1] = F_slices_IndexFunc_S_api_User_api_User S x0 x1 := by kernel_rfl
theorem K_slices_IndexFunc_S_api_User_api_User {S : Calls'} (hS : SimAll Tryd.prog S) : Known Tryd.prog fid_slices_IndexFunc_S_api_User_api_User (A_slices_IndexFunc_S_api_User_api_User S) := known_of (σ := ovr [] S) (hint := h_slices_IndexFunc_S_api_User_api_User) (by kernel_rfl) (simAll_base hS) fun l H r H' h => by
  unfold A_slices_IndexFunc_S_api_User_api_User at h; split at h
  · rw [e_slices_IndexFunc_S_api_User_api_User]; exact h
  · exact (fail_ne h).elim

/-! ### capstan/roles.Find -/
def roles_Find_k0 (vs : List V) : M Out :=
  ret (.ret [(at_ vs 0), (Value.int .i64 0)])
def F_roles_Find (x0 x1 : V) : M V :=
  bnd (
    bnd (boxv x1) fun x3 =>
    bnd (lift (some (Value.func (.func fid_roles_Find_1) #[] #[x3]))) fun x8 =>
    bnd ((A_slices_IndexFunc_S_api_User_api_User (ovr [(fid_roles_Find_1, A_roles_Find_1)] noC)) [x0, x8]) fun x9 =>
    bnd (
      bnd (lift (bin .lss x9 (Value.int .i64 0))) fun x11 =>
      condM x11 (
        ret (.ret [(Value.int .i64 0), (Value.int .i64 90)])
        ) (
        ret (.nxt [x9])
        )
      ) fun o => nx o roles_Find_k0
    ) fun o => finM o fun vs => ret (outV [(at_ vs 0), (at_ vs 1)])
def h_roles_Find : Hint := (.seq [] .leaf (.seq [] .leaf (.seq [6] (.seq [] .leaf (.cond (.seq [] .leaf .leaf) .leaf)) (.seq [] .leaf .leaf))))
def A_roles_Find (l : List V) : M V := match l with | [x0, x1] => F_roles_Find x0 x1 | _ => fail
theorem e_roles_Find (x0 x1 : V) : funM Tryd.prog (ovr [(fid_slices_IndexFunc_S_api_User_api_User, A_slices_IndexFunc_S_api_User_api_User (ovr [(fid_roles_Find_1, A_roles_Find_1)] noC))] noC) fid_roles_Find h_roles_Find [x0, x1] = F_roles_Find x0 x1 := by kernel_rfl
theorem K_roles_Find : Known Tryd.prog fid_roles_Find (A_roles_Find) := known_of (σ := ovr [(fid_slices_IndexFunc_S_api_User_api_User, A_slices_IndexFunc_S_api_User_api_User (ovr [(fid_roles_Find_1, A_roles_Find_1)] noC))] noC) (hint := h_roles_Find) (by kernel_rfl) (simAll_ovr (K_slices_IndexFunc_S_api_User_api_User (simAll_ovr K_roles_Find_1 simAll_nil0)) simAll_nil0) fun l H r H' h => by
  unfold A_roles_Find at h; split at h
  · rw [e_roles_Find]; exact h
  · exact (fail_ne h).elim

/-! ### slices.Index[[]int,int] -/
def slices_Index_S_int_int_k0 (vs_3 : List V) : M Out :=
  bnd (lift (bin .add (at_ vs_3 3) (Value.int .i64 1))) fun x18 =>
  ret (.nxt [(at_ vs_3 0), (at_ vs_3 1), (at_ vs_3 2), x18])
def slices_Index_S_int_int_k1 (vs_2 : List V) : M Out :=
  bnd (
  bnd (
    bnd (lift (iaddrS 1 (at_ vs_2 0) (at_ vs_2 3))) fun x14 =>
    bnd (ld1 x14) fun x15 =>
    bnd (lift (bin .eql (at_ vs_2 1) x15)) fun x16 =>
    condM x16 (
      ret (.ret [(at_ vs_2 3)])
      ) (
      ret (.nxt [(at_ vs_2 0), (at_ vs_2 1), (at_ vs_2 2), (at_ vs_2 3)])
      )
    ) fun o => ret (unblk 1 o)
  ) fun o => nx o slices_Index_S_int_int_k0
def slices_Index_S_int_int_l2 (vs : List V) : M Out :=
  bnd (lift (bin .lss (at_ vs 3) (at_ vs 2))) fun x9 =>
  bnd (
  condM x9 (
    ret (.nxt [(at_ vs 0), (at_ vs 1), (at_ vs 2), (at_ vs 3)])
    ) (
    ret (.brk 0 [])
    )
  ) fun o => nx o slices_Index_S_int_int_k1
def slices_Index_S_int_int_k3 (vs_4 : List V) : M Out :=
  ret (.ret [(Value.int .i64 (-1))])
def F_slices_Index_S_int_int (x0 x1 : V) : M V :=
  bnd (
    bnd (
      bnd (lift (lenSlc x0)) fun x7 =>
      bnd (
        loopM FUEL slices_Index_S_int_int_l2 [x0, x1, x7, (Value.int .i64 0)]
        ) fun o => ret (unblk 0 o)
      ) fun o => nx o slices_Index_S_int_int_k3
    ) fun o => finM o fun vs => ret (outV [(at_ vs 0)])
def h_slices_Index_S_int_int : Hint := (.seq [] .leaf (.seq [] (.seq [] .leaf (.blk (.loop [0, 1, 7, 8] (.seq [] .leaf (.seq [0, 1, 7, 8] (.cond .leaf .leaf) (.seq [0, 1, 7, 8] (.blk (.seq [] .leaf (.seq [] .leaf (.cond (.seq [] .leaf .leaf) .leaf)))) .leaf)))))) (.seq [] .leaf .leaf)))
def A_slices_Index_S_int_int (l : List V) : M V := match l with | [x0, x1] => F_slices_Index_S_int_int x0 x1 | _ => fail
theorem e_slices_Index_S_int_int (x0 x1 : V) : funM Tryd.prog (ovr [] noC) fid_slices_Index_S_int_int h_slices_Index_S_int_int [x0, x1] = F_slices_Index_S_int_int x0 x1 := by kernel_rfl
theorem K_slices_Index_S_int_int : Known Tryd.prog fid_slices_Index_S_int_int (A_slices_Index_S_int_int) := known_of (σ := ovr [] noC) (hint := h_slices_Index_S_int_int) (by kernel_rfl) simAll_nil0 fun l H r H' h => by
  unfold A_slices_Index_S_int_int at h; split at h
  · rw [e_slices_Index_S_int_int]; exact h
  · exact (fail_ne h).elim

/-! ### slices.Contains[[]int,int] -/
def F_slices_Contains_S_int_int (x0 x1 : V) : M V :=
  bnd (
    bnd (A_slices_Index_S_int_int [x0, x1]) fun x7 =>
    bnd (lift (bin .geq x7 (Value.int .i64 0))) fun x8 =>
    ret (.ret [x8])
    ) fun o => finM o fun vs => ret (outV [(at_ vs 0)])
def h_slices_Contains_S_int_int : Hint := (.seq [] .leaf (.seq [] .leaf .leaf))
def A_slices_Contains_S_int_int (l : List V) : M V := match l with | [x0, x1] => F_slices_Contains_S_int_int x0 x1 | _ => fail
theorem e_slices_Contains_S_int_int (x0 x1 : V) : funM Tryd.prog (ovr [(fid_slices_Index_S_int_int, A_slices_Index_S_int_int)] noC) fid_slices_Contains_S_int_int h_slices_Contains_S_int_int [x0, x1] = F_slices_Contains_S_int_int x0 x1 := by kernel_rfl
theorem K_slices_Contains_S_int_int : Known Tryd.prog fid_slices_Contains_S_int_int (A_slices_Contains_S_int_int) := known_of (σ := ovr [(fid_slices_Index_S_int_int, A_slices_Index_S_int_int)] noC) (hint := h_slices_Contains_S_int_int) (by kernel_rfl) (simAll_ovr K_slices_Index_S_int_int simAll_nil0) fun l H r H' h => by
  unfold A_slices_Contains_S_int_int at h; split at h
  · rw [e_slices_Contains_S_int_int]; exact h
  · exact (fail_ne h).elim

/-! ### capstan/roles.wrong -/
def roles_wrong_k0 (vs_3 : List V) : M Out :=
    bnd (gd (at_ vs_3 2) false (lift (some (at_ vs_3 1)))) fun x37 =>
    bnd (gd (at_ vs_3 2) false (lift (faddr 0 (at_ vs_3 3)))) fun x38 =>
    bnd (gd (at_ vs_3 2) false (ld1 x38)) fun x39 =>
    bnd (gd (at_ vs_3 2) false (A_slices_Contains_S_int_int [x37, x39])) fun x40 =>
    bnd (lift (pickV (at_ vs_3 2) (Value.bool true) x40)) fun x41 =>
    bnd (lift (faddr 0 (at_ vs_3 3))) fun x43 =>
    bnd (ld1 x43) fun x44 =>
    bnd (bslc 1 1 (rep 1 [Value.int .i64 0]) [(0, 1, x44)]) fun x45 =>
    bnd (appV 1 8 (at_ vs_3 1) x45) fun x46 =>
    ret (.nxt [(at_ vs_3 0), x46, x41, (at_ vs_3 4), (at_ vs_3 5), (at_ vs_3 6)])
def roles_wrong_k1 (vs_4 : List V) : M Out :=
  bnd (lift (bin .add (at_ vs_4 5) (Value.int .i64 1))) fun x47 =>
  ret (.nxt [(at_ vs_4 0), (at_ vs_4 1), (at_ vs_4 2), (at_ vs_4 3), (at_ vs_4 4), x47])
def roles_wrong_k2 (vs_2 : List V) : M Out :=
  bnd (
  bnd (
    bnd (lift (iaddrS 2 (at_ vs_2 3) (at_ vs_2 5))) fun x14 =>
    bnd (ldn 2 x14) fun x15 =>
    bnd (newc [Value.int .i64 0, Value.int .i64 0]) fun x8 =>
    bnd (stn 2 x8 x15) fun _ =>
    bnd (
      bnd (lift (faddr 0 x8)) fun x16 =>
      bnd (ld1 x16) fun x17 =>
      bnd (lift (bin .lss x17 (Value.int .i64 0))) fun x18 =>
      bnd (gd x18 false (lift (faddr 0 x8))) fun x20 =>
      bnd (gd x18 false (ld1 x20)) fun x21 =>
      bnd (gd x18 false (lift (some (at_ vs_2 0)))) fun x22 =>
      bnd (gd x18 false (lift (bin .geq x21 x22))) fun x23 =>
      bnd (lift (pickV x18 (Value.bool true) x23)) fun x24 =>
      bnd (gd x24 false (lift (faddr 1 x8))) fun x26 =>
      bnd (gd x24 false (ld1 x26)) fun x27 =>
      bnd (gd x24 false (lift (bin .lss x27 (Value.int .i64 1)))) fun x28 =>
      bnd (lift (pickV x24 (Value.bool true) x28)) fun x29 =>
      bnd (gd x29 false (lift (faddr 1 x8))) fun x31 =>
      bnd (gd x29 false (ld1 x31)) fun x32 =>
      bnd (gd x29 false (lift (bin .gtr x32 (Value.int .i64 4)))) fun x33 =>
      bnd (lift (pickV x29 (Value.bool true) x33)) fun x34 =>
      condM x34 (
        ret (.ret [(Value.int .i64 1)])
        ) (
        ret (.nxt [(at_ vs_2 0), (at_ vs_2 1), (at_ vs_2 2), x8, (at_ vs_2 3), (at_ vs_2 4), (at_ vs_2 5)])
        )
      ) fun o => nx o roles_wrong_k0
    ) fun o => ret (unblk 1 o)
  ) fun o => nx o roles_wrong_k1
def roles_wrong_l3 (vs : List V) : M Out :=
  bnd (lift (bin .lss (at_ vs 5) (at_ vs 4))) fun x13 =>
  bnd (
  condM x13 (
    ret (.nxt [(at_ vs 0), (at_ vs 1), (at_ vs 2), (at_ vs 3), (at_ vs 4), (at_ vs 5)])
    ) (
    ret (.brk 0 [(at_ vs 2)])
    )
  ) fun o => nx o roles_wrong_k2
def roles_wrong_k4 (vs_6 : List V) : M Out :=
  ret (.ret [(Value.int .i64 0)])
def roles_wrong_k5 (vs_5 : List V) : M Out :=
  bnd (
    condM (at_ vs_5 0) (
      ret (.ret [(Value.int .i64 240)])
      ) (
      ret (.nxt [])
      )
    ) fun o => nx o roles_wrong_k4
def F_roles_wrong (x0 x1 : V) : M V :=
  bnd (
    bnd (boxv x0) fun x2 =>
    bnd (
      bnd (lift (faddr 2 x2)) fun x9 =>
      bnd (ld1 x9) fun x10 =>
      bnd (lift (lenSlc x10)) fun x11 =>
      bnd (
        loopM FUEL roles_wrong_l3 [x1, (Value.slice none 0 0), (Value.bool false), x10, x11, (Value.int .i64 0)]
        ) fun o => ret (unblk 0 o)
      ) fun o => nx o roles_wrong_k5
    ) fun o => finM o fun vs => ret (outV [(at_ vs 0)])
def h_roles_wrong : Hint := (.seq [] .leaf (.seq [] .leaf (.seq [] .leaf (.seq [6] (.seq [] .leaf (.blk (.loop [1, 5, 6, 10, 11, 12] (.seq [] .leaf (.seq [1, 5, 6, 10, 11, 12] (.cond .leaf .leaf) (.seq [1, 5, 6, 10, 11, 12] (.blk (.seq [] .leaf (.seq [1, 5, 6, 8, 10, 11, 12] (.seq [] .leaf (.cond (.seq [] .leaf .leaf) .leaf)) (.seq [] .leaf .leaf)))) .leaf)))))) (.seq [] (.seq [] .leaf (.cond (.seq [] .leaf .leaf) .leaf)) (.seq [] .leaf .leaf))))))
def A_roles_wrong (l : List V) : M V := match l with | [x0, x1] => F_roles_wrong x0 x1 | _ => fail
theorem e_roles_wrong (x0 x1 : V) : funM Tryd.prog (ovr [(fid_slices_Contains_S_int_int, A_slices_Contains_S_int_int)] noC) fid_roles_wrong h_roles_wrong [x0, x1] = F_roles_wrong x0 x1 := by kernel_rfl
theorem K_roles_wrong : Known Tryd.prog fid_roles_wrong (A_roles_wrong) := known_of (σ := ovr [(fid_slices_Contains_S_int_int, A_slices_Contains_S_int_int)] noC) (hint := h_roles_wrong) (by kernel_rfl) (simAll_ovr K_slices_Contains_S_int_int simAll_nil0) fun l H r H' h => by
  unfold A_roles_wrong at h; split at h
  · rw [e_roles_wrong]; exact h
  · exact (fail_ne h).elim

/-! ### capstan/roles.Check -/
def roles_Check_k0 (G_strings_IndexRune : List V → M V) (vs_5 : List V) : M Out :=
    bnd (ldn 3 (at_ vs_5 3)) fun x45 =>
    bnd (A_roles_wrong [x45, (at_ vs_5 1)]) fun x47 =>
    bnd (lift (bin .neq x47 (Value.int .i64 0))) fun x49 =>
    condM x49 (
      ret (.ret [(at_ vs_5 2), x47])
      ) (
      ret (.nxt [(at_ vs_5 0), (at_ vs_5 1), (at_ vs_5 4), (at_ vs_5 5), (at_ vs_5 6)])
      )
def roles_Check_k1 (G_strings_IndexRune : List V → M V) (vs_4 : List V) : M Out :=
    bnd (
      bnd (lift (subV 3 (at_ vs_4 0) none (some (at_ vs_4 2)))) fun x36 =>
      bnd (lift (faddr 0 (at_ vs_4 3))) fun x37 =>
      bnd (ld1 x37) fun x38 =>
      bnd (A_roles_Find [x36, x38]) fun x39 =>
      bnd (lift (ext 0 x39)) fun x40 =>
      bnd (lift (ext 1 x39)) fun x41 =>
      bnd (lift (bin .eql x41 (Value.int .i64 0))) fun x43 =>
      condM x43 (
        ret (.ret [(at_ vs_4 2), (Value.int .i64 6)])
        ) (
        ret (.nxt [(at_ vs_4 0), (at_ vs_4 1), (at_ vs_4 2), (at_ vs_4 3), (at_ vs_4 4), (at_ vs_4 5), (at_ vs_4 6)])
        )
      ) fun o => nx o (roles_Check_k0 G_strings_IndexRune)
def roles_Check_k2 (G_strings_IndexRune : List V → M V) (vs_6 : List V) : M Out :=
  bnd (lift (bin .add (at_ vs_6 4) (Value.int .i64 1))) fun x52 =>
  ret (.nxt [(at_ vs_6 0), (at_ vs_6 1), (at_ vs_6 2), (at_ vs_6 3), x52])
def roles_Check_k3 (G_strings_IndexRune : List V → M V) (vs_3 : List V) : M Out :=
  bnd (
  bnd (
    bnd (lift (iaddrS 3 (at_ vs_3 2) (at_ vs_3 4))) fun x27 =>
    bnd (ldn 3 x27) fun x28 =>
    bnd (newc [Value.string ⟨#[]⟩, Value.string ⟨#[]⟩, Value.slice none 0 0]) fun x7 =>
    bnd (stn 3 x7 x28) fun _ =>
    bnd (
      bnd (ldn 3 x7) fun x29 =>
      bnd ((A_roles_formed G_strings_IndexRune) [x29]) fun x30 =>
      bnd (lift (un .not x30)) fun x31 =>
      condM x31 (
        ret (.ret [(at_ vs_3 4), (Value.int .i64 3)])
        ) (
        ret (.nxt [(at_ vs_3 0), (at_ vs_3 1), (at_ vs_3 4), x7, (at_ vs_3 2), (at_ vs_3 3), (at_ vs_3 4)])
        )
      ) fun o => nx o (roles_Check_k1 G_strings_IndexRune)
    ) fun o => ret (unblk 2 o)
  ) fun o => nx o (roles_Check_k2 G_strings_IndexRune)
def roles_Check_l4 (G_strings_IndexRune : List V → M V) (vs_2 : List V) : M Out :=
  bnd (lift (bin .lss (at_ vs_2 4) (at_ vs_2 3))) fun x25 =>
  bnd (
  condM x25 (
    ret (.nxt [(at_ vs_2 0), (at_ vs_2 1), (at_ vs_2 2), (at_ vs_2 3), (at_ vs_2 4)])
    ) (
    ret (.brk 1 [])
    )
  ) fun o => nx o (roles_Check_k3 G_strings_IndexRune)
def roles_Check_k5 (G_strings_IndexRune : List V → M V) (vs_7 : List V) : M Out :=
  ret (.ret [(Value.int .i64 0), (Value.int .i64 0)])
def roles_Check_k6 (G_strings_IndexRune : List V → M V) (vs : List V) : M Out :=
  bnd (
    bnd (lift (lenSlc (at_ vs 0))) fun x23 =>
    bnd (
      loopM FUEL (roles_Check_l4 G_strings_IndexRune) [(at_ vs 0), (at_ vs 1), (at_ vs 0), x23, (Value.int .i64 0)]
      ) fun o => ret (unblk 1 o)
    ) fun o => nx o (roles_Check_k5 G_strings_IndexRune)
def F_roles_Check (G_strings_IndexRune : List V → M V) (x0 x1 : V) : M V :=
  bnd (
    bnd (
      bnd (
        bnd (lift (bin .lss x1 (Value.int .i64 1))) fun x13 =>
        bnd (gd x13 false (lift (some x1))) fun x15 =>
        bnd (gd x13 false (lift (bin .gtr x15 (Value.int .i64 8)))) fun x16 =>
        bnd (lift (pickV x13 (Value.bool true) x16)) fun x17 =>
        condM x17 (
          ret (.ret [(Value.int .i64 (-1)), (Value.int .i64 1)])
          ) (
          bnd (lift (lenSlc x0)) fun x20 =>
          bnd (lift (bin .gtr x20 (Value.int .i64 8))) fun x21 =>
          condM x21 (
            ret (.ret [(Value.int .i64 (-1)), (Value.int .i64 2)])
            ) (
            ret (.nxt [x0, x1])
            )
          )
        ) fun o => ret (unblk 0 o)
      ) fun o => nx o (roles_Check_k6 G_strings_IndexRune)
    ) fun o => finM o fun vs => ret (outV [(at_ vs 0), (at_ vs 1)])
def h_roles_Check : Hint := (.seq [] .leaf (.seq [0, 1] (.blk (.seq [] .leaf (.cond (.seq [] .leaf .leaf) (.seq [] .leaf (.cond (.seq [] .leaf .leaf) .leaf))))) (.seq [] (.seq [] .leaf (.blk (.loop [0, 1, 22, 23, 24] (.seq [] .leaf (.seq [0, 1, 22, 23, 24] (.cond .leaf .leaf) (.seq [0, 1, 22, 23, 24] (.blk (.seq [] .leaf (.seq [0, 1, 6, 7, 22, 23, 24] (.seq [] .leaf (.cond (.seq [] .leaf .leaf) .leaf)) (.seq [0, 1, 6, 7, 22, 23, 24] (.seq [] (.reg [0, 1, 2, 3, 4, 5, 6, 7, 8, 9, 10] []) (.seq [] .leaf (.cond (.seq [] .leaf .leaf) .leaf))) (.seq [] .leaf (.seq [] .leaf (.cond (.seq [] .leaf .leaf) .leaf))))))) .leaf)))))) (.seq [] .leaf .leaf))))
def A_roles_Check (G_strings_IndexRune : List V → M V) (l : List V) : M V := match l with | [x0, x1] => F_roles_Check G_strings_IndexRune x0 x1 | _ => fail
theorem e_roles_Check (G_strings_IndexRune : List V → M V) (x0 x1 : V) : funM Tryd.prog (ovr [(fid_roles_formed, A_roles_formed G_strings_IndexRune), (fid_roles_Find, A_roles_Find), (fid_roles_wrong, A_roles_wrong)] noC) fid_roles_Check h_roles_Check [x0, x1] = F_roles_Check G_strings_IndexRune x0 x1 := by kernel_rfl
theorem K_roles_Check {G_strings_IndexRune : List V → M V} (k_strings_IndexRune : Known Tryd.prog fid_strings_IndexRune G_strings_IndexRune) : Known Tryd.prog fid_roles_Check (A_roles_Check G_strings_IndexRune) := known_of (σ := ovr [(fid_roles_formed, A_roles_formed G_strings_IndexRune), (fid_roles_Find, A_roles_Find), (fid_roles_wrong, A_roles_wrong)] noC) (hint := h_roles_Check) (by kernel_rfl) (simAll_ovr (K_roles_formed k_strings_IndexRune) (simAll_ovr K_roles_Find (simAll_ovr K_roles_wrong simAll_nil0))) fun l H r H' h => by
  unfold A_roles_Check at h; split at h
  · rw [e_roles_Check]; exact h
  · exact (fail_ne h).elim

/-! ### capstan/roles.Needs -/
def roles_Needs_k0 (vs : List V) : M Out :=
  bnd (lift (iaddrA 9 1 (ptr gid_roles_needs 0) (at_ vs 0))) fun x11 =>
  bnd (ld1 x11) fun x12 =>
  ret (.ret [x12, (Value.int .i64 0)])
def F_roles_Needs (x0 : V) : M V :=
  bnd (
    bnd (
      bnd (lift (bin .lss x0 (Value.int .i64 1))) fun x5 =>
      bnd (gd x5 false (lift (some x0))) fun x7 =>
      bnd (gd x5 false (lift (bin .gtr x7 (Value.int .i64 8)))) fun x8 =>
      bnd (lift (pickV x5 (Value.bool true) x8)) fun x9 =>
      condM x9 (
        ret (.ret [(Value.int .i64 0), (Value.int .i64 1)])
        ) (
        ret (.nxt [x0])
        )
      ) fun o => nx o roles_Needs_k0
    ) fun o => finM o fun vs => ret (outV [(at_ vs 0), (at_ vs 1)])
def h_roles_Needs : Hint := (.seq [] .leaf (.seq [0] (.seq [] .leaf (.cond (.seq [] .leaf .leaf) .leaf)) (.seq [] .leaf .leaf)))
def A_roles_Needs (l : List V) : M V := match l with | [x0] => F_roles_Needs x0 | _ => fail
theorem e_roles_Needs (x0 : V) : funM Tryd.prog (ovr [] noC) fid_roles_Needs h_roles_Needs [x0] = F_roles_Needs x0 := by kernel_rfl
theorem K_roles_Needs : Known Tryd.prog fid_roles_Needs (A_roles_Needs) := known_of (σ := ovr [] noC) (hint := h_roles_Needs) (by kernel_rfl) simAll_nil0 fun l H r H' h => by
  unfold A_roles_Needs at h; split at h
  · rw [e_roles_Needs]; exact h
  · exact (fail_ne h).elim

/-! ### capstan/roles.asked -/
def roles_asked_k0 (vs_2 : List V) : M Out :=
  bnd (lift (iaddrS 3 (at_ vs_2 0) (at_ vs_2 3))) fun x32 =>
  bnd (ldn 3 x32) fun x33 =>
  bnd (stn 3 (at_ vs_2 2) x33) fun _ =>
  ret (.ret [(at_ vs_2 1), (at_ vs_2 2), (Value.int .i64 0)])
def roles_asked_k1 (vs : List V) : M Out :=
  bnd (A_roles_Find [(at_ vs 0), (at_ vs 1)]) fun x22 =>
  bnd (lift (ext 0 x22)) fun x23 =>
  bnd (lift (ext 1 x22)) fun x24 =>
  bnd (
    bnd (lift (bin .neq x24 (Value.int .i64 0))) fun x26 =>
    condM x26 (
      bnd (ldn 3 (at_ vs 3)) fun x27 =>
      bnd (stn 3 (at_ vs 3) x27) fun _ =>
      ret (.ret [(Value.int .i64 0), (at_ vs 3), x24])
      ) (
      ret (.nxt [(at_ vs 0), (at_ vs 2), (at_ vs 3), x23])
      )
    ) fun o => nx o roles_asked_k0
def F_roles_asked (x0 x1 x2 : V) : M V :=
  bnd (
    bnd (newc [Value.string ⟨#[]⟩, Value.string ⟨#[]⟩, Value.slice none 0 0]) fun x7 =>
    bnd (
      bnd (A_roles_Needs [x2]) fun x12 =>
      bnd (lift (ext 0 x12)) fun x13 =>
      bnd (lift (ext 1 x12)) fun x14 =>
      bnd (lift (bin .neq x14 (Value.int .i64 0))) fun x16 =>
      condM x16 (
        bnd (ldn 3 x7) fun x17 =>
        bnd (stn 3 x7 x17) fun _ =>
        ret (.ret [(Value.int .i64 0), x7, x14])
        ) (
        ret (.nxt [x0, x1, x13, x7])
        )
      ) fun o => nx o roles_asked_k1
    ) fun o => finM o fun vs => bnd (ldn 3 (at_ vs 1)) fun r1 => ret (outV [(at_ vs 0), r1, (at_ vs 2)])
def h_roles_asked : Hint := (.seq [] .leaf (.seq [0, 1, 6, 7] (.seq [] .leaf (.seq [] .leaf (.cond (.seq [] (.reg [1, 2, 0, 3, 4] []) .leaf) .leaf))) (.seq [] .leaf (.seq [0, 6, 7, 9] (.seq [] .leaf (.cond (.seq [] (.reg [1, 2, 0, 3, 4] []) .leaf) .leaf)) (.seq [] (.reg [0, 1, 2, 3, 5, 4, 6, 7] []) .leaf)))))
def A_roles_asked (l : List V) : M V := match l with | [x0, x1, x2] => F_roles_asked x0 x1 x2 | _ => fail
theorem e_roles_asked (x0 x1 x2 : V) : funM Tryd.prog (ovr [(fid_roles_Needs, A_roles_Needs), (fid_roles_Find, A_roles_Find)] noC) fid_roles_asked h_roles_asked [x0, x1, x2] = F_roles_asked x0 x1 x2 := by kernel_rfl
theorem K_roles_asked : Known Tryd.prog fid_roles_asked (A_roles_asked) := known_of (σ := ovr [(fid_roles_Needs, A_roles_Needs), (fid_roles_Find, A_roles_Find)] noC) (hint := h_roles_asked) (by kernel_rfl) (simAll_ovr K_roles_Needs (simAll_ovr K_roles_Find simAll_nil0)) fun l H r H' h => by
  unfold A_roles_asked at h; split at h
  · rw [e_roles_asked]; exact h
  · exact (fail_ne h).elim

/-! ### capstan/roles.May$1 -/
def F_roles_May_1 (x0 x1 : V) : M V :=
  bnd (
    bnd (boxv x0) fun x2 =>
    bnd (lift (faddr 0 x2)) fun x4 =>
    bnd (ld1 x4) fun x5 =>
    bnd (ld1 x1) fun x6 =>
    bnd (lift (bin .eql x5 x6)) fun x7 =>
    ret (.ret [x7])
    ) fun o => finM o fun vs => ret (outV [(at_ vs 0)])
def h_roles_May_1 : Hint := (.seq [] .leaf (.seq [] .leaf .leaf))
def A_roles_May_1 (l : List V) : M V := match l with | [x0, x1] => F_roles_May_1 x0 x1 | _ => fail
theorem e_roles_May_1 (x0 x1 : V) : funM Tryd.prog (ovr [] noC) fid_roles_May_1 h_roles_May_1 [x0, x1] = F_roles_May_1 x0 x1 := by kernel_rfl
theorem K_roles_May_1 : Known Tryd.prog fid_roles_May_1 (A_roles_May_1) := known_of (σ := ovr [] noC) (hint := h_roles_May_1) (by kernel_rfl) simAll_nil0 fun l H r H' h => by
  unfold A_roles_May_1 at h; split at h
  · rw [e_roles_May_1]; exact h
  · exact (fail_ne h).elim

/-! ### slices.IndexFunc[[]capstan/api.Role,capstan/api.Role] -/
def slices_IndexFunc_S_api_Role_api_Role_k0 (S : Calls') (vs_3 : List V) : M Out :=
  bnd (lift (bin .add (at_ vs_3 3) (Value.int .i64 1))) fun x18 =>
  ret (.nxt [(at_ vs_3 0), (at_ vs_3 1), (at_ vs_3 2), x18])
def slices_IndexFunc_S_api_Role_api_Role_k1 (S : Calls') (vs_2 : List V) : M Out :=
  bnd (
  bnd (
    bnd (lift (iaddrS 2 (at_ vs_2 0) (at_ vs_2 3))) fun x14 =>
    bnd (ldn 2 x14) fun x15 =>
    bnd (callM (ovr [] S) (at_ vs_2 1) [x15]) fun x16 =>
    condM x16 (
      ret (.ret [(at_ vs_2 3)])
      ) (
      ret (.nxt [(at_ vs_2 0), (at_ vs_2 1), (at_ vs_2 2), (at_ vs_2 3)])
      )
    ) fun o => ret (unblk 1 o)
  ) fun o => nx o (slices_IndexFunc_S_api_Role_api_Role_k0 S)
def slices_IndexFunc_S_api_Role_api_Role_l2 (S : Calls') (vs : List V) : M Out :=
  bnd (lift (bin .lss (at_ vs 3) (at_ vs 2))) fun x9 =>
  bnd (
  condM x9 (
    ret (.nxt [(at_ vs 0), (at_ vs 1), (at_ vs 2), (at_ vs 3)])
    ) (
    ret (.brk 0 [])
    )
  ) fun o => nx o (slices_IndexFunc_S_api_Role_api_Role_k1 S)
def slices_IndexFunc_S_api_Role_api_Role_k3 (S : Calls') (vs_4 : List V) : M Out :=
  ret (.ret [(Value.int .i64 (-1))])
def F_slices_IndexFunc_S_api_Role_api_Role (S : Calls') (x0 x1 : V) : M V :=
  bnd (
    bnd (
      bnd (lift (lenSlc x0)) fun x7 =>
      bnd (
        loopM FUEL (slices_IndexFunc_S_api_Role_api_Role_l2 S) [x0, x1, x7, (Value.int .i64 0)]
        ) fun o => ret (unblk 0 o)
      ) fun o => nx o (slices_IndexFunc_S_api_Role_api_Role_k3 S)
    ) fun o => finM o fun vs => ret (outV [(at_ vs 0)])
def h_slices_IndexFunc_S_api_Role_api_Role : Hint := (.seq [] .leaf (.seq [] (.seq [] .leaf (.blk (.loop [0, 1, 7, 8] (.seq [] .leaf (.seq [0, 1, 7, 8] (.cond .leaf .leaf) (.seq [0, 1, 7, 8] (.blk (.seq [] .leaf (.seq [] .leaf (.cond (.seq [] .leaf .leaf) .leaf)))) .leaf)))))) (.seq [] .leaf .leaf)))
def A_slices_IndexFunc_S_api_Role_api_Role (S : Calls') (l : List V) : M V := match l with | [x0, x1] => F_slices_IndexFunc_S_api_Role_api_Role S x0 x1 | _ => fail
theorem e_slices_IndexFunc_S_api_Role_api_Role (S : Calls') (x0 x1 : V) : funM Tryd.prog (ovr [] S) fid_slices_IndexFunc_S_api_Role_api_Role h_slices_IndexFunc_S_api_Role_api_Role [x0, x1] = F_slices_IndexFunc_S_api_Role_api_Role S x0 x1 := by kernel_rfl
theorem K_slices_IndexFunc_S_api_Role_api_Role {S : Calls'} (hS : SimAll Tryd.prog S) : Known Tryd.prog fid_slices_IndexFunc_S_api_Role_api_Role (A_slices_IndexFunc_S_api_Role_api_Role S) := known_of (σ := ovr [] S) (hint := h_slices_IndexFunc_S_api_Role_api_Role) (by kernel_rfl) (simAll_base hS) fun l H r H' h => by
  unfold A_slices_IndexFunc_S_api_Role_api_Role at h; split at h
  · rw [e_slices_IndexFunc_S_api_Role_api_Role]; exact h
  · exact (fail_ne h).elim

/-! ### slices.ContainsFunc[[]capstan/api.Role,capstan/api.Role] -/
def F_slices_ContainsFunc_S_api_Role_api_Role (S : Calls') (x0 x1 : V) : M V :=
  bnd (
    bnd ((A_slices_IndexFunc_S_api_Role_api_Role S) [x0, x1]) fun x7 =>
    bnd (lift (bin .geq x7 (Value.int .i64 0))) fun x8 =>
    ret (.ret [x8])
    ) fun o => finM o fun vs => ret (outV [(at_ vs 0)])
def h_slices_ContainsFunc_S_api_Role_api_Role : Hint := (.seq [] .leaf (.seq [] .leaf .leaf))
def A_slices_ContainsFunc_S_api_Role_api_Role (S : Calls') (l : List V) : M V := match l with | [x0, x1] => F_slices_ContainsFunc_S_api_Role_api_Role S x0 x1 | _ => fail
theorem e_slices_ContainsFunc_S_api_Role_api_Role (S : Calls') (x0 x1 : V) : funM Tryd.prog (ovr [(fid_slices_IndexFunc_S_api_Role_api_Role, A_slices_IndexFunc_S_api_Role_api_Role S)] S) fid_slices_ContainsFunc_S_api_Role_api_Role h_slices_ContainsFunc_S_api_Role_api_Role [x0, x1] = F_slices_ContainsFunc_S_api_Role_api_Role S x0 x1 := by kernel_rfl
theorem K_slices_ContainsFunc_S_api_Role_api_Role {S : Calls'} (hS : SimAll Tryd.prog S) : Known Tryd.prog fid_slices_ContainsFunc_S_api_Role_api_Role (A_slices_ContainsFunc_S_api_Role_api_Role S) := known_of (σ := ovr [(fid_slices_IndexFunc_S_api_Role_api_Role, A_slices_IndexFunc_S_api_Role_api_Role S)] S) (hint := h_slices_ContainsFunc_S_api_Role_api_Role) (by kernel_rfl) (simAll_ovr (K_slices_IndexFunc_S_api_Role_api_Role (simAll_base hS)) (simAll_base hS)) fun l H r H' h => by
  unfold A_slices_ContainsFunc_S_api_Role_api_Role at h; split at h
  · rw [e_slices_ContainsFunc_S_api_Role_api_Role]; exact h
  · exact (fail_ne h).elim

/-! ### capstan/roles.level$1 -/
def F_roles_level_1 (x0 x1 : V) : M V :=
  bnd (
    bnd (boxv x0) fun x2 =>
    bnd (lift (faddr 0 x2)) fun x4 =>
    bnd (ld1 x4) fun x5 =>
    bnd (ld1 x1) fun x6 =>
    bnd (lift (bin .eql x5 x6)) fun x7 =>
    ret (.ret [x7])
    ) fun o => finM o fun vs => ret (outV [(at_ vs 0)])
def h_roles_level_1 : Hint := (.seq [] .leaf (.seq [] .leaf .leaf))
def A_roles_level_1 (l : List V) : M V := match l with | [x0, x1] => F_roles_level_1 x0 x1 | _ => fail
theorem e_roles_level_1 (x0 x1 : V) : funM Tryd.prog (ovr [] noC) fid_roles_level_1 h_roles_level_1 [x0, x1] = F_roles_level_1 x0 x1 := by kernel_rfl
theorem K_roles_level_1 : Known Tryd.prog fid_roles_level_1 (A_roles_level_1) := known_of (σ := ovr [] noC) (hint := h_roles_level_1) (by kernel_rfl) simAll_nil0 fun l H r H' h => by
  unfold A_roles_level_1 at h; split at h
  · rw [e_roles_level_1]; exact h
  · exact (fail_ne h).elim

/-! ### capstan/roles.level -/
def roles_level_k0 (vs : List V) : M Out :=
  bnd (lift (faddr 2 (at_ vs 0))) fun x12 =>
  bnd (ld1 x12) fun x13 =>
  bnd (lift (iaddrS 2 x13 (at_ vs 1))) fun x15 =>
  bnd (lift (faddr 1 x15)) fun x16 =>
  bnd (ld1 x16) fun x17 =>
  ret (.ret [x17])
def F_roles_level (x0 x1 : V) : M V :=
  bnd (
    bnd (boxv x0) fun x2 =>
    bnd (boxv x1) fun x3 =>
    bnd (lift (faddr 2 x2)) fun x6 =>
    bnd (ld1 x6) fun x7 =>
    bnd (lift (some (Value.func (.func fid_roles_level_1) #[] #[x3]))) fun x8 =>
    bnd ((A_slices_IndexFunc_S_api_Role_api_Role (ovr [(fid_roles_level_1, A_roles_level_1)] noC)) [x7, x8]) fun x9 =>
    bnd (
      bnd (lift (bin .lss x9 (Value.int .i64 0))) fun x11 =>
      condM x11 (
        ret (.ret [(Value.int .i64 0)])
        ) (
        ret (.nxt [x2, x9])
        )
      ) fun o => nx o roles_level_k0
    ) fun o => finM o fun vs => ret (outV [(at_ vs 0)])
def h_roles_level : Hint := (.seq [] .leaf (.seq [] .leaf (.seq [2, 5] (.seq [] .leaf (.cond (.seq [] .leaf .leaf) .leaf)) (.seq [] .leaf .leaf))))
def A_roles_level (l : List V) : M V := match l with | [x0, x1] => F_roles_level x0 x1 | _ => fail
theorem e_roles_level (x0 x1 : V) : funM Tryd.prog (ovr [(fid_slices_IndexFunc_S_api_Role_api_Role, A_slices_IndexFunc_S_api_Role_api_Role (ovr [(fid_roles_level_1, A_roles_level_1)] noC))] noC) fid_roles_level h_roles_level [x0, x1] = F_roles_level x0 x1 := by kernel_rfl
theorem K_roles_level : Known Tryd.prog fid_roles_level (A_roles_level) := known_of (σ := ovr [(fid_slices_IndexFunc_S_api_Role_api_Role, A_slices_IndexFunc_S_api_Role_api_Role (ovr [(fid_roles_level_1, A_roles_level_1)] noC))] noC) (hint := h_roles_level) (by kernel_rfl) (simAll_ovr (K_slices_IndexFunc_S_api_Role_api_Role (simAll_ovr K_roles_level_1 simAll_nil0)) simAll_nil0) fun l H r H' h => by
  unfold A_roles_level at h; split at h
  · rw [e_roles_level]; exact h
  · exact (fail_ne h).elim

/-! ### capstan/roles.May -/
def roles_May_k0 (vs : List V) : M Out :=
  ret (.ret [(Value.int .i64 0)])
def F_roles_May (x0 x1 x2 x3 : V) : M V :=
  bnd (
    bnd (boxv x3) fun x7 =>
    bnd (A_roles_asked [x0, x1, x2]) fun x16 =>
    bnd (lift (ext 0 x16)) fun x17 =>
    bnd (lift (ext 1 x16)) fun x18 =>
    bnd (lift (ext 2 x16)) fun x19 =>
    bnd (newc [Value.string ⟨#[]⟩, Value.string ⟨#[]⟩, Value.slice none 0 0]) fun x10 =>
    bnd (stn 3 x10 x18) fun _ =>
    bnd (
      bnd (
        bnd (lift (bin .neq x19 (Value.int .i64 0))) fun x22 =>
        condM x22 (
          ret (.ret [x19])
          ) (
          bnd (lift (bin .eql x2 (Value.int .i64 8))) fun x26 =>
          condM x26 (
            ret (.ret [(Value.int .i64 0)])
            ) (
            bnd (lift (faddr 2 x10)) fun x28 =>
            bnd (ld1 x28) fun x29 =>
            bnd (lift (some (Value.func (.func fid_roles_May_1) #[] #[x7]))) fun x30 =>
            bnd ((A_slices_ContainsFunc_S_api_Role_api_Role (ovr [(fid_roles_May_1, A_roles_May_1)] noC)) [x29, x30]) fun x31 =>
            bnd (lift (un .not x31)) fun x32 =>
            bnd (gd x32 false (ldn 3 x10)) fun x34 =>
            bnd (gd x32 false (ld1 x7)) fun x35 =>
            bnd (gd x32 false (A_roles_level [x34, x35])) fun x36 =>
            bnd (gd x32 false (lift (some x17))) fun x37 =>
            bnd (gd x32 false (lift (bin .lss x36 x37))) fun x38 =>
            bnd (lift (pickV x32 (Value.bool true) x38)) fun x39 =>
            condM x39 (
              ret (.ret [(Value.int .i64 240)])
              ) (
              ret (.nxt [])
              )
            )
          )
        ) fun o => ret (unblk 0 o)
      ) fun o => nx o roles_May_k0
    ) fun o => finM o fun vs => ret (outV [(at_ vs 0)])
def h_roles_May : Hint := (.seq [] .leaf (.seq [] .leaf (.seq [] (.blk (.seq [] .leaf (.cond (.seq [] .leaf .leaf) (.seq [] .leaf (.cond (.seq [] .leaf .leaf) (.seq [] .leaf (.cond (.seq [] .leaf .leaf) .leaf))))))) (.seq [] .leaf .leaf))))
def A_roles_May (l : List V) : M V := match l with | [x0, x1, x2, x3] => F_roles_May x0 x1 x2 x3 | _ => fail
theorem e_roles_May (x0 x1 x2 x3 : V) : funM Tryd.prog (ovr [(fid_roles_asked, A_roles_asked), (fid_slices_ContainsFunc_S_api_Role_api_Role, A_slices_ContainsFunc_S_api_Role_api_Role (ovr [(fid_roles_May_1, A_roles_May_1)] noC)), (fid_roles_level, A_roles_level)] noC) fid_roles_May h_roles_May [x0, x1, x2, x3] = F_roles_May x0 x1 x2 x3 := by kernel_rfl
theorem K_roles_May : Known Tryd.prog fid_roles_May (A_roles_May) := known_of (σ := ovr [(fid_roles_asked, A_roles_asked), (fid_slices_ContainsFunc_S_api_Role_api_Role, A_slices_ContainsFunc_S_api_Role_api_Role (ovr [(fid_roles_May_1, A_roles_May_1)] noC)), (fid_roles_level, A_roles_level)] noC) (hint := h_roles_May) (by kernel_rfl) (simAll_ovr K_roles_asked (simAll_ovr (K_slices_ContainsFunc_S_api_Role_api_Role (simAll_ovr K_roles_May_1 simAll_nil0)) (simAll_ovr K_roles_level simAll_nil0))) fun l H r H' h => by
  unfold A_roles_May at h; split at h
  · rw [e_roles_May]; exact h
  · exact (fail_ne h).elim

/-! ### capstan/capstanlaw24.works -/
def F_law24_works (G_strings_IndexRune : List V → M V) : M V :=
  bnd (
    bnd (lift (build [Value.int .i64 0, Value.int .i64 0] [(0, 1, (Value.int .i64 0)), (1, 1, (Value.int .i64 2))])) fun x4 =>
    bnd (bslc 2 1 (rep 1 [Value.int .i64 0, Value.int .i64 0]) [(0, 2, x4)]) fun x5 =>
    bnd (lift (build [Value.string ⟨#[]⟩, Value.string ⟨#[]⟩, Value.slice none 0 0] [(0, 1, (Value.string ⟨#[97, 110, 110]⟩)), (1, 1, (Value.string ⟨#[48, 49, 50, 51, 52, 53, 54, 55, 56, 57, 97, 98, 99, 100, 101, 102]⟩)), (2, 1, x5)])) fun x6 =>
    bnd (bslc 3 1 (rep 1 [Value.string ⟨#[]⟩, Value.string ⟨#[]⟩, Value.slice none 0 0]) [(0, 3, x6)]) fun x7 =>
    bnd ((A_roles_Check G_strings_IndexRune) [x7, (Value.int .i64 2)]) fun x10 =>
    bnd (lift (ext 0 x10)) fun x11 =>
    bnd (lift (ext 1 x10)) fun x12 =>
    bnd (lift (bin .eql x12 (Value.int .i64 0))) fun x14 =>
    bnd (gd x14 true (lift (some x7))) fun x16 =>
    bnd (gd x14 true (A_roles_May [x16, (Value.string ⟨#[97, 110, 110]⟩), (Value.int .i64 3), (Value.int .i64 0)])) fun x17 =>
    bnd (gd x14 true (lift (bin .eql x17 (Value.int .i64 0)))) fun x18 =>
    bnd (lift (pickV x14 x18 (Value.bool false))) fun x19 =>
    bnd (gd x19 true (lift (some x7))) fun x21 =>
    bnd (gd x19 true (A_roles_May [x21, (Value.string ⟨#[97, 110, 110]⟩), (Value.int .i64 5), (Value.int .i64 0)])) fun x22 =>
    bnd (gd x19 true (lift (bin .eql x22 (Value.int .i64 240)))) fun x23 =>
    bnd (lift (pickV x19 x23 (Value.bool false))) fun x24 =>
    bnd (gd x24 true (lift (some x7))) fun x26 =>
    bnd (gd x24 true (A_roles_May [x26, (Value.string ⟨#[97, 110, 110]⟩), (Value.int .i64 1), (Value.int .i64 1)])) fun x27 =>
    bnd (gd x24 true (lift (bin .eql x27 (Value.int .i64 240)))) fun x28 =>
    bnd (lift (pickV x24 x28 (Value.bool false))) fun x29 =>
    bnd (gd x29 true (lift (some x7))) fun x31 =>
    bnd (gd x29 true (A_roles_May [x31, (Value.string ⟨#[98, 111, 98]⟩), (Value.int .i64 1), (Value.int .i64 0)])) fun x32 =>
    bnd (gd x29 true (lift (bin .eql x32 (Value.int .i64 90)))) fun x33 =>
    bnd (lift (pickV x29 x33 (Value.bool false))) fun x34 =>
    ret (.ret [x34])
    ) fun o => finM o fun vs => ret (outV [(at_ vs 0)])
def h_law24_works : Hint := (.seq [] .leaf (.seq [] .leaf (.seq [] .leaf (.seq [] .leaf .leaf))))
def A_law24_works (G_strings_IndexRune : List V → M V) (l : List V) : M V := match l with | [] => F_law24_works G_strings_IndexRune  | _ => fail
theorem e_law24_works (G_strings_IndexRune : List V → M V) : funM Tryd.prog (ovr [(fid_roles_Check, A_roles_Check G_strings_IndexRune), (fid_roles_May, A_roles_May)] noC) fid_law24_works h_law24_works [] = F_law24_works G_strings_IndexRune  := by kernel_rfl
theorem K_law24_works {G_strings_IndexRune : List V → M V} (k_strings_IndexRune : Known Tryd.prog fid_strings_IndexRune G_strings_IndexRune) : Known Tryd.prog fid_law24_works (A_law24_works G_strings_IndexRune) := known_of (σ := ovr [(fid_roles_Check, A_roles_Check G_strings_IndexRune), (fid_roles_May, A_roles_May)] noC) (hint := h_law24_works) (by kernel_rfl) (simAll_ovr (K_roles_Check k_strings_IndexRune) (simAll_ovr K_roles_May simAll_nil0)) fun l H r H' h => by
  unfold A_law24_works at h; split at h
  · rw [e_law24_works]; exact h
  · exact (fail_ne h).elim

/-! ### capstan/capstanlaw24.RolesNest -/
def law24_RolesNest_k0 (G_strings_IndexRune : List V → M V) (vs_5 : List V) : M Out :=
  bnd (lift (bin .add (at_ vs_5 6) (Value.int .i64 1))) fun x61 =>
  ret (.nxt [(at_ vs_5 0), (at_ vs_5 1), (at_ vs_5 2), (at_ vs_5 3), (at_ vs_5 4), (at_ vs_5 5), x61])
def law24_RolesNest_k1 (G_strings_IndexRune : List V → M V) (vs_4 : List V) : M Out :=
  bnd (
  bnd (
    bnd (lift (iaddrS 2 (at_ vs_4 4) (at_ vs_4 6))) fun x52 =>
    bnd (ldn 2 x52) fun x53 =>
    bnd (newc [Value.int .i64 0, Value.int .i64 0]) fun x11 =>
    bnd (stn 2 x11 x53) fun _ =>
    bnd (lift (faddr 0 x11)) fun x54 =>
    bnd (ld1 x54) fun x55 =>
    bnd (lift (faddr 2 (at_ vs_4 1))) fun x56 =>
    bnd (ld1 x56) fun x57 =>
    bnd (lift (bin .eql x55 x57)) fun x58 =>
    condM x58 (
      bnd (lift (faddr 1 x11)) fun x59 =>
      bnd (ld1 x59) fun x60 =>
      ret (.nxt [(at_ vs_4 0), (at_ vs_4 1), (at_ vs_4 2), x60, (at_ vs_4 4), (at_ vs_4 5), (at_ vs_4 6)])
      ) (
      ret (.nxt [(at_ vs_4 0), (at_ vs_4 1), (at_ vs_4 2), (at_ vs_4 3), (at_ vs_4 4), (at_ vs_4 5), (at_ vs_4 6)])
      )
    ) fun o => ret (unblk 1 o)
  ) fun o => nx o (law24_RolesNest_k0 G_strings_IndexRune)
def law24_RolesNest_l2 (G_strings_IndexRune : List V → M V) (vs_3 : List V) : M Out :=
  bnd (lift (bin .lss (at_ vs_3 6) (at_ vs_3 5))) fun x51 =>
  bnd (
  condM x51 (
    ret (.nxt [(at_ vs_3 0), (at_ vs_3 1), (at_ vs_3 2), (at_ vs_3 3), (at_ vs_3 4), (at_ vs_3 5), (at_ vs_3 6)])
    ) (
    ret (.brk 0 [(at_ vs_3 0), (at_ vs_3 1), (at_ vs_3 2), (at_ vs_3 3)])
    )
  ) fun o => nx o (law24_RolesNest_k1 G_strings_IndexRune)
def law24_RolesNest_k3 (G_strings_IndexRune : List V → M V) (vs_13 : List V) : M Out :=
  bnd (lift (bin .add (at_ vs_13 7) (Value.int .i64 1))) fun x97 =>
  ret (.nxt [(at_ vs_13 0), (at_ vs_13 1), (at_ vs_13 2), (at_ vs_13 3), (at_ vs_13 4), (at_ vs_13 5), (at_ vs_13 6), x97])
def law24_RolesNest_k4 (G_strings_IndexRune : List V → M V) (vs_12 : List V) : M Out :=
  bnd (
  bnd (
    bnd (A_roles_Needs [(at_ vs_12 7)]) fun x100 =>
    bnd (lift (ext 0 x100)) fun x101 =>
    bnd (lift (ext 1 x100)) fun x102 =>
    bnd (lift (bin .neq x102 (Value.int .i64 0))) fun x104 =>
    bnd (gd x104 false (lift (some (at_ vs_12 6)))) fun x106 =>
    bnd (gd x104 false (lift (some x106))) fun x107 =>
    bnd (gd x107 true (lift (some (at_ vs_12 4)))) fun x108 =>
    bnd (gd x107 true (lift (bin .neq x108 (Value.int .i64 8)))) fun x109 =>
    bnd (gd x104 false (lift (pickV x107 x109 (Value.bool false)))) fun x110 =>
    bnd (gd x104 false (lift (some x110))) fun x111 =>
    bnd (gd x111 true (lift (some x101))) fun x112 =>
    bnd (gd x111 true (lift (some (at_ vs_12 5)))) fun x113 =>
    bnd (gd x111 true (lift (bin .leq x112 x113))) fun x114 =>
    bnd (gd x104 false (lift (pickV x111 x114 (Value.bool false)))) fun x115 =>
    bnd (gd x104 false (lift (some x115))) fun x116 =>
    bnd (gd x116 true (lift (some (at_ vs_12 0)))) fun x117 =>
    bnd (gd x116 true (lift (faddr 0 (at_ vs_12 2)))) fun x118 =>
    bnd (gd x116 true (ld1 x118)) fun x119 =>
    bnd (gd x116 true (lift (some (at_ vs_12 7)))) fun x120 =>
    bnd (gd x116 true (lift (faddr 2 (at_ vs_12 1)))) fun x121 =>
    bnd (gd x116 true (ld1 x121)) fun x122 =>
    bnd (gd x116 true (A_roles_May [x117, x119, x120, x122])) fun x123 =>
    bnd (gd x116 true (lift (bin .neq x123 (Value.int .i64 0)))) fun x124 =>
    bnd (gd x104 false (lift (pickV x116 x124 (Value.bool false)))) fun x125 =>
    bnd (lift (pickV x104 (Value.bool true) x125)) fun x126 =>
    condM x126 (
      ret (.ret [(Value.bool false)])
      ) (
      ret (.nxt [(at_ vs_12 0), (at_ vs_12 1), (at_ vs_12 2), (at_ vs_12 3), (at_ vs_12 4), (at_ vs_12 5), (at_ vs_12 6), (at_ vs_12 7)])
      )
    ) fun o => ret (unblk 5 o)
  ) fun o => nx o (law24_RolesNest_k3 G_strings_IndexRune)
def law24_RolesNest_l5 (G_strings_IndexRune : List V → M V) (vs_11 : List V) : M Out :=
  bnd (
  bnd (lift (bin .lss (at_ vs_11 7) (Value.int .i64 8))) fun x95 =>
  condM x95 (
    ret (.nxt [(at_ vs_11 0), (at_ vs_11 1), (at_ vs_11 2), (at_ vs_11 3), (at_ vs_11 4), (at_ vs_11 5), (at_ vs_11 6), (at_ vs_11 7)])
    ) (
    ret (.brk 4 [(at_ vs_11 0), (at_ vs_11 1), (at_ vs_11 2), (at_ vs_11 3), (at_ vs_11 4)])
    )
  ) fun o => nx o (law24_RolesNest_k4 G_strings_IndexRune)
def law24_RolesNest_k6 (G_strings_IndexRune : List V → M V) (vs_10 : List V) : M Out :=
    bnd (
      loopM FUEL (law24_RolesNest_l5 G_strings_IndexRune) [(at_ vs_10 0), (at_ vs_10 1), (at_ vs_10 2), (at_ vs_10 3), (at_ vs_10 4), (at_ vs_10 5), (at_ vs_10 6), (Value.int .i64 1)]
      ) fun o => ret (unblk 4 o)
def law24_RolesNest_k7 (G_strings_IndexRune : List V → M V) (vs_9 : List V) : M Out :=
    bnd (lift (faddr 0 (at_ vs_9 2))) fun x74 =>
    bnd (ld1 x74) fun x75 =>
    bnd (lift (faddr 2 (at_ vs_9 1))) fun x77 =>
    bnd (ld1 x77) fun x78 =>
    bnd (A_roles_May [(at_ vs_9 0), x75, (at_ vs_9 4), x78]) fun x79 =>
    bnd (lift (bin .eql x79 (Value.int .i64 0))) fun x80 =>
    bnd (
      bnd (lift (bin .eql (at_ vs_9 4) (Value.int .i64 8))) fun x83 =>
      bnd (gd x83 false (lift (some (at_ vs_9 3)))) fun x85 =>
      bnd (gd x83 false (lift (bin .gtr x85 (Value.int .i64 0)))) fun x86 =>
      bnd (gd x83 false (lift (some x86))) fun x87 =>
      bnd (gd x87 true (lift (some (at_ vs_9 3)))) fun x88 =>
      bnd (gd x87 true (lift (some (at_ vs_9 5)))) fun x89 =>
      bnd (gd x87 true (lift (bin .geq x88 x89))) fun x90 =>
      bnd (gd x83 false (lift (pickV x87 x90 (Value.bool false)))) fun x91 =>
      bnd (lift (pickV x83 (Value.bool true) x91)) fun x92 =>
      bnd (lift (notIf true (eqK .b x80 x92))) fun x93 =>
      condM x93 (
        ret (.ret [(Value.bool false)])
        ) (
        ret (.nxt [(at_ vs_9 0), (at_ vs_9 1), (at_ vs_9 2), (at_ vs_9 3), (at_ vs_9 4), (at_ vs_9 5), x80])
        )
      ) fun o => nx o (law24_RolesNest_k6 G_strings_IndexRune)
def law24_RolesNest_k8 (G_strings_IndexRune : List V → M V) (vs_14 : List V) : M Out :=
  bnd (lift (bin .add (at_ vs_14 4) (Value.int .i64 1))) fun x65 =>
  ret (.nxt [(at_ vs_14 0), (at_ vs_14 1), (at_ vs_14 2), (at_ vs_14 3), x65])
def law24_RolesNest_k9 (G_strings_IndexRune : List V → M V) (vs_8 : List V) : M Out :=
  bnd (
  bnd (
    bnd (A_roles_Needs [(at_ vs_8 4)]) fun x68 =>
    bnd (lift (ext 0 x68)) fun x69 =>
    bnd (lift (ext 1 x68)) fun x70 =>
    bnd (
      bnd (lift (bin .neq x70 (Value.int .i64 0))) fun x72 =>
      condM x72 (
        ret (.ret [(Value.bool false)])
        ) (
        ret (.nxt [(at_ vs_8 0), (at_ vs_8 1), (at_ vs_8 2), (at_ vs_8 3), (at_ vs_8 4), x69])
        )
      ) fun o => nx o (law24_RolesNest_k7 G_strings_IndexRune)
    ) fun o => ret (unblk 3 o)
  ) fun o => nx o (law24_RolesNest_k8 G_strings_IndexRune)
def law24_RolesNest_l10 (G_strings_IndexRune : List V → M V) (vs_7 : List V) : M Out :=
  bnd (
  bnd (lift (bin .leq (at_ vs_7 4) (Value.int .i64 8))) fun x63 =>
  condM x63 (
    ret (.nxt [(at_ vs_7 0), (at_ vs_7 1), (at_ vs_7 2), (at_ vs_7 3), (at_ vs_7 4)])
    ) (
    ret (.brk 2 [])
    )
  ) fun o => nx o (law24_RolesNest_k9 G_strings_IndexRune)
def law24_RolesNest_k11 (G_strings_IndexRune : List V → M V) (vs_15 : List V) : M Out :=
  ret (.ret [(Value.bool true)])
def law24_RolesNest_k12 (G_strings_IndexRune : List V → M V) (vs_6 : List V) : M Out :=
  bnd (
    bnd (
      loopM FUEL (law24_RolesNest_l10 G_strings_IndexRune) [(at_ vs_6 0), (at_ vs_6 1), (at_ vs_6 2), (at_ vs_6 3), (Value.int .i64 1)]
      ) fun o => ret (unblk 2 o)
    ) fun o => nx o (law24_RolesNest_k11 G_strings_IndexRune)
def law24_RolesNest_k13 (G_strings_IndexRune : List V → M V) (vs_2 : List V) : M Out :=
  bnd (lift (faddr 1 (at_ vs_2 1))) fun x35 =>
  bnd (ld1 x35) fun x36 =>
  bnd (lift (cvi .u64 x36)) fun x37 =>
  bnd (lift (lenSlc (at_ vs_2 0))) fun x39 =>
  bnd (lift (cvi .u64 x39)) fun x40 =>
  bnd (lift (bin .rem x37 x40)) fun x41 =>
  bnd (lift (cvi .i64 x41)) fun x42 =>
  bnd (lift (iaddrS 3 (at_ vs_2 0) x42)) fun x45 =>
  bnd (ldn 3 x45) fun x46 =>
  bnd (newc [Value.string ⟨#[]⟩, Value.string ⟨#[]⟩, Value.slice none 0 0]) fun x8 =>
  bnd (stn 3 x8 x46) fun _ =>
  bnd (
    bnd (lift (faddr 2 x8)) fun x47 =>
    bnd (ld1 x47) fun x48 =>
    bnd (lift (lenSlc x48)) fun x49 =>
    bnd (
      loopM FUEL (law24_RolesNest_l2 G_strings_IndexRune) [(at_ vs_2 0), (at_ vs_2 1), x8, (Value.int .i64 0), x48, x49, (Value.int .i64 0)]
      ) fun o => ret (unblk 0 o)
    ) fun o => nx o (law24_RolesNest_k12 G_strings_IndexRune)
def law24_RolesNest_k14 (G_strings_IndexRune : List V → M V) (vs : List V) : M Out :=
  bnd (
    bnd (lift (faddr 3 (at_ vs 1))) fun x23 =>
    bnd (ld1 x23) fun x24 =>
    bnd ((A_roles_Check G_strings_IndexRune) [(at_ vs 0), x24]) fun x25 =>
    bnd (lift (ext 0 x25)) fun x26 =>
    bnd (lift (ext 1 x25)) fun x27 =>
    bnd (lift (bin .neq x27 (Value.int .i64 0))) fun x29 =>
    bnd (gd x29 false (lift (some (at_ vs 0)))) fun x31 =>
    bnd (gd x29 false (lift (lenSlc x31))) fun x32 =>
    bnd (gd x29 false (lift (bin .eql x32 (Value.int .i64 0)))) fun x33 =>
    bnd (lift (pickV x29 (Value.bool true) x33)) fun x34 =>
    condM x34 (
      ret (.ret [(Value.bool true)])
      ) (
      ret (.nxt [(at_ vs 0), (at_ vs 1)])
      )
    ) fun o => nx o (law24_RolesNest_k13 G_strings_IndexRune)
def F_law24_RolesNest (G_strings_IndexRune : List V → M V) (x0 x1 : V) : M V :=
  bnd (
    bnd (boxv x1) fun x3 =>
    bnd (
      bnd ((A_law24_works G_strings_IndexRune) []) fun x19 =>
      bnd (lift (un .not x19)) fun x20 =>
      condM x20 (
        ret (.ret [(Value.bool false)])
        ) (
        ret (.nxt [x0, x3])
        )
      ) fun o => nx o (law24_RolesNest_k14 G_strings_IndexRune)
    ) fun o => finM o fun vs => ret (outV [(at_ vs 0)])
def h_law24_RolesNest : Hint := (.seq [] .leaf (.seq [0, 3] (.seq [] .leaf (.cond (.seq [] .leaf .leaf) .leaf)) (.seq [0, 3] (.seq [] .leaf (.seq [] .leaf (.cond (.seq [] .leaf .leaf) .leaf))) (.seq [] .leaf (.seq [] .leaf (.seq [] .leaf (.seq [0, 3, 8, 9] (.seq [] .leaf (.blk (.loop [0, 3, 8, 9, 48, 49, 50] (.seq [] .leaf (.seq [0, 3, 8, 9, 48, 49, 50] (.cond .leaf .leaf) (.seq [0, 3, 8, 9, 48, 49, 50] (.blk (.seq [] .leaf (.seq [] .leaf (.cond .leaf .leaf)))) .leaf)))))) (.seq [] (.seq [] .leaf (.blk (.loop [0, 3, 8, 9, 12] (.seq [0, 3, 8, 9, 12] (.seq [] .leaf (.cond .leaf .leaf)) (.seq [0, 3, 8, 9, 12] (.blk (.seq [] .leaf (.seq [0, 3, 8, 9, 12, 13] (.seq [] .leaf (.cond (.seq [] .leaf .leaf) .leaf)) (.seq [] .leaf (.seq [0, 3, 8, 9, 12, 13, 15] (.seq [] .leaf (.cond (.seq [] .leaf .leaf) .leaf)) (.seq [] .leaf (.blk (.loop [0, 3, 8, 9, 12, 13, 15, 16] (.seq [0, 3, 8, 9, 12, 13, 15, 16] (.seq [] .leaf (.cond .leaf .leaf)) (.seq [0, 3, 8, 9, 12, 13, 15, 16] (.blk (.seq [] .leaf (.seq [] .leaf (.cond (.seq [] .leaf .leaf) .leaf)))) .leaf)))))))))) .leaf))))) (.seq [] .leaf .leaf)))))))))
def A_law24_RolesNest (G_strings_IndexRune : List V → M V) (l : List V) : M V := match l with | [x0, x1] => F_law24_RolesNest G_strings_IndexRune x0 x1 | _ => fail
theorem e_law24_RolesNest (G_strings_IndexRune : List V → M V) (x0 x1 : V) : funM Tryd.prog (ovr [(fid_law24_works, A_law24_works G_strings_IndexRune), (fid_roles_Check, A_roles_Check G_strings_IndexRune), (fid_roles_Needs, A_roles_Needs), (fid_roles_May, A_roles_May)] noC) fid_law24_RolesNest h_law24_RolesNest [x0, x1] = F_law24_RolesNest G_strings_IndexRune x0 x1 := by kernel_rfl
theorem K_law24_RolesNest {G_strings_IndexRune : List V → M V} (k_strings_IndexRune : Known Tryd.prog fid_strings_IndexRune G_strings_IndexRune) : Known Tryd.prog fid_law24_RolesNest (A_law24_RolesNest G_strings_IndexRune) := known_of (σ := ovr [(fid_law24_works, A_law24_works G_strings_IndexRune), (fid_roles_Check, A_roles_Check G_strings_IndexRune), (fid_roles_Needs, A_roles_Needs), (fid_roles_May, A_roles_May)] noC) (hint := h_law24_RolesNest) (by kernel_rfl) (simAll_ovr (K_law24_works k_strings_IndexRune) (simAll_ovr (K_roles_Check k_strings_IndexRune) (simAll_ovr K_roles_Needs (simAll_ovr K_roles_May simAll_nil0)))) fun l H r H' h => by
  unfold A_law24_RolesNest at h; split at h
  · rw [e_law24_RolesNest]; exact h
  · exact (fail_ne h).elim

/-! ### capstan/roles.Aims -/
def roles_Aims_k0 (vs_4 : List V) : M Out :=
  bnd (lift (bin .add (at_ vs_4 4) (Value.int .i64 1))) fun x41 =>
  ret (.nxt [(at_ vs_4 0), (at_ vs_4 1), (at_ vs_4 2), (at_ vs_4 3), x41])
def roles_Aims_k1 (vs_3 : List V) : M Out :=
  bnd (
  bnd (
    bnd (lift (bin .neq (at_ vs_3 2) (Value.int .i64 8))) fun x28 =>
    bnd (gd x28 true (lift (some (at_ vs_3 0)))) fun x30 =>
    bnd (gd x28 true (lift (some (at_ vs_3 1)))) fun x31 =>
    bnd (gd x28 true (lift (some (at_ vs_3 2)))) fun x32 =>
    bnd (gd x28 true (lift (some (at_ vs_3 4)))) fun x33 =>
    bnd (gd x28 true (A_roles_May [x30, x31, x32, x33])) fun x34 =>
    bnd (gd x28 true (lift (bin .eql x34 (Value.int .i64 0)))) fun x35 =>
    bnd (lift (pickV x28 x35 (Value.bool false))) fun x36 =>
    condM x36 (
      bnd (bslc 1 1 (rep 1 [Value.int .i64 0]) [(0, 1, (at_ vs_3 4))]) fun x39 =>
      bnd (appV 1 8 (at_ vs_3 3) x39) fun x40 =>
      ret (.nxt [(at_ vs_3 0), (at_ vs_3 1), (at_ vs_3 2), x40, (at_ vs_3 4)])
      ) (
      ret (.nxt [(at_ vs_3 0), (at_ vs_3 1), (at_ vs_3 2), (at_ vs_3 3), (at_ vs_3 4)])
      )
    ) fun o => ret (unblk 1 o)
  ) fun o => nx o roles_Aims_k0
def roles_Aims_l2 (vs_2 : List V) : M Out :=
  bnd (lift (bin .lss (at_ vs_2 4) (Value.int .i64 8))) fun x25 =>
  bnd (
  condM x25 (
    ret (.nxt [(at_ vs_2 0), (at_ vs_2 1), (at_ vs_2 2), (at_ vs_2 3), (at_ vs_2 4)])
    ) (
    ret (.brk 0 [(at_ vs_2 3)])
    )
  ) fun o => nx o roles_Aims_k1
def roles_Aims_k3 (vs_5 : List V) : M Out :=
  ret (.ret [(at_ vs_5 0), (Value.int .i64 0)])
def roles_Aims_k4 (vs : List V) : M Out :=
  bnd (
    bnd (
      loopM FUEL roles_Aims_l2 [(at_ vs 0), (at_ vs 1), (at_ vs 2), (Value.slice none 0 0), (Value.int .i64 0)]
      ) fun o => ret (unblk 0 o)
    ) fun o => nx o roles_Aims_k3
def F_roles_Aims (x0 x1 x2 : V) : M V :=
  bnd (
    bnd (
      bnd (A_roles_asked [x0, x1, x2]) fun x17 =>
      bnd (lift (ext 0 x17)) fun x18 =>
      bnd (lift (ext 1 x17)) fun x19 =>
      bnd (lift (ext 2 x17)) fun x20 =>
      bnd (newc [Value.string ⟨#[]⟩, Value.string ⟨#[]⟩, Value.slice none 0 0]) fun x9 =>
      bnd (stn 3 x9 x19) fun _ =>
      bnd (lift (bin .neq x20 (Value.int .i64 0))) fun x22 =>
      condM x22 (
        ret (.ret [(Value.slice none 0 0), x20])
        ) (
        ret (.nxt [x0, x1, x2])
        )
      ) fun o => nx o roles_Aims_k4
    ) fun o => finM o fun vs => ret (outV [(at_ vs 0), (at_ vs 1)])
def h_roles_Aims : Hint := (.seq [] .leaf (.seq [0, 1, 2] (.seq [] .leaf (.seq [] .leaf (.cond (.seq [] .leaf .leaf) .leaf))) (.seq [] .leaf (.seq [11] (.seq [] .leaf (.blk (.loop [0, 1, 2, 11, 24] (.seq [] .leaf (.seq [0, 1, 2, 11, 24] (.cond .leaf .leaf) (.seq [0, 1, 2, 11, 24] (.blk (.seq [] .leaf (.seq [] .leaf (.cond .leaf .leaf)))) .leaf)))))) (.seq [] .leaf .leaf)))))
def A_roles_Aims (l : List V) : M V := match l with | [x0, x1, x2] => F_roles_Aims x0 x1 x2 | _ => fail
theorem e_roles_Aims (x0 x1 x2 : V) : funM Tryd.prog (ovr [(fid_roles_asked, A_roles_asked), (fid_roles_May, A_roles_May)] noC) fid_roles_Aims h_roles_Aims [x0, x1, x2] = F_roles_Aims x0 x1 x2 := by kernel_rfl
theorem K_roles_Aims : Known Tryd.prog fid_roles_Aims (A_roles_Aims) := known_of (σ := ovr [(fid_roles_asked, A_roles_asked), (fid_roles_May, A_roles_May)] noC) (hint := h_roles_Aims) (by kernel_rfl) (simAll_ovr K_roles_asked (simAll_ovr K_roles_May simAll_nil0)) fun l H r H' h => by
  unfold A_roles_Aims at h; split at h
  · rw [e_roles_Aims]; exact h
  · exact (fail_ne h).elim

/-! ### capstan/capstanbook.SameInts -/
def book_SameInts_k0 (vs_4 : List V) : M Out :=
  bnd (lift (bin .add (at_ vs_4 2) (Value.int .i64 1))) fun x16 =>
  ret (.nxt [(at_ vs_4 0), (at_ vs_4 1), x16])
def book_SameInts_k1 (vs_3 : List V) : M Out :=
  bnd (
  bnd (
    bnd (lift (iaddrS 1 (at_ vs_3 0) (at_ vs_3 2))) fun x19 =>
    bnd (lift (iaddrS 1 (at_ vs_3 1) (at_ vs_3 2))) fun x23 =>
    bnd (ld1 x19) fun x20 =>
    bnd (ld1 x23) fun x24 =>
    bnd (lift (bin .neq x20 x24)) fun x25 =>
    condM x25 (
      ret (.ret [(Value.bool false)])
      ) (
      ret (.nxt [(at_ vs_3 0), (at_ vs_3 1), (at_ vs_3 2)])
      )
    ) fun o => ret (unblk 1 o)
  ) fun o => nx o book_SameInts_k0
def book_SameInts_l2 (vs_2 : List V) : M Out :=
  bnd (
  bnd (lift (lenSlc (at_ vs_2 0))) fun x13 =>
  bnd (lift (bin .lss (at_ vs_2 2) x13)) fun x14 =>
  condM x14 (
    ret (.nxt [(at_ vs_2 0), (at_ vs_2 1), (at_ vs_2 2)])
    ) (
    ret (.brk 0 [])
    )
  ) fun o => nx o book_SameInts_k1
def book_SameInts_k3 (vs_5 : List V) : M Out :=
  ret (.ret [(Value.bool true)])
def book_SameInts_k4 (vs : List V) : M Out :=
  bnd (
    bnd (
      loopM FUEL book_SameInts_l2 [(at_ vs 0), (at_ vs 1), (Value.int .i64 0)]
      ) fun o => ret (unblk 0 o)
    ) fun o => nx o book_SameInts_k3
def F_book_SameInts (x0 x1 : V) : M V :=
  bnd (
    bnd (
      bnd (lift (lenSlc x0)) fun x7 =>
      bnd (lift (lenSlc x1)) fun x9 =>
      bnd (lift (bin .neq x7 x9)) fun x10 =>
      condM x10 (
        ret (.ret [(Value.bool false)])
        ) (
        ret (.nxt [x0, x1])
        )
      ) fun o => nx o book_SameInts_k4
    ) fun o => finM o fun vs => ret (outV [(at_ vs 0)])
def h_book_SameInts : Hint := (.seq [] .leaf (.seq [0, 1] (.seq [] .leaf (.cond (.seq [] .leaf .leaf) .leaf)) (.seq [] (.seq [] .leaf (.blk (.loop [0, 1, 5] (.seq [0, 1, 5] (.seq [] .leaf (.cond .leaf .leaf)) (.seq [0, 1, 5] (.blk (.seq [] (.reg [0, 1, 2, 4, 5, 6, 3, 7, 8] []) (.cond (.seq [] .leaf .leaf) .leaf))) .leaf))))) (.seq [] .leaf .leaf))))
def A_book_SameInts (l : List V) : M V := match l with | [x0, x1] => F_book_SameInts x0 x1 | _ => fail
theorem e_book_SameInts (x0 x1 : V) : funM Tryd.prog (ovr [] noC) fid_book_SameInts h_book_SameInts [x0, x1] = F_book_SameInts x0 x1 := by kernel_rfl
theorem K_book_SameInts : Known Tryd.prog fid_book_SameInts (A_book_SameInts) := known_of (σ := ovr [] noC) (hint := h_book_SameInts) (by kernel_rfl) simAll_nil0 fun l H r H' h => by
  unfold A_book_SameInts at h; split at h
  · rw [e_book_SameInts]; exact h
  · exact (fail_ne h).elim

/-! ### capstan/capstanlaw24.RolesOrder -/
def law24_RolesOrder_k0 (G_strings_IndexRune : List V → M V) (vs_5 : List V) : M Out :=
  bnd (lift (bin .sub (at_ vs_5 3) (Value.int .i64 1))) fun x32 =>
  ret (.nxt [(at_ vs_5 0), (at_ vs_5 1), (at_ vs_5 2), x32])
def law24_RolesOrder_k1 (G_strings_IndexRune : List V → M V) (vs_4 : List V) : M Out :=
  bnd (
  bnd (
    bnd (lift (iaddrS 3 (at_ vs_4 0) (at_ vs_4 3))) fun x36 =>
    bnd (ldn 3 x36) fun x37 =>
    bnd (bslc 3 1 (rep 1 [Value.string ⟨#[]⟩, Value.string ⟨#[]⟩, Value.slice none 0 0]) [(0, 3, x37)]) fun x38 =>
    bnd (appV 3 56 (at_ vs_4 2) x38) fun x39 =>
    ret (.nxt [(at_ vs_4 0), (at_ vs_4 1), x39, (at_ vs_4 3)])
    ) fun o => ret (unblk 1 o)
  ) fun o => nx o (law24_RolesOrder_k0 G_strings_IndexRune)
def law24_RolesOrder_l2 (G_strings_IndexRune : List V → M V) (vs_3 : List V) : M Out :=
  bnd (
  bnd (lift (bin .geq (at_ vs_3 3) (Value.int .i64 0))) fun x30 =>
  condM x30 (
    ret (.nxt [(at_ vs_3 0), (at_ vs_3 1), (at_ vs_3 2), (at_ vs_3 3)])
    ) (
    ret (.brk 0 [(at_ vs_3 0), (at_ vs_3 1), (at_ vs_3 2)])
    )
  ) fun o => nx o (law24_RolesOrder_k1 G_strings_IndexRune)
def law24_RolesOrder_k3 (G_strings_IndexRune : List V → M V) (vs_6 : List V) : M Out :=
  bnd (lift (faddr 0 (at_ vs_6 1))) fun x42 =>
  bnd (ld1 x42) fun x43 =>
  bnd (lift (faddr 1 (at_ vs_6 1))) fun x44 =>
  bnd (ld1 x44) fun x45 =>
  bnd (A_roles_Aims [(at_ vs_6 0), x43, x45]) fun x46 =>
  bnd (lift (ext 0 x46)) fun x47 =>
  bnd (lift (ext 1 x46)) fun x48 =>
  bnd (lift (faddr 0 (at_ vs_6 1))) fun x51 =>
  bnd (ld1 x51) fun x52 =>
  bnd (lift (faddr 1 (at_ vs_6 1))) fun x53 =>
  bnd (ld1 x53) fun x54 =>
  bnd (A_roles_Aims [(at_ vs_6 2), x52, x54]) fun x55 =>
  bnd (lift (ext 0 x55)) fun x56 =>
  bnd (lift (ext 1 x55)) fun x57 =>
  bnd (lift (faddr 3 (at_ vs_6 1))) fun x60 =>
  bnd (ld1 x60) fun x61 =>
  bnd ((A_roles_Check G_strings_IndexRune) [(at_ vs_6 2), x61]) fun x62 =>
  bnd (lift (ext 0 x62)) fun x63 =>
  bnd (lift (ext 1 x62)) fun x64 =>
  withH fun h0 =>
  bnd (lift (bin .eql x64 (Value.int .i64 0))) fun x66 =>
  bnd (gd x66 true (lift (some x48))) fun x68 =>
  bnd (gd x66 true (lift (some x57))) fun x69 =>
  bnd (gd x66 true (lift (bin .eql x68 x69))) fun x70 =>
  bnd (lift (pickV x66 x70 (Value.bool false))) fun x71 =>
  bnd (gd x71 true (lift (some x47))) fun x73 =>
  bnd (gd x71 true (lift (some x56))) fun x74 =>
  bndH (gd x71 true (A_book_SameInts [x73, x74])) fun ha x75 h1 =>
  bnd (lift (pickV x71 x75 (Value.bool false))) fun x76 =>
  bnd (gd x76 true (lift (some (at_ vs_6 0)))) fun x78 =>
  bnd (gd x76 true (lift (faddr 0 (at_ vs_6 1)))) fun x79 =>
  bnd (gd x76 true (lift (faddr 1 (at_ vs_6 1)))) fun x81 =>
  bnd (gd x76 true (lift (faddr 2 (at_ vs_6 1)))) fun x83 =>
  bnd (gd x76 true (lift (some (at_ vs_6 2)))) fun x86 =>
  bnd (gd x76 true (lift (faddr 0 (at_ vs_6 1)))) fun x87 =>
  bnd (gd x76 true (lift (faddr 1 (at_ vs_6 1)))) fun x89 =>
  bnd (gd x76 true (lift (faddr 2 (at_ vs_6 1)))) fun x91 =>
  bnd (gd x76 true (ld1 x79)) fun x80 =>
  bnd (gd x76 true (ld1 x81)) fun x82 =>
  bnd (gd x76 true (ld1 x83)) fun x84 =>
  bnd (gd x76 true (ld1 x87)) fun x88 =>
  bnd (gd x76 true (ld1 x89)) fun x90 =>
  bnd (gd x76 true (ld1 x91)) fun x92 =>
  bndH (gd x76 true (A_roles_May [x78, x80, x82, x84])) fun ha_2 x85 h2 =>
  bndH (gd x76 true (A_roles_May [x86, x88, x90, x92])) fun ha_3 x93 h3 =>
  bnd (gd x76 true (lift (bin .eql x85 x93))) fun x94 =>
  bnd (lift (pickV x76 x94 (Value.bool false))) fun x95 =>
  need (chk (gd x76 true (ld1 x87)) h2 x88) <|
  need (chk (gd x76 true (ld1 x89)) h2 x90) <|
  need (chk (gd x76 true (ld1 x91)) h2 x92) <|
  ret (.ret [x95])
def law24_RolesOrder_k4 (G_strings_IndexRune : List V → M V) (vs_2 : List V) : M Out :=
  bnd (
    bnd (lift (lenSlc (at_ vs_2 0))) fun x27 =>
    bnd (lift (bin .sub x27 (Value.int .i64 1))) fun x28 =>
    bnd (
      loopM FUEL (law24_RolesOrder_l2 G_strings_IndexRune) [(at_ vs_2 0), (at_ vs_2 1), (Value.slice none 0 0), x28]
      ) fun o => ret (unblk 0 o)
    ) fun o => nx o (law24_RolesOrder_k3 G_strings_IndexRune)
def law24_RolesOrder_k5 (G_strings_IndexRune : List V → M V) (vs : List V) : M Out :=
  bnd (
    bnd (lift (faddr 3 (at_ vs 1))) fun x19 =>
    bnd (ld1 x19) fun x20 =>
    bnd ((A_roles_Check G_strings_IndexRune) [(at_ vs 0), x20]) fun x21 =>
    bnd (lift (ext 0 x21)) fun x22 =>
    bnd (lift (ext 1 x21)) fun x23 =>
    bnd (lift (bin .neq x23 (Value.int .i64 0))) fun x25 =>
    condM x25 (
      ret (.ret [(Value.bool true)])
      ) (
      ret (.nxt [(at_ vs 0), (at_ vs 1)])
      )
    ) fun o => nx o (law24_RolesOrder_k4 G_strings_IndexRune)
def F_law24_RolesOrder (G_strings_IndexRune : List V → M V) (x0 x1 : V) : M V :=
  bnd (
    bnd (boxv x1) fun x3 =>
    bnd (
      bnd ((A_law24_works G_strings_IndexRune) []) fun x15 =>
      bnd (lift (un .not x15)) fun x16 =>
      condM x16 (
        ret (.ret [(Value.bool false)])
        ) (
        ret (.nxt [x0, x3])
        )
      ) fun o => nx o (law24_RolesOrder_k5 G_strings_IndexRune)
    ) fun o => finM o fun vs => ret (outV [(at_ vs 0)])
def h_law24_RolesOrder : Hint := (.seq [] .leaf (.seq [0, 3] (.seq [] .leaf (.cond (.seq [] .leaf .leaf) .leaf)) (.seq [0, 3] (.seq [] .leaf (.seq [] .leaf (.cond (.seq [] .leaf .leaf) .leaf))) (.seq [] .leaf (.seq [0, 3, 7] (.seq [] .leaf (.blk (.loop [0, 3, 7, 8] (.seq [0, 3, 7, 8] (.seq [] .leaf (.cond .leaf .leaf)) (.seq [0, 3, 7, 8] (.blk .leaf) .leaf))))) (.seq [] .leaf (.seq [] .leaf (.seq [] .leaf (.seq [] (.reg [0, 1, 2, 3, 4, 5, 6, 7, 8, 9, 10, 11, 12, 13, 14, 16, 18, 21, 22, 24, 26, 15, 17, 19, 23, 25, 27, 20, 28, 29, 30, 31] []) .leaf)))))))))
def A_law24_RolesOrder (G_strings_IndexRune : List V → M V) (l : List V) : M V := match l with | [x0, x1] => F_law24_RolesOrder G_strings_IndexRune x0 x1 | _ => fail
theorem e_law24_RolesOrder (G_strings_IndexRune : List V → M V) (x0 x1 : V) : funM Tryd.prog (ovr [(fid_law24_works, A_law24_works G_strings_IndexRune), (fid_roles_Check, A_roles_Check G_strings_IndexRune), (fid_roles_Aims, A_roles_Aims), (fid_book_SameInts, A_book_SameInts), (fid_roles_May, A_roles_May)] noC) fid_law24_RolesOrder h_law24_RolesOrder [x0, x1] = F_law24_RolesOrder G_strings_IndexRune x0 x1 := by kernel_rfl
theorem K_law24_RolesOrder {G_strings_IndexRune : List V → M V} (k_strings_IndexRune : Known Tryd.prog fid_strings_IndexRune G_strings_IndexRune) : Known Tryd.prog fid_law24_RolesOrder (A_law24_RolesOrder G_strings_IndexRune) := known_of (σ := ovr [(fid_law24_works, A_law24_works G_strings_IndexRune), (fid_roles_Check, A_roles_Check G_strings_IndexRune), (fid_roles_Aims, A_roles_Aims), (fid_book_SameInts, A_book_SameInts), (fid_roles_May, A_roles_May)] noC) (hint := h_law24_RolesOrder) (by kernel_rfl) (simAll_ovr (K_law24_works k_strings_IndexRune) (simAll_ovr (K_roles_Check k_strings_IndexRune) (simAll_ovr K_roles_Aims (simAll_ovr K_book_SameInts (simAll_ovr K_roles_May simAll_nil0))))) fun l H r H' h => by
  unfold A_law24_RolesOrder at h; split at h
  · rw [e_law24_RolesOrder]; exact h
  · exact (fail_ne h).elim

end Go.AM.Cap
