/- Printed by amprint2.py: functions of Yteekfnhhjmcohaa on the abstract machine. -/
import Derived.Test.YteekfnhhjmcohaaAmWp
import Derived.Test.YteekfnhhjmcohaaProg
set_option linter.all false
set_option linter.unusedVariables false
set_option maxRecDepth 100000
namespace Go.AM.Cap
open Go.AM Go.Proofs

def fid_law20_PortsAges : Nat := 3
def fid_law20_PortsPlay : Nat := 4
def fid_law20_PortsOrder : Nat := 5
def fid_law20_PortsUndo : Nat := 6
def fid_law20_PortsFlow : Nat := 7
def fid_law20_PortsApart : Nat := 8
def fid_ports_New : Nat := 9
def fid_law20_works : Nat := 10
def fid_ports_Box_Send : Nat := 11
def fid_ports_Box_Frame : Nat := 12
def fid_ports_Box_Recv : Nat := 13
def fid_ports_Check : Nat := 14
def fid_ref20_Check : Nat := 15
def fid_ref20_New : Nat := 16
def fid_law20_among : Nat := 17
def fid_ref20_Box_Send : Nat := 18
def fid_ref20_Box_Recv : Nat := 19
def fid_ref20_Box_Frame : Nat := 20
def fid_ports_Box_Undo : Nat := 21
def fid_ref20_Box_Undo : Nat := 22
def fid_ports_Box_Waits : Nat := 23
def fid_ref20_Box_Waits : Nat := 24
def fid_book_SameNums : Nat := 25
def fid_law20_do : Nat := 26
def fid_ports_Flows : Nat := 27
def fid_ref20_Flows : Nat := 28
def fid_book_SameInts : Nat := 29
def fid_slices_Clone_S_api_Port_api_Port : Nat := 30
def fid_ports_Box_port : Nat := 31
def fid_num_Fits : Nat := 32
def fid_ports_state_frame : Nat := 33
def fid_ports_wrong : Nat := 34
def fid_ref20_may : Nat := 35
def fid_ref20_part : Nat := 36
def fid_ref04_Fits : Nat := 37
def fid_ports_there : Nat := 38
def fid_slices_Contains_S_int_int : Nat := 39
def fid_slices_Sort_S_int_int : Nat := 40
def fid_num_known : Nat := 41
def fid_num_wrap : Nat := 42
def fid_ref04_Type : Nat := 43
def fid_ref04_size : Nat := 44
def fid_slices_Index_S_int_int : Nat := 45
def fid_slices_pdqsortOrdered_int : Nat := 46
def fid_math_bits_Len : Nat := 47
def fid_slices_insertionSortOrdered_int : Nat := 48
def fid_slices_heapSortOrdered_int : Nat := 49
def fid_slices_breakPatternsOrdered_int : Nat := 50
def fid_slices_choosePivotOrdered_int : Nat := 51
def fid_slices_reverseRangeOrdered_int : Nat := 52
def fid_slices_partialInsertionSortOrdered_int : Nat := 53
def fid_cmp_Less_int : Nat := 54
def fid_slices_partitionEqualOrdered_int : Nat := 55
def fid_slices_partitionOrdered_int : Nat := 56
def fid_math_bits_Len32 : Nat := 57
def fid_math_bits_Len64 : Nat := 58
def fid_slices_siftDownOrdered_int : Nat := 59
def fid_slices_nextPowerOfTwo : Nat := 60
def fid_slices_xorshift_Next : Nat := 61
def fid_slices_medianAdjacentOrdered_int : Nat := 62
def fid_slices_medianOrdered_int : Nat := 63
def fid_cmp_isNaN_int : Nat := 64
def fid_slices_order2Ordered_int : Nat := 65

/-! ### capstan/ports.there -/
def F_ports_there (x0 : V) : M V :=
  bnd (
    bnd (lift (bin .geq x0 (Value.int .i64 0))) fun x4 =>
    bnd (gd x4 true (lift (some x0))) fun x6 =>
    bnd (gd x4 true (lift (bin .lss x6 (Value.int .i64 8)))) fun x7 =>
    bnd (lift (pickV x4 x7 (Value.bool false))) fun x8 =>
    ret (.ret [x8])
    ) fun o => finM o fun vs => ret (outV [(at_ vs 0)])
def h_ports_there : Hint := (.seq [] .leaf (.seq [] .leaf .leaf))
def A_ports_there (l : List V) : M V := match l with | [x0] => F_ports_there x0 | _ => fail
theorem e_ports_there (x0 : V) : funM Try.prog (ovr [] noC) fid_ports_there h_ports_there [x0] = F_ports_there x0 := by kernel_rfl
theorem K_ports_there : Known Try.prog fid_ports_there (A_ports_there) := known_of (σ := ovr [] noC) (hint := h_ports_there) (by kernel_rfl) simAll_nil0 fun l H r H' h => by
  unfold A_ports_there at h; split at h
  · rw [e_ports_there]; exact h
  · exact (fail_ne h).elim

/-! ### capstan/ports.wrong -/
def ports_wrong_k0 (vs_2 : List V) : M Out :=
  ret (.ret [(Value.int .i64 0)])
def ports_wrong_k1 (vs : List V) : M Out :=
  bnd (
    bnd (
      bnd (lift (faddr 0 (at_ vs 0))) fun x9 =>
      bnd (ld1 x9) fun x10 =>
      bnd (lift (bin .neq x10 (Value.int .i64 1))) fun x11 =>
      bnd (gd x11 true (lift (faddr 0 (at_ vs 0)))) fun x13 =>
      bnd (gd x11 true (ld1 x13)) fun x14 =>
      bnd (gd x11 true (lift (bin .neq x14 (Value.int .i64 2)))) fun x15 =>
      bnd (lift (pickV x11 x15 (Value.bool false))) fun x16 =>
      condM x16 (
        ret (.ret [(Value.int .i64 91)])
        ) (
        bnd (lift (faddr 1 (at_ vs 0))) fun x18 =>
        bnd (ld1 x18) fun x19 =>
        bnd (A_ports_there [x19]) fun x20 =>
        bnd (lift (un .not x20)) fun x21 =>
        bnd (gd x21 false (lift (faddr 2 (at_ vs 0)))) fun x23 =>
        bnd (gd x21 false (ld1 x23)) fun x24 =>
        bnd (gd x21 false (A_ports_there [x24])) fun x25 =>
        bnd (gd x21 false (lift (un .not x25))) fun x26 =>
        bnd (lift (pickV x21 (Value.bool true) x26)) fun x27 =>
        condM x27 (
          ret (.ret [(Value.int .i64 1)])
          ) (
          bnd (lift (faddr 1 (at_ vs 0))) fun x29 =>
          bnd (ld1 x29) fun x30 =>
          bnd (lift (faddr 2 (at_ vs 0))) fun x31 =>
          bnd (ld1 x31) fun x32 =>
          bnd (lift (bin .eql x30 x32)) fun x33 =>
          condM x33 (
            ret (.ret [(Value.int .i64 4)])
            ) (
            bnd (lift (faddr 3 (at_ vs 0))) fun x35 =>
            bnd (ld1 x35) fun x36 =>
            bnd (lift (bin .lss x36 (Value.int .i64 1))) fun x37 =>
            bnd (gd x37 false (lift (faddr 3 (at_ vs 0)))) fun x39 =>
            bnd (gd x37 false (ld1 x39)) fun x40 =>
            bnd (gd x37 false (lift (bin .gtr x40 (Value.int .i64 3)))) fun x41 =>
            bnd (lift (pickV x37 (Value.bool true) x41)) fun x42 =>
            condM x42 (
              ret (.ret [(Value.int .i64 40)])
              ) (
              bnd (lift (faddr 4 (at_ vs 0))) fun x44 =>
              bnd (ld1 x44) fun x45 =>
              bnd (lift (bin .lss x45 (at_ vs 1))) fun x47 =>
              bnd (gd x47 false (lift (faddr 4 (at_ vs 0)))) fun x49 =>
              bnd (gd x47 false (ld1 x49)) fun x50 =>
              bnd (gd x47 false (lift (some (at_ vs 2)))) fun x51 =>
              bnd (gd x47 false (lift (bin .gtr x50 x51))) fun x52 =>
              bnd (lift (pickV x47 (Value.bool true) x52)) fun x53 =>
              condM x53 (
                ret (.ret [(Value.int .i64 1)])
                ) (
                ret (.nxt [])
                )
              )
            )
          )
        )
      ) fun o => ret (unblk 0 o)
    ) fun o => nx o ports_wrong_k0
def F_ports_wrong (x0 : V) : M V :=
  bnd (
    bnd (boxv x0) fun x1 =>
    bnd (
      bnd (lift (faddr 0 x1)) fun x5 =>
      bnd (ld1 x5) fun x6 =>
      bnd (lift (bin .eql x6 (Value.int .i64 2))) fun x7 =>
      condM x7 (
        ret (.nxt [x1, (Value.int .i64 1), (Value.int .i64 16)])
        ) (
        ret (.nxt [x1, (Value.int .i64 0), (Value.int .i64 0)])
        )
      ) fun o => nx o ports_wrong_k1
    ) fun o => finM o fun vs => ret (outV [(at_ vs 0)])
def h_ports_wrong : Hint := (.seq [] .leaf (.seq [] .leaf (.seq [1, 3, 4] (.seq [] .leaf (.cond .leaf .leaf)) (.seq [] (.blk (.seq [] .leaf (.cond (.seq [] .leaf .leaf) (.seq [] .leaf (.cond (.seq [] .leaf .leaf) (.seq [] .leaf (.cond (.seq [] .leaf .leaf) (.seq [] .leaf (.cond (.seq [] .leaf .leaf) (.seq [] .leaf (.cond (.seq [] .leaf .leaf) .leaf))))))))))) (.seq [] .leaf .leaf)))))
def A_ports_wrong (l : List V) : M V := match l with | [x0] => F_ports_wrong x0 | _ => fail
theorem e_ports_wrong (x0 : V) : funM Try.prog (ovr [(fid_ports_there, A_ports_there)] noC) fid_ports_wrong h_ports_wrong [x0] = F_ports_wrong x0 := by kernel_rfl
theorem K_ports_wrong : Known Try.prog fid_ports_wrong (A_ports_wrong) := known_of (σ := ovr [(fid_ports_there, A_ports_there)] noC) (hint := h_ports_wrong) (by kernel_rfl) (simAll_ovr K_ports_there simAll_nil0) fun l H r H' h => by
  unfold A_ports_wrong at h; split at h
  · rw [e_ports_wrong]; exact h
  · exact (fail_ne h).elim

/-! ### capstan/ports.Check -/
def ports_Check_k0 (vs_4 : List V) : M Out :=
  bnd (lift (bin .add (at_ vs_4 2) (Value.int .i64 1))) fun x23 =>
  ret (.nxt [(at_ vs_4 0), (at_ vs_4 1), x23])
def ports_Check_k1 (vs_3 : List V) : M Out :=
  bnd (
  bnd (
    bnd (lift (iaddrS 5 (at_ vs_3 0) (at_ vs_3 2))) fun x15 =>
    bnd (ldn 5 x15) fun x16 =>
    bnd (newc [Value.int .i64 0, Value.int .i64 0, Value.int .i64 0, Value.int .i64 0, Value.int .i64 0]) fun x5 =>
    bnd (stn 5 x5 x16) fun _ =>
    bnd (ldn 5 x5) fun x17 =>
    bnd (A_ports_wrong [x17]) fun x18 =>
    bnd (lift (bin .neq x18 (Value.int .i64 0))) fun x20 =>
    condM x20 (
      ret (.ret [(at_ vs_3 2), x18])
      ) (
      ret (.nxt [(at_ vs_3 0), (at_ vs_3 1), (at_ vs_3 2)])
      )
    ) fun o => ret (unblk 1 o)
  ) fun o => nx o ports_Check_k0
def ports_Check_l2 (vs_2 : List V) : M Out :=
  bnd (lift (bin .lss (at_ vs_2 2) (at_ vs_2 1))) fun x13 =>
  bnd (
  condM x13 (
    ret (.nxt [(at_ vs_2 0), (at_ vs_2 1), (at_ vs_2 2)])
    ) (
    ret (.brk 0 [])
    )
  ) fun o => nx o ports_Check_k1
def ports_Check_k3 (vs_5 : List V) : M Out :=
  ret (.ret [(Value.int .i64 0), (Value.int .i64 0)])
def ports_Check_k4 (vs : List V) : M Out :=
  bnd (
    bnd (lift (lenSlc (at_ vs 0))) fun x11 =>
    bnd (
      loopM FUEL ports_Check_l2 [(at_ vs 0), x11, (Value.int .i64 0)]
      ) fun o => ret (unblk 0 o)
    ) fun o => nx o ports_Check_k3
def F_ports_Check (x0 : V) : M V :=
  bnd (
    bnd (
      bnd (lift (lenSlc x0)) fun x8 =>
      bnd (lift (bin .gtr x8 (Value.int .i64 16))) fun x9 =>
      condM x9 (
        ret (.ret [(Value.int .i64 (-1)), (Value.int .i64 2)])
        ) (
        ret (.nxt [x0])
        )
      ) fun o => nx o ports_Check_k4
    ) fun o => finM o fun vs => ret (outV [(at_ vs 0), (at_ vs 1)])
def h_ports_Check : Hint := (.seq [] .leaf (.seq [0] (.seq [] .leaf (.cond (.seq [] .leaf .leaf) .leaf)) (.seq [] (.seq [] .leaf (.blk (.loop [10, 11, 12] (.seq [] .leaf (.seq [10, 11, 12] (.cond .leaf .leaf) (.seq [10, 11, 12] (.blk (.seq [] .leaf (.seq [] .leaf (.seq [] .leaf (.cond (.seq [] .leaf .leaf) .leaf))))) .leaf)))))) (.seq [] .leaf .leaf))))
def A_ports_Check (l : List V) : M V := match l with | [x0] => F_ports_Check x0 | _ => fail
theorem e_ports_Check (x0 : V) : funM Try.prog (ovr [(fid_ports_wrong, A_ports_wrong)] noC) fid_ports_Check h_ports_Check [x0] = F_ports_Check x0 := by kernel_rfl
theorem K_ports_Check : Known Try.prog fid_ports_Check (A_ports_Check) := known_of (σ := ovr [(fid_ports_wrong, A_ports_wrong)] noC) (hint := h_ports_Check) (by kernel_rfl) (simAll_ovr K_ports_wrong simAll_nil0) fun l H r H' h => by
  unfold A_ports_Check at h; split at h
  · rw [e_ports_Check]; exact h
  · exact (fail_ne h).elim

/-! ### slices.Clone[[]capstan/api.Port,capstan/api.Port] -/
def slices_Clone_S_api_Port_api_Port_k0 (vs : List V) : M Out :=
  bnd (bslc 5 0 (rep 0 [Value.int .i64 0, Value.int .i64 0, Value.int .i64 0, Value.int .i64 0, Value.int .i64 0]) []) fun x5 =>
  bnd (appV 5 40 x5 (at_ vs 0)) fun x7 =>
  ret (.ret [x7])
def F_slices_Clone_S_api_Port_api_Port (x0 : V) : M V :=
  bnd (
    bnd (
      bnd (lift (notIf false (isNil .s x0))) fun x4 =>
      condM x4 (
        ret (.ret [(Value.slice none 0 0)])
        ) (
        ret (.nxt [x0])
        )
      ) fun o => nx o slices_Clone_S_api_Port_api_Port_k0
    ) fun o => finM o fun vs => ret (outV [(at_ vs 0)])
def h_slices_Clone_S_api_Port_api_Port : Hint := (.seq [] .leaf (.seq [0] (.seq [] .leaf (.cond (.seq [] .leaf .leaf) .leaf)) (.seq [] .leaf .leaf)))
def A_slices_Clone_S_api_Port_api_Port (l : List V) : M V := match l with | [x0] => F_slices_Clone_S_api_Port_api_Port x0 | _ => fail
theorem e_slices_Clone_S_api_Port_api_Port (x0 : V) : funM Try.prog (ovr [] noC) fid_slices_Clone_S_api_Port_api_Port h_slices_Clone_S_api_Port_api_Port [x0] = F_slices_Clone_S_api_Port_api_Port x0 := by kernel_rfl
theorem K_slices_Clone_S_api_Port_api_Port : Known Try.prog fid_slices_Clone_S_api_Port_api_Port (A_slices_Clone_S_api_Port_api_Port) := known_of (σ := ovr [] noC) (hint := h_slices_Clone_S_api_Port_api_Port) (by kernel_rfl) simAll_nil0 fun l H r H' h => by
  unfold A_slices_Clone_S_api_Port_api_Port at h; split at h
  · rw [e_slices_Clone_S_api_Port_api_Port]; exact h
  · exact (fail_ne h).elim

/-! ### capstan/ports.New -/
def ports_New_k0 (vs : List V) : M Out :=
  withResv 1 fun base h0 =>
  bnd (lift (lenSlc (at_ vs 0))) fun x17 =>
  bndH (A_slices_Clone_S_api_Port_api_Port [(at_ vs 0)]) fun ha x15 h1 =>
  need (freeIn ha [base + 0] && freeIn h1 [base + 0]) <|
  bnd (flt (base + 0) (mkslc 4 64 [Value.slice none 0 0, Value.slice none 0 0, Value.int .i64 0, Value.int .i64 0] x17 x17)) fun x18 =>
  bnd (lift (build [Value.slice none 0 0, Value.slice none 0 0] [(0, 1, x15), (1, 1, x18)])) fun x19 =>
  bndH (boxv x19) fun ha_2 x20 h2 =>
  ret (.ret [x20, (Value.int .i64 0)])
def F_ports_New (x0 : V) : M V :=
  bnd (
    bnd (
      bnd (A_ports_Check [x0]) fun x8 =>
      bnd (lift (ext 0 x8)) fun x9 =>
      bnd (lift (ext 1 x8)) fun x10 =>
      bnd (lift (bin .neq x10 (Value.int .i64 0))) fun x12 =>
      condM x12 (
        ret (.ret [(Value.pointer none), x10])
        ) (
        ret (.nxt [x0])
        )
      ) fun o => nx o ports_New_k0
    ) fun o => finM o fun vs => ret (outV [(at_ vs 0), (at_ vs 1)])
def h_ports_New : Hint := (.seq [] .leaf (.seq [0] (.seq [] .leaf (.seq [] .leaf (.cond (.seq [] .leaf .leaf) .leaf))) (.seq [] (.reg [0, 2, 3, 1, 4, 5, 6, 7, 8] [4]) .leaf)))
def A_ports_New (l : List V) : M V := match l with | [x0] => F_ports_New x0 | _ => fail
theorem e_ports_New (x0 : V) : funM Try.prog (ovr [(fid_ports_Check, A_ports_Check), (fid_slices_Clone_S_api_Port_api_Port, A_slices_Clone_S_api_Port_api_Port)] noC) fid_ports_New h_ports_New [x0] = F_ports_New x0 := by kernel_rfl
theorem K_ports_New : Known Try.prog fid_ports_New (A_ports_New) := known_of (σ := ovr [(fid_ports_Check, A_ports_Check), (fid_slices_Clone_S_api_Port_api_Port, A_slices_Clone_S_api_Port_api_Port)] noC) (hint := h_ports_New) (by kernel_rfl) (simAll_ovr K_ports_Check (simAll_ovr K_slices_Clone_S_api_Port_api_Port simAll_nil0)) fun l H r H' h => by
  unfold A_ports_New at h; split at h
  · rw [e_ports_New]; exact h
  · exact (fail_ne h).elim

/-! ### (*capstan/ports.Box).port -/
def ports_Box_port_k0 (vs : List V) : M Out :=
  withH fun h0 =>
  bnd (lift (nilck (at_ vs 0))) fun x26 =>
  bnd (lift (faddr 0 x26)) fun x27 =>
  bnd (lift (nilck (at_ vs 0))) fun x33 =>
  bnd (lift (faddr 1 x33)) fun x34 =>
  bnd (ld1 x27) fun x28 =>
  bnd (lift (iaddrS 5 x28 (at_ vs 1))) fun x30 =>
  bnd (ldn 5 x30) fun x31 =>
  bnd (ld1 x34) fun x35 =>
  bnd (lift (iaddrS 4 x35 (at_ vs 1))) fun x37 =>
  bndH (stn 5 (at_ vs 2) x31) fun ha u h1 =>
  need (chk (ld1 x34) h1 x35) <|
  ret (.ret [(at_ vs 2), x37])
def F_ports_Box_port (x0 x1 x2 : V) : M V :=
  bnd (
    bnd (newc [Value.int .i64 0, Value.int .i64 0, Value.int .i64 0, Value.int .i64 0, Value.int .i64 0]) fun x6 =>
    bnd (
      bnd (A_ports_there [x1]) fun x9 =>
      bnd (lift (un .not x9)) fun x10 =>
      bnd (gd x10 false (lift (some x2))) fun x12 =>
      bnd (gd x10 false (lift (bin .lss x12 (Value.int .i64 0)))) fun x13 =>
      bnd (lift (pickV x10 (Value.bool true) x13)) fun x14 =>
      bnd (gd x14 false (lift (some x2))) fun x16 =>
      bnd (gd x14 false (lift (some x0))) fun x17 =>
      bnd (gd x14 false (lift (nilck x17))) fun x18 =>
      bnd (gd x14 false (lift (faddr 0 x18))) fun x19 =>
      bnd (gd x14 false (ld1 x19)) fun x20 =>
      bnd (gd x14 false (lift (lenSlc x20))) fun x21 =>
      bnd (gd x14 false (lift (bin .geq x16 x21))) fun x22 =>
      bnd (lift (pickV x14 (Value.bool true) x22)) fun x23 =>
      condM x23 (
        bnd (lift (build [Value.int .i64 0, Value.int .i64 0, Value.int .i64 0, Value.int .i64 0, Value.int .i64 0] [])) fun x24 =>
        bnd (stn 5 x6 x24) fun _ =>
        ret (.ret [x6, (Value.pointer none)])
        ) (
        ret (.nxt [x0, x2, x6])
        )
      ) fun o => nx o ports_Box_port_k0
    ) fun o => finM o fun vs => bnd (ldn 5 (at_ vs 0)) fun r0 => ret (outV [r0, (at_ vs 1)])
def h_ports_Box_port : Hint := (.seq [] .leaf (.seq [0, 2, 6] (.seq [] .leaf (.cond (.seq [] .leaf .leaf) .leaf)) (.seq [] (.reg [0, 1, 2, 4, 7, 8, 9, 11, 3, 5, 6, 10, 12, 13, 14] []) .leaf)))
def A_ports_Box_port (l : List V) : M V := match l with | [x0, x1, x2] => F_ports_Box_port x0 x1 x2 | _ => fail
theorem e_ports_Box_port (x0 x1 x2 : V) : funM Try.prog (ovr [(fid_ports_there, A_ports_there)] noC) fid_ports_Box_port h_ports_Box_port [x0, x1, x2] = F_ports_Box_port x0 x1 x2 := by kernel_rfl
theorem K_ports_Box_port : Known Try.prog fid_ports_Box_port (A_ports_Box_port) := known_of (σ := ovr [(fid_ports_there, A_ports_there)] noC) (hint := h_ports_Box_port) (by kernel_rfl) (simAll_ovr K_ports_there simAll_nil0) fun l H r H' h => by
  unfold A_ports_Box_port at h; split at h
  · rw [e_ports_Box_port]; exact h
  · exact (fail_ne h).elim

/-! ### capstan/num.known -/
def F_num_known (x0 : V) : M V :=
  bnd (
    bnd (lift (bin .geq x0 (Value.int .i64 1))) fun x4 =>
    bnd (gd x4 true (lift (some x0))) fun x6 =>
    bnd (gd x4 true (lift (bin .leq x6 (Value.int .i64 4)))) fun x7 =>
    bnd (lift (pickV x4 x7 (Value.bool false))) fun x8 =>
    ret (.ret [x8])
    ) fun o => finM o fun vs => ret (outV [(at_ vs 0)])
def h_num_known : Hint := (.seq [] .leaf (.seq [] .leaf .leaf))
def A_num_known (l : List V) : M V := match l with | [x0] => F_num_known x0 | _ => fail
theorem e_num_known (x0 : V) : funM Try.prog (ovr [] noC) fid_num_known h_num_known [x0] = F_num_known x0 := by kernel_rfl
theorem K_num_known : Known Try.prog fid_num_known (A_num_known) := known_of (σ := ovr [] noC) (hint := h_num_known) (by kernel_rfl) simAll_nil0 fun l H r H' h => by
  unfold A_num_known at h; split at h
  · rw [e_num_known]; exact h
  · exact (fail_ne h).elim

/-! ### capstan/num.wrap -/
def num_wrap_k0 (vs : List V) : M Out :=
  bnd (lift (cvi .i32 (at_ vs 0))) fun x16 =>
  bnd (lift (cvi .i64 x16)) fun x17 =>
  ret (.ret [x17])
def F_num_wrap (x0 x1 : V) : M V :=
  bnd (
    bnd (
      bnd (
        bnd (lift (bin .eql x0 (Value.int .i64 1))) fun x7 =>
        condM x7 (
          bnd (lift (bin .and x1 (Value.int .i64 1))) fun x9 =>
          ret (.ret [x9])
          ) (
          bnd (lift (bin .eql x0 (Value.int .i64 2))) fun x11 =>
          condM x11 (
            bnd (lift (cvi .i16 x1)) fun x13 =>
            bnd (lift (cvi .i64 x13)) fun x14 =>
            ret (.ret [x14])
            ) (
            ret (.nxt [x1])
            )
          )
        ) fun o => ret (unblk 0 o)
      ) fun o => nx o num_wrap_k0
    ) fun o => finM o fun vs => ret (outV [(at_ vs 0)])
def h_num_wrap : Hint := (.seq [] .leaf (.seq [1] (.seq [] .leaf (.blk (.seq [] .leaf (.cond (.seq [] .leaf .leaf) (.seq [] .leaf (.cond (.seq [] .leaf .leaf) .leaf)))))) (.seq [] .leaf .leaf)))
def A_num_wrap (l : List V) : M V := match l with | [x0, x1] => F_num_wrap x0 x1 | _ => fail
theorem e_num_wrap (x0 x1 : V) : funM Try.prog (ovr [] noC) fid_num_wrap h_num_wrap [x0, x1] = F_num_wrap x0 x1 := by kernel_rfl
theorem K_num_wrap : Known Try.prog fid_num_wrap (A_num_wrap) := known_of (σ := ovr [] noC) (hint := h_num_wrap) (by kernel_rfl) simAll_nil0 fun l H r H' h => by
  unfold A_num_wrap at h; split at h
  · rw [e_num_wrap]; exact h
  · exact (fail_ne h).elim

/-! ### capstan/num.Fits -/
def F_num_Fits (x0 x1 : V) : M V :=
  bnd (
    bnd (A_num_known [x0]) fun x6 =>
    bnd (gd x6 true (lift (some x0))) fun x8 =>
    bnd (gd x6 true (lift (some x1))) fun x9 =>
    bnd (gd x6 true (A_num_wrap [x8, x9])) fun x10 =>
    bnd (gd x6 true (lift (some x1))) fun x11 =>
    bnd (gd x6 true (lift (bin .eql x10 x11))) fun x12 =>
    bnd (lift (pickV x6 x12 (Value.bool false))) fun x13 =>
    ret (.ret [x13])
    ) fun o => finM o fun vs => ret (outV [(at_ vs 0)])
def h_num_Fits : Hint := (.seq [] .leaf (.seq [] .leaf .leaf))
def A_num_Fits (l : List V) : M V := match l with | [x0, x1] => F_num_Fits x0 x1 | _ => fail
theorem e_num_Fits (x0 x1 : V) : funM Try.prog (ovr [(fid_num_known, A_num_known), (fid_num_wrap, A_num_wrap)] noC) fid_num_Fits h_num_Fits [x0, x1] = F_num_Fits x0 x1 := by kernel_rfl
theorem K_num_Fits : Known Try.prog fid_num_Fits (A_num_Fits) := known_of (σ := ovr [(fid_num_known, A_num_known), (fid_num_wrap, A_num_wrap)] noC) (hint := h_num_Fits) (by kernel_rfl) (simAll_ovr K_num_known (simAll_ovr K_num_wrap simAll_nil0)) fun l H r H' h => by
  unfold A_num_Fits at h; split at h
  · rw [e_num_Fits]; exact h
  · exact (fail_ne h).elim

/-! ### (*capstan/ports.Box).Send -/
def ports_Box_Send_k0 (vs : List V) : M Out :=
  ret (.ret [(Value.int .i64 0)])
def F_ports_Box_Send (x0 x1 x2 x3 : V) : M V :=
  bnd (
    bnd (A_ports_Box_port [x0, x1, x2]) fun x15 =>
    bnd (lift (ext 0 x15)) fun x16 =>
    bnd (lift (ext 1 x15)) fun x17 =>
    bnd (newc [Value.int .i64 0, Value.int .i64 0, Value.int .i64 0, Value.int .i64 0, Value.int .i64 0]) fun x9 =>
    bnd (stn 5 x9 x16) fun _ =>
    bnd (
      bnd (
        bnd (lift (notIf false (isNil .p x17))) fun x30 =>
        condM x30 (
          ret (.ret [(Value.int .i64 1)])
          ) (
          bnd (lift (faddr 1 x9)) fun x32 =>
          bnd (ld1 x32) fun x33 =>
          bnd (lift (bin .neq x33 x1)) fun x35 =>
          condM x35 (
            ret (.ret [(Value.int .i64 200)])
            ) (
            bnd (lift (faddr 3 x9)) fun x37 =>
            bnd (ld1 x37) fun x38 =>
            bnd (A_num_Fits [x38, x3]) fun x40 =>
            bnd (lift (un .not x40)) fun x41 =>
            condM x41 (
              ret (.ret [(Value.int .i64 1)])
              ) (
              bnd (lift (faddr 0 x9)) fun x43 =>
              bnd (ld1 x43) fun x44 =>
              bnd (lift (bin .eql x44 (Value.int .i64 1))) fun x45 =>
              condM x45 (
                bnd (bslc 1 1 (rep 1 [Value.int .i64 0]) [(0, 1, x3)]) fun x48 =>
                bnd (lift (nilck x17)) fun x49 =>
                bnd (lift (faddr 0 x49)) fun x50 =>
                bnd (st1 x50 x48) fun _ =>
                ret (.nxt [])
                ) (
                bnd (lift (nilck x17)) fun x53 =>
                bnd (lift (faddr 0 x53)) fun x54 =>
                bnd (lift (faddr 4 x9)) fun x57 =>
                bnd (ld1 x54) fun x55 =>
                bnd (lift (lenSlc x55)) fun x56 =>
                bnd (ld1 x57) fun x58 =>
                bnd (lift (bin .geq x56 x58)) fun x59 =>
                condM x59 (
                  bnd (lift (nilck x17)) fun x61 =>
                  bnd (lift (faddr 3 x61)) fun x62 =>
                  bnd (ld1 x62) fun x63 =>
                  bnd (lift (bin .add x63 (Value.int .i64 1))) fun x64 =>
                  bnd (lift (nilck x17)) fun x65 =>
                  bnd (lift (faddr 3 x65)) fun x66 =>
                  bnd (st1 x66 x64) fun _ =>
                  ret (.ret [(Value.int .i64 2)])
                  ) (
                  bnd (lift (nilck x17)) fun x20 =>
                  bnd (lift (faddr 0 x20)) fun x21 =>
                  bnd (ld1 x21) fun x22 =>
                  bnd (bslc 1 1 (rep 1 [Value.int .i64 0]) [(0, 1, x3)]) fun x24 =>
                  bnd (appV 1 8 x22 x24) fun x25 =>
                  bnd (lift (nilck x17)) fun x26 =>
                  bnd (lift (faddr 0 x26)) fun x27 =>
                  bnd (st1 x27 x25) fun _ =>
                  ret (.nxt [])
                  )
                )
              )
            )
          )
        ) fun o => ret (unblk 0 o)
      ) fun o => nx o ports_Box_Send_k0
    ) fun o => finM o fun vs => ret (outV [(at_ vs 0)])
def h_ports_Box_Send : Hint := (.seq [] .leaf (.seq [] .leaf (.seq [] (.blk (.seq [] .leaf (.cond (.seq [] .leaf .leaf) (.seq [] .leaf (.cond (.seq [] .leaf .leaf) (.seq [] .leaf (.cond (.seq [] .leaf .leaf) (.seq [] .leaf (.cond .leaf (.seq [] (.reg [0, 1, 2, 5, 3, 4, 6, 7, 8] []) (.cond (.seq [] .leaf (.seq [] .leaf .leaf)) .leaf))))))))))) (.seq [] .leaf .leaf))))
def A_ports_Box_Send (l : List V) : M V := match l with | [x0, x1, x2, x3] => F_ports_Box_Send x0 x1 x2 x3 | _ => fail
theorem e_ports_Box_Send (x0 x1 x2 x3 : V) : funM Try.prog (ovr [(fid_ports_Box_port, A_ports_Box_port), (fid_num_Fits, A_num_Fits)] noC) fid_ports_Box_Send h_ports_Box_Send [x0, x1, x2, x3] = F_ports_Box_Send x0 x1 x2 x3 := by kernel_rfl
theorem K_ports_Box_Send : Known Try.prog fid_ports_Box_Send (A_ports_Box_Send) := known_of (σ := ovr [(fid_ports_Box_port, A_ports_Box_port), (fid_num_Fits, A_num_Fits)] noC) (hint := h_ports_Box_Send) (by kernel_rfl) (simAll_ovr K_ports_Box_port (simAll_ovr K_num_Fits simAll_nil0)) fun l H r H' h => by
  unfold A_ports_Box_Send at h; split at h
  · rw [e_ports_Box_Send]; exact h
  · exact (fail_ne h).elim

/-! ### (*capstan/ports.Box).Recv -/
def ports_Box_Recv_k0 (vs : List V) : M Out :=
  bnd (lift (nilck (at_ vs 0))) fun x48 =>
  bnd (lift (faddr 1 x48)) fun x49 =>
  bnd (ld1 x49) fun x50 =>
  bnd (lift (iaddrS 1 x50 (Value.int .i64 0))) fun x51 =>
  bnd (ld1 x51) fun x52 =>
  bnd (lift (nilck (at_ vs 0))) fun x55 =>
  bnd (lift (faddr 1 x55)) fun x56 =>
  bnd (ld1 x56) fun x57 =>
  bnd (lift (subV 1 x57 (some (Value.int .i64 1)) none)) fun x58 =>
  bnd (lift (nilck (at_ vs 0))) fun x59 =>
  bnd (lift (faddr 1 x59)) fun x60 =>
  bnd (st1 x60 x58) fun _ =>
  ret (.ret [x52, (Value.int .i64 0), (Value.int .i64 0)])
def F_ports_Box_Recv (x0 x1 x2 : V) : M V :=
  bnd (
    bnd (A_ports_Box_port [x0, x1, x2]) fun x15 =>
    bnd (lift (ext 0 x15)) fun x16 =>
    bnd (lift (ext 1 x15)) fun x17 =>
    bnd (newc [Value.int .i64 0, Value.int .i64 0, Value.int .i64 0, Value.int .i64 0, Value.int .i64 0]) fun x9 =>
    bnd (stn 5 x9 x16) fun _ =>
    bnd (
      bnd (
        bnd (lift (notIf false (isNil .p x17))) fun x20 =>
        condM x20 (
          ret (.ret [(Value.int .i64 0), (Value.int .i64 0), (Value.int .i64 1)])
          ) (
          bnd (lift (faddr 2 x9)) fun x22 =>
          bnd (ld1 x22) fun x23 =>
          bnd (lift (bin .neq x23 x1)) fun x25 =>
          condM x25 (
            ret (.ret [(Value.int .i64 0), (Value.int .i64 0), (Value.int .i64 200)])
            ) (
            bnd (lift (nilck x17)) fun x28 =>
            bnd (lift (faddr 1 x28)) fun x29 =>
            bnd (ld1 x29) fun x30 =>
            bnd (lift (lenSlc x30)) fun x31 =>
            bnd (lift (bin .eql x31 (Value.int .i64 0))) fun x32 =>
            condM x32 (
              ret (.ret [(Value.int .i64 0), (Value.int .i64 0), (Value.int .i64 5)])
              ) (
              bnd (lift (faddr 0 x9)) fun x34 =>
              bnd (ld1 x34) fun x35 =>
              bnd (lift (bin .eql x35 (Value.int .i64 1))) fun x36 =>
              condM x36 (
                bnd (lift (nilck x17)) fun x38 =>
                bnd (lift (faddr 1 x38)) fun x39 =>
                bnd (lift (nilck x17)) fun x44 =>
                bnd (lift (faddr 2 x44)) fun x45 =>
                bnd (ld1 x39) fun x40 =>
                bnd (lift (iaddrS 1 x40 (Value.int .i64 0))) fun x41 =>
                bnd (ld1 x41) fun x42 =>
                bnd (ld1 x45) fun x46 =>
                ret (.ret [x42, x46, (Value.int .i64 0)])
                ) (
                ret (.nxt [x17])
                )
              )
            )
          )
        ) fun o => ret (unblk 0 o)
      ) fun o => nx o ports_Box_Recv_k0
    ) fun o => finM o fun vs => ret (outV [(at_ vs 0), (at_ vs 1), (at_ vs 2)])
def h_ports_Box_Recv : Hint := (.seq [] .leaf (.seq [] .leaf (.seq [10] (.blk (.seq [] .leaf (.cond (.seq [] .leaf .leaf) (.seq [] .leaf (.cond (.seq [] .leaf .leaf) (.seq [] .leaf (.cond (.seq [] .leaf .leaf) (.seq [] .leaf (.cond (.seq [] (.reg [0, 1, 2, 6, 7, 8, 3, 4, 5, 10, 9, 11, 12] []) .leaf) .leaf))))))))) (.seq [] .leaf (.seq [] .leaf (.seq [] .leaf .leaf))))))
def A_ports_Box_Recv (l : List V) : M V := match l with | [x0, x1, x2] => F_ports_Box_Recv x0 x1 x2 | _ => fail
theorem e_ports_Box_Recv (x0 x1 x2 : V) : funM Try.prog (ovr [(fid_ports_Box_port, A_ports_Box_port)] noC) fid_ports_Box_Recv h_ports_Box_Recv [x0, x1, x2] = F_ports_Box_Recv x0 x1 x2 := by kernel_rfl
theorem K_ports_Box_Recv : Known Try.prog fid_ports_Box_Recv (A_ports_Box_Recv) := known_of (σ := ovr [(fid_ports_Box_port, A_ports_Box_port)] noC) (hint := h_ports_Box_Recv) (by kernel_rfl) (simAll_ovr K_ports_Box_port simAll_nil0) fun l H r H' h => by
  unfold A_ports_Box_Recv at h; split at h
  · rw [e_ports_Box_Recv]; exact h
  · exact (fail_ne h).elim

/-! ### (*capstan/ports.state).frame -/
def ports_state_frame_k0 (vs : List V) : M Out :=
  bnd (lift (nilck (at_ vs 0))) fun x84 =>
  bnd (lift (faddr 0 x84)) fun x85 =>
  bnd (st1 x85 (Value.slice none 0 0)) fun _ =>
  ret (.nxt [])
def F_ports_state_frame (x0 x1 : V) : M V :=
  bnd (
    bnd (boxv x1) fun x3 =>
    bnd (
      bnd (
        bnd (lift (faddr 0 x3)) fun x5 =>
        bnd (ld1 x5) fun x6 =>
        bnd (lift (bin .eql x6 (Value.int .i64 2))) fun x7 =>
        condM x7 (
          bnd (lift (nilck x0)) fun x10 =>
          bnd (lift (faddr 1 x10)) fun x11 =>
          bnd (lift (nilck x0)) fun x14 =>
          bnd (lift (faddr 0 x14)) fun x15 =>
          bnd (ld1 x11) fun x12 =>
          bnd (ld1 x15) fun x16 =>
          bnd (appV 1 8 x12 x16) fun x17 =>
          bnd (lift (nilck x0)) fun x18 =>
          bnd (lift (faddr 1 x18)) fun x19 =>
          bnd (st1 x19 x17) fun _ =>
          bnd (lift (nilck x0)) fun x21 =>
          bnd (lift (faddr 3 x21)) fun x22 =>
          bnd (lift (nilck x0)) fun x25 =>
          bnd (lift (faddr 1 x25)) fun x26 =>
          bnd (lift (faddr 4 x3)) fun x29 =>
          bnd (ld1 x22) fun x23 =>
          bnd (ld1 x26) fun x27 =>
          bnd (lift (lenSlc x27)) fun x28 =>
          bnd (ld1 x29) fun x30 =>
          bnd (lift (bin .sub x28 x30)) fun x31 =>
          bnd (lift (maxV (Value.int .i64 0) x31)) fun x32 =>
          bnd (lift (bin .add x23 x32)) fun x33 =>
          bnd (lift (nilck x0)) fun x34 =>
          bnd (lift (faddr 3 x34)) fun x35 =>
          bnd (st1 x35 x33) fun _ =>
          bnd (lift (nilck x0)) fun x38 =>
          bnd (lift (faddr 1 x38)) fun x39 =>
          bnd (lift (nilck x0)) fun x42 =>
          bnd (lift (faddr 1 x42)) fun x43 =>
          bnd (lift (faddr 4 x3)) fun x46 =>
          bnd (ld1 x39) fun x40 =>
          bnd (ld1 x43) fun x44 =>
          bnd (lift (lenSlc x44)) fun x45 =>
          bnd (ld1 x46) fun x47 =>
          bnd (lift (minV x45 x47)) fun x48 =>
          bnd (lift (subV 1 x40 none (some x48))) fun x49 =>
          bnd (lift (nilck x0)) fun x50 =>
          bnd (lift (faddr 1 x50)) fun x51 =>
          bnd (st1 x51 x49) fun _ =>
          ret (.nxt [x0])
          ) (
          bnd (lift (nilck x0)) fun x54 =>
          bnd (lift (faddr 0 x54)) fun x55 =>
          bnd (ld1 x55) fun x56 =>
          bnd (lift (lenSlc x56)) fun x57 =>
          bnd (lift (bin .gtr x57 (Value.int .i64 0))) fun x58 =>
          condM x58 (
            bnd (lift (nilck x0)) fun x62 =>
            bnd (lift (faddr 0 x62)) fun x63 =>
            bnd (ld1 x63) fun x64 =>
            bnd (lift (nilck x0)) fun x65 =>
            bnd (lift (faddr 1 x65)) fun x66 =>
            bnd (st1 x66 x64) fun _ =>
            bnd (lift (nilck x0)) fun x67 =>
            bnd (lift (faddr 2 x67)) fun x68 =>
            bnd (st1 x68 (Value.int .i64 0)) fun _ =>
            ret (.nxt [x0])
            ) (
            bnd (lift (nilck x0)) fun x71 =>
            bnd (lift (faddr 1 x71)) fun x72 =>
            bnd (ld1 x72) fun x73 =>
            bnd (lift (lenSlc x73)) fun x74 =>
            bnd (lift (bin .gtr x74 (Value.int .i64 0))) fun x75 =>
            condM x75 (
              bnd (lift (nilck x0)) fun x77 =>
              bnd (lift (faddr 2 x77)) fun x78 =>
              bnd (ld1 x78) fun x79 =>
              bnd (lift (bin .add x79 (Value.int .i64 1))) fun x80 =>
              bnd (lift (nilck x0)) fun x81 =>
              bnd (lift (faddr 2 x81)) fun x82 =>
              bnd (st1 x82 x80) fun _ =>
              ret (.nxt [x0])
              ) (
              ret (.nxt [x0])
              )
            )
          )
        ) fun o => ret (unblk 0 o)
      ) fun o => nx o ports_state_frame_k0
    ) fun o => finM o fun vs => ret (outV [])
def h_ports_state_frame : Hint := (.seq [] .leaf (.seq [0] (.blk (.seq [] .leaf (.cond (.seq [] (.reg [0, 1, 2, 3, 5, 6, 7, 4, 8, 9, 10, 11, 12] []) (.seq [] (.reg [0, 1, 2, 4, 5, 6, 9, 3, 7, 8, 10, 11, 12, 13, 14, 15, 16] []) (.reg [0, 1, 2, 3, 5, 6, 7, 10, 4, 8, 9, 11, 12, 13, 14, 15, 16] []))) (.seq [] .leaf (.cond .leaf (.seq [] .leaf (.cond .leaf .leaf))))))) .leaf))
def A_ports_state_frame (l : List V) : M V := match l with | [x0, x1] => F_ports_state_frame x0 x1 | _ => fail
theorem e_ports_state_frame (x0 x1 : V) : funM Try.prog (ovr [] noC) fid_ports_state_frame h_ports_state_frame [x0, x1] = F_ports_state_frame x0 x1 := by kernel_rfl
theorem K_ports_state_frame : Known Try.prog fid_ports_state_frame (A_ports_state_frame) := known_of (σ := ovr [] noC) (hint := h_ports_state_frame) (by kernel_rfl) simAll_nil0 fun l H r H' h => by
  unfold A_ports_state_frame at h; split at h
  · rw [e_ports_state_frame]; exact h
  · exact (fail_ne h).elim

/-! ### (*capstan/ports.Box).Frame -/
def ports_Box_Frame_k0 (vs_3 : List V) : M Out :=
  bnd (lift (bin .add (at_ vs_3 3) (Value.int .i64 1))) fun x22 =>
  ret (.nxt [(at_ vs_3 0), (at_ vs_3 1), (at_ vs_3 2), x22])
def ports_Box_Frame_k1 (vs_2 : List V) : M Out :=
  bnd (
  bnd (
    bnd (lift (iaddrS 5 (at_ vs_2 1) (at_ vs_2 3))) fun x12 =>
    bnd (ldn 5 x12) fun x13 =>
    bnd (newc [Value.int .i64 0, Value.int .i64 0, Value.int .i64 0, Value.int .i64 0, Value.int .i64 0]) fun x3 =>
    bnd (stn 5 x3 x13) fun _ =>
    bnd (lift (nilck (at_ vs_2 0))) fun x15 =>
    bnd (lift (faddr 1 x15)) fun x16 =>
    bnd (ld1 x16) fun x17 =>
    bnd (lift (iaddrS 4 x17 (at_ vs_2 3))) fun x19 =>
    bnd (ldn 5 x3) fun x20 =>
    bnd (A_ports_state_frame [x19, x20]) fun x21 =>
    ret (.nxt [(at_ vs_2 0), (at_ vs_2 1), (at_ vs_2 2), (at_ vs_2 3)])
    ) fun o => ret (unblk 1 o)
  ) fun o => nx o ports_Box_Frame_k0
def ports_Box_Frame_l2 (vs : List V) : M Out :=
  bnd (lift (bin .lss (at_ vs 3) (at_ vs 2))) fun x10 =>
  bnd (
  condM x10 (
    ret (.nxt [(at_ vs 0), (at_ vs 1), (at_ vs 2), (at_ vs 3)])
    ) (
    ret (.brk 0 [])
    )
  ) fun o => nx o ports_Box_Frame_k1
def F_ports_Box_Frame (x0 : V) : M V :=
  bnd (
    bnd (lift (nilck x0)) fun x5 =>
    bnd (lift (faddr 0 x5)) fun x6 =>
    bnd (ld1 x6) fun x7 =>
    bnd (lift (lenSlc x7)) fun x8 =>
    bnd (
      loopM FUEL ports_Box_Frame_l2 [x0, x7, x8, (Value.int .i64 0)]
      ) fun o => ret (unblk 0 o)
    ) fun o => finM o fun vs => ret (outV [])
def h_ports_Box_Frame : Hint := (.seq [] .leaf (.blk (.loop [0, 7, 8, 9] (.seq [] .leaf (.seq [0, 7, 8, 9] (.cond .leaf .leaf) (.seq [0, 7, 8, 9] (.blk (.seq [] .leaf (.reg [0, 1, 2, 4, 3, 5, 6, 7] []))) .leaf))))))
def A_ports_Box_Frame (l : List V) : M V := match l with | [x0] => F_ports_Box_Frame x0 | _ => fail
theorem e_ports_Box_Frame (x0 : V) : funM Try.prog (ovr [(fid_ports_state_frame, A_ports_state_frame)] noC) fid_ports_Box_Frame h_ports_Box_Frame [x0] = F_ports_Box_Frame x0 := by kernel_rfl
theorem K_ports_Box_Frame : Known Try.prog fid_ports_Box_Frame (A_ports_Box_Frame) := known_of (σ := ovr [(fid_ports_state_frame, A_ports_state_frame)] noC) (hint := h_ports_Box_Frame) (by kernel_rfl) (simAll_ovr K_ports_state_frame simAll_nil0) fun l H r H' h => by
  unfold A_ports_Box_Frame at h; split at h
  · rw [e_ports_Box_Frame]; exact h
  · exact (fail_ne h).elim

/-! ### (*capstan/ports.Box).Waits -/
def ports_Box_Waits_k0 (vs : List V) : M Out :=
  bnd (lift (nilck (at_ vs 0))) fun x19 =>
  bnd (lift (faddr 0 x19)) fun x20 =>
  bnd (lift (nilck (at_ vs 0))) fun x24 =>
  bnd (lift (faddr 1 x24)) fun x25 =>
  bnd (lift (nilck (at_ vs 0))) fun x29 =>
  bnd (lift (faddr 3 x29)) fun x30 =>
  bnd (ld1 x20) fun x21 =>
  bnd (lift (lenSlc x21)) fun x22 =>
  bnd (ld1 x25) fun x26 =>
  bnd (lift (lenSlc x26)) fun x27 =>
  bnd (ld1 x30) fun x31 =>
  ret (.ret [x22, x27, x31, (Value.int .i64 0)])
def F_ports_Box_Waits (x0 x1 : V) : M V :=
  bnd (
    bnd (A_ports_Box_port [x0, (Value.int .i64 0), x1]) fun x13 =>
    bnd (lift (ext 0 x13)) fun x14 =>
    bnd (lift (ext 1 x13)) fun x15 =>
    bnd (newc [Value.int .i64 0, Value.int .i64 0, Value.int .i64 0, Value.int .i64 0, Value.int .i64 0]) fun x8 =>
    bnd (stn 5 x8 x14) fun _ =>
    bnd (
      bnd (lift (notIf false (isNil .p x15))) fun x17 =>
      condM x17 (
        ret (.ret [(Value.int .i64 0), (Value.int .i64 0), (Value.int .i64 0), (Value.int .i64 1)])
        ) (
        ret (.nxt [x15])
        )
      ) fun o => nx o ports_Box_Waits_k0
    ) fun o => finM o fun vs => ret (outV [(at_ vs 0), (at_ vs 1), (at_ vs 2), (at_ vs 3)])
def h_ports_Box_Waits : Hint := (.seq [] .leaf (.seq [] .leaf (.seq [9] (.seq [] .leaf (.cond (.seq [] .leaf .leaf) .leaf)) (.seq [] (.reg [0, 1, 2, 5, 6, 7, 10, 11, 12, 3, 4, 14, 8, 9, 15, 13, 16, 17] []) .leaf))))
def A_ports_Box_Waits (l : List V) : M V := match l with | [x0, x1] => F_ports_Box_Waits x0 x1 | _ => fail
theorem e_ports_Box_Waits (x0 x1 : V) : funM Try.prog (ovr [(fid_ports_Box_port, A_ports_Box_port)] noC) fid_ports_Box_Waits h_ports_Box_Waits [x0, x1] = F_ports_Box_Waits x0 x1 := by kernel_rfl
theorem K_ports_Box_Waits : Known Try.prog fid_ports_Box_Waits (A_ports_Box_Waits) := known_of (σ := ovr [(fid_ports_Box_port, A_ports_Box_port)] noC) (hint := h_ports_Box_Waits) (by kernel_rfl) (simAll_ovr K_ports_Box_port simAll_nil0) fun l H r H' h => by
  unfold A_ports_Box_Waits at h; split at h
  · rw [e_ports_Box_Waits]; exact h
  · exact (fail_ne h).elim

/-! ### capstan/capstanlaw20.works -/
def law20_works_k0 (vs_2 : List V) : M Out :=
  bnd (A_ports_Box_Frame [(at_ vs_2 0)]) fun x54 =>
  bnd (A_ports_Box_Recv [(at_ vs_2 0), (Value.int .i64 1), (Value.int .i64 0)]) fun x57 =>
  bnd (lift (ext 0 x57)) fun x58 =>
  bnd (lift (ext 1 x57)) fun x59 =>
  bnd (lift (ext 2 x57)) fun x60 =>
  bnd (A_ports_Box_Recv [(at_ vs_2 0), (Value.int .i64 1), (Value.int .i64 0)]) fun x63 =>
  bnd (lift (ext 0 x63)) fun x64 =>
  bnd (lift (ext 1 x63)) fun x65 =>
  bnd (lift (ext 2 x63)) fun x66 =>
  bnd (A_ports_Box_Recv [(at_ vs_2 0), (Value.int .i64 1), (Value.int .i64 0)]) fun x69 =>
  bnd (lift (ext 0 x69)) fun x70 =>
  bnd (lift (ext 1 x69)) fun x71 =>
  bnd (lift (ext 2 x69)) fun x72 =>
  bnd (A_ports_Box_Waits [(at_ vs_2 0), (Value.int .i64 0)]) fun x75 =>
  bnd (lift (ext 0 x75)) fun x76 =>
  bnd (lift (ext 1 x75)) fun x77 =>
  bnd (lift (ext 2 x75)) fun x78 =>
  bnd (lift (ext 3 x75)) fun x79 =>
  bnd (lift (bin .eql x58 (Value.int .i64 5))) fun x81 =>
  bnd (gd x81 true (lift (some x60))) fun x83 =>
  bnd (gd x81 true (lift (bin .eql x83 (Value.int .i64 0)))) fun x84 =>
  bnd (lift (pickV x81 x84 (Value.bool false))) fun x85 =>
  bnd (gd x85 true (lift (some x64))) fun x87 =>
  bnd (gd x85 true (lift (bin .eql x87 (Value.int .i64 6)))) fun x88 =>
  bnd (lift (pickV x85 x88 (Value.bool false))) fun x89 =>
  bnd (gd x89 true (lift (some x66))) fun x91 =>
  bnd (gd x89 true (lift (bin .eql x91 (Value.int .i64 0)))) fun x92 =>
  bnd (lift (pickV x89 x92 (Value.bool false))) fun x93 =>
  bnd (gd x93 true (lift (some x72))) fun x95 =>
  bnd (gd x93 true (lift (bin .eql x95 (Value.int .i64 5)))) fun x96 =>
  bnd (lift (pickV x93 x96 (Value.bool false))) fun x97 =>
  bnd (gd x97 true (lift (some x78))) fun x99 =>
  bnd (gd x97 true (lift (bin .eql x99 (Value.int .i64 1)))) fun x100 =>
  bnd (lift (pickV x97 x100 (Value.bool false))) fun x101 =>
  bnd (gd x101 true (lift (some x79))) fun x103 =>
  bnd (gd x101 true (lift (bin .eql x103 (Value.int .i64 0)))) fun x104 =>
  bnd (lift (pickV x101 x104 (Value.bool false))) fun x105 =>
  ret (.ret [x105])
def law20_works_k1 (vs : List V) : M Out :=
  bnd (
    bnd (A_ports_Box_Recv [(at_ vs 0), (Value.int .i64 1), (Value.int .i64 0)]) fun x47 =>
    bnd (lift (ext 0 x47)) fun x48 =>
    bnd (lift (ext 1 x47)) fun x49 =>
    bnd (lift (ext 2 x47)) fun x50 =>
    bnd (lift (bin .neq x50 (Value.int .i64 5))) fun x52 =>
    condM x52 (
      ret (.ret [(Value.bool false)])
      ) (
      ret (.nxt [(at_ vs 0)])
      )
    ) fun o => nx o law20_works_k0
def F_law20_works : M V :=
  bnd (
    bnd (lift (build [Value.int .i64 0, Value.int .i64 0, Value.int .i64 0, Value.int .i64 0, Value.int .i64 0] [(0, 1, (Value.int .i64 2)), (1, 1, (Value.int .i64 0)), (2, 1, (Value.int .i64 1)), (3, 1, (Value.int .i64 2)), (4, 1, (Value.int .i64 2))])) fun x19 =>
    bnd (bslc 5 1 (rep 1 [Value.int .i64 0, Value.int .i64 0, Value.int .i64 0, Value.int .i64 0, Value.int .i64 0]) [(0, 5, x19)]) fun x20 =>
    bnd (A_ports_New [x20]) fun x21 =>
    bnd (lift (ext 0 x21)) fun x22 =>
    bnd (lift (ext 1 x21)) fun x23 =>
    bnd (
      bnd (lift (notIf false (isNil .p x22))) fun x25 =>
      bnd (gd x25 false (lift (some x23))) fun x27 =>
      bnd (gd x25 false (lift (bin .neq x27 (Value.int .i64 0)))) fun x28 =>
      bnd (lift (pickV x25 (Value.bool true) x28)) fun x29 =>
      bnd (gd x29 false (lift (some x22))) fun x31 =>
      bnd (gd x29 false (A_ports_Box_Send [x31, (Value.int .i64 0), (Value.int .i64 0), (Value.int .i64 5)])) fun x32 =>
      bnd (gd x29 false (lift (bin .neq x32 (Value.int .i64 0)))) fun x33 =>
      bnd (lift (pickV x29 (Value.bool true) x33)) fun x34 =>
      bnd (gd x34 false (lift (some x22))) fun x36 =>
      bnd (gd x34 false (A_ports_Box_Send [x36, (Value.int .i64 0), (Value.int .i64 0), (Value.int .i64 6)])) fun x37 =>
      bnd (gd x34 false (lift (bin .neq x37 (Value.int .i64 0)))) fun x38 =>
      bnd (lift (pickV x34 (Value.bool true) x38)) fun x39 =>
      bnd (gd x39 false (lift (some x22))) fun x41 =>
      bnd (gd x39 false (A_ports_Box_Send [x41, (Value.int .i64 0), (Value.int .i64 0), (Value.int .i64 7)])) fun x42 =>
      bnd (gd x39 false (lift (bin .neq x42 (Value.int .i64 2)))) fun x43 =>
      bnd (lift (pickV x39 (Value.bool true) x43)) fun x44 =>
      condM x44 (
        ret (.ret [(Value.bool false)])
        ) (
        ret (.nxt [x22])
        )
      ) fun o => nx o law20_works_k1
    ) fun o => finM o fun vs => ret (outV [(at_ vs 0)])
def h_law20_works : Hint := (.seq [] .leaf (.seq [] .leaf (.seq [1] (.seq [] .leaf (.cond (.seq [] .leaf .leaf) .leaf)) (.seq [1] (.seq [] .leaf (.seq [] .leaf (.cond (.seq [] .leaf .leaf) .leaf))) (.seq [] .leaf (.seq [] .leaf (.seq [] .leaf (.seq [] .leaf (.seq [] .leaf (.seq [] .leaf .leaf))))))))))
def A_law20_works (l : List V) : M V := match l with | [] => F_law20_works  | _ => fail
theorem e_law20_works : funM Try.prog (ovr [(fid_ports_New, A_ports_New), (fid_ports_Box_Send, A_ports_Box_Send), (fid_ports_Box_Recv, A_ports_Box_Recv), (fid_ports_Box_Frame, A_ports_Box_Frame), (fid_ports_Box_Waits, A_ports_Box_Waits)] noC) fid_law20_works h_law20_works [] = F_law20_works  := by kernel_rfl
theorem K_law20_works : Known Try.prog fid_law20_works (A_law20_works) := known_of (σ := ovr [(fid_ports_New, A_ports_New), (fid_ports_Box_Send, A_ports_Box_Send), (fid_ports_Box_Recv, A_ports_Box_Recv), (fid_ports_Box_Frame, A_ports_Box_Frame), (fid_ports_Box_Waits, A_ports_Box_Waits)] noC) (hint := h_law20_works) (by kernel_rfl) (simAll_ovr K_ports_New (simAll_ovr K_ports_Box_Send (simAll_ovr K_ports_Box_Recv (simAll_ovr K_ports_Box_Frame (simAll_ovr K_ports_Box_Waits simAll_nil0))))) fun l H r H' h => by
  unfold A_law20_works at h; split at h
  · rw [e_law20_works]; exact h
  · exact (fail_ne h).elim

/-! ### capstan/capstanlaw20.PortsAges -/
def law20_PortsAges_k0 (vs_6 : List V) : M Out :=
    ret (.nxt [(at_ vs_6 0), (at_ vs_6 1), (at_ vs_6 5), (at_ vs_6 2), (at_ vs_6 3), (at_ vs_6 4)])
def law20_PortsAges_k1 (vs_7 : List V) : M Out :=
  bnd (lift (bin .add (at_ vs_7 5) (Value.int .i64 1))) fun x51 =>
  ret (.nxt [(at_ vs_7 0), (at_ vs_7 1), (at_ vs_7 2), (at_ vs_7 3), (at_ vs_7 4), x51])
def law20_PortsAges_k2 (vs_5 : List V) : M Out :=
  bnd (
  bnd (
    bnd (lift (iaddrS 1 (at_ vs_5 0) (at_ vs_5 3))) fun x54 =>
    bnd (ld1 x54) fun x55 =>
    bnd (lift (iaddrS 1 x55 (at_ vs_5 4))) fun x57 =>
    bnd (ld1 x57) fun x58 =>
    bnd (lift (cvi .i32 x58)) fun x59 =>
    bnd (lift (cvi .i64 x59)) fun x60 =>
    bnd (
      bnd (A_ports_Box_Send [(at_ vs_5 1), (Value.int .i64 0), (Value.int .i64 0), x60]) fun x63 =>
      bnd (lift (bin .neq x63 (Value.int .i64 0))) fun x64 =>
      condM x64 (
        ret (.ret [(Value.bool false)])
        ) (
        ret (.nxt [(at_ vs_5 0), (at_ vs_5 1), (at_ vs_5 2), (at_ vs_5 3), (at_ vs_5 4), x60])
        )
      ) fun o => nx o law20_PortsAges_k0
    ) fun o => ret (unblk 3 o)
  ) fun o => nx o law20_PortsAges_k1
def law20_PortsAges_l3 (vs_4 : List V) : M Out :=
  bnd (
  bnd (lift (iaddrS 1 (at_ vs_4 0) (at_ vs_4 4))) fun x42 =>
  bnd (ld1 x42) fun x43 =>
  bnd (lift (lenSlc x43)) fun x44 =>
  bnd (lift (bin .lss (at_ vs_4 5) x44)) fun x45 =>
  bnd (gd x45 true (lift (some (at_ vs_4 5)))) fun x47 =>
  bnd (gd x45 true (lift (bin .lss x47 (Value.int .i64 20)))) fun x48 =>
  bnd (lift (pickV x45 x48 (Value.bool false))) fun x49 =>
  condM x49 (
    ret (.nxt [(at_ vs_4 0), (at_ vs_4 1), (at_ vs_4 3), (at_ vs_4 4), (at_ vs_4 5)])
    ) (
    ret (.brk 2 [(at_ vs_4 0), (at_ vs_4 1), (at_ vs_4 2), (at_ vs_4 3), (at_ vs_4 4)])
    )
  ) fun o => nx o law20_PortsAges_k2
def law20_PortsAges_k4 (vs_10 : List V) : M Out :=
        ret (.brk 1 [(at_ vs_10 0), (at_ vs_10 1), (at_ vs_10 2), (at_ vs_10 3), (at_ vs_10 4)])
def law20_PortsAges_k5 (vs_11 : List V) : M Out :=
    bnd (lift (bin .neq (at_ vs_11 5) (at_ vs_11 2))) fun x90 =>
    bnd (gd x90 false (lift (some (at_ vs_11 6)))) fun x92 =>
    bnd (gd x90 false (lift (some (at_ vs_11 3)))) fun x93 =>
    bnd (gd x90 false (lift (bin .neq x92 x93))) fun x94 =>
    bnd (lift (pickV x90 (Value.bool true) x94)) fun x95 =>
    bnd (gd x95 false (lift (some (at_ vs_11 7)))) fun x97 =>
    bnd (gd x95 false (lift (bin .neq x97 (Value.int .i64 0)))) fun x98 =>
    bnd (lift (pickV x95 (Value.bool true) x98)) fun x99 =>
    condM x99 (
      ret (.ret [(Value.bool false)])
      ) (
      ret (.nxt [(at_ vs_11 0), (at_ vs_11 1), (at_ vs_11 2), (at_ vs_11 3), (at_ vs_11 4)])
      )
def law20_PortsAges_k6 (vs_9 : List V) : M Out :=
    bnd (A_ports_Box_Recv [(at_ vs_9 1), (Value.int .i64 1), (Value.int .i64 0)]) fun x80 =>
    bnd (lift (ext 0 x80)) fun x81 =>
    bnd (lift (ext 1 x80)) fun x82 =>
    bnd (lift (ext 2 x80)) fun x83 =>
    bnd (
      bnd (lift (bin .lss (at_ vs_9 3) (Value.int .i64 0))) fun x85 =>
      condM x85 (
        bnd (
          bnd (lift (bin .neq x83 (Value.int .i64 5))) fun x87 =>
          condM x87 (
            ret (.ret [(Value.bool false)])
            ) (
            ret (.nxt [(at_ vs_9 0), (at_ vs_9 1), (at_ vs_9 2), (at_ vs_9 3), (at_ vs_9 4)])
            )
          ) fun o => nx o law20_PortsAges_k4
        ) (
        ret (.nxt [(at_ vs_9 0), (at_ vs_9 1), (at_ vs_9 2), (at_ vs_9 3), (at_ vs_9 4), x81, x82, x83])
        )
      ) fun o => nx o law20_PortsAges_k5
def law20_PortsAges_k7 (vs_8 : List V) : M Out :=
    bnd (A_ports_Box_Frame [(at_ vs_8 1)]) fun x67 =>
    bnd (
      bnd (lift (iaddrS 1 (at_ vs_8 0) (at_ vs_8 4))) fun x70 =>
      bnd (ld1 x70) fun x71 =>
      bnd (lift (lenSlc x71)) fun x72 =>
      bnd (lift (bin .gtr x72 (Value.int .i64 0))) fun x73 =>
      condM x73 (
        ret (.nxt [(at_ vs_8 0), (at_ vs_8 1), (at_ vs_8 2), (Value.int .i64 0), (at_ vs_8 4)])
        ) (
        bnd (lift (bin .geq (at_ vs_8 3) (Value.int .i64 0))) fun x75 =>
        condM x75 (
          bnd (lift (bin .add (at_ vs_8 3) (Value.int .i64 1))) fun x77 =>
          ret (.nxt [(at_ vs_8 0), (at_ vs_8 1), (at_ vs_8 2), x77, (at_ vs_8 4)])
          ) (
          ret (.nxt [(at_ vs_8 0), (at_ vs_8 1), (at_ vs_8 2), (at_ vs_8 3), (at_ vs_8 4)])
          )
        )
      ) fun o => nx o law20_PortsAges_k6
def law20_PortsAges_k8 (vs_12 : List V) : M Out :=
  bnd (lift (bin .add (at_ vs_12 4) (Value.int .i64 1))) fun x38 =>
  ret (.nxt [(at_ vs_12 0), (at_ vs_12 1), (at_ vs_12 2), (at_ vs_12 3), x38])
def law20_PortsAges_k9 (vs_3 : List V) : M Out :=
  bnd (
  bnd (
    bnd (
      bnd (
        loopM FUEL law20_PortsAges_l3 [(at_ vs_3 0), (at_ vs_3 1), (at_ vs_3 2), (at_ vs_3 3), (at_ vs_3 4), (Value.int .i64 0)]
        ) fun o => ret (unblk 2 o)
      ) fun o => nx o law20_PortsAges_k7
    ) fun o => ret (unblk 1 o)
  ) fun o => nx o law20_PortsAges_k8
def law20_PortsAges_l10 (vs_2 : List V) : M Out :=
  bnd (
  bnd (lift (lenSlc (at_ vs_2 0))) fun x31 =>
  bnd (lift (bin .lss (at_ vs_2 4) x31)) fun x32 =>
  bnd (gd x32 true (lift (some (at_ vs_2 4)))) fun x34 =>
  bnd (gd x32 true (lift (bin .lss x34 (Value.int .i64 60)))) fun x35 =>
  bnd (lift (pickV x32 x35 (Value.bool false))) fun x36 =>
  condM x36 (
    ret (.nxt [(at_ vs_2 0), (at_ vs_2 1), (at_ vs_2 2), (at_ vs_2 3), (at_ vs_2 4)])
    ) (
    ret (.brk 0 [])
    )
  ) fun o => nx o law20_PortsAges_k9
def law20_PortsAges_k11 (vs_13 : List V) : M Out :=
  ret (.ret [(Value.bool true)])
def law20_PortsAges_k12 (vs : List V) : M Out :=
  bnd (
    bnd (
      loopM FUEL law20_PortsAges_l10 [(at_ vs 0), (at_ vs 1), (Value.int .i64 0), (Value.int .i64 (-1)), (Value.int .i64 0)]
      ) fun o => ret (unblk 0 o)
    ) fun o => nx o law20_PortsAges_k11
def F_law20_PortsAges (x0 : V) : M V :=
  bnd (
    bnd (lift (build [Value.int .i64 0, Value.int .i64 0, Value.int .i64 0, Value.int .i64 0, Value.int .i64 0] [(0, 1, (Value.int .i64 1)), (1, 1, (Value.int .i64 0)), (2, 1, (Value.int .i64 1)), (3, 1, (Value.int .i64 3))])) fun x14 =>
    bnd (bslc 5 1 (rep 1 [Value.int .i64 0, Value.int .i64 0, Value.int .i64 0, Value.int .i64 0, Value.int .i64 0]) [(0, 5, x14)]) fun x15 =>
    bnd (A_ports_New [x15]) fun x16 =>
    bnd (lift (ext 0 x16)) fun x17 =>
    bnd (lift (ext 1 x16)) fun x18 =>
    bnd (
      bnd (A_law20_works []) fun x19 =>
      bnd (lift (un .not x19)) fun x20 =>
      bnd (gd x20 false (lift (some x17))) fun x22 =>
      bnd (gd x20 false (lift (notIf false (isNil .p x22)))) fun x23 =>
      bnd (lift (pickV x20 (Value.bool true) x23)) fun x24 =>
      bnd (gd x24 false (lift (some x18))) fun x26 =>
      bnd (gd x24 false (lift (bin .neq x26 (Value.int .i64 0)))) fun x27 =>
      bnd (lift (pickV x24 (Value.bool true) x27)) fun x28 =>
      condM x28 (
        ret (.ret [(Value.bool false)])
        ) (
        ret (.nxt [x0, x17])
        )
      ) fun o => nx o law20_PortsAges_k12
    ) fun o => finM o fun vs => ret (outV [(at_ vs 0)])
def h_law20_PortsAges : Hint := (.seq [] .leaf (.seq [] .leaf (.seq [0, 3] (.seq [] .leaf (.cond (.seq [] .leaf .leaf) .leaf)) (.seq [] .leaf (.seq [] (.seq [] .leaf (.blk (.loop [0, 3, 5, 6, 7] (.seq [0, 3, 5, 6, 7] (.seq [] .leaf (.cond .leaf .leaf)) (.seq [0, 3, 5, 6, 7] (.blk (.seq [0, 3, 5, 6, 7] (.seq [] .leaf (.blk (.loop [0, 3, 5, 6, 7, 8] (.seq [0, 3, 6, 7, 8] (.seq [] .leaf (.cond .leaf .leaf)) (.seq [0, 3, 5, 6, 7, 8] (.blk (.seq [] .leaf (.seq [0, 3, 6, 7, 8, 9] (.seq [] .leaf (.cond (.seq [] .leaf .leaf) .leaf)) .leaf))) .leaf))))) (.seq [] .leaf (.seq [0, 3, 5, 6, 7] (.seq [] .leaf (.cond .leaf (.seq [] .leaf (.cond .leaf .leaf)))) (.seq [] .leaf (.seq [0, 3, 5, 6, 7, 10, 11, 12] (.seq [] .leaf (.cond (.seq [0, 3, 5, 6, 7] (.seq [] .leaf (.cond (.seq [] .leaf .leaf) .leaf)) .leaf) .leaf)) (.seq [] .leaf (.cond (.seq [] .leaf .leaf) .leaf)))))))) .leaf))))) (.seq [] .leaf .leaf))))))
def A_law20_PortsAges (l : List V) : M V := match l with | [x0] => F_law20_PortsAges x0 | _ => fail
theorem e_law20_PortsAges (x0 : V) : funM Try.prog (ovr [(fid_ports_New, A_ports_New), (fid_law20_works, A_law20_works), (fid_ports_Box_Send, A_ports_Box_Send), (fid_ports_Box_Frame, A_ports_Box_Frame), (fid_ports_Box_Recv, A_ports_Box_Recv)] noC) fid_law20_PortsAges h_law20_PortsAges [x0] = F_law20_PortsAges x0 := by kernel_rfl
theorem K_law20_PortsAges : Known Try.prog fid_law20_PortsAges (A_law20_PortsAges) := known_of (σ := ovr [(fid_ports_New, A_ports_New), (fid_law20_works, A_law20_works), (fid_ports_Box_Send, A_ports_Box_Send), (fid_ports_Box_Frame, A_ports_Box_Frame), (fid_ports_Box_Recv, A_ports_Box_Recv)] noC) (hint := h_law20_PortsAges) (by kernel_rfl) (simAll_ovr K_ports_New (simAll_ovr K_law20_works (simAll_ovr K_ports_Box_Send (simAll_ovr K_ports_Box_Frame (simAll_ovr K_ports_Box_Recv simAll_nil0))))) fun l H r H' h => by
  unfold A_law20_PortsAges at h; split at h
  · rw [e_law20_PortsAges]; exact h
  · exact (fail_ne h).elim

/-! ### capstan/capstanref20.part -/
def F_ref20_part (x0 : V) : M V :=
  bnd (
    bnd (lift (bin .geq x0 (Value.int .i64 0))) fun x4 =>
    bnd (gd x4 true (lift (some x0))) fun x6 =>
    bnd (gd x4 true (lift (bin .lss x6 (Value.int .i64 8)))) fun x7 =>
    bnd (lift (pickV x4 x7 (Value.bool false))) fun x8 =>
    ret (.ret [x8])
    ) fun o => finM o fun vs => ret (outV [(at_ vs 0)])
def h_ref20_part : Hint := (.seq [] .leaf (.seq [] .leaf .leaf))
def A_ref20_part (l : List V) : M V := match l with | [x0] => F_ref20_part x0 | _ => fail
theorem e_ref20_part (x0 : V) : funM Try.prog (ovr [] noC) fid_ref20_part h_ref20_part [x0] = F_ref20_part x0 := by kernel_rfl
theorem K_ref20_part : Known Try.prog fid_ref20_part (A_ref20_part) := known_of (σ := ovr [] noC) (hint := h_ref20_part) (by kernel_rfl) simAll_nil0 fun l H r H' h => by
  unfold A_ref20_part at h; split at h
  · rw [e_ref20_part]; exact h
  · exact (fail_ne h).elim

/-! ### capstan/capstanref20.may -/
def ref20_may_k0 (vs : List V) : M Out :=
  ret (.ret [(Value.int .i64 0)])
def F_ref20_may (x0 : V) : M V :=
  bnd (
    bnd (boxv x0) fun x1 =>
    bnd (
      bnd (
        bnd (lift (faddr 0 x1)) fun x4 =>
        bnd (ld1 x4) fun x5 =>
        bnd (lift (bin .neq x5 (Value.int .i64 1))) fun x6 =>
        bnd (gd x6 true (lift (faddr 0 x1))) fun x8 =>
        bnd (gd x6 true (ld1 x8)) fun x9 =>
        bnd (gd x6 true (lift (bin .neq x9 (Value.int .i64 2)))) fun x10 =>
        bnd (lift (pickV x6 x10 (Value.bool false))) fun x11 =>
        condM x11 (
          ret (.ret [(Value.int .i64 91)])
          ) (
          bnd (lift (faddr 1 x1)) fun x13 =>
          bnd (ld1 x13) fun x14 =>
          bnd (A_ref20_part [x14]) fun x15 =>
          bnd (lift (un .not x15)) fun x16 =>
          bnd (gd x16 false (lift (faddr 2 x1))) fun x18 =>
          bnd (gd x16 false (ld1 x18)) fun x19 =>
          bnd (gd x16 false (A_ref20_part [x19])) fun x20 =>
          bnd (gd x16 false (lift (un .not x20))) fun x21 =>
          bnd (lift (pickV x16 (Value.bool true) x21)) fun x22 =>
          condM x22 (
            ret (.ret [(Value.int .i64 1)])
            ) (
            bnd (lift (faddr 1 x1)) fun x24 =>
            bnd (ld1 x24) fun x25 =>
            bnd (lift (faddr 2 x1)) fun x26 =>
            bnd (ld1 x26) fun x27 =>
            bnd (lift (bin .eql x25 x27)) fun x28 =>
            condM x28 (
              ret (.ret [(Value.int .i64 4)])
              ) (
              bnd (lift (faddr 3 x1)) fun x30 =>
              bnd (ld1 x30) fun x31 =>
              bnd (lift (bin .lss x31 (Value.int .i64 1))) fun x32 =>
              bnd (gd x32 false (lift (faddr 3 x1))) fun x34 =>
              bnd (gd x32 false (ld1 x34)) fun x35 =>
              bnd (gd x32 false (lift (bin .gtr x35 (Value.int .i64 3)))) fun x36 =>
              bnd (lift (pickV x32 (Value.bool true) x36)) fun x37 =>
              condM x37 (
                ret (.ret [(Value.int .i64 40)])
                ) (
                bnd (lift (faddr 0 x1)) fun x39 =>
                bnd (ld1 x39) fun x40 =>
                bnd (lift (bin .eql x40 (Value.int .i64 1))) fun x41 =>
                bnd (gd x41 true (lift (faddr 4 x1))) fun x43 =>
                bnd (gd x41 true (ld1 x43)) fun x44 =>
                bnd (gd x41 true (lift (bin .neq x44 (Value.int .i64 0)))) fun x45 =>
                bnd (lift (pickV x41 x45 (Value.bool false))) fun x46 =>
                bnd (gd x46 false (lift (faddr 0 x1))) fun x48 =>
                bnd (gd x46 false (ld1 x48)) fun x49 =>
                bnd (gd x46 false (lift (bin .eql x49 (Value.int .i64 2)))) fun x50 =>
                bnd (gd x46 false (lift (some x50))) fun x51 =>
                bnd (gd x51 true (lift (faddr 4 x1))) fun x52 =>
                bnd (gd x51 true (ld1 x52)) fun x53 =>
                bnd (gd x51 true (lift (bin .lss x53 (Value.int .i64 1)))) fun x54 =>
                bnd (gd x51 true (lift (some x54))) fun x55 =>
                bnd (gd x55 false (lift (faddr 4 x1))) fun x56 =>
                bnd (gd x55 false (ld1 x56)) fun x57 =>
                bnd (gd x55 false (lift (bin .gtr x57 (Value.int .i64 16)))) fun x58 =>
                bnd (gd x51 true (lift (pickV x55 (Value.bool true) x58))) fun x59 =>
                bnd (gd x46 false (lift (pickV x51 x59 (Value.bool false)))) fun x60 =>
                bnd (lift (pickV x46 (Value.bool true) x60)) fun x61 =>
                condM x61 (
                  ret (.ret [(Value.int .i64 1)])
                  ) (
                  ret (.nxt [])
                  )
                )
              )
            )
          )
        ) fun o => ret (unblk 0 o)
      ) fun o => nx o ref20_may_k0
    ) fun o => finM o fun vs => ret (outV [(at_ vs 0)])
def h_ref20_may : Hint := (.seq [] .leaf (.seq [] (.blk (.seq [] .leaf (.cond (.seq [] .leaf .leaf) (.seq [] .leaf (.cond (.seq [] .leaf .leaf) (.seq [] .leaf (.cond (.seq [] .leaf .leaf) (.seq [] .leaf (.cond (.seq [] .leaf .leaf) (.seq [] .leaf (.cond (.seq [] .leaf .leaf) .leaf))))))))))) (.seq [] .leaf .leaf)))
def A_ref20_may (l : List V) : M V := match l with | [x0] => F_ref20_may x0 | _ => fail
theorem e_ref20_may (x0 : V) : funM Try.prog (ovr [(fid_ref20_part, A_ref20_part)] noC) fid_ref20_may h_ref20_may [x0] = F_ref20_may x0 := by kernel_rfl
theorem K_ref20_may : Known Try.prog fid_ref20_may (A_ref20_may) := known_of (σ := ovr [(fid_ref20_part, A_ref20_part)] noC) (hint := h_ref20_may) (by kernel_rfl) (simAll_ovr K_ref20_part simAll_nil0) fun l H r H' h => by
  unfold A_ref20_may at h; split at h
  · rw [e_ref20_may]; exact h
  · exact (fail_ne h).elim

/-! ### capstan/capstanref20.Check -/
def ref20_Check_k0 (vs_4 : List V) : M Out :=
  bnd (lift (bin .add (at_ vs_4 1) (Value.int .i64 1))) fun x14 =>
  ret (.nxt [(at_ vs_4 0), x14])
def ref20_Check_k1 (vs_3 : List V) : M Out :=
  bnd (
  bnd (
    bnd (lift (iaddrS 5 (at_ vs_3 0) (at_ vs_3 1))) fun x17 =>
    bnd (ldn 5 x17) fun x18 =>
    bnd (A_ref20_may [x18]) fun x19 =>
    bnd (lift (bin .neq x19 (Value.int .i64 0))) fun x21 =>
    condM x21 (
      ret (.ret [(at_ vs_3 1), x19])
      ) (
      ret (.nxt [(at_ vs_3 0), (at_ vs_3 1)])
      )
    ) fun o => ret (unblk 1 o)
  ) fun o => nx o ref20_Check_k0
def ref20_Check_l2 (vs_2 : List V) : M Out :=
  bnd (
  bnd (lift (lenSlc (at_ vs_2 0))) fun x11 =>
  bnd (lift (bin .lss (at_ vs_2 1) x11)) fun x12 =>
  condM x12 (
    ret (.nxt [(at_ vs_2 0), (at_ vs_2 1)])
    ) (
    ret (.brk 0 [])
    )
  ) fun o => nx o ref20_Check_k1
def ref20_Check_k3 (vs_5 : List V) : M Out :=
  ret (.ret [(Value.int .i64 0), (Value.int .i64 0)])
def ref20_Check_k4 (vs : List V) : M Out :=
  bnd (
    bnd (
      loopM FUEL ref20_Check_l2 [(at_ vs 0), (Value.int .i64 0)]
      ) fun o => ret (unblk 0 o)
    ) fun o => nx o ref20_Check_k3
def F_ref20_Check (x0 : V) : M V :=
  bnd (
    bnd (
      bnd (lift (lenSlc x0)) fun x7 =>
      bnd (lift (bin .gtr x7 (Value.int .i64 16))) fun x8 =>
      condM x8 (
        ret (.ret [(Value.int .i64 (-1)), (Value.int .i64 2)])
        ) (
        ret (.nxt [x0])
        )
      ) fun o => nx o ref20_Check_k4
    ) fun o => finM o fun vs => ret (outV [(at_ vs 0), (at_ vs 1)])
def h_ref20_Check : Hint := (.seq [] .leaf (.seq [0] (.seq [] .leaf (.cond (.seq [] .leaf .leaf) .leaf)) (.seq [] (.seq [] .leaf (.blk (.loop [0, 4] (.seq [0, 4] (.seq [] .leaf (.cond .leaf .leaf)) (.seq [0, 4] (.blk (.seq [] .leaf (.seq [] .leaf (.cond (.seq [] .leaf .leaf) .leaf)))) .leaf))))) (.seq [] .leaf .leaf))))
def A_ref20_Check (l : List V) : M V := match l with | [x0] => F_ref20_Check x0 | _ => fail
theorem e_ref20_Check (x0 : V) : funM Try.prog (ovr [(fid_ref20_may, A_ref20_may)] noC) fid_ref20_Check h_ref20_Check [x0] = F_ref20_Check x0 := by kernel_rfl
theorem K_ref20_Check : Known Try.prog fid_ref20_Check (A_ref20_Check) := known_of (σ := ovr [(fid_ref20_may, A_ref20_may)] noC) (hint := h_ref20_Check) (by kernel_rfl) (simAll_ovr K_ref20_may simAll_nil0) fun l H r H' h => by
  unfold A_ref20_Check at h; split at h
  · rw [e_ref20_Check]; exact h
  · exact (fail_ne h).elim

/-! ### capstan/capstanref20.New -/
def ref20_New_k0 (vs : List V) : M Out :=
  withResv 2 fun base h0 =>
  bnd (lift (lenSlc (at_ vs 0))) fun x18 =>
  bnd (flt (base + 0) (bslc 5 0 (rep 0 [Value.int .i64 0, Value.int .i64 0, Value.int .i64 0, Value.int .i64 0, Value.int .i64 0]) [])) fun x14 =>
  bndH (appV 5 40 x14 (at_ vs 0)) fun ha x16 h1 =>
  need (freeIn ha [base + 1] && freeIn h1 [base + 1]) <|
  bnd (flt (base + 1) (mkslc 4 64 [Value.slice none 0 0, Value.slice none 0 0, Value.int .i64 0, Value.int .i64 0] x18 x18)) fun x19 =>
  bnd (lift (build [Value.slice none 0 0, Value.slice none 0 0] [(0, 1, x16), (1, 1, x19)])) fun x20 =>
  bndH (boxv x20) fun ha_2 x21 h2 =>
  ret (.ret [x21, (Value.int .i64 0)])
def F_ref20_New (x0 : V) : M V :=
  bnd (
    bnd (
      bnd (A_ref20_Check [x0]) fun x8 =>
      bnd (lift (ext 0 x8)) fun x9 =>
      bnd (lift (ext 1 x8)) fun x10 =>
      bnd (lift (bin .neq x10 (Value.int .i64 0))) fun x12 =>
      condM x12 (
        ret (.ret [(Value.pointer none), x10])
        ) (
        ret (.nxt [x0])
        )
      ) fun o => nx o ref20_New_k0
    ) fun o => finM o fun vs => ret (outV [(at_ vs 0), (at_ vs 1)])
def h_ref20_New : Hint := (.seq [] .leaf (.seq [0] (.seq [] .leaf (.seq [] .leaf (.cond (.seq [] .leaf .leaf) .leaf))) (.seq [] (.reg [1, 3, 4, 0, 2, 5, 6, 7, 8, 9] [0, 5]) .leaf)))
def A_ref20_New (l : List V) : M V := match l with | [x0] => F_ref20_New x0 | _ => fail
theorem e_ref20_New (x0 : V) : funM Try.prog (ovr [(fid_ref20_Check, A_ref20_Check)] noC) fid_ref20_New h_ref20_New [x0] = F_ref20_New x0 := by kernel_rfl
theorem K_ref20_New : Known Try.prog fid_ref20_New (A_ref20_New) := known_of (σ := ovr [(fid_ref20_Check, A_ref20_Check)] noC) (hint := h_ref20_New) (by kernel_rfl) (simAll_ovr K_ref20_Check simAll_nil0) fun l H r H' h => by
  unfold A_ref20_New at h; split at h
  · rw [e_ref20_New]; exact h
  · exact (fail_ne h).elim

/-! ### capstan/capstanlaw20.among -/
def F_law20_among (x0 x1 : V) : M V :=
  bnd (
    bnd (lift (bin .rem x0 x1)) fun x7 =>
    bnd (lift (bin .add x7 x1)) fun x9 =>
    bnd (lift (bin .rem x9 x1)) fun x11 =>
    ret (.ret [x11])
    ) fun o => finM o fun vs => ret (outV [(at_ vs 0)])
def h_law20_among : Hint := (.seq [] .leaf (.seq [] .leaf .leaf))
def A_law20_among (l : List V) : M V := match l with | [x0, x1] => F_law20_among x0 x1 | _ => fail
theorem e_law20_among (x0 x1 : V) : funM Try.prog (ovr [] noC) fid_law20_among h_law20_among [x0, x1] = F_law20_among x0 x1 := by kernel_rfl
theorem K_law20_among : Known Try.prog fid_law20_among (A_law20_among) := known_of (σ := ovr [] noC) (hint := h_law20_among) (by kernel_rfl) simAll_nil0 fun l H r H' h => by
  unfold A_law20_among at h; split at h
  · rw [e_law20_among]; exact h
  · exact (fail_ne h).elim

/-! ### capstan/capstanref04.Type -/
def F_ref04_Type (x0 : V) : M V :=
  bnd (
    bnd (lift (bin .geq x0 (Value.int .i64 1))) fun x4 =>
    bnd (gd x4 true (lift (some x0))) fun x6 =>
    bnd (gd x4 true (lift (bin .leq x6 (Value.int .i64 4)))) fun x7 =>
    bnd (lift (pickV x4 x7 (Value.bool false))) fun x8 =>
    ret (.ret [x8])
    ) fun o => finM o fun vs => ret (outV [(at_ vs 0)])
def h_ref04_Type : Hint := (.seq [] .leaf (.seq [] .leaf .leaf))
def A_ref04_Type (l : List V) : M V := match l with | [x0] => F_ref04_Type x0 | _ => fail
theorem e_ref04_Type (x0 : V) : funM Try.prog (ovr [] noC) fid_ref04_Type h_ref04_Type [x0] = F_ref04_Type x0 := by kernel_rfl
theorem K_ref04_Type : Known Try.prog fid_ref04_Type (A_ref04_Type) := known_of (σ := ovr [] noC) (hint := h_ref04_Type) (by kernel_rfl) simAll_nil0 fun l H r H' h => by
  unfold A_ref04_Type at h; split at h
  · rw [e_ref04_Type]; exact h
  · exact (fail_ne h).elim

/-! ### capstan/capstanref04.size -/
def ref04_size_k0 (vs : List V) : M Out :=
  ret (.ret [(Value.int .i64 4294967296)])
def F_ref04_size (x0 : V) : M V :=
  bnd (
    bnd (
      bnd (lift (bin .eql x0 (Value.int .i64 2))) fun x4 =>
      condM x4 (
        ret (.ret [(Value.int .i64 65536)])
        ) (
        ret (.nxt [])
        )
      ) fun o => nx o ref04_size_k0
    ) fun o => finM o fun vs => ret (outV [(at_ vs 0)])
def h_ref04_size : Hint := (.seq [] .leaf (.seq [] (.seq [] .leaf (.cond (.seq [] .leaf .leaf) .leaf)) (.seq [] .leaf .leaf)))
def A_ref04_size (l : List V) : M V := match l with | [x0] => F_ref04_size x0 | _ => fail
theorem e_ref04_size (x0 : V) : funM Try.prog (ovr [] noC) fid_ref04_size h_ref04_size [x0] = F_ref04_size x0 := by kernel_rfl
theorem K_ref04_size : Known Try.prog fid_ref04_size (A_ref04_size) := known_of (σ := ovr [] noC) (hint := h_ref04_size) (by kernel_rfl) simAll_nil0 fun l H r H' h => by
  unfold A_ref04_size at h; split at h
  · rw [e_ref04_size]; exact h
  · exact (fail_ne h).elim

/-! ### capstan/capstanref04.Fits -/
def ref04_Fits_k0 (vs : List V) : M Out :=
  bnd (A_ref04_Type [(at_ vs 0)]) fun x14 =>
  bnd (gd x14 true (lift (some (at_ vs 1)))) fun x16 =>
  bnd (gd x14 true (lift (some (at_ vs 0)))) fun x17 =>
  bnd (gd x14 true (A_ref04_size [x17])) fun x18 =>
  bnd (gd x14 true (lift (un .neg x18))) fun x19 =>
  bnd (gd x14 true (lift (bin .quo x19 (Value.int .i64 2)))) fun x20 =>
  bnd (gd x14 true (lift (bin .geq x16 x20))) fun x21 =>
  bnd (lift (pickV x14 x21 (Value.bool false))) fun x22 =>
  bnd (gd x22 true (lift (some (at_ vs 1)))) fun x24 =>
  bnd (gd x22 true (lift (some (at_ vs 0)))) fun x25 =>
  bnd (gd x22 true (A_ref04_size [x25])) fun x26 =>
  bnd (gd x22 true (lift (bin .quo x26 (Value.int .i64 2)))) fun x27 =>
  bnd (gd x22 true (lift (bin .lss x24 x27))) fun x28 =>
  bnd (lift (pickV x22 x28 (Value.bool false))) fun x29 =>
  ret (.ret [x29])
def F_ref04_Fits (x0 x1 : V) : M V :=
  bnd (
    bnd (
      bnd (lift (bin .eql x0 (Value.int .i64 1))) fun x6 =>
      condM x6 (
        bnd (lift (bin .eql x1 (Value.int .i64 0))) fun x8 =>
        bnd (gd x8 false (lift (some x1))) fun x10 =>
        bnd (gd x8 false (lift (bin .eql x10 (Value.int .i64 1)))) fun x11 =>
        bnd (lift (pickV x8 (Value.bool true) x11)) fun x12 =>
        ret (.ret [x12])
        ) (
        ret (.nxt [x0, x1])
        )
      ) fun o => nx o ref04_Fits_k0
    ) fun o => finM o fun vs => ret (outV [(at_ vs 0)])
def h_ref04_Fits : Hint := (.seq [] .leaf (.seq [0, 1] (.seq [] .leaf (.cond (.seq [] .leaf .leaf) .leaf)) (.seq [] .leaf .leaf)))
def A_ref04_Fits (l : List V) : M V := match l with | [x0, x1] => F_ref04_Fits x0 x1 | _ => fail
theorem e_ref04_Fits (x0 x1 : V) : funM Try.prog (ovr [(fid_ref04_Type, A_ref04_Type), (fid_ref04_size, A_ref04_size)] noC) fid_ref04_Fits h_ref04_Fits [x0, x1] = F_ref04_Fits x0 x1 := by kernel_rfl
theorem K_ref04_Fits : Known Try.prog fid_ref04_Fits (A_ref04_Fits) := known_of (σ := ovr [(fid_ref04_Type, A_ref04_Type), (fid_ref04_size, A_ref04_size)] noC) (hint := h_ref04_Fits) (by kernel_rfl) (simAll_ovr K_ref04_Type (simAll_ovr K_ref04_size simAll_nil0)) fun l H r H' h => by
  unfold A_ref04_Fits at h; split at h
  · rw [e_ref04_Fits]; exact h
  · exact (fail_ne h).elim

/-! ### (*capstan/capstanref20.Box).Send -/
def ref20_Box_Send_k0 (vs_4 : List V) : M Out :=
  bnd (lift (nilck (at_ vs_4 0))) fun x82 =>
  bnd (lift (faddr 1 x82)) fun x83 =>
  bnd (ld1 x83) fun x84 =>
  bnd (ldn 4 (at_ vs_4 2)) fun x86 =>
  bnd (lift (iaddrS 4 x84 (at_ vs_4 1))) fun x87 =>
  bnd (stn 4 x87 x86) fun _ =>
  ret (.ret [(Value.int .i64 0)])
def ref20_Box_Send_k1 (vs_3 : List V) : M Out :=
  bnd (lift (nilck (at_ vs_3 0))) fun x44 =>
  bnd (lift (faddr 1 x44)) fun x45 =>
  bnd (ld1 x45) fun x46 =>
  bnd (lift (iaddrS 4 x46 (at_ vs_3 1))) fun x48 =>
  bnd (ldn 4 x48) fun x49 =>
  bnd (newc [Value.slice none 0 0, Value.slice none 0 0, Value.int .i64 0, Value.int .i64 0]) fun x10 =>
  bnd (stn 4 x10 x49) fun _ =>
  bnd (
    bnd (lift (faddr 0 (at_ vs_3 3))) fun x50 =>
    bnd (ld1 x50) fun x51 =>
    bnd (lift (bin .eql x51 (Value.int .i64 1))) fun x52 =>
    condM x52 (
      bnd (bslc 1 1 (rep 1 [Value.int .i64 0]) [(0, 1, (at_ vs_3 2))]) fun x54 =>
      bnd (lift (faddr 0 x10)) fun x55 =>
      bnd (st1 x55 x54) fun _ =>
      ret (.nxt [(at_ vs_3 0), (at_ vs_3 1), x10])
      ) (
      bnd (lift (faddr 0 x10)) fun x56 =>
      bnd (ld1 x56) fun x57 =>
      bnd (lift (lenSlc x57)) fun x58 =>
      bnd (lift (faddr 4 (at_ vs_3 3))) fun x59 =>
      bnd (ld1 x59) fun x60 =>
      bnd (lift (bin .geq x58 x60)) fun x61 =>
      condM x61 (
        bnd (lift (faddr 3 x10)) fun x62 =>
        bnd (ld1 x62) fun x63 =>
        bnd (lift (bin .add x63 (Value.int .i64 1))) fun x64 =>
        bnd (lift (faddr 3 x10)) fun x65 =>
        bnd (st1 x65 x64) fun _ =>
        bnd (lift (nilck (at_ vs_3 0))) fun x67 =>
        bnd (lift (faddr 1 x67)) fun x68 =>
        bnd (ld1 x68) fun x69 =>
        bnd (ldn 4 x10) fun x71 =>
        bnd (lift (iaddrS 4 x69 (at_ vs_3 1))) fun x72 =>
        bnd (stn 4 x72 x71) fun _ =>
        ret (.ret [(Value.int .i64 2)])
        ) (
        bnd (bslc 1 0 (rep 0 [Value.int .i64 0]) []) fun x73 =>
        bnd (lift (faddr 0 x10)) fun x74 =>
        bnd (ld1 x74) fun x75 =>
        bnd (appV 1 8 x73 x75) fun x76 =>
        bnd (bslc 1 1 (rep 1 [Value.int .i64 0]) [(0, 1, (at_ vs_3 2))]) fun x78 =>
        bnd (appV 1 8 x76 x78) fun x79 =>
        bnd (lift (faddr 0 x10)) fun x80 =>
        bnd (st1 x80 x79) fun _ =>
        ret (.nxt [(at_ vs_3 0), (at_ vs_3 1), x10])
        )
      )
    ) fun o => nx o ref20_Box_Send_k0
def ref20_Box_Send_k2 (vs_2 : List V) : M Out :=
  bnd (
    bnd (lift (faddr 3 (at_ vs_2 3))) fun x38 =>
    bnd (ld1 x38) fun x39 =>
    bnd (A_ref04_Fits [x39, (at_ vs_2 2)]) fun x41 =>
    bnd (lift (un .not x41)) fun x42 =>
    condM x42 (
      ret (.ret [(Value.int .i64 1)])
      ) (
      ret (.nxt [(at_ vs_2 0), (at_ vs_2 1), (at_ vs_2 2), (at_ vs_2 3)])
      )
    ) fun o => nx o ref20_Box_Send_k1
def ref20_Box_Send_k3 (vs : List V) : M Out :=
  bnd (lift (nilck (at_ vs 0))) fun x28 =>
  bnd (lift (faddr 0 x28)) fun x29 =>
  bnd (ld1 x29) fun x30 =>
  bnd (lift (iaddrS 5 x30 (at_ vs 2))) fun x32 =>
  bnd (ldn 5 x32) fun x33 =>
  bnd (newc [Value.int .i64 0, Value.int .i64 0, Value.int .i64 0, Value.int .i64 0, Value.int .i64 0]) fun x9 =>
  bnd (stn 5 x9 x33) fun _ =>
  bnd (
    bnd (lift (faddr 1 x9)) fun x34 =>
    bnd (ld1 x34) fun x35 =>
    bnd (lift (bin .neq x35 (at_ vs 1))) fun x37 =>
    condM x37 (
      ret (.ret [(Value.int .i64 200)])
      ) (
      ret (.nxt [(at_ vs 0), (at_ vs 2), (at_ vs 3), x9])
      )
    ) fun o => nx o ref20_Box_Send_k2
def F_ref20_Box_Send (x0 x1 x2 x3 : V) : M V :=
  bnd (
    bnd (
      bnd (A_ref20_part [x1]) fun x12 =>
      bnd (lift (un .not x12)) fun x13 =>
      bnd (gd x13 false (lift (some x2))) fun x15 =>
      bnd (gd x13 false (lift (bin .lss x15 (Value.int .i64 0)))) fun x16 =>
      bnd (lift (pickV x13 (Value.bool true) x16)) fun x17 =>
      bnd (gd x17 false (lift (some x2))) fun x19 =>
      bnd (gd x17 false (lift (some x0))) fun x20 =>
      bnd (gd x17 false (lift (nilck x20))) fun x21 =>
      bnd (gd x17 false (lift (faddr 0 x21))) fun x22 =>
      bnd (gd x17 false (ld1 x22)) fun x23 =>
      bnd (gd x17 false (lift (lenSlc x23))) fun x24 =>
      bnd (gd x17 false (lift (bin .geq x19 x24))) fun x25 =>
      bnd (lift (pickV x17 (Value.bool true) x25)) fun x26 =>
      condM x26 (
        ret (.ret [(Value.int .i64 1)])
        ) (
        ret (.nxt [x0, x1, x2, x3])
        )
      ) fun o => nx o ref20_Box_Send_k3
    ) fun o => finM o fun vs => ret (outV [(at_ vs 0)])
def h_ref20_Box_Send : Hint := (.seq [] .leaf (.seq [0, 1, 2, 3] (.seq [] .leaf (.cond (.seq [] .leaf .leaf) .leaf)) (.seq [] .leaf (.seq [0, 2, 3, 9] (.seq [] .leaf (.cond (.seq [] .leaf .leaf) .leaf)) (.seq [0, 2, 3, 9] (.seq [] .leaf (.cond (.seq [] .leaf .leaf) .leaf)) (.seq [] .leaf (.seq [0, 2, 10] (.seq [] .leaf (.cond .leaf (.seq [] .leaf (.cond (.seq [] .leaf (.seq [] (.reg [0, 1, 2, 4, 3, 5, 6, 7] []) (.seq [] .leaf .leaf))) .leaf)))) (.seq [] (.reg [0, 1, 2, 4, 3, 5, 6, 7] []) (.seq [] .leaf .leaf)))))))))
def A_ref20_Box_Send (l : List V) : M V := match l with | [x0, x1, x2, x3] => F_ref20_Box_Send x0 x1 x2 x3 | _ => fail
theorem e_ref20_Box_Send (x0 x1 x2 x3 : V) : funM Try.prog (ovr [(fid_ref20_part, A_ref20_part), (fid_ref04_Fits, A_ref04_Fits)] noC) fid_ref20_Box_Send h_ref20_Box_Send [x0, x1, x2, x3] = F_ref20_Box_Send x0 x1 x2 x3 := by kernel_rfl
theorem K_ref20_Box_Send : Known Try.prog fid_ref20_Box_Send (A_ref20_Box_Send) := known_of (σ := ovr [(fid_ref20_part, A_ref20_part), (fid_ref04_Fits, A_ref04_Fits)] noC) (hint := h_ref20_Box_Send) (by kernel_rfl) (simAll_ovr K_ref20_part (simAll_ovr K_ref04_Fits simAll_nil0)) fun l H r H' h => by
  unfold A_ref20_Box_Send at h; split at h
  · rw [e_ref20_Box_Send]; exact h
  · exact (fail_ne h).elim

/-! ### (*capstan/capstanref20.Box).Recv -/
def ref20_Box_Recv_k0 (vs_4 : List V) : M Out :=
  bnd (lift (faddr 1 (at_ vs_4 2))) fun x59 =>
  bnd (ld1 x59) fun x60 =>
  bnd (lift (iaddrS 1 x60 (Value.int .i64 0))) fun x61 =>
  bnd (ld1 x61) fun x62 =>
  bnd (bslc 1 0 (rep 0 [Value.int .i64 0]) []) fun x63 =>
  bnd (lift (faddr 1 (at_ vs_4 2))) fun x64 =>
  bnd (ld1 x64) fun x65 =>
  bnd (lift (subV 1 x65 (some (Value.int .i64 1)) none)) fun x66 =>
  bnd (appV 1 8 x63 x66) fun x67 =>
  bnd (lift (faddr 1 (at_ vs_4 2))) fun x68 =>
  bnd (st1 x68 x67) fun _ =>
  bnd (lift (nilck (at_ vs_4 0))) fun x70 =>
  bnd (lift (faddr 1 x70)) fun x71 =>
  bnd (ld1 x71) fun x72 =>
  bnd (ldn 4 (at_ vs_4 2)) fun x74 =>
  bnd (lift (iaddrS 4 x72 (at_ vs_4 1))) fun x75 =>
  bnd (stn 4 x75 x74) fun _ =>
  ret (.ret [x62, (Value.int .i64 0), (Value.int .i64 0)])
def ref20_Box_Recv_k1 (vs_3 : List V) : M Out :=
  bnd (
    bnd (lift (faddr 0 (at_ vs_3 2))) fun x50 =>
    bnd (ld1 x50) fun x51 =>
    bnd (lift (bin .eql x51 (Value.int .i64 1))) fun x52 =>
    condM x52 (
      bnd (lift (faddr 1 (at_ vs_3 3))) fun x53 =>
      bnd (lift (faddr 2 (at_ vs_3 3))) fun x57 =>
      bnd (ld1 x53) fun x54 =>
      bnd (lift (iaddrS 1 x54 (Value.int .i64 0))) fun x55 =>
      bnd (ld1 x55) fun x56 =>
      bnd (ld1 x57) fun x58 =>
      ret (.ret [x56, x58, (Value.int .i64 0)])
      ) (
      ret (.nxt [(at_ vs_3 0), (at_ vs_3 1), (at_ vs_3 3)])
      )
    ) fun o => nx o ref20_Box_Recv_k0
def ref20_Box_Recv_k2 (vs_2 : List V) : M Out :=
  bnd (lift (nilck (at_ vs_2 0))) fun x40 =>
  bnd (lift (faddr 1 x40)) fun x41 =>
  bnd (ld1 x41) fun x42 =>
  bnd (lift (iaddrS 4 x42 (at_ vs_2 1))) fun x44 =>
  bnd (ldn 4 x44) fun x45 =>
  bnd (newc [Value.slice none 0 0, Value.slice none 0 0, Value.int .i64 0, Value.int .i64 0]) fun x10 =>
  bnd (stn 4 x10 x45) fun _ =>
  bnd (
    bnd (lift (faddr 1 x10)) fun x46 =>
    bnd (ld1 x46) fun x47 =>
    bnd (lift (lenSlc x47)) fun x48 =>
    bnd (lift (bin .eql x48 (Value.int .i64 0))) fun x49 =>
    condM x49 (
      ret (.ret [(Value.int .i64 0), (Value.int .i64 0), (Value.int .i64 5)])
      ) (
      ret (.nxt [(at_ vs_2 0), (at_ vs_2 1), (at_ vs_2 2), x10])
      )
    ) fun o => nx o ref20_Box_Recv_k1
def ref20_Box_Recv_k3 (vs : List V) : M Out :=
  bnd (lift (nilck (at_ vs 0))) fun x29 =>
  bnd (lift (faddr 0 x29)) fun x30 =>
  bnd (ld1 x30) fun x31 =>
  bnd (lift (iaddrS 5 x31 (at_ vs 2))) fun x33 =>
  bnd (ldn 5 x33) fun x34 =>
  bnd (newc [Value.int .i64 0, Value.int .i64 0, Value.int .i64 0, Value.int .i64 0, Value.int .i64 0]) fun x9 =>
  bnd (stn 5 x9 x34) fun _ =>
  bnd (
    bnd (lift (faddr 2 x9)) fun x35 =>
    bnd (ld1 x35) fun x36 =>
    bnd (lift (bin .neq x36 (at_ vs 1))) fun x38 =>
    condM x38 (
      ret (.ret [(Value.int .i64 0), (Value.int .i64 0), (Value.int .i64 200)])
      ) (
      ret (.nxt [(at_ vs 0), (at_ vs 2), x9])
      )
    ) fun o => nx o ref20_Box_Recv_k2
def F_ref20_Box_Recv (x0 x1 x2 : V) : M V :=
  bnd (
    bnd (
      bnd (A_ref20_part [x1]) fun x13 =>
      bnd (lift (un .not x13)) fun x14 =>
      bnd (gd x14 false (lift (some x2))) fun x16 =>
      bnd (gd x14 false (lift (bin .lss x16 (Value.int .i64 0)))) fun x17 =>
      bnd (lift (pickV x14 (Value.bool true) x17)) fun x18 =>
      bnd (gd x18 false (lift (some x2))) fun x20 =>
      bnd (gd x18 false (lift (some x0))) fun x21 =>
      bnd (gd x18 false (lift (nilck x21))) fun x22 =>
      bnd (gd x18 false (lift (faddr 0 x22))) fun x23 =>
      bnd (gd x18 false (ld1 x23)) fun x24 =>
      bnd (gd x18 false (lift (lenSlc x24))) fun x25 =>
      bnd (gd x18 false (lift (bin .geq x20 x25))) fun x26 =>
      bnd (lift (pickV x18 (Value.bool true) x26)) fun x27 =>
      condM x27 (
        ret (.ret [(Value.int .i64 0), (Value.int .i64 0), (Value.int .i64 1)])
        ) (
        ret (.nxt [x0, x1, x2])
        )
      ) fun o => nx o ref20_Box_Recv_k3
    ) fun o => finM o fun vs => ret (outV [(at_ vs 0), (at_ vs 1), (at_ vs 2)])
def h_ref20_Box_Recv : Hint := (.seq [] .leaf (.seq [0, 1, 2] (.seq [] .leaf (.cond (.seq [] .leaf .leaf) .leaf)) (.seq [] .leaf (.seq [0, 2, 9] (.seq [] .leaf (.cond (.seq [] .leaf .leaf) .leaf)) (.seq [] .leaf (.seq [0, 2, 9, 10] (.seq [] .leaf (.cond (.seq [] .leaf .leaf) .leaf)) (.seq [0, 2, 10] (.seq [] .leaf (.cond (.seq [] (.reg [0, 4, 1, 2, 3, 6, 5, 7, 8] []) .leaf) .leaf)) (.seq [] .leaf (.seq [] .leaf (.seq [] (.reg [0, 1, 2, 4, 3, 5, 6, 7] []) (.seq [] .leaf .leaf)))))))))))
def A_ref20_Box_Recv (l : List V) : M V := match l with | [x0, x1, x2] => F_ref20_Box_Recv x0 x1 x2 | _ => fail
theorem e_ref20_Box_Recv (x0 x1 x2 : V) : funM Try.prog (ovr [(fid_ref20_part, A_ref20_part)] noC) fid_ref20_Box_Recv h_ref20_Box_Recv [x0, x1, x2] = F_ref20_Box_Recv x0 x1 x2 := by kernel_rfl
theorem K_ref20_Box_Recv : Known Try.prog fid_ref20_Box_Recv (A_ref20_Box_Recv) := known_of (σ := ovr [(fid_ref20_part, A_ref20_part)] noC) (hint := h_ref20_Box_Recv) (by kernel_rfl) (simAll_ovr K_ref20_part simAll_nil0) fun l H r H' h => by
  unfold A_ref20_Box_Recv at h; split at h
  · rw [e_ref20_Box_Recv]; exact h
  · exact (fail_ne h).elim

/-! ### (*capstan/capstanref20.Box).Frame -/
def ref20_Box_Frame_k0 (vs_5 : List V) : M Out :=
  bnd (lift (bin .add (at_ vs_5 3) (Value.int .i64 1))) fun x52 =>
  ret (.nxt [(at_ vs_5 0), (at_ vs_5 1), (at_ vs_5 2), x52])
def ref20_Box_Frame_k1 (vs_4 : List V) : M Out :=
  bnd (
  bnd (
    bnd (lift (faddr 1 (at_ vs_4 2))) fun x53 =>
    bnd (lift (nilck (at_ vs_4 0))) fun x57 =>
    bnd (lift (faddr 0 x57)) fun x58 =>
    bnd (ld1 x53) fun x54 =>
    bnd (lift (lenSlc x54)) fun x55 =>
    bnd (ld1 x58) fun x59 =>
    bnd (lift (iaddrS 5 x59 (at_ vs_4 1))) fun x61 =>
    bnd (lift (faddr 4 x61)) fun x62 =>
    bnd (ld1 x62) fun x63 =>
    bnd (lift (bin .lss x55 x63)) fun x64 =>
    condM x64 (
      withResv 2 fun base h0 =>
      bnd (lift (faddr 1 (at_ vs_4 2))) fun x66 =>
      bnd (lift (faddr 0 (at_ vs_4 2))) fun x69 =>
      bnd (ld1 x66) fun x67 =>
      bnd (ld1 x69) fun x70 =>
      bnd (lift (iaddrS 1 x70 (at_ vs_4 3))) fun x72 =>
      bnd (ld1 x72) fun x73 =>
      bnd (flt (base + 0) (bslc 1 0 (rep 0 [Value.int .i64 0]) [])) fun x65 =>
      bndH (appV 1 8 x65 x67) fun ha x68 h1 =>
      need (freeIn ha [base + 1] && freeIn h1 [base + 1]) <|
      bnd (flt (base + 1) (bslc 1 1 (rep 1 [Value.int .i64 0]) [(0, 1, x73)])) fun x74 =>
      bndH (appV 1 8 x68 x74) fun ha_2 x75 h2 =>
      bnd (lift (faddr 1 (at_ vs_4 2))) fun x76 =>
      bndH (st1 x76 x75) fun ha_3 u h3 =>
      need (chk (ld1 x69) h1 x70) <|
      need (chk (ld1 x72) h1 x73) <|
      ret (.nxt [(at_ vs_4 0), (at_ vs_4 1), (at_ vs_4 2), (at_ vs_4 3)])
      ) (
      bnd (lift (faddr 3 (at_ vs_4 2))) fun x77 =>
      bnd (ld1 x77) fun x78 =>
      bnd (lift (bin .add x78 (Value.int .i64 1))) fun x79 =>
      bnd (lift (faddr 3 (at_ vs_4 2))) fun x80 =>
      bnd (st1 x80 x79) fun _ =>
      ret (.nxt [(at_ vs_4 0), (at_ vs_4 1), (at_ vs_4 2), (at_ vs_4 3)])
      )
    ) fun o => ret (unblk 3 o)
  ) fun o => nx o ref20_Box_Frame_k0
def ref20_Box_Frame_l2 (vs_3 : List V) : M Out :=
  bnd (
  bnd (lift (faddr 0 (at_ vs_3 2))) fun x47 =>
  bnd (ld1 x47) fun x48 =>
  bnd (lift (lenSlc x48)) fun x49 =>
  bnd (lift (bin .lss (at_ vs_3 3) x49)) fun x50 =>
  condM x50 (
    ret (.nxt [(at_ vs_3 0), (at_ vs_3 1), (at_ vs_3 2), (at_ vs_3 3)])
    ) (
    ret (.brk 2 [(at_ vs_3 0), (at_ vs_3 1), (at_ vs_3 2)])
    )
  ) fun o => nx o ref20_Box_Frame_k1
def ref20_Box_Frame_k3 (vs_6 : List V) : M Out :=
    bnd (lift (faddr 0 (at_ vs_6 2))) fun x81 =>
    bnd (st1 x81 (Value.slice none 0 0)) fun _ =>
    bnd (lift (nilck (at_ vs_6 0))) fun x83 =>
    bnd (lift (faddr 1 x83)) fun x84 =>
    bnd (ld1 x84) fun x85 =>
    bnd (ldn 4 (at_ vs_6 2)) fun x87 =>
    bnd (lift (iaddrS 4 x85 (at_ vs_6 1))) fun x88 =>
    bnd (stn 4 x88 x87) fun _ =>
    ret (.nxt [(at_ vs_6 0), (at_ vs_6 1)])
def ref20_Box_Frame_k4 (vs_7 : List V) : M Out :=
  bnd (lift (bin .add (at_ vs_7 1) (Value.int .i64 1))) fun x13 =>
  ret (.nxt [(at_ vs_7 0), x13])
def ref20_Box_Frame_k5 (vs_2 : List V) : M Out :=
  bnd (
  bnd (
    bnd (lift (nilck (at_ vs_2 0))) fun x15 =>
    bnd (lift (faddr 1 x15)) fun x16 =>
    bnd (ld1 x16) fun x17 =>
    bnd (lift (iaddrS 4 x17 (at_ vs_2 1))) fun x19 =>
    bnd (ldn 4 x19) fun x20 =>
    bnd (newc [Value.slice none 0 0, Value.slice none 0 0, Value.int .i64 0, Value.int .i64 0]) fun x3 =>
    bnd (stn 4 x3 x20) fun _ =>
    bnd (
      bnd (lift (nilck (at_ vs_2 0))) fun x22 =>
      bnd (lift (faddr 0 x22)) fun x23 =>
      bnd (ld1 x23) fun x24 =>
      bnd (lift (iaddrS 5 x24 (at_ vs_2 1))) fun x26 =>
      bnd (lift (faddr 0 x26)) fun x27 =>
      bnd (ld1 x27) fun x28 =>
      bnd (lift (bin .eql x28 (Value.int .i64 1))) fun x29 =>
      condM x29 (
        bnd (lift (faddr 0 x3)) fun x30 =>
        bnd (ld1 x30) fun x31 =>
        bnd (lift (lenSlc x31)) fun x32 =>
        bnd (lift (bin .gtr x32 (Value.int .i64 0))) fun x33 =>
        condM x33 (
          bnd (lift (faddr 0 x3)) fun x34 =>
          bnd (ld1 x34) fun x35 =>
          bnd (lift (faddr 1 x3)) fun x36 =>
          bnd (st1 x36 x35) fun _ =>
          bnd (lift (faddr 2 x3)) fun x37 =>
          bnd (st1 x37 (Value.int .i64 0)) fun _ =>
          ret (.nxt [(at_ vs_2 0), (at_ vs_2 1), x3])
          ) (
          bnd (lift (faddr 1 x3)) fun x38 =>
          bnd (ld1 x38) fun x39 =>
          bnd (lift (lenSlc x39)) fun x40 =>
          bnd (lift (bin .gtr x40 (Value.int .i64 0))) fun x41 =>
          condM x41 (
            bnd (lift (faddr 2 x3)) fun x42 =>
            bnd (ld1 x42) fun x43 =>
            bnd (lift (bin .add x43 (Value.int .i64 1))) fun x44 =>
            bnd (lift (faddr 2 x3)) fun x45 =>
            bnd (st1 x45 x44) fun _ =>
            ret (.nxt [(at_ vs_2 0), (at_ vs_2 1), x3])
            ) (
            ret (.nxt [(at_ vs_2 0), (at_ vs_2 1), x3])
            )
          )
        ) (
        bnd (
          loopM FUEL ref20_Box_Frame_l2 [(at_ vs_2 0), (at_ vs_2 1), x3, (Value.int .i64 0)]
          ) fun o => ret (unblk 2 o)
        )
      ) fun o => nx o ref20_Box_Frame_k3
    ) fun o => ret (unblk 1 o)
  ) fun o => nx o ref20_Box_Frame_k4
def ref20_Box_Frame_l6 (vs : List V) : M Out :=
  bnd (
  bnd (lift (nilck (at_ vs 0))) fun x7 =>
  bnd (lift (faddr 0 x7)) fun x8 =>
  bnd (ld1 x8) fun x9 =>
  bnd (lift (lenSlc x9)) fun x10 =>
  bnd (lift (bin .lss (at_ vs 1) x10)) fun x11 =>
  condM x11 (
    ret (.nxt [(at_ vs 0), (at_ vs 1)])
    ) (
    ret (.brk 0 [])
    )
  ) fun o => nx o ref20_Box_Frame_k5
def F_ref20_Box_Frame (x0 : V) : M V :=
  bnd (
    bnd (
      loopM FUEL ref20_Box_Frame_l6 [x0, (Value.int .i64 0)]
      ) fun o => ret (unblk 0 o)
    ) fun o => finM o fun vs => ret (outV [])
def h_ref20_Box_Frame : Hint := (.seq [] .leaf (.blk (.loop [0, 2] (.seq [0, 2] (.seq [] .leaf (.cond .leaf .leaf)) (.seq [0, 2] (.blk (.seq [] .leaf (.seq [0, 2, 3] (.seq [] .leaf (.cond (.seq [] .leaf (.cond (.seq [] .leaf .leaf) (.seq [] .leaf (.cond .leaf .leaf)))) (.seq [] .leaf (.blk (.loop [0, 2, 3, 4] (.seq [0, 2, 3, 4] (.seq [] .leaf (.cond .leaf .leaf)) (.seq [0, 2, 3, 4] (.blk (.seq [] (.reg [0, 3, 4, 5, 7, 1, 2, 6, 8, 9, 10, 11] []) (.cond (.reg [1, 4, 6, 2, 5, 7, 8, 0, 3, 9, 10, 11, 12] [0, 9]) .leaf))) .leaf))))))) (.seq [] .leaf (.reg [0, 1, 2, 4, 3, 5, 6, 7] []))))) .leaf)))))
def A_ref20_Box_Frame (l : List V) : M V := match l with | [x0] => F_ref20_Box_Frame x0 | _ => fail
theorem e_ref20_Box_Frame (x0 : V) : funM Try.prog (ovr [] noC) fid_ref20_Box_Frame h_ref20_Box_Frame [x0] = F_ref20_Box_Frame x0 := by kernel_rfl
theorem K_ref20_Box_Frame : Known Try.prog fid_ref20_Box_Frame (A_ref20_Box_Frame) := known_of (σ := ovr [] noC) (hint := h_ref20_Box_Frame) (by kernel_rfl) simAll_nil0 fun l H r H' h => by
  unfold A_ref20_Box_Frame at h; split at h
  · rw [e_ref20_Box_Frame]; exact h
  · exact (fail_ne h).elim

/-! ### (*capstan/ports.Box).Undo -/
def ports_Box_Undo_k0 (vs_4 : List V) : M Out :=
  bnd (lift (bin .add (at_ vs_4 4) (Value.int .i64 1))) fun x31 =>
  ret (.nxt [(at_ vs_4 0), (at_ vs_4 1), (at_ vs_4 2), (at_ vs_4 3), x31])
def ports_Box_Undo_k1 (vs_3 : List V) : M Out :=
  bnd (
  bnd (
    bnd (lift (iaddrS 5 (at_ vs_3 2) (at_ vs_3 4))) fun x18 =>
    bnd (ldn 5 x18) fun x19 =>
    bnd (newc [Value.int .i64 0, Value.int .i64 0, Value.int .i64 0, Value.int .i64 0, Value.int .i64 0]) fun x6 =>
    bnd (stn 5 x6 x19) fun _ =>
    bnd (lift (faddr 1 x6)) fun x20 =>
    bnd (ld1 x20) fun x21 =>
    bnd (lift (bin .eql x21 (at_ vs_3 1))) fun x23 =>
    condM x23 (
      bnd (lift (nilck (at_ vs_3 0))) fun x25 =>
      bnd (lift (faddr 1 x25)) fun x26 =>
      bnd (ld1 x26) fun x27 =>
      bnd (lift (iaddrS 4 x27 (at_ vs_3 4))) fun x29 =>
      bnd (lift (faddr 0 x29)) fun x30 =>
      bnd (st1 x30 (Value.slice none 0 0)) fun _ =>
      ret (.nxt [(at_ vs_3 0), (at_ vs_3 1), (at_ vs_3 2), (at_ vs_3 3), (at_ vs_3 4)])
      ) (
      ret (.nxt [(at_ vs_3 0), (at_ vs_3 1), (at_ vs_3 2), (at_ vs_3 3), (at_ vs_3 4)])
      )
    ) fun o => ret (unblk 1 o)
  ) fun o => nx o ports_Box_Undo_k0
def ports_Box_Undo_l2 (vs_2 : List V) : M Out :=
  bnd (lift (bin .lss (at_ vs_2 4) (at_ vs_2 3))) fun x16 =>
  bnd (
  condM x16 (
    ret (.nxt [(at_ vs_2 0), (at_ vs_2 1), (at_ vs_2 2), (at_ vs_2 3), (at_ vs_2 4)])
    ) (
    ret (.brk 0 [])
    )
  ) fun o => nx o ports_Box_Undo_k1
def ports_Box_Undo_k3 (vs_5 : List V) : M Out :=
  ret (.ret [(Value.int .i64 0)])
def ports_Box_Undo_k4 (vs : List V) : M Out :=
  bnd (
    bnd (lift (nilck (at_ vs 0))) fun x11 =>
    bnd (lift (faddr 0 x11)) fun x12 =>
    bnd (ld1 x12) fun x13 =>
    bnd (lift (lenSlc x13)) fun x14 =>
    bnd (
      loopM FUEL ports_Box_Undo_l2 [(at_ vs 0), (at_ vs 1), x13, x14, (Value.int .i64 0)]
      ) fun o => ret (unblk 0 o)
    ) fun o => nx o ports_Box_Undo_k3
def F_ports_Box_Undo (x0 x1 : V) : M V :=
  bnd (
    bnd (
      bnd (A_ports_there [x1]) fun x8 =>
      bnd (lift (un .not x8)) fun x9 =>
      condM x9 (
        ret (.ret [(Value.int .i64 1)])
        ) (
        ret (.nxt [x0, x1])
        )
      ) fun o => nx o ports_Box_Undo_k4
    ) fun o => finM o fun vs => ret (outV [(at_ vs 0)])
def h_ports_Box_Undo : Hint := (.seq [] .leaf (.seq [0, 1] (.seq [] .leaf (.cond (.seq [] .leaf .leaf) .leaf)) (.seq [] (.seq [] .leaf (.blk (.loop [0, 1, 13, 14, 15] (.seq [] .leaf (.seq [0, 1, 13, 14, 15] (.cond .leaf .leaf) (.seq [0, 1, 13, 14, 15] (.blk (.seq [] .leaf (.seq [] .leaf (.cond .leaf .leaf)))) .leaf)))))) (.seq [] .leaf .leaf))))
def A_ports_Box_Undo (l : List V) : M V := match l with | [x0, x1] => F_ports_Box_Undo x0 x1 | _ => fail
theorem e_ports_Box_Undo (x0 x1 : V) : funM Try.prog (ovr [(fid_ports_there, A_ports_there)] noC) fid_ports_Box_Undo h_ports_Box_Undo [x0, x1] = F_ports_Box_Undo x0 x1 := by kernel_rfl
theorem K_ports_Box_Undo : Known Try.prog fid_ports_Box_Undo (A_ports_Box_Undo) := known_of (σ := ovr [(fid_ports_there, A_ports_there)] noC) (hint := h_ports_Box_Undo) (by kernel_rfl) (simAll_ovr K_ports_there simAll_nil0) fun l H r H' h => by
  unfold A_ports_Box_Undo at h; split at h
  · rw [e_ports_Box_Undo]; exact h
  · exact (fail_ne h).elim

/-! ### (*capstan/capstanref20.Box).Undo -/
def ref20_Box_Undo_k0 (vs_4 : List V) : M Out :=
  bnd (lift (bin .add (at_ vs_4 2) (Value.int .i64 1))) fun x17 =>
  ret (.nxt [(at_ vs_4 0), (at_ vs_4 1), x17])
def ref20_Box_Undo_k1 (vs_3 : List V) : M Out :=
  bnd (
  bnd (
    bnd (lift (nilck (at_ vs_3 0))) fun x19 =>
    bnd (lift (faddr 0 x19)) fun x20 =>
    bnd (ld1 x20) fun x21 =>
    bnd (lift (iaddrS 5 x21 (at_ vs_3 2))) fun x23 =>
    bnd (lift (faddr 1 x23)) fun x24 =>
    bnd (ld1 x24) fun x25 =>
    bnd (lift (bin .eql x25 (at_ vs_3 1))) fun x27 =>
    condM x27 (
      bnd (lift (nilck (at_ vs_3 0))) fun x29 =>
      bnd (lift (faddr 1 x29)) fun x30 =>
      bnd (ld1 x30) fun x31 =>
      bnd (lift (iaddrS 4 x31 (at_ vs_3 2))) fun x33 =>
      bnd (lift (faddr 0 x33)) fun x34 =>
      bnd (st1 x34 (Value.slice none 0 0)) fun _ =>
      ret (.nxt [(at_ vs_3 0), (at_ vs_3 1), (at_ vs_3 2)])
      ) (
      ret (.nxt [(at_ vs_3 0), (at_ vs_3 1), (at_ vs_3 2)])
      )
    ) fun o => ret (unblk 1 o)
  ) fun o => nx o ref20_Box_Undo_k0
def ref20_Box_Undo_l2 (vs_2 : List V) : M Out :=
  bnd (
  bnd (lift (nilck (at_ vs_2 0))) fun x11 =>
  bnd (lift (faddr 0 x11)) fun x12 =>
  bnd (ld1 x12) fun x13 =>
  bnd (lift (lenSlc x13)) fun x14 =>
  bnd (lift (bin .lss (at_ vs_2 2) x14)) fun x15 =>
  condM x15 (
    ret (.nxt [(at_ vs_2 0), (at_ vs_2 1), (at_ vs_2 2)])
    ) (
    ret (.brk 0 [])
    )
  ) fun o => nx o ref20_Box_Undo_k1
def ref20_Box_Undo_k3 (vs_5 : List V) : M Out :=
  ret (.ret [(Value.int .i64 0)])
def ref20_Box_Undo_k4 (vs : List V) : M Out :=
  bnd (
    bnd (
      loopM FUEL ref20_Box_Undo_l2 [(at_ vs 0), (at_ vs 1), (Value.int .i64 0)]
      ) fun o => ret (unblk 0 o)
    ) fun o => nx o ref20_Box_Undo_k3
def F_ref20_Box_Undo (x0 x1 : V) : M V :=
  bnd (
    bnd (
      bnd (A_ref20_part [x1]) fun x7 =>
      bnd (lift (un .not x7)) fun x8 =>
      condM x8 (
        ret (.ret [(Value.int .i64 1)])
        ) (
        ret (.nxt [x0, x1])
        )
      ) fun o => nx o ref20_Box_Undo_k4
    ) fun o => finM o fun vs => ret (outV [(at_ vs 0)])
def h_ref20_Box_Undo : Hint := (.seq [] .leaf (.seq [0, 1] (.seq [] .leaf (.cond (.seq [] .leaf .leaf) .leaf)) (.seq [] (.seq [] .leaf (.blk (.loop [0, 1, 5] (.seq [0, 1, 5] (.seq [] .leaf (.cond .leaf .leaf)) (.seq [0, 1, 5] (.blk (.seq [] .leaf (.cond .leaf .leaf))) .leaf))))) (.seq [] .leaf .leaf))))
def A_ref20_Box_Undo (l : List V) : M V := match l with | [x0, x1] => F_ref20_Box_Undo x0 x1 | _ => fail
theorem e_ref20_Box_Undo (x0 x1 : V) : funM Try.prog (ovr [(fid_ref20_part, A_ref20_part)] noC) fid_ref20_Box_Undo h_ref20_Box_Undo [x0, x1] = F_ref20_Box_Undo x0 x1 := by kernel_rfl
theorem K_ref20_Box_Undo : Known Try.prog fid_ref20_Box_Undo (A_ref20_Box_Undo) := known_of (σ := ovr [(fid_ref20_part, A_ref20_part)] noC) (hint := h_ref20_Box_Undo) (by kernel_rfl) (simAll_ovr K_ref20_part simAll_nil0) fun l H r H' h => by
  unfold A_ref20_Box_Undo at h; split at h
  · rw [e_ref20_Box_Undo]; exact h
  · exact (fail_ne h).elim

/-! ### (*capstan/capstanref20.Box).Waits -/
def ref20_Box_Waits_k0 (vs : List V) : M Out :=
  bnd (lift (nilck (at_ vs 0))) fun x21 =>
  bnd (lift (faddr 1 x21)) fun x22 =>
  bnd (ld1 x22) fun x23 =>
  bnd (lift (iaddrS 4 x23 (at_ vs 1))) fun x25 =>
  bnd (ldn 4 x25) fun x26 =>
  bnd (newc [Value.slice none 0 0, Value.slice none 0 0, Value.int .i64 0, Value.int .i64 0]) fun x8 =>
  bnd (stn 4 x8 x26) fun _ =>
  bnd (lift (faddr 0 x8)) fun x27 =>
  bnd (lift (faddr 1 x8)) fun x30 =>
  bnd (lift (faddr 3 x8)) fun x33 =>
  bnd (ld1 x27) fun x28 =>
  bnd (lift (lenSlc x28)) fun x29 =>
  bnd (ld1 x30) fun x31 =>
  bnd (lift (lenSlc x31)) fun x32 =>
  bnd (ld1 x33) fun x34 =>
  ret (.ret [x29, x32, x34, (Value.int .i64 0)])
def F_ref20_Box_Waits (x0 x1 : V) : M V :=
  bnd (
    bnd (
      bnd (lift (bin .lss x1 (Value.int .i64 0))) fun x10 =>
      bnd (gd x10 false (lift (some x1))) fun x12 =>
      bnd (gd x10 false (lift (some x0))) fun x13 =>
      bnd (gd x10 false (lift (nilck x13))) fun x14 =>
      bnd (gd x10 false (lift (faddr 0 x14))) fun x15 =>
      bnd (gd x10 false (ld1 x15)) fun x16 =>
      bnd (gd x10 false (lift (lenSlc x16))) fun x17 =>
      bnd (gd x10 false (lift (bin .geq x12 x17))) fun x18 =>
      bnd (lift (pickV x10 (Value.bool true) x18)) fun x19 =>
      condM x19 (
        ret (.ret [(Value.int .i64 0), (Value.int .i64 0), (Value.int .i64 0), (Value.int .i64 1)])
        ) (
        ret (.nxt [x0, x1])
        )
      ) fun o => nx o ref20_Box_Waits_k0
    ) fun o => finM o fun vs => ret (outV [(at_ vs 0), (at_ vs 1), (at_ vs 2), (at_ vs 3)])
def h_ref20_Box_Waits : Hint := (.seq [] .leaf (.seq [0, 1] (.seq [] .leaf (.cond (.seq [] .leaf .leaf) .leaf)) (.seq [] .leaf (.seq [] (.reg [0, 3, 6, 1, 2, 8, 4, 5, 9, 7, 10, 11] []) .leaf))))
def A_ref20_Box_Waits (l : List V) : M V := match l with | [x0, x1] => F_ref20_Box_Waits x0 x1 | _ => fail
theorem e_ref20_Box_Waits (x0 x1 : V) : funM Try.prog (ovr [] noC) fid_ref20_Box_Waits h_ref20_Box_Waits [x0, x1] = F_ref20_Box_Waits x0 x1 := by kernel_rfl
theorem K_ref20_Box_Waits : Known Try.prog fid_ref20_Box_Waits (A_ref20_Box_Waits) := known_of (σ := ovr [] noC) (hint := h_ref20_Box_Waits) (by kernel_rfl) simAll_nil0 fun l H r H' h => by
  unfold A_ref20_Box_Waits at h; split at h
  · rw [e_ref20_Box_Waits]; exact h
  · exact (fail_ne h).elim

/-! ### capstan/capstanlaw20.PortsPlay -/
def law20_PortsPlay_k0 (vs_4 : List V) : M Out :=
  bnd (lift (bin .add (at_ vs_4 4) (Value.int .i64 1))) fun x81 =>
  ret (.nxt [(at_ vs_4 0), (at_ vs_4 1), (at_ vs_4 2), (at_ vs_4 3), x81])
def law20_PortsPlay_k1 (vs_3 : List V) : M Out :=
  bnd (
  bnd (
    bnd (lift (build [Value.int .i64 0, Value.int .i64 0, Value.int .i64 0, Value.int .i64 0, Value.int .i64 0] [(0, 1, (Value.int .i64 (-9)))])) fun x84 =>
    bnd (lift (iaddrS 5 (at_ vs_3 1) (at_ vs_3 4))) fun x85 =>
    bnd (stn 5 x85 x84) fun _ =>
    ret (.nxt [(at_ vs_3 0), (at_ vs_3 1), (at_ vs_3 2), (at_ vs_3 3), (at_ vs_3 4)])
    ) fun o => ret (unblk 1 o)
  ) fun o => nx o law20_PortsPlay_k0
def law20_PortsPlay_l2 (vs_2 : List V) : M Out :=
  bnd (
  bnd (lift (lenSlc (at_ vs_2 1))) fun x78 =>
  bnd (lift (bin .lss (at_ vs_2 4) x78)) fun x79 =>
  condM x79 (
    ret (.nxt [(at_ vs_2 0), (at_ vs_2 1), (at_ vs_2 2), (at_ vs_2 3), (at_ vs_2 4)])
    ) (
    ret (.brk 0 [(at_ vs_2 0), (at_ vs_2 2), (at_ vs_2 3)])
    )
  ) fun o => nx o law20_PortsPlay_k1
def law20_PortsPlay_k3 (vs_8 : List V) : M Out :=
    bnd (lift (faddr 2 (at_ vs_8 4))) fun x178 =>
    bnd (ld1 x178) fun x179 =>
    bnd (A_ports_Box_Waits [(at_ vs_8 1), x179]) fun x180 =>
    bnd (lift (ext 0 x180)) fun x181 =>
    bnd (lift (ext 1 x180)) fun x182 =>
    bnd (lift (ext 2 x180)) fun x183 =>
    bnd (lift (ext 3 x180)) fun x184 =>
    bnd (lift (faddr 2 (at_ vs_8 4))) fun x187 =>
    bnd (ld1 x187) fun x188 =>
    bnd (A_ref20_Box_Waits [(at_ vs_8 2), x188]) fun x189 =>
    bnd (lift (ext 0 x189)) fun x190 =>
    bnd (lift (ext 1 x189)) fun x191 =>
    bnd (lift (ext 2 x189)) fun x192 =>
    bnd (lift (ext 3 x189)) fun x193 =>
    bnd (lift (bin .neq x181 x190)) fun x196 =>
    bnd (gd x196 false (lift (some x182))) fun x198 =>
    bnd (gd x196 false (lift (some x191))) fun x199 =>
    bnd (gd x196 false (lift (bin .neq x198 x199))) fun x200 =>
    bnd (lift (pickV x196 (Value.bool true) x200)) fun x201 =>
    bnd (gd x201 false (lift (some x183))) fun x203 =>
    bnd (gd x201 false (lift (some x192))) fun x204 =>
    bnd (gd x201 false (lift (bin .neq x203 x204))) fun x205 =>
    bnd (lift (pickV x201 (Value.bool true) x205)) fun x206 =>
    bnd (gd x206 false (lift (some x184))) fun x208 =>
    bnd (gd x206 false (lift (some x193))) fun x209 =>
    bnd (gd x206 false (lift (bin .neq x208 x209))) fun x210 =>
    bnd (lift (pickV x206 (Value.bool true) x210)) fun x211 =>
    condM x211 (
      ret (.ret [(Value.bool false)])
      ) (
      ret (.nxt [(at_ vs_8 0), (at_ vs_8 1), (at_ vs_8 2), (at_ vs_8 3)])
      )
def law20_PortsPlay_k4 (vs_9 : List V) : M Out :=
  bnd (lift (bin .add (at_ vs_9 3) (Value.int .i64 1))) fun x99 =>
  ret (.nxt [(at_ vs_9 0), (at_ vs_9 1), (at_ vs_9 2), x99])
def law20_PortsPlay_k5 (vs_7 : List V) : M Out :=
  bnd (
  bnd (
    bnd (lift (iaddrS 4 (at_ vs_7 0) (at_ vs_7 3))) fun x102 =>
    bnd (ldn 4 x102) fun x103 =>
    bnd (newc [Value.int .i64 0, Value.int .i64 0, Value.int .i64 0, Value.int .i64 0]) fun x16 =>
    bnd (stn 4 x16 x103) fun _ =>
    bnd (
      bnd (lift (faddr 0 x16)) fun x104 =>
      bnd (ld1 x104) fun x105 =>
      bnd (A_law20_among [x105, (Value.int .i64 4)]) fun x106 =>
      bnd (
        bnd (lift (bin .eql x106 (Value.int .i64 0))) fun x117 =>
        condM x117 (
          withH fun h0 =>
          bnd (lift (faddr 1 x16)) fun x119 =>
          bnd (lift (faddr 2 x16)) fun x121 =>
          bnd (lift (faddr 3 x16)) fun x123 =>
          bnd (lift (faddr 1 x16)) fun x127 =>
          bnd (lift (faddr 2 x16)) fun x129 =>
          bnd (lift (faddr 3 x16)) fun x131 =>
          bnd (ld1 x119) fun x120 =>
          bnd (ld1 x121) fun x122 =>
          bnd (ld1 x123) fun x124 =>
          bnd (ld1 x127) fun x128 =>
          bnd (ld1 x129) fun x130 =>
          bnd (ld1 x131) fun x132 =>
          bndH (A_ports_Box_Send [(at_ vs_7 1), x120, x122, x124]) fun ha x125 h1 =>
          bndH (A_ref20_Box_Send [(at_ vs_7 2), x128, x130, x132]) fun ha_2 x133 h2 =>
          bnd (lift (bin .neq x125 x133)) fun x134 =>
          need (chk (ld1 x127) h1 x128) <|
          need (chk (ld1 x129) h1 x130) <|
          need (chk (ld1 x131) h1 x132) <|
          condM x134 (
            ret (.ret [(Value.bool false)])
            ) (
            ret (.nxt [(at_ vs_7 0), (at_ vs_7 1), (at_ vs_7 2), (at_ vs_7 3), x16])
            )
          ) (
          bnd (lift (bin .eql x106 (Value.int .i64 1))) fun x136 =>
          condM x136 (
            bnd (lift (faddr 1 x16)) fun x139 =>
            bnd (ld1 x139) fun x140 =>
            bnd (lift (faddr 2 x16)) fun x141 =>
            bnd (ld1 x141) fun x142 =>
            bnd (A_ports_Box_Recv [(at_ vs_7 1), x140, x142]) fun x143 =>
            bnd (lift (ext 0 x143)) fun x144 =>
            bnd (lift (ext 1 x143)) fun x145 =>
            bnd (lift (ext 2 x143)) fun x146 =>
            bnd (lift (faddr 1 x16)) fun x149 =>
            bnd (ld1 x149) fun x150 =>
            bnd (lift (faddr 2 x16)) fun x151 =>
            bnd (ld1 x151) fun x152 =>
            bnd (A_ref20_Box_Recv [(at_ vs_7 2), x150, x152]) fun x153 =>
            bnd (lift (ext 0 x153)) fun x154 =>
            bnd (lift (ext 1 x153)) fun x155 =>
            bnd (lift (ext 2 x153)) fun x156 =>
            bnd (lift (bin .neq x144 x154)) fun x159 =>
            bnd (gd x159 false (lift (some x145))) fun x161 =>
            bnd (gd x159 false (lift (some x155))) fun x162 =>
            bnd (gd x159 false (lift (bin .neq x161 x162))) fun x163 =>
            bnd (lift (pickV x159 (Value.bool true) x163)) fun x164 =>
            bnd (gd x164 false (lift (some x146))) fun x166 =>
            bnd (gd x164 false (lift (some x156))) fun x167 =>
            bnd (gd x164 false (lift (bin .neq x166 x167))) fun x168 =>
            bnd (lift (pickV x164 (Value.bool true) x168)) fun x169 =>
            condM x169 (
              ret (.ret [(Value.bool false)])
              ) (
              ret (.nxt [(at_ vs_7 0), (at_ vs_7 1), (at_ vs_7 2), (at_ vs_7 3), x16])
              )
            ) (
            bnd (lift (bin .eql x106 (Value.int .i64 2))) fun x171 =>
            condM x171 (
              bnd (A_ports_Box_Frame [(at_ vs_7 1)]) fun x173 =>
              bnd (A_ref20_Box_Frame [(at_ vs_7 2)]) fun x175 =>
              ret (.nxt [(at_ vs_7 0), (at_ vs_7 1), (at_ vs_7 2), (at_ vs_7 3), x16])
              ) (
              withH fun h0_2 =>
              bnd (lift (faddr 1 x16)) fun x108 =>
              bnd (lift (faddr 1 x16)) fun x112 =>
              bnd (ld1 x108) fun x109 =>
              bnd (ld1 x112) fun x113 =>
              bndH (A_ports_Box_Undo [(at_ vs_7 1), x109]) fun ha_3 x110 h1_2 =>
              bndH (A_ref20_Box_Undo [(at_ vs_7 2), x113]) fun ha_4 x114 h2_2 =>
              bnd (lift (bin .neq x110 x114)) fun x115 =>
              need (chk (ld1 x112) h1_2 x113) <|
              condM x115 (
                ret (.ret [(Value.bool false)])
                ) (
                ret (.nxt [(at_ vs_7 0), (at_ vs_7 1), (at_ vs_7 2), (at_ vs_7 3), x16])
                )
              )
            )
          )
        ) fun o => ret (unblk 4 o)
      ) fun o => nx o law20_PortsPlay_k3
    ) fun o => ret (unblk 3 o)
  ) fun o => nx o law20_PortsPlay_k4
def law20_PortsPlay_l6 (vs_6 : List V) : M Out :=
  bnd (
  bnd (lift (notIf true (isNil .p (at_ vs_6 2)))) fun x87 =>
  bnd (gd x87 true (lift (some (at_ vs_6 3)))) fun x89 =>
  bnd (gd x87 true (lift (some (at_ vs_6 0)))) fun x90 =>
  bnd (gd x87 true (lift (lenSlc x90))) fun x91 =>
  bnd (gd x87 true (lift (bin .lss x89 x91))) fun x92 =>
  bnd (lift (pickV x87 x92 (Value.bool false))) fun x93 =>
  bnd (gd x93 true (lift (some (at_ vs_6 3)))) fun x95 =>
  bnd (gd x93 true (lift (bin .lss x95 (Value.int .i64 150)))) fun x96 =>
  bnd (lift (pickV x93 x96 (Value.bool false))) fun x97 =>
  condM x97 (
    ret (.nxt [(at_ vs_6 0), (at_ vs_6 1), (at_ vs_6 2), (at_ vs_6 3)])
    ) (
    ret (.brk 2 [])
    )
  ) fun o => nx o law20_PortsPlay_k5
def law20_PortsPlay_k7 (vs_10 : List V) : M Out :=
  bnd (A_law20_works []) fun x212 =>
  ret (.ret [x212])
def law20_PortsPlay_k8 (vs_5 : List V) : M Out :=
  bnd (
    bnd (
      loopM FUEL law20_PortsPlay_l6 [(at_ vs_5 0), (at_ vs_5 1), (at_ vs_5 2), (Value.int .i64 0)]
      ) fun o => ret (unblk 2 o)
    ) fun o => nx o law20_PortsPlay_k7
def law20_PortsPlay_k9 (vs : List V) : M Out :=
  bnd (
    bnd (
      loopM FUEL law20_PortsPlay_l2 [(at_ vs 0), (at_ vs 1), (at_ vs 2), (at_ vs 3), (Value.int .i64 0)]
      ) fun o => ret (unblk 0 o)
    ) fun o => nx o law20_PortsPlay_k8
def F_law20_PortsPlay (x0 x1 : V) : M V :=
  bnd (
    bnd (bslc 5 0 (rep 0 [Value.int .i64 0, Value.int .i64 0, Value.int .i64 0, Value.int .i64 0, Value.int .i64 0]) []) fun x31 =>
    bnd (appV 5 40 x31 x0) fun x33 =>
    bnd (A_ports_Check [x33]) fun x36 =>
    bnd (lift (ext 0 x36)) fun x37 =>
    bnd (lift (ext 1 x36)) fun x38 =>
    bnd (A_ref20_Check [x0]) fun x41 =>
    bnd (lift (ext 0 x41)) fun x42 =>
    bnd (lift (ext 1 x41)) fun x43 =>
    bnd (A_ports_New [x33]) fun x46 =>
    bnd (lift (ext 0 x46)) fun x47 =>
    bnd (lift (ext 1 x46)) fun x48 =>
    bnd (A_ref20_New [x0]) fun x51 =>
    bnd (lift (ext 0 x51)) fun x52 =>
    bnd (lift (ext 1 x51)) fun x53 =>
    bnd (
      bnd (gd (Value.bool false) false (lift (some x37))) fun x55 =>
      bnd (gd (Value.bool false) false (lift (some x42))) fun x56 =>
      bnd (gd (Value.bool false) false (lift (bin .neq x55 x56))) fun x57 =>
      bnd (lift (pickV (Value.bool false) (Value.bool true) x57)) fun x58 =>
      bnd (gd x58 false (lift (some x38))) fun x60 =>
      bnd (gd x58 false (lift (some x43))) fun x61 =>
      bnd (gd x58 false (lift (bin .neq x60 x61))) fun x62 =>
      bnd (lift (pickV x58 (Value.bool true) x62)) fun x63 =>
      bnd (gd x63 false (lift (some x48))) fun x65 =>
      bnd (gd x63 false (lift (some x53))) fun x66 =>
      bnd (gd x63 false (lift (bin .neq x65 x66))) fun x67 =>
      bnd (lift (pickV x63 (Value.bool true) x67)) fun x68 =>
      bnd (gd x68 false (lift (some x47))) fun x70 =>
      bnd (gd x68 false (lift (notIf false (isNil .p x70)))) fun x71 =>
      bnd (gd x68 false (lift (some x52))) fun x72 =>
      bnd (gd x68 false (lift (notIf false (isNil .p x72)))) fun x73 =>
      bnd (gd x68 false (lift (notIf true (eqK .b x71 x73)))) fun x74 =>
      bnd (lift (pickV x68 (Value.bool true) x74)) fun x75 =>
      condM x75 (
        ret (.ret [(Value.bool false)])
        ) (
        ret (.nxt [x1, x33, x47, x52])
        )
      ) fun o => nx o law20_PortsPlay_k9
    ) fun o => finM o fun vs => ret (outV [(at_ vs 0)])
def h_law20_PortsPlay : Hint := (.seq [] .leaf (.seq [] .leaf (.seq [] .leaf (.seq [] .leaf (.seq [] .leaf (.seq [] .leaf (.seq [1, 5, 10, 12] (.seq [] .leaf (.cond (.seq [] .leaf .leaf) .leaf)) (.seq [1, 10, 12] (.seq [] .leaf (.blk (.loop [1, 5, 10, 12, 14] (.seq [1, 5, 10, 12, 14] (.seq [] .leaf (.cond .leaf .leaf)) (.seq [1, 5, 10, 12, 14] (.blk .leaf) .leaf))))) (.seq [] (.seq [] .leaf (.blk (.loop [1, 10, 12, 15] (.seq [1, 10, 12, 15] (.seq [] .leaf (.cond .leaf .leaf)) (.seq [1, 10, 12, 15] (.blk (.seq [] .leaf (.seq [1, 10, 12, 15, 16] (.seq [] .leaf (.blk (.seq [] .leaf (.cond (.seq [] (.reg [0, 1, 3, 5, 8, 9, 11, 13, 2, 4, 6, 10, 12, 14, 7, 15, 16] []) (.cond (.seq [] .leaf .leaf) .leaf)) (.seq [] .leaf (.cond (.seq [] .leaf (.seq [] .leaf (.seq [] .leaf (.cond (.seq [] .leaf .leaf) .leaf)))) (.seq [] .leaf (.cond (.seq [] .leaf .leaf) (.seq [] (.reg [0, 1, 4, 5, 2, 6, 3, 7, 8] []) (.cond (.seq [] .leaf .leaf) .leaf)))))))))) (.seq [] .leaf (.seq [] .leaf (.seq [] .leaf (.cond (.seq [] .leaf .leaf) .leaf))))))) .leaf))))) (.seq [] .leaf .leaf))))))))))
def A_law20_PortsPlay (l : List V) : M V := match l with | [x0, x1] => F_law20_PortsPlay x0 x1 | _ => fail
theorem e_law20_PortsPlay (x0 x1 : V) : funM Try.prog (ovr [(fid_ports_Check, A_ports_Check), (fid_ref20_Check, A_ref20_Check), (fid_ports_New, A_ports_New), (fid_ref20_New, A_ref20_New), (fid_law20_among, A_law20_among), (fid_ports_Box_Send, A_ports_Box_Send), (fid_ref20_Box_Send, A_ref20_Box_Send), (fid_ports_Box_Recv, A_ports_Box_Recv), (fid_ref20_Box_Recv, A_ref20_Box_Recv), (fid_ports_Box_Frame, A_ports_Box_Frame), (fid_ref20_Box_Frame, A_ref20_Box_Frame), (fid_ports_Box_Undo, A_ports_Box_Undo), (fid_ref20_Box_Undo, A_ref20_Box_Undo), (fid_ports_Box_Waits, A_ports_Box_Waits), (fid_ref20_Box_Waits, A_ref20_Box_Waits), (fid_law20_works, A_law20_works)] noC) fid_law20_PortsPlay h_law20_PortsPlay [x0, x1] = F_law20_PortsPlay x0 x1 := by kernel_rfl
theorem K_law20_PortsPlay : Known Try.prog fid_law20_PortsPlay (A_law20_PortsPlay) := known_of (σ := ovr [(fid_ports_Check, A_ports_Check), (fid_ref20_Check, A_ref20_Check), (fid_ports_New, A_ports_New), (fid_ref20_New, A_ref20_New), (fid_law20_among, A_law20_among), (fid_ports_Box_Send, A_ports_Box_Send), (fid_ref20_Box_Send, A_ref20_Box_Send), (fid_ports_Box_Recv, A_ports_Box_Recv), (fid_ref20_Box_Recv, A_ref20_Box_Recv), (fid_ports_Box_Frame, A_ports_Box_Frame), (fid_ref20_Box_Frame, A_ref20_Box_Frame), (fid_ports_Box_Undo, A_ports_Box_Undo), (fid_ref20_Box_Undo, A_ref20_Box_Undo), (fid_ports_Box_Waits, A_ports_Box_Waits), (fid_ref20_Box_Waits, A_ref20_Box_Waits), (fid_law20_works, A_law20_works)] noC) (hint := h_law20_PortsPlay) (by kernel_rfl) (simAll_ovr K_ports_Check (simAll_ovr K_ref20_Check (simAll_ovr K_ports_New (simAll_ovr K_ref20_New (simAll_ovr K_law20_among (simAll_ovr K_ports_Box_Send (simAll_ovr K_ref20_Box_Send (simAll_ovr K_ports_Box_Recv (simAll_ovr K_ref20_Box_Recv (simAll_ovr K_ports_Box_Frame (simAll_ovr K_ref20_Box_Frame (simAll_ovr K_ports_Box_Undo (simAll_ovr K_ref20_Box_Undo (simAll_ovr K_ports_Box_Waits (simAll_ovr K_ref20_Box_Waits (simAll_ovr K_law20_works simAll_nil0)))))))))))))))) fun l H r H' h => by
  unfold A_law20_PortsPlay at h; split at h
  · rw [e_law20_PortsPlay]; exact h
  · exact (fail_ne h).elim

/-! ### capstan/capstanbook.SameNums -/
def book_SameNums_k0 (vs_4 : List V) : M Out :=
  bnd (lift (bin .add (at_ vs_4 2) (Value.int .i64 1))) fun x16 =>
  ret (.nxt [(at_ vs_4 0), (at_ vs_4 1), x16])
def book_SameNums_k1 (vs_3 : List V) : M Out :=
  bnd (
  bnd (
    bnd (lift (iaddrS 1 (at_ vs_3 0) (at_ vs_3 2))) fun x19 =>
    bnd (lift (iaddrS 1 (at_ vs_3 1) (at_ vs_3 2))) fun x23 =>
    bnd (ld1 x19) fun x20 =>
    bnd (ld1 x23) fun x24 =>
    bnd (lift (bin .neq x20 x24)) fun x25 =>
    condM x25 (
      ret (.ret [(Value.bool false)])
      ) (
      ret (.nxt [(at_ vs_3 0), (at_ vs_3 1), (at_ vs_3 2)])
      )
    ) fun o => ret (unblk 1 o)
  ) fun o => nx o book_SameNums_k0
def book_SameNums_l2 (vs_2 : List V) : M Out :=
  bnd (
  bnd (lift (lenSlc (at_ vs_2 0))) fun x13 =>
  bnd (lift (bin .lss (at_ vs_2 2) x13)) fun x14 =>
  condM x14 (
    ret (.nxt [(at_ vs_2 0), (at_ vs_2 1), (at_ vs_2 2)])
    ) (
    ret (.brk 0 [])
    )
  ) fun o => nx o book_SameNums_k1
def book_SameNums_k3 (vs_5 : List V) : M Out :=
  ret (.ret [(Value.bool true)])
def book_SameNums_k4 (vs : List V) : M Out :=
  bnd (
    bnd (
      loopM FUEL book_SameNums_l2 [(at_ vs 0), (at_ vs 1), (Value.int .i64 0)]
      ) fun o => ret (unblk 0 o)
    ) fun o => nx o book_SameNums_k3
def F_book_SameNums (x0 x1 : V) : M V :=
  bnd (
    bnd (
      bnd (lift (lenSlc x0)) fun x7 =>
      bnd (lift (lenSlc x1)) fun x9 =>
      bnd (lift (bin .neq x7 x9)) fun x10 =>
      condM x10 (
        ret (.ret [(Value.bool false)])
        ) (
        ret (.nxt [x0, x1])
        )
      ) fun o => nx o book_SameNums_k4
    ) fun o => finM o fun vs => ret (outV [(at_ vs 0)])
def h_book_SameNums : Hint := (.seq [] .leaf (.seq [0, 1] (.seq [] .leaf (.cond (.seq [] .leaf .leaf) .leaf)) (.seq [] (.seq [] .leaf (.blk (.loop [0, 1, 5] (.seq [0, 1, 5] (.seq [] .leaf (.cond .leaf .leaf)) (.seq [0, 1, 5] (.blk (.seq [] (.reg [0, 1, 2, 4, 5, 6, 3, 7, 8] []) (.cond (.seq [] .leaf .leaf) .leaf))) .leaf))))) (.seq [] .leaf .leaf))))
def A_book_SameNums (l : List V) : M V := match l with | [x0, x1] => F_book_SameNums x0 x1 | _ => fail
theorem e_book_SameNums (x0 x1 : V) : funM Try.prog (ovr [] noC) fid_book_SameNums h_book_SameNums [x0, x1] = F_book_SameNums x0 x1 := by kernel_rfl
theorem K_book_SameNums : Known Try.prog fid_book_SameNums (A_book_SameNums) := known_of (σ := ovr [] noC) (hint := h_book_SameNums) (by kernel_rfl) simAll_nil0 fun l H r H' h => by
  unfold A_book_SameNums at h; split at h
  · rw [e_book_SameNums]; exact h
  · exact (fail_ne h).elim

/-! ### capstan/capstanlaw20.PortsOrder -/
def law20_PortsOrder_k0 (vs_5 : List V) : M Out :=
          bnd (lift (bin .eql (at_ vs_5 11) (Value.int .i64 0))) fun x97 =>
          condM x97 (
            bnd (bslc 1 1 (rep 1 [Value.int .i64 0]) [(0, 1, (at_ vs_5 10))]) fun x100 =>
            bnd (appV 1 8 (at_ vs_5 5) x100) fun x101 =>
            bnd (lift (iaddrS 1 (at_ vs_5 4) (Value.int .i64 0))) fun x104 =>
            bnd (ld1 x104) fun x105 =>
            bnd (bslc 1 1 (rep 1 [Value.int .i64 0]) [(0, 1, x105)]) fun x106 =>
            bnd (appV 1 8 (at_ vs_5 6) x106) fun x107 =>
            bnd (lift (subV 1 (at_ vs_5 4) (some (Value.int .i64 1)) none)) fun x109 =>
            ret (.nxt [(at_ vs_5 0), (at_ vs_5 1), (at_ vs_5 2), (at_ vs_5 3), x109, x101, x107, (at_ vs_5 7), (at_ vs_5 8), (at_ vs_5 9)])
            ) (
            ret (.nxt [(at_ vs_5 0), (at_ vs_5 1), (at_ vs_5 2), (at_ vs_5 3), (at_ vs_5 4), (at_ vs_5 5), (at_ vs_5 6), (at_ vs_5 7), (at_ vs_5 8), (at_ vs_5 9)])
            )
def law20_PortsOrder_k1 (vs_8 : List V) : M Out :=
  bnd (lift (bin .add (at_ vs_8 11) (Value.int .i64 1))) fun x130 =>
  ret (.nxt [(at_ vs_8 0), (at_ vs_8 1), (at_ vs_8 2), (at_ vs_8 3), (at_ vs_8 4), (at_ vs_8 5), (at_ vs_8 6), (at_ vs_8 7), (at_ vs_8 8), (at_ vs_8 9), (at_ vs_8 10), x130])
def law20_PortsOrder_k2 (vs_7 : List V) : M Out :=
  bnd (
  bnd (
    bnd (lift (iaddrS 1 (at_ vs_7 9) (at_ vs_7 11))) fun x118 =>
    bnd (ld1 x118) fun x119 =>
    bnd (lift (lenSlc (at_ vs_7 3))) fun x121 =>
    bnd (lift (bin .lss x121 (at_ vs_7 0))) fun x123 =>
    condM x123 (
      bnd (bslc 1 1 (rep 1 [Value.int .i64 0]) [(0, 1, x119)]) fun x126 =>
      bnd (appV 1 8 (at_ vs_7 3) x126) fun x127 =>
      ret (.nxt [(at_ vs_7 0), (at_ vs_7 1), (at_ vs_7 2), x127, (at_ vs_7 4), (at_ vs_7 5), (at_ vs_7 6), (at_ vs_7 7), (at_ vs_7 8), (at_ vs_7 9), (at_ vs_7 10), (at_ vs_7 11)])
      ) (
      bnd (lift (bin .add (at_ vs_7 6) (Value.int .i64 1))) fun x129 =>
      ret (.nxt [(at_ vs_7 0), (at_ vs_7 1), (at_ vs_7 2), (at_ vs_7 3), (at_ vs_7 4), (at_ vs_7 5), x129, (at_ vs_7 7), (at_ vs_7 8), (at_ vs_7 9), (at_ vs_7 10), (at_ vs_7 11)])
      )
    ) fun o => ret (unblk 4 o)
  ) fun o => nx o law20_PortsOrder_k1
def law20_PortsOrder_l3 (vs_6 : List V) : M Out :=
  bnd (lift (bin .lss (at_ vs_6 11) (at_ vs_6 10))) fun x117 =>
  bnd (
  condM x117 (
    ret (.nxt [(at_ vs_6 0), (at_ vs_6 1), (at_ vs_6 2), (at_ vs_6 3), (at_ vs_6 4), (at_ vs_6 5), (at_ vs_6 6), (at_ vs_6 7), (at_ vs_6 8), (at_ vs_6 9), (at_ vs_6 10), (at_ vs_6 11)])
    ) (
    ret (.brk 3 [(at_ vs_6 0), (at_ vs_6 1), (at_ vs_6 2), (at_ vs_6 3), (at_ vs_6 4), (at_ vs_6 5), (at_ vs_6 6), (at_ vs_6 7), (at_ vs_6 8)])
    )
  ) fun o => nx o law20_PortsOrder_k2
def law20_PortsOrder_k4 (vs_9 : List V) : M Out :=
            ret (.nxt [(at_ vs_9 0), (at_ vs_9 1), (at_ vs_9 2), (Value.slice none 0 0), (at_ vs_9 3), (at_ vs_9 4), (at_ vs_9 5), (at_ vs_9 6), (at_ vs_9 7), (at_ vs_9 8)])
def law20_PortsOrder_k5 (vs_10 : List V) : M Out :=
            ret (.nxt [(at_ vs_10 0), (at_ vs_10 1), (at_ vs_10 2), (Value.slice none 0 0), (at_ vs_10 3), (at_ vs_10 4), (at_ vs_10 5), (at_ vs_10 6), (at_ vs_10 7), (at_ vs_10 8)])
def law20_PortsOrder_k6 (vs_11 : List V) : M Out :=
  bnd (lift (bin .add (at_ vs_11 9) (Value.int .i64 1))) fun x51 =>
  ret (.nxt [(at_ vs_11 0), (at_ vs_11 1), (at_ vs_11 2), (at_ vs_11 3), (at_ vs_11 4), (at_ vs_11 5), (at_ vs_11 6), (at_ vs_11 7), (at_ vs_11 8), x51])
def law20_PortsOrder_k7 (vs_4 : List V) : M Out :=
  bnd (
  bnd (
    bnd (lift (iaddrS 4 (at_ vs_4 1) (at_ vs_4 9))) fun x54 =>
    bnd (lift (faddr 0 x54)) fun x55 =>
    bnd (ld1 x55) fun x56 =>
    bnd (A_law20_among [x56, (Value.int .i64 4)]) fun x57 =>
    bnd (
      bnd (lift (bin .eql x57 (Value.int .i64 0))) fun x62 =>
      condM x62 (
        bnd (lift (bin .add (at_ vs_4 8) (Value.int .i64 1))) fun x64 =>
        bnd (A_ports_Box_Send [(at_ vs_4 2), (Value.int .i64 2), (Value.int .i64 0), x64]) fun x67 =>
        bnd (lift (lenSlc (at_ vs_4 3))) fun x69 =>
        bnd (lift (bin .geq x69 (at_ vs_4 0))) fun x71 =>
        condM x71 (
          bnd (lift (bin .add (at_ vs_4 7) (Value.int .i64 1))) fun x73 =>
          bnd (lift (bin .neq x67 (Value.int .i64 2))) fun x75 =>
          condM x75 (
            ret (.ret [(Value.bool false)])
            ) (
            ret (.nxt [(at_ vs_4 0), (at_ vs_4 1), (at_ vs_4 2), (at_ vs_4 3), (at_ vs_4 4), (at_ vs_4 5), (at_ vs_4 6), x73, x64, (at_ vs_4 9)])
            )
          ) (
          bnd (lift (bin .neq x67 (Value.int .i64 0))) fun x77 =>
          condM x77 (
            ret (.ret [(Value.bool false)])
            ) (
            bnd (bslc 1 1 (rep 1 [Value.int .i64 0]) [(0, 1, x64)]) fun x80 =>
            bnd (appV 1 8 (at_ vs_4 3) x80) fun x81 =>
            ret (.nxt [(at_ vs_4 0), (at_ vs_4 1), (at_ vs_4 2), x81, (at_ vs_4 4), (at_ vs_4 5), (at_ vs_4 6), (at_ vs_4 7), x64, (at_ vs_4 9)])
            )
          )
        ) (
        bnd (lift (bin .eql x57 (Value.int .i64 1))) fun x83 =>
        condM x83 (
          bnd (A_ports_Box_Recv [(at_ vs_4 2), (Value.int .i64 5), (Value.int .i64 0)]) fun x86 =>
          bnd (lift (ext 0 x86)) fun x87 =>
          bnd (lift (ext 1 x86)) fun x88 =>
          bnd (lift (ext 2 x86)) fun x89 =>
          bnd (
            bnd (lift (bin .eql x89 (Value.int .i64 0))) fun x91 =>
            bnd (lift (lenSlc (at_ vs_4 4))) fun x93 =>
            bnd (lift (bin .gtr x93 (Value.int .i64 0))) fun x94 =>
            bnd (lift (notIf true (eqK .b x91 x94))) fun x95 =>
            condM x95 (
              ret (.ret [(Value.bool false)])
              ) (
              ret (.nxt [(at_ vs_4 0), (at_ vs_4 1), (at_ vs_4 2), (at_ vs_4 3), (at_ vs_4 4), (at_ vs_4 5), (at_ vs_4 6), (at_ vs_4 7), (at_ vs_4 8), (at_ vs_4 9), x87, x89])
              )
            ) fun o => nx o law20_PortsOrder_k0
          ) (
          bnd (lift (bin .eql x57 (Value.int .i64 2))) fun x111 =>
          condM x111 (
            bnd (A_ports_Box_Frame [(at_ vs_4 2)]) fun x113 =>
            bnd (
              bnd (lift (lenSlc (at_ vs_4 3))) fun x115 =>
              bnd (
                loopM FUEL law20_PortsOrder_l3 [(at_ vs_4 0), (at_ vs_4 1), (at_ vs_4 2), (at_ vs_4 4), (at_ vs_4 5), (at_ vs_4 6), (at_ vs_4 7), (at_ vs_4 8), (at_ vs_4 9), (at_ vs_4 3), x115, (Value.int .i64 0)]
                ) fun o => ret (unblk 3 o)
              ) fun o => nx o law20_PortsOrder_k4
            ) (
            bnd (
              bnd (A_ports_Box_Undo [(at_ vs_4 2), (Value.int .i64 2)]) fun x59 =>
              bnd (lift (bin .neq x59 (Value.int .i64 0))) fun x60 =>
              condM x60 (
                ret (.ret [(Value.bool false)])
                ) (
                ret (.nxt [(at_ vs_4 0), (at_ vs_4 1), (at_ vs_4 2), (at_ vs_4 4), (at_ vs_4 5), (at_ vs_4 6), (at_ vs_4 7), (at_ vs_4 8), (at_ vs_4 9)])
                )
              ) fun o => nx o law20_PortsOrder_k5
            )
          )
        )
      ) fun o => ret (unblk 2 o)
    ) fun o => ret (unblk 1 o)
  ) fun o => nx o law20_PortsOrder_k6
def law20_PortsOrder_l8 (vs_3 : List V) : M Out :=
  bnd (
  bnd (lift (lenSlc (at_ vs_3 1))) fun x44 =>
  bnd (lift (bin .lss (at_ vs_3 9) x44)) fun x45 =>
  bnd (gd x45 true (lift (some (at_ vs_3 9)))) fun x47 =>
  bnd (gd x45 true (lift (bin .lss x47 (Value.int .i64 150)))) fun x48 =>
  bnd (lift (pickV x45 x48 (Value.bool false))) fun x49 =>
  condM x49 (
    ret (.nxt [(at_ vs_3 0), (at_ vs_3 1), (at_ vs_3 2), (at_ vs_3 3), (at_ vs_3 4), (at_ vs_3 5), (at_ vs_3 6), (at_ vs_3 7), (at_ vs_3 8), (at_ vs_3 9)])
    ) (
    ret (.brk 0 [(at_ vs_3 2), (at_ vs_3 3), (at_ vs_3 4), (at_ vs_3 5), (at_ vs_3 6), (at_ vs_3 7)])
    )
  ) fun o => nx o law20_PortsOrder_k7
def law20_PortsOrder_k9 (vs_12 : List V) : M Out :=
  bnd (A_ports_Box_Waits [(at_ vs_12 0), (Value.int .i64 0)]) fun x133 =>
  bnd (lift (ext 0 x133)) fun x134 =>
  bnd (lift (ext 1 x133)) fun x135 =>
  bnd (lift (ext 2 x133)) fun x136 =>
  bnd (lift (ext 3 x133)) fun x137 =>
  bnd (A_book_SameNums [(at_ vs_12 3), (at_ vs_12 4)]) fun x140 =>
  bnd (gd x140 true (lift (some x134))) fun x142 =>
  bnd (gd x140 true (lift (some (at_ vs_12 1)))) fun x143 =>
  bnd (gd x140 true (lift (lenSlc x143))) fun x144 =>
  bnd (gd x140 true (lift (bin .eql x142 x144))) fun x145 =>
  bnd (lift (pickV x140 x145 (Value.bool false))) fun x146 =>
  bnd (gd x146 true (lift (some x135))) fun x148 =>
  bnd (gd x146 true (lift (some (at_ vs_12 2)))) fun x149 =>
  bnd (gd x146 true (lift (lenSlc x149))) fun x150 =>
  bnd (gd x146 true (lift (bin .eql x148 x150))) fun x151 =>
  bnd (lift (pickV x146 x151 (Value.bool false))) fun x152 =>
  bnd (gd x152 true (lift (some x136))) fun x154 =>
  bnd (gd x152 true (lift (some (at_ vs_12 5)))) fun x155 =>
  bnd (gd x152 true (lift (bin .eql x154 x155))) fun x156 =>
  bnd (lift (pickV x152 x156 (Value.bool false))) fun x157 =>
  bnd (gd x157 true (lift (some x137))) fun x159 =>
  bnd (gd x157 true (lift (bin .eql x159 (Value.int .i64 0)))) fun x160 =>
  bnd (lift (pickV x157 x160 (Value.bool false))) fun x161 =>
  ret (.ret [x161])
def law20_PortsOrder_k10 (vs_2 : List V) : M Out :=
  bnd (
    bnd (
      loopM FUEL law20_PortsOrder_l8 [(at_ vs_2 0), (at_ vs_2 1), (at_ vs_2 2), (Value.slice none 0 0), (Value.slice none 0 0), (Value.slice none 0 0), (Value.slice none 0 0), (Value.int .i64 0), (Value.int .i64 0), (Value.int .i64 0)]
      ) fun o => ret (unblk 0 o)
    ) fun o => nx o law20_PortsOrder_k9
def law20_PortsOrder_k11 (vs : List V) : M Out :=
  bnd (A_law20_among [(at_ vs 0), (Value.int .i64 16)]) fun x27 =>
  bnd (lift (bin .add (Value.int .i64 1) x27)) fun x28 =>
  bnd (lift (build [Value.int .i64 0, Value.int .i64 0, Value.int .i64 0, Value.int .i64 0, Value.int .i64 0] [(0, 1, (Value.int .i64 2)), (1, 1, (Value.int .i64 2)), (2, 1, (Value.int .i64 5)), (3, 1, (Value.int .i64 3)), (4, 1, x28)])) fun x31 =>
  bnd (bslc 5 1 (rep 1 [Value.int .i64 0, Value.int .i64 0, Value.int .i64 0, Value.int .i64 0, Value.int .i64 0]) [(0, 5, x31)]) fun x32 =>
  bnd (A_ports_New [x32]) fun x33 =>
  bnd (lift (ext 0 x33)) fun x34 =>
  bnd (lift (ext 1 x33)) fun x35 =>
  bnd (
    bnd (lift (notIf false (isNil .p x34))) fun x37 =>
    bnd (gd x37 false (lift (some x35))) fun x39 =>
    bnd (gd x37 false (lift (bin .neq x39 (Value.int .i64 0)))) fun x40 =>
    bnd (lift (pickV x37 (Value.bool true) x40)) fun x41 =>
    condM x41 (
      ret (.ret [(Value.bool false)])
      ) (
      ret (.nxt [x28, (at_ vs 1), x34])
      )
    ) fun o => nx o law20_PortsOrder_k10
def F_law20_PortsOrder (x0 x1 : V) : M V :=
  bnd (
    bnd (
      bnd (A_law20_works []) fun x24 =>
      bnd (lift (un .not x24)) fun x25 =>
      condM x25 (
        ret (.ret [(Value.bool false)])
        ) (
        ret (.nxt [x0, x1])
        )
      ) fun o => nx o law20_PortsOrder_k11
    ) fun o => finM o fun vs => ret (outV [(at_ vs 0)])
def h_law20_PortsOrder : Hint := (.seq [] .leaf (.seq [0, 1] (.seq [] .leaf (.cond (.seq [] .leaf .leaf) .leaf)) (.seq [] .leaf (.seq [] .leaf (.seq [0, 1, 5] (.seq [] .leaf (.cond (.seq [] .leaf .leaf) .leaf)) (.seq [] .leaf (.seq [] .leaf (.seq [] .leaf (.seq [5, 7, 8, 9, 10, 11] (.seq [] .leaf (.blk (.loop [0, 1, 5, 7, 8, 9, 10, 11, 12, 13] (.seq [0, 1, 5, 7, 8, 9, 10, 11, 12, 13] (.seq [] .leaf (.cond .leaf .leaf)) (.seq [0, 1, 5, 7, 8, 9, 10, 11, 12, 13] (.blk (.seq [] .leaf (.blk (.seq [] .leaf (.cond (.seq [] .leaf (.seq [] .leaf (.seq [] .leaf (.cond (.seq [] .leaf (.seq [] .leaf (.cond (.seq [] .leaf .leaf) .leaf))) (.seq [] .leaf (.cond (.seq [] .leaf .leaf) .leaf)))))) (.seq [] .leaf (.cond (.seq [] .leaf (.seq [0, 1, 5, 7, 8, 9, 10, 11, 12, 13, 15, 17] (.seq [] .leaf (.cond (.seq [] .leaf .leaf) .leaf)) (.seq [] .leaf (.cond (.seq [] .leaf (.seq [] .leaf .leaf)) .leaf)))) (.seq [] .leaf (.cond (.seq [] .leaf (.seq [0, 1, 5, 8, 9, 10, 11, 12, 13] (.seq [] .leaf (.blk (.loop [0, 1, 5, 8, 9, 10, 11, 12, 13, 114, 115, 116] (.seq [] .leaf (.seq [0, 1, 5, 8, 9, 10, 11, 12, 13, 114, 115, 116] (.cond .leaf .leaf) (.seq [0, 1, 5, 8, 9, 10, 11, 12, 13, 114, 115, 116] (.blk (.seq [] .leaf (.seq [] .leaf (.cond .leaf .leaf)))) .leaf)))))) .leaf)) (.seq [0, 1, 5, 8, 9, 10, 11, 12, 13] (.seq [] .leaf (.cond (.seq [] .leaf .leaf) .leaf)) .leaf)))))))))) .leaf))))) (.seq [] .leaf (.seq [] .leaf .leaf)))))))))))
def A_law20_PortsOrder (l : List V) : M V := match l with | [x0, x1] => F_law20_PortsOrder x0 x1 | _ => fail
theorem e_law20_PortsOrder (x0 x1 : V) : funM Try.prog (ovr [(fid_law20_works, A_law20_works), (fid_law20_among, A_law20_among), (fid_ports_New, A_ports_New), (fid_ports_Box_Send, A_ports_Box_Send), (fid_ports_Box_Recv, A_ports_Box_Recv), (fid_ports_Box_Frame, A_ports_Box_Frame), (fid_ports_Box_Undo, A_ports_Box_Undo), (fid_ports_Box_Waits, A_ports_Box_Waits), (fid_book_SameNums, A_book_SameNums)] noC) fid_law20_PortsOrder h_law20_PortsOrder [x0, x1] = F_law20_PortsOrder x0 x1 := by kernel_rfl
theorem K_law20_PortsOrder : Known Try.prog fid_law20_PortsOrder (A_law20_PortsOrder) := known_of (σ := ovr [(fid_law20_works, A_law20_works), (fid_law20_among, A_law20_among), (fid_ports_New, A_ports_New), (fid_ports_Box_Send, A_ports_Box_Send), (fid_ports_Box_Recv, A_ports_Box_Recv), (fid_ports_Box_Frame, A_ports_Box_Frame), (fid_ports_Box_Undo, A_ports_Box_Undo), (fid_ports_Box_Waits, A_ports_Box_Waits), (fid_book_SameNums, A_book_SameNums)] noC) (hint := h_law20_PortsOrder) (by kernel_rfl) (simAll_ovr K_law20_works (simAll_ovr K_law20_among (simAll_ovr K_ports_New (simAll_ovr K_ports_Box_Send (simAll_ovr K_ports_Box_Recv (simAll_ovr K_ports_Box_Frame (simAll_ovr K_ports_Box_Undo (simAll_ovr K_ports_Box_Waits (simAll_ovr K_book_SameNums simAll_nil0))))))))) fun l H r H' h => by
  unfold A_law20_PortsOrder at h; split at h
  · rw [e_law20_PortsOrder]; exact h
  · exact (fail_ne h).elim

/-! ### capstan/capstanlaw20.do -/
def law20_do_k0 (vs : List V) : M Out :=
  bnd (lift (faddr 1 (at_ vs 1))) fun x36 =>
  bnd (ld1 x36) fun x37 =>
  bnd (A_ports_Box_Undo [(at_ vs 0), x37]) fun x38 =>
  ret (.ret [(Value.int .i64 0), (Value.int .i64 0), x38])
def F_law20_do (x0 x1 : V) : M V :=
  bnd (
    bnd (boxv x1) fun x3 =>
    bnd (
      bnd (lift (faddr 0 x3)) fun x7 =>
      bnd (ld1 x7) fun x8 =>
      bnd (A_law20_among [x8, (Value.int .i64 4)]) fun x9 =>
      bnd (
        bnd (lift (bin .eql x9 (Value.int .i64 0))) fun x11 =>
        condM x11 (
          bnd (lift (faddr 1 x3)) fun x13 =>
          bnd (ld1 x13) fun x14 =>
          bnd (lift (faddr 2 x3)) fun x15 =>
          bnd (ld1 x15) fun x16 =>
          bnd (lift (faddr 3 x3)) fun x17 =>
          bnd (ld1 x17) fun x18 =>
          bnd (A_ports_Box_Send [x0, x14, x16, x18]) fun x19 =>
          ret (.ret [(Value.int .i64 0), (Value.int .i64 0), x19])
          ) (
          bnd (lift (bin .eql x9 (Value.int .i64 1))) fun x21 =>
          condM x21 (
            bnd (lift (faddr 1 x3)) fun x23 =>
            bnd (ld1 x23) fun x24 =>
            bnd (lift (faddr 2 x3)) fun x25 =>
            bnd (ld1 x25) fun x26 =>
            bnd (A_ports_Box_Recv [x0, x24, x26]) fun x27 =>
            bnd (lift (ext 0 x27)) fun x28 =>
            bnd (lift (ext 1 x27)) fun x29 =>
            bnd (lift (ext 2 x27)) fun x30 =>
            ret (.ret [x28, x29, x30])
            ) (
            bnd (lift (bin .eql x9 (Value.int .i64 2))) fun x32 =>
            condM x32 (
              bnd (A_ports_Box_Frame [x0]) fun x34 =>
              ret (.ret [(Value.int .i64 0), (Value.int .i64 0), (Value.int .i64 0)])
              ) (
              ret (.nxt [x0, x3])
              )
            )
          )
        ) fun o => ret (unblk 0 o)
      ) fun o => nx o law20_do_k0
    ) fun o => finM o fun vs => ret (outV [(at_ vs 0), (at_ vs 1), (at_ vs 2)])
def h_law20_do : Hint := (.seq [] .leaf (.seq [0, 3] (.seq [] .leaf (.blk (.seq [] .leaf (.cond (.seq [] .leaf .leaf) (.seq [] .leaf (.cond (.seq [] .leaf .leaf) (.seq [] .leaf (.cond (.seq [] .leaf (.seq [] .leaf .leaf)) .leaf)))))))) (.seq [] .leaf .leaf)))
def A_law20_do (l : List V) : M V := match l with | [x0, x1] => F_law20_do x0 x1 | _ => fail
theorem e_law20_do (x0 x1 : V) : funM Try.prog (ovr [(fid_law20_among, A_law20_among), (fid_ports_Box_Send, A_ports_Box_Send), (fid_ports_Box_Recv, A_ports_Box_Recv), (fid_ports_Box_Frame, A_ports_Box_Frame), (fid_ports_Box_Undo, A_ports_Box_Undo)] noC) fid_law20_do h_law20_do [x0, x1] = F_law20_do x0 x1 := by kernel_rfl
theorem K_law20_do : Known Try.prog fid_law20_do (A_law20_do) := known_of (σ := ovr [(fid_law20_among, A_law20_among), (fid_ports_Box_Send, A_ports_Box_Send), (fid_ports_Box_Recv, A_ports_Box_Recv), (fid_ports_Box_Frame, A_ports_Box_Frame), (fid_ports_Box_Undo, A_ports_Box_Undo)] noC) (hint := h_law20_do) (by kernel_rfl) (simAll_ovr K_law20_among (simAll_ovr K_ports_Box_Send (simAll_ovr K_ports_Box_Recv (simAll_ovr K_ports_Box_Frame (simAll_ovr K_ports_Box_Undo simAll_nil0))))) fun l H r H' h => by
  unfold A_law20_do at h; split at h
  · rw [e_law20_do]; exact h
  · exact (fail_ne h).elim

/-! ### capstan/capstanlaw20.PortsUndo -/
def law20_PortsUndo_k0 (vs_5 : List V) : M Out :=
    bnd (ldn 4 (at_ vs_5 6)) fun x94 =>
    bnd (A_law20_do [(at_ vs_5 3), x94]) fun x95 =>
    bnd (lift (ext 0 x95)) fun x96 =>
    bnd (lift (ext 1 x95)) fun x97 =>
    bnd (lift (ext 2 x95)) fun x98 =>
    bnd (ldn 4 (at_ vs_5 6)) fun x101 =>
    bnd (A_law20_do [(at_ vs_5 4), x101]) fun x102 =>
    bnd (lift (ext 0 x102)) fun x103 =>
    bnd (lift (ext 1 x102)) fun x104 =>
    bnd (lift (ext 2 x102)) fun x105 =>
    bnd (lift (bin .neq x96 x103)) fun x108 =>
    bnd (gd x108 false (lift (some x97))) fun x110 =>
    bnd (gd x108 false (lift (some x104))) fun x111 =>
    bnd (gd x108 false (lift (bin .neq x110 x111))) fun x112 =>
    bnd (lift (pickV x108 (Value.bool true) x112)) fun x113 =>
    bnd (gd x113 false (lift (some x98))) fun x115 =>
    bnd (gd x113 false (lift (some x105))) fun x116 =>
    bnd (gd x113 false (lift (bin .neq x115 x116))) fun x117 =>
    bnd (lift (pickV x113 (Value.bool true) x117)) fun x118 =>
    condM x118 (
      ret (.ret [(Value.bool false)])
      ) (
      ret (.nxt [(at_ vs_5 0), (at_ vs_5 1), (at_ vs_5 2), (at_ vs_5 3), (at_ vs_5 4), (at_ vs_5 5)])
      )
def law20_PortsUndo_k1 (vs_6 : List V) : M Out :=
  bnd (lift (bin .add (at_ vs_6 5) (Value.int .i64 1))) fun x71 =>
  ret (.nxt [(at_ vs_6 0), (at_ vs_6 1), (at_ vs_6 2), (at_ vs_6 3), (at_ vs_6 4), x71])
def law20_PortsUndo_k2 (vs_4 : List V) : M Out :=
  bnd (
  bnd (
    bnd (lift (iaddrS 4 (at_ vs_4 1) (at_ vs_4 5))) fun x74 =>
    bnd (ldn 4 x74) fun x75 =>
    bnd (newc [Value.int .i64 0, Value.int .i64 0, Value.int .i64 0, Value.int .i64 0]) fun x12 =>
    bnd (stn 4 x12 x75) fun _ =>
    bnd (
      bnd (lift (faddr 0 x12)) fun x76 =>
      bnd (ld1 x76) fun x77 =>
      bnd (A_law20_among [x77, (Value.int .i64 4)]) fun x78 =>
      bnd (lift (bin .eql x78 (Value.int .i64 0))) fun x79 =>
      bnd (gd x79 true (lift (faddr 1 x12))) fun x81 =>
      bnd (gd x79 true (ld1 x81)) fun x82 =>
      bnd (gd x79 true (lift (some (at_ vs_4 2)))) fun x83 =>
      bnd (gd x79 true (lift (bin .eql x82 x83))) fun x84 =>
      bnd (lift (pickV x79 x84 (Value.bool false))) fun x85 =>
      condM x85 (
        bnd (ldn 4 x12) fun x87 =>
        bnd (A_law20_do [(at_ vs_4 3), x87]) fun x88 =>
        bnd (A_ports_Box_Undo [(at_ vs_4 3), (at_ vs_4 2)]) fun x91 =>
        ret (.brk 1 [(at_ vs_4 0), (at_ vs_4 1), (at_ vs_4 2), (at_ vs_4 3), (at_ vs_4 4), (at_ vs_4 5)])
        ) (
        ret (.nxt [(at_ vs_4 0), (at_ vs_4 1), (at_ vs_4 2), (at_ vs_4 3), (at_ vs_4 4), (at_ vs_4 5), x12])
        )
      ) fun o => nx o law20_PortsUndo_k0
    ) fun o => ret (unblk 1 o)
  ) fun o => nx o law20_PortsUndo_k1
def law20_PortsUndo_l3 (vs_3 : List V) : M Out :=
  bnd (
  bnd (lift (lenSlc (at_ vs_3 1))) fun x64 =>
  bnd (lift (bin .lss (at_ vs_3 5) x64)) fun x65 =>
  bnd (gd x65 true (lift (some (at_ vs_3 5)))) fun x67 =>
  bnd (gd x65 true (lift (bin .lss x67 (Value.int .i64 100)))) fun x68 =>
  bnd (lift (pickV x65 x68 (Value.bool false))) fun x69 =>
  condM x69 (
    ret (.nxt [(at_ vs_3 0), (at_ vs_3 1), (at_ vs_3 2), (at_ vs_3 3), (at_ vs_3 4), (at_ vs_3 5)])
    ) (
    ret (.brk 0 [(at_ vs_3 0), (at_ vs_3 3), (at_ vs_3 4)])
    )
  ) fun o => nx o law20_PortsUndo_k2
def law20_PortsUndo_k4 (vs_10 : List V) : M Out :=
  bnd (lift (bin .add (at_ vs_10 3) (Value.int .i64 1))) fun x153 =>
  ret (.nxt [(at_ vs_10 0), (at_ vs_10 1), (at_ vs_10 2), x153])
def law20_PortsUndo_k5 (vs_9 : List V) : M Out :=
  bnd (
  bnd (
    bnd (A_ports_Box_Waits [(at_ vs_9 0), (at_ vs_9 3)]) fun x127 =>
    bnd (lift (ext 0 x127)) fun x128 =>
    bnd (lift (ext 1 x127)) fun x129 =>
    bnd (lift (ext 2 x127)) fun x130 =>
    bnd (lift (ext 3 x127)) fun x131 =>
    bnd (A_ports_Box_Waits [(at_ vs_9 1), (at_ vs_9 3)]) fun x135 =>
    bnd (lift (ext 0 x135)) fun x136 =>
    bnd (lift (ext 1 x135)) fun x137 =>
    bnd (lift (ext 2 x135)) fun x138 =>
    bnd (lift (ext 3 x135)) fun x139 =>
    bnd (lift (bin .neq x128 x136)) fun x142 =>
    bnd (gd x142 false (lift (some x129))) fun x144 =>
    bnd (gd x142 false (lift (some x137))) fun x145 =>
    bnd (gd x142 false (lift (bin .neq x144 x145))) fun x146 =>
    bnd (lift (pickV x142 (Value.bool true) x146)) fun x147 =>
    bnd (gd x147 false (lift (some x131))) fun x149 =>
    bnd (gd x147 false (lift (some x139))) fun x150 =>
    bnd (gd x147 false (lift (bin .neq x149 x150))) fun x151 =>
    bnd (lift (pickV x147 (Value.bool true) x151)) fun x152 =>
    condM x152 (
      ret (.ret [(Value.bool false)])
      ) (
      ret (.nxt [(at_ vs_9 0), (at_ vs_9 1), (at_ vs_9 2), (at_ vs_9 3)])
      )
    ) fun o => ret (unblk 3 o)
  ) fun o => nx o law20_PortsUndo_k4
def law20_PortsUndo_l6 (vs_8 : List V) : M Out :=
  bnd (lift (bin .lss (at_ vs_8 3) (at_ vs_8 2))) fun x122 =>
  bnd (
  condM x122 (
    ret (.nxt [(at_ vs_8 0), (at_ vs_8 1), (at_ vs_8 2), (at_ vs_8 3)])
    ) (
    ret (.brk 2 [])
    )
  ) fun o => nx o law20_PortsUndo_k5
def law20_PortsUndo_k7 (vs_11 : List V) : M Out :=
  ret (.ret [(Value.bool true)])
def law20_PortsUndo_k8 (vs_7 : List V) : M Out :=
  bnd (
    bnd (lift (lenSlc (at_ vs_7 0))) fun x120 =>
    bnd (
      loopM FUEL law20_PortsUndo_l6 [(at_ vs_7 1), (at_ vs_7 2), x120, (Value.int .i64 0)]
      ) fun o => ret (unblk 2 o)
    ) fun o => nx o law20_PortsUndo_k7
def law20_PortsUndo_k9 (vs_2 : List V) : M Out :=
  bnd (A_law20_among [(at_ vs_2 2), (Value.int .i64 8)]) fun x61 =>
  bnd (
    bnd (
      loopM FUEL law20_PortsUndo_l3 [(at_ vs_2 0), (at_ vs_2 1), x61, (at_ vs_2 3), (at_ vs_2 4), (Value.int .i64 0)]
      ) fun o => ret (unblk 0 o)
    ) fun o => nx o law20_PortsUndo_k8
def law20_PortsUndo_k10 (vs : List V) : M Out :=
  bnd (A_ports_New [(at_ vs 0)]) fun x32 =>
  bnd (lift (ext 0 x32)) fun x33 =>
  bnd (lift (ext 1 x32)) fun x34 =>
  bnd (A_ports_New [(at_ vs 0)]) fun x37 =>
  bnd (lift (ext 0 x37)) fun x38 =>
  bnd (lift (ext 1 x37)) fun x39 =>
  bnd (
    bnd (lift (bin .neq x34 (Value.int .i64 0))) fun x41 =>
    bnd (gd x41 false (lift (some x39))) fun x43 =>
    bnd (gd x41 false (lift (bin .neq x43 (Value.int .i64 0)))) fun x44 =>
    bnd (lift (pickV x41 (Value.bool true) x44)) fun x45 =>
    bnd (gd x45 false (lift (some x33))) fun x47 =>
    bnd (gd x45 false (lift (notIf false (isNil .p x47)))) fun x48 =>
    bnd (lift (pickV x45 (Value.bool true) x48)) fun x49 =>
    bnd (gd x49 false (lift (some x38))) fun x51 =>
    bnd (gd x49 false (lift (notIf false (isNil .p x51)))) fun x52 =>
    bnd (lift (pickV x49 (Value.bool true) x52)) fun x53 =>
    condM x53 (
      bnd (lift (notIf false (isNil .p x33))) fun x55 =>
      bnd (gd x55 true (lift (some x38))) fun x57 =>
      bnd (gd x55 true (lift (notIf false (isNil .p x57)))) fun x58 =>
      bnd (lift (pickV x55 x58 (Value.bool false))) fun x59 =>
      ret (.ret [x59])
      ) (
      ret (.nxt [(at_ vs 0), (at_ vs 1), (at_ vs 2), x33, x38])
      )
    ) fun o => nx o law20_PortsUndo_k9
def F_law20_PortsUndo (x0 x1 x2 : V) : M V :=
  bnd (
    bnd (
      bnd (A_law20_works []) fun x28 =>
      bnd (lift (un .not x28)) fun x29 =>
      condM x29 (
        ret (.ret [(Value.bool false)])
        ) (
        ret (.nxt [x0, x1, x2])
        )
      ) fun o => nx o law20_PortsUndo_k10
    ) fun o => finM o fun vs => ret (outV [(at_ vs 0)])
def h_law20_PortsUndo : Hint := (.seq [] .leaf (.seq [0, 1, 2] (.seq [] .leaf (.cond (.seq [] .leaf .leaf) .leaf)) (.seq [] .leaf (.seq [] .leaf (.seq [0, 1, 2, 7, 9] (.seq [] .leaf (.cond (.seq [] .leaf .leaf) .leaf)) (.seq [] .leaf (.seq [0, 7, 9] (.seq [] .leaf (.blk (.loop [0, 1, 2, 7, 9, 11] (.seq [0, 1, 2, 7, 9, 11] (.seq [] .leaf (.cond .leaf .leaf)) (.seq [0, 1, 2, 7, 9, 11] (.blk (.seq [] .leaf (.seq [0, 1, 2, 7, 9, 11, 12] (.seq [] .leaf (.cond (.seq [] .leaf (.seq [] .leaf .leaf)) .leaf)) (.seq [] .leaf (.seq [] .leaf (.seq [] .leaf (.cond (.seq [] .leaf .leaf) .leaf))))))) .leaf))))) (.seq [] (.seq [] .leaf (.blk (.loop [7, 9, 120, 121] (.seq [] .leaf (.seq [7, 9, 120, 121] (.cond .leaf .leaf) (.seq [7, 9, 120, 121] (.blk (.seq [] .leaf (.seq [] .leaf (.seq [] .leaf (.seq [] .leaf (.cond (.seq [] .leaf .leaf) .leaf)))))) .leaf)))))) (.seq [] .leaf .leaf)))))))))
def A_law20_PortsUndo (l : List V) : M V := match l with | [x0, x1, x2] => F_law20_PortsUndo x0 x1 x2 | _ => fail
theorem e_law20_PortsUndo (x0 x1 x2 : V) : funM Try.prog (ovr [(fid_law20_works, A_law20_works), (fid_ports_New, A_ports_New), (fid_law20_among, A_law20_among), (fid_law20_do, A_law20_do), (fid_ports_Box_Undo, A_ports_Box_Undo), (fid_ports_Box_Waits, A_ports_Box_Waits)] noC) fid_law20_PortsUndo h_law20_PortsUndo [x0, x1, x2] = F_law20_PortsUndo x0 x1 x2 := by kernel_rfl
theorem K_law20_PortsUndo : Known Try.prog fid_law20_PortsUndo (A_law20_PortsUndo) := known_of (σ := ovr [(fid_law20_works, A_law20_works), (fid_ports_New, A_ports_New), (fid_law20_among, A_law20_among), (fid_law20_do, A_law20_do), (fid_ports_Box_Undo, A_ports_Box_Undo), (fid_ports_Box_Waits, A_ports_Box_Waits)] noC) (hint := h_law20_PortsUndo) (by kernel_rfl) (simAll_ovr K_law20_works (simAll_ovr K_ports_New (simAll_ovr K_law20_among (simAll_ovr K_law20_do (simAll_ovr K_ports_Box_Undo (simAll_ovr K_ports_Box_Waits simAll_nil0)))))) fun l H r H' h => by
  unfold A_law20_PortsUndo at h; split at h
  · rw [e_law20_PortsUndo]; exact h
  · exact (fail_ne h).elim

/-! ### slices.Index[[]int,int] -/
def slices_Index_S_int_int_k0 (vs_3 : List V) : M Out :=
  bnd (lift (bin .add (at_ vs_3 3) (Value.int .i64 1))) fun x18 =>
  ret (.nxt [(at_ vs_3 0), (at_ vs_3 1), (at_ vs_3 2), x18])
def slices_Index_S_int_int_k1 (vs_2 : List V) : M Out :=
  bnd (
  bnd (
    bnd (lift (iaddrS 1 (at_ vs_2 0) (at_ vs_2 3))) fun x14 =>
    bnd (ld1 x14) fun x15 =>
    bnd (lift (bin .eql (at_ vs_2 1) x15)) fun x16 =>
    condM x16 (
      ret (.ret [(at_ vs_2 3)])
      ) (
      ret (.nxt [(at_ vs_2 0), (at_ vs_2 1), (at_ vs_2 2), (at_ vs_2 3)])
      )
    ) fun o => ret (unblk 1 o)
  ) fun o => nx o slices_Index_S_int_int_k0
def slices_Index_S_int_int_l2 (vs : List V) : M Out :=
  bnd (lift (bin .lss (at_ vs 3) (at_ vs 2))) fun x9 =>
  bnd (
  condM x9 (
    ret (.nxt [(at_ vs 0), (at_ vs 1), (at_ vs 2), (at_ vs 3)])
    ) (
    ret (.brk 0 [])
    )
  ) fun o => nx o slices_Index_S_int_int_k1
def slices_Index_S_int_int_k3 (vs_4 : List V) : M Out :=
  ret (.ret [(Value.int .i64 (-1))])
def F_slices_Index_S_int_int (x0 x1 : V) : M V :=
  bnd (
    bnd (
      bnd (lift (lenSlc x0)) fun x7 =>
      bnd (
        loopM FUEL slices_Index_S_int_int_l2 [x0, x1, x7, (Value.int .i64 0)]
        ) fun o => ret (unblk 0 o)
      ) fun o => nx o slices_Index_S_int_int_k3
    ) fun o => finM o fun vs => ret (outV [(at_ vs 0)])
def h_slices_Index_S_int_int : Hint := (.seq [] .leaf (.seq [] (.seq [] .leaf (.blk (.loop [0, 1, 7, 8] (.seq [] .leaf (.seq [0, 1, 7, 8] (.cond .leaf .leaf) (.seq [0, 1, 7, 8] (.blk (.seq [] .leaf (.seq [] .leaf (.cond (.seq [] .leaf .leaf) .leaf)))) .leaf)))))) (.seq [] .leaf .leaf)))
def A_slices_Index_S_int_int (l : List V) : M V := match l with | [x0, x1] => F_slices_Index_S_int_int x0 x1 | _ => fail
theorem e_slices_Index_S_int_int (x0 x1 : V) : funM Try.prog (ovr [] noC) fid_slices_Index_S_int_int h_slices_Index_S_int_int [x0, x1] = F_slices_Index_S_int_int x0 x1 := by kernel_rfl
theorem K_slices_Index_S_int_int : Known Try.prog fid_slices_Index_S_int_int (A_slices_Index_S_int_int) := known_of (σ := ovr [] noC) (hint := h_slices_Index_S_int_int) (by kernel_rfl) simAll_nil0 fun l H r H' h => by
  unfold A_slices_Index_S_int_int at h; split at h
  · rw [e_slices_Index_S_int_int]; exact h
  · exact (fail_ne h).elim

/-! ### slices.Contains[[]int,int] -/
def F_slices_Contains_S_int_int (x0 x1 : V) : M V :=
  bnd (
    bnd (A_slices_Index_S_int_int [x0, x1]) fun x7 =>
    bnd (lift (bin .geq x7 (Value.int .i64 0))) fun x8 =>
    ret (.ret [x8])
    ) fun o => finM o fun vs => ret (outV [(at_ vs 0)])
def h_slices_Contains_S_int_int : Hint := (.seq [] .leaf (.seq [] .leaf .leaf))
def A_slices_Contains_S_int_int (l : List V) : M V := match l with | [x0, x1] => F_slices_Contains_S_int_int x0 x1 | _ => fail
theorem e_slices_Contains_S_int_int (x0 x1 : V) : funM Try.prog (ovr [(fid_slices_Index_S_int_int, A_slices_Index_S_int_int)] noC) fid_slices_Contains_S_int_int h_slices_Contains_S_int_int [x0, x1] = F_slices_Contains_S_int_int x0 x1 := by kernel_rfl
theorem K_slices_Contains_S_int_int : Known Try.prog fid_slices_Contains_S_int_int (A_slices_Contains_S_int_int) := known_of (σ := ovr [(fid_slices_Index_S_int_int, A_slices_Index_S_int_int)] noC) (hint := h_slices_Contains_S_int_int) (by kernel_rfl) (simAll_ovr K_slices_Index_S_int_int simAll_nil0) fun l H r H' h => by
  unfold A_slices_Contains_S_int_int at h; split at h
  · rw [e_slices_Contains_S_int_int]; exact h
  · exact (fail_ne h).elim

/-! ### math/bits.Len32 -/
def math_bits_Len32_k0 (vs_2 : List V) : M Out :=
  bnd (lift (cvi .u8 (at_ vs_2 0))) fun x15 =>
  bnd (lift (idxS (Value.string ⟨#[0, 1, 2, 2, 3, 3, 3, 3, 4, 4, 4, 4, 4, 4, 4, 4, 5, 5, 5, 5, 5, 5, 5, 5, 5, 5, 5, 5, 5, 5, 5, 5, 6, 6, 6, 6, 6, 6, 6, 6, 6, 6, 6, 6, 6, 6, 6, 6, 6, 6, 6, 6, 6, 6, 6, 6, 6, 6, 6, 6, 6, 6, 6, 6, 7, 7, 7, 7, 7, 7, 7, 7, 7, 7, 7, 7, 7, 7, 7, 7, 7, 7, 7, 7, 7, 7, 7, 7, 7, 7, 7, 7, 7, 7, 7, 7, 7, 7, 7, 7, 7, 7, 7, 7, 7, 7, 7, 7, 7, 7, 7, 7, 7, 7, 7, 7, 7, 7, 7, 7, 7, 7, 7, 7, 7, 7, 7, 7, 8, 8, 8, 8, 8, 8, 8, 8, 8, 8, 8, 8, 8, 8, 8, 8, 8, 8, 8, 8, 8, 8, 8, 8, 8, 8, 8, 8, 8, 8, 8, 8, 8, 8, 8, 8, 8, 8, 8, 8, 8, 8, 8, 8, 8, 8, 8, 8, 8, 8, 8, 8, 8, 8, 8, 8, 8, 8, 8, 8, 8, 8, 8, 8, 8, 8, 8, 8, 8, 8, 8, 8, 8, 8, 8, 8, 8, 8, 8, 8, 8, 8, 8, 8, 8, 8, 8, 8, 8, 8, 8, 8, 8, 8, 8, 8, 8, 8, 8, 8, 8, 8, 8, 8, 8, 8, 8, 8, 8, 8, 8, 8, 8, 8, 8, 8, 8, 8, 8, 8, 8, 8, 8, 8, 8, 8, 8, 8]⟩) x15)) fun x16 =>
  bnd (lift (cvi .i64 x16)) fun x17 =>
  bnd (lift (bin .add (at_ vs_2 1) x17)) fun x18 =>
  ret (.ret [x18])
def math_bits_Len32_k1 (vs : List V) : M Out :=
  bnd (
    bnd (lift (bin .geq (at_ vs 0) (Value.int .u32 256))) fun x8 =>
    condM x8 (
      bnd (lift (bin .shr (at_ vs 0) (Value.int .u64 8))) fun x10 =>
      bnd (lift (bin .add (at_ vs 1) (Value.int .i64 8))) fun x12 =>
      ret (.nxt [x10, x12])
      ) (
      ret (.nxt [(at_ vs 0), (at_ vs 1)])
      )
    ) fun o => nx o math_bits_Len32_k0
def F_math_bits_Len32 (x0 : V) : M V :=
  bnd (
    bnd (
      bnd (lift (bin .geq x0 (Value.int .u32 65536))) fun x4 =>
      condM x4 (
        bnd (lift (bin .shr x0 (Value.int .u64 16))) fun x6 =>
        ret (.nxt [x6, (Value.int .i64 16)])
        ) (
        ret (.nxt [x0, (Value.int .i64 0)])
        )
      ) fun o => nx o math_bits_Len32_k1
    ) fun o => finM o fun vs => ret (outV [(at_ vs 0)])
def h_math_bits_Len32 : Hint := (.seq [] .leaf (.seq [0, 2] (.seq [] .leaf (.cond (.seq [] .leaf .leaf) .leaf)) (.seq [0, 2] (.seq [] .leaf (.cond (.seq [] .leaf .leaf) .leaf)) (.seq [] .leaf .leaf))))
def A_math_bits_Len32 (l : List V) : M V := match l with | [x0] => F_math_bits_Len32 x0 | _ => fail
theorem e_math_bits_Len32 (x0 : V) : funM Try.prog (ovr [] noC) fid_math_bits_Len32 h_math_bits_Len32 [x0] = F_math_bits_Len32 x0 := by kernel_rfl
theorem K_math_bits_Len32 : Known Try.prog fid_math_bits_Len32 (A_math_bits_Len32) := known_of (σ := ovr [] noC) (hint := h_math_bits_Len32) (by kernel_rfl) simAll_nil0 fun l H r H' h => by
  unfold A_math_bits_Len32 at h; split at h
  · rw [e_math_bits_Len32]; exact h
  · exact (fail_ne h).elim

/-! ### math/bits.Len64 -/
def math_bits_Len64_k0 (vs_3 : List V) : M Out :=
  bnd (lift (cvi .u8 (at_ vs_3 0))) fun x21 =>
  bnd (lift (idxS (Value.string ⟨#[0, 1, 2, 2, 3, 3, 3, 3, 4, 4, 4, 4, 4, 4, 4, 4, 5, 5, 5, 5, 5, 5, 5, 5, 5, 5, 5, 5, 5, 5, 5, 5, 6, 6, 6, 6, 6, 6, 6, 6, 6, 6, 6, 6, 6, 6, 6, 6, 6, 6, 6, 6, 6, 6, 6, 6, 6, 6, 6, 6, 6, 6, 6, 6, 7, 7, 7, 7, 7, 7, 7, 7, 7, 7, 7, 7, 7, 7, 7, 7, 7, 7, 7, 7, 7, 7, 7, 7, 7, 7, 7, 7, 7, 7, 7, 7, 7, 7, 7, 7, 7, 7, 7, 7, 7, 7, 7, 7, 7, 7, 7, 7, 7, 7, 7, 7, 7, 7, 7, 7, 7, 7, 7, 7, 7, 7, 7, 7, 8, 8, 8, 8, 8, 8, 8, 8, 8, 8, 8, 8, 8, 8, 8, 8, 8, 8, 8, 8, 8, 8, 8, 8, 8, 8, 8, 8, 8, 8, 8, 8, 8, 8, 8, 8, 8, 8, 8, 8, 8, 8, 8, 8, 8, 8, 8, 8, 8, 8, 8, 8, 8, 8, 8, 8, 8, 8, 8, 8, 8, 8, 8, 8, 8, 8, 8, 8, 8, 8, 8, 8, 8, 8, 8, 8, 8, 8, 8, 8, 8, 8, 8, 8, 8, 8, 8, 8, 8, 8, 8, 8, 8, 8, 8, 8, 8, 8, 8, 8, 8, 8, 8, 8, 8, 8, 8, 8, 8, 8, 8, 8, 8, 8, 8, 8, 8, 8, 8, 8, 8, 8, 8, 8, 8, 8, 8, 8]⟩) x21)) fun x22 =>
  bnd (lift (cvi .i64 x22)) fun x23 =>
  bnd (lift (bin .add (at_ vs_3 1) x23)) fun x24 =>
  ret (.ret [x24])
def math_bits_Len64_k1 (vs_2 : List V) : M Out :=
  bnd (
    bnd (lift (bin .geq (at_ vs_2 0) (Value.int .u64 256))) fun x14 =>
    condM x14 (
      bnd (lift (bin .shr (at_ vs_2 0) (Value.int .u64 8))) fun x16 =>
      bnd (lift (bin .add (at_ vs_2 1) (Value.int .i64 8))) fun x18 =>
      ret (.nxt [x16, x18])
      ) (
      ret (.nxt [(at_ vs_2 0), (at_ vs_2 1)])
      )
    ) fun o => nx o math_bits_Len64_k0
def math_bits_Len64_k2 (vs : List V) : M Out :=
  bnd (
    bnd (lift (bin .geq (at_ vs 0) (Value.int .u64 65536))) fun x8 =>
    condM x8 (
      bnd (lift (bin .shr (at_ vs 0) (Value.int .u64 16))) fun x10 =>
      bnd (lift (bin .add (at_ vs 1) (Value.int .i64 16))) fun x12 =>
      ret (.nxt [x10, x12])
      ) (
      ret (.nxt [(at_ vs 0), (at_ vs 1)])
      )
    ) fun o => nx o math_bits_Len64_k1
def F_math_bits_Len64 (x0 : V) : M V :=
  bnd (
    bnd (
      bnd (lift (bin .geq x0 (Value.int .u64 4294967296))) fun x4 =>
      condM x4 (
        bnd (lift (bin .shr x0 (Value.int .u64 32))) fun x6 =>
        ret (.nxt [x6, (Value.int .i64 32)])
        ) (
        ret (.nxt [x0, (Value.int .i64 0)])
        )
      ) fun o => nx o math_bits_Len64_k2
    ) fun o => finM o fun vs => ret (outV [(at_ vs 0)])
def h_math_bits_Len64 : Hint := (.seq [] .leaf (.seq [0, 2] (.seq [] .leaf (.cond (.seq [] .leaf .leaf) .leaf)) (.seq [0, 2] (.seq [] .leaf (.cond (.seq [] .leaf .leaf) .leaf)) (.seq [0, 2] (.seq [] .leaf (.cond (.seq [] .leaf .leaf) .leaf)) (.seq [] .leaf .leaf)))))
def A_math_bits_Len64 (l : List V) : M V := match l with | [x0] => F_math_bits_Len64 x0 | _ => fail
theorem e_math_bits_Len64 (x0 : V) : funM Try.prog (ovr [] noC) fid_math_bits_Len64 h_math_bits_Len64 [x0] = F_math_bits_Len64 x0 := by kernel_rfl
theorem K_math_bits_Len64 : Known Try.prog fid_math_bits_Len64 (A_math_bits_Len64) := known_of (σ := ovr [] noC) (hint := h_math_bits_Len64) (by kernel_rfl) simAll_nil0 fun l H r H' h => by
  unfold A_math_bits_Len64 at h; split at h
  · rw [e_math_bits_Len64]; exact h
  · exact (fail_ne h).elim

/-! ### math/bits.Len -/
def math_bits_Len_k0 (vs : List V) : M Out :=
  bnd (A_math_bits_Len64 [(at_ vs 0)]) fun x7 =>
  ret (.ret [x7])
def F_math_bits_Len (x0 : V) : M V :=
  bnd (
    bnd (
      condM (Value.bool false) (
        bnd (lift (cvi .u32 x0)) fun x4 =>
        bnd (A_math_bits_Len32 [x4]) fun x5 =>
        ret (.ret [x5])
        ) (
        ret (.nxt [x0])
        )
      ) fun o => nx o math_bits_Len_k0
    ) fun o => finM o fun vs => ret (outV [(at_ vs 0)])
def h_math_bits_Len : Hint := (.seq [] .leaf (.seq [0] (.cond (.seq [] .leaf .leaf) .leaf) (.seq [] .leaf .leaf)))
def A_math_bits_Len (l : List V) : M V := match l with | [x0] => F_math_bits_Len x0 | _ => fail
theorem e_math_bits_Len (x0 : V) : funM Try.prog (ovr [(fid_math_bits_Len32, A_math_bits_Len32), (fid_math_bits_Len64, A_math_bits_Len64)] noC) fid_math_bits_Len h_math_bits_Len [x0] = F_math_bits_Len x0 := by kernel_rfl
theorem K_math_bits_Len : Known Try.prog fid_math_bits_Len (A_math_bits_Len) := known_of (σ := ovr [(fid_math_bits_Len32, A_math_bits_Len32), (fid_math_bits_Len64, A_math_bits_Len64)] noC) (hint := h_math_bits_Len) (by kernel_rfl) (simAll_ovr K_math_bits_Len32 (simAll_ovr K_math_bits_Len64 simAll_nil0)) fun l H r H' h => by
  unfold A_math_bits_Len at h; split at h
  · rw [e_math_bits_Len]; exact h
  · exact (fail_ne h).elim

/-! ### cmp.isNaN[int] -/
def F_cmp_isNaN_int (x0 : V) : M V :=
  bnd (
    bnd (lift (bin .neq x0 x0)) fun x5 =>
    ret (.ret [x5])
    ) fun o => finM o fun vs => ret (outV [(at_ vs 0)])
def h_cmp_isNaN_int : Hint := (.seq [] .leaf (.seq [] .leaf .leaf))
def A_cmp_isNaN_int (l : List V) : M V := match l with | [x0] => F_cmp_isNaN_int x0 | _ => fail
theorem e_cmp_isNaN_int (x0 : V) : funM Try.prog (ovr [] noC) fid_cmp_isNaN_int h_cmp_isNaN_int [x0] = F_cmp_isNaN_int x0 := by kernel_rfl
theorem K_cmp_isNaN_int : Known Try.prog fid_cmp_isNaN_int (A_cmp_isNaN_int) := known_of (σ := ovr [] noC) (hint := h_cmp_isNaN_int) (by kernel_rfl) simAll_nil0 fun l H r H' h => by
  unfold A_cmp_isNaN_int at h; split at h
  · rw [e_cmp_isNaN_int]; exact h
  · exact (fail_ne h).elim

/-! ### cmp.Less[int] -/
def F_cmp_Less_int (x0 x1 : V) : M V :=
  bnd (
    bnd (A_cmp_isNaN_int [x0]) fun x6 =>
    bnd (gd x6 true (lift (some x1))) fun x8 =>
    bnd (gd x6 true (A_cmp_isNaN_int [x8])) fun x9 =>
    bnd (gd x6 true (lift (un .not x9))) fun x10 =>
    bnd (lift (pickV x6 x10 (Value.bool false))) fun x11 =>
    bnd (gd x11 false (lift (some x0))) fun x13 =>
    bnd (gd x11 false (lift (some x1))) fun x14 =>
    bnd (gd x11 false (lift (bin .lss x13 x14))) fun x15 =>
    bnd (lift (pickV x11 (Value.bool true) x15)) fun x16 =>
    ret (.ret [x16])
    ) fun o => finM o fun vs => ret (outV [(at_ vs 0)])
def h_cmp_Less_int : Hint := (.seq [] .leaf (.seq [] .leaf .leaf))
def A_cmp_Less_int (l : List V) : M V := match l with | [x0, x1] => F_cmp_Less_int x0 x1 | _ => fail
theorem e_cmp_Less_int (x0 x1 : V) : funM Try.prog (ovr [(fid_cmp_isNaN_int, A_cmp_isNaN_int)] noC) fid_cmp_Less_int h_cmp_Less_int [x0, x1] = F_cmp_Less_int x0 x1 := by kernel_rfl
theorem K_cmp_Less_int : Known Try.prog fid_cmp_Less_int (A_cmp_Less_int) := known_of (σ := ovr [(fid_cmp_isNaN_int, A_cmp_isNaN_int)] noC) (hint := h_cmp_Less_int) (by kernel_rfl) (simAll_ovr K_cmp_isNaN_int simAll_nil0) fun l H r H' h => by
  unfold A_cmp_Less_int at h; split at h
  · rw [e_cmp_Less_int]; exact h
  · exact (fail_ne h).elim

/-! ### slices.insertionSortOrdered[int] -/
def slices_insertionSortOrdered_int_k0 (vs_5 : List V) : M Out :=
  bnd (lift (bin .sub (at_ vs_5 4) (Value.int .i64 1))) fun x32 =>
  ret (.nxt [(at_ vs_5 0), (at_ vs_5 1), (at_ vs_5 2), (at_ vs_5 3), x32])
def slices_insertionSortOrdered_int_k1 (vs_4 : List V) : M Out :=
  bnd (
  bnd (
    bnd (lift (bin .sub (at_ vs_4 4) (Value.int .i64 1))) fun x37 =>
    bnd (lift (bin .sub (at_ vs_4 4) (Value.int .i64 1))) fun x40 =>
    bnd (lift (iaddrS 1 (at_ vs_4 0) x40)) fun x41 =>
    bnd (lift (iaddrS 1 (at_ vs_4 0) (at_ vs_4 4))) fun x45 =>
    bnd (ld1 x41) fun x42 =>
    bnd (ld1 x45) fun x46 =>
    bnd (lift (iaddrS 1 (at_ vs_4 0) (at_ vs_4 4))) fun x47 =>
    bnd (st1 x47 x42) fun _ =>
    bnd (lift (iaddrS 1 (at_ vs_4 0) x37)) fun x48 =>
    bnd (st1 x48 x46) fun _ =>
    ret (.nxt [(at_ vs_4 0), (at_ vs_4 1), (at_ vs_4 2), (at_ vs_4 3), (at_ vs_4 4)])
    ) fun o => ret (unblk 3 o)
  ) fun o => nx o slices_insertionSortOrdered_int_k0
def slices_insertionSortOrdered_int_l2 (vs_3 : List V) : M Out :=
  bnd (
  bnd (lift (bin .gtr (at_ vs_3 4) (at_ vs_3 1))) fun x18 =>
  bnd (gd x18 true (lift (some (at_ vs_3 0)))) fun x20 =>
  bnd (gd x18 true (lift (some (at_ vs_3 4)))) fun x21 =>
  bnd (gd x18 true (lift (iaddrS 1 x20 x21))) fun x22 =>
  bnd (gd x18 true (lift (some (at_ vs_3 0)))) fun x24 =>
  bnd (gd x18 true (lift (some (at_ vs_3 4)))) fun x25 =>
  bnd (gd x18 true (lift (bin .sub x25 (Value.int .i64 1)))) fun x26 =>
  bnd (gd x18 true (lift (iaddrS 1 x24 x26))) fun x27 =>
  bnd (gd x18 true (ld1 x22)) fun x23 =>
  bnd (gd x18 true (ld1 x27)) fun x28 =>
  bnd (gd x18 true (A_cmp_Less_int [x23, x28])) fun x29 =>
  bnd (lift (pickV x18 x29 (Value.bool false))) fun x30 =>
  condM x30 (
    ret (.nxt [(at_ vs_3 0), (at_ vs_3 1), (at_ vs_3 2), (at_ vs_3 3), (at_ vs_3 4)])
    ) (
    ret (.brk 2 [(at_ vs_3 0), (at_ vs_3 1), (at_ vs_3 2), (at_ vs_3 3)])
    )
  ) fun o => nx o slices_insertionSortOrdered_int_k1
def slices_insertionSortOrdered_int_k3 (vs_6 : List V) : M Out :=
  bnd (lift (bin .add (at_ vs_6 3) (Value.int .i64 1))) fun x14 =>
  ret (.nxt [(at_ vs_6 0), (at_ vs_6 1), (at_ vs_6 2), x14])
def slices_insertionSortOrdered_int_k4 (vs_2 : List V) : M Out :=
  bnd (
  bnd (
    bnd (
      loopM FUEL slices_insertionSortOrdered_int_l2 [(at_ vs_2 0), (at_ vs_2 1), (at_ vs_2 2), (at_ vs_2 3), (at_ vs_2 3)]
      ) fun o => ret (unblk 2 o)
    ) fun o => ret (unblk 1 o)
  ) fun o => nx o slices_insertionSortOrdered_int_k3
def slices_insertionSortOrdered_int_l5 (vs : List V) : M Out :=
  bnd (
  bnd (lift (bin .lss (at_ vs 3) (at_ vs 2))) fun x12 =>
  condM x12 (
    ret (.nxt [(at_ vs 0), (at_ vs 1), (at_ vs 2), (at_ vs 3)])
    ) (
    ret (.brk 0 [])
    )
  ) fun o => nx o slices_insertionSortOrdered_int_k4
def F_slices_insertionSortOrdered_int (x0 x1 x2 : V) : M V :=
  bnd (
    bnd (lift (bin .add x1 (Value.int .i64 1))) fun x9 =>
    bnd (
      loopM FUEL slices_insertionSortOrdered_int_l5 [x0, x1, x2, x9]
      ) fun o => ret (unblk 0 o)
    ) fun o => finM o fun vs => ret (outV [])
def h_slices_insertionSortOrdered_int : Hint := (.seq [] .leaf (.blk (.loop [0, 1, 2, 6] (.seq [0, 1, 2, 6] (.seq [] .leaf (.cond .leaf .leaf)) (.seq [0, 1, 2, 6] (.blk (.seq [] .leaf (.blk (.loop [0, 1, 2, 6, 7] (.seq [0, 1, 2, 6, 7] (.seq [] (.reg [0, 1, 2, 3, 4, 5, 6, 8, 9, 10, 11, 7, 12, 13, 14] []) (.cond .leaf .leaf)) (.seq [0, 1, 2, 6, 7] (.blk (.reg [0, 1, 2, 3, 4, 5, 6, 7, 8, 10, 11, 12, 9, 13, 14, 15, 16, 17] [])) .leaf)))))) .leaf)))))
def A_slices_insertionSortOrdered_int (l : List V) : M V := match l with | [x0, x1, x2] => F_slices_insertionSortOrdered_int x0 x1 x2 | _ => fail
theorem e_slices_insertionSortOrdered_int (x0 x1 x2 : V) : funM Try.prog (ovr [(fid_cmp_Less_int, A_cmp_Less_int)] noC) fid_slices_insertionSortOrdered_int h_slices_insertionSortOrdered_int [x0, x1, x2] = F_slices_insertionSortOrdered_int x0 x1 x2 := by kernel_rfl
theorem K_slices_insertionSortOrdered_int : Known Try.prog fid_slices_insertionSortOrdered_int (A_slices_insertionSortOrdered_int) := known_of (σ := ovr [(fid_cmp_Less_int, A_cmp_Less_int)] noC) (hint := h_slices_insertionSortOrdered_int) (by kernel_rfl) (simAll_ovr K_cmp_Less_int simAll_nil0) fun l H r H' h => by
  unfold A_slices_insertionSortOrdered_int at h; split at h
  · rw [e_slices_insertionSortOrdered_int]; exact h
  · exact (fail_ne h).elim

/-! ### slices.siftDownOrdered[int] -/
def slices_siftDownOrdered_int_k0 (vs_4 : List V) : M Out :=
  bnd (lift (bin .add (at_ vs_4 2) (at_ vs_4 3))) fun x56 =>
  bnd (lift (bin .add (at_ vs_4 2) (at_ vs_4 4))) fun x60 =>
  bnd (lift (bin .add (at_ vs_4 2) (at_ vs_4 4))) fun x64 =>
  bnd (lift (iaddrS 1 (at_ vs_4 0) x64)) fun x65 =>
  bnd (lift (bin .add (at_ vs_4 2) (at_ vs_4 3))) fun x70 =>
  bnd (lift (iaddrS 1 (at_ vs_4 0) x70)) fun x71 =>
  bnd (ld1 x65) fun x66 =>
  bnd (ld1 x71) fun x72 =>
  bnd (lift (iaddrS 1 (at_ vs_4 0) x56)) fun x73 =>
  bnd (st1 x73 x66) fun _ =>
  bnd (lift (iaddrS 1 (at_ vs_4 0) x60)) fun x74 =>
  bnd (st1 x74 x72) fun _ =>
  ret (.nxt [(at_ vs_4 0), (at_ vs_4 1), (at_ vs_4 2), (at_ vs_4 4)])
def slices_siftDownOrdered_int_k1 (vs_3 : List V) : M Out :=
  bnd (
    bnd (lift (bin .add (at_ vs_3 2) (at_ vs_3 3))) fun x42 =>
    bnd (lift (iaddrS 1 (at_ vs_3 0) x42)) fun x43 =>
    bnd (lift (bin .add (at_ vs_3 2) (at_ vs_3 4))) fun x48 =>
    bnd (lift (iaddrS 1 (at_ vs_3 0) x48)) fun x49 =>
    bnd (ld1 x43) fun x44 =>
    bnd (ld1 x49) fun x50 =>
    bnd (A_cmp_Less_int [x44, x50]) fun x51 =>
    bnd (lift (un .not x51)) fun x52 =>
    condM x52 (
      ret (.ret [])
      ) (
      ret (.nxt [(at_ vs_3 0), (at_ vs_3 1), (at_ vs_3 2), (at_ vs_3 3), (at_ vs_3 4)])
      )
    ) fun o => nx o slices_siftDownOrdered_int_k0
def slices_siftDownOrdered_int_k2 (vs_2 : List V) : M Out :=
  bnd (
    bnd (lift (bin .add (at_ vs_2 4) (Value.int .i64 1))) fun x18 =>
    bnd (lift (bin .lss x18 (at_ vs_2 1))) fun x20 =>
    bnd (gd x20 true (lift (some (at_ vs_2 0)))) fun x22 =>
    bnd (gd x20 true (lift (some (at_ vs_2 2)))) fun x23 =>
    bnd (gd x20 true (lift (some (at_ vs_2 4)))) fun x24 =>
    bnd (gd x20 true (lift (bin .add x23 x24))) fun x25 =>
    bnd (gd x20 true (lift (iaddrS 1 x22 x25))) fun x26 =>
    bnd (gd x20 true (lift (some (at_ vs_2 0)))) fun x28 =>
    bnd (gd x20 true (lift (some (at_ vs_2 2)))) fun x29 =>
    bnd (gd x20 true (lift (some (at_ vs_2 4)))) fun x30 =>
    bnd (gd x20 true (lift (bin .add x29 x30))) fun x31 =>
    bnd (gd x20 true (lift (bin .add x31 (Value.int .i64 1)))) fun x32 =>
    bnd (gd x20 true (lift (iaddrS 1 x28 x32))) fun x33 =>
    bnd (gd x20 true (ld1 x26)) fun x27 =>
    bnd (gd x20 true (ld1 x33)) fun x34 =>
    bnd (gd x20 true (A_cmp_Less_int [x27, x34])) fun x35 =>
    bnd (lift (pickV x20 x35 (Value.bool false))) fun x36 =>
    condM x36 (
      bnd (lift (bin .add (at_ vs_2 4) (Value.int .i64 1))) fun x38 =>
      ret (.nxt [(at_ vs_2 0), (at_ vs_2 1), (at_ vs_2 2), (at_ vs_2 3), x38])
      ) (
      ret (.nxt [(at_ vs_2 0), (at_ vs_2 1), (at_ vs_2 2), (at_ vs_2 3), (at_ vs_2 4)])
      )
    ) fun o => nx o slices_siftDownOrdered_int_k1
def slices_siftDownOrdered_int_l3 (vs : List V) : M Out :=
  bnd (
  bnd (lift (bin .mul (Value.int .i64 2) (at_ vs 3))) fun x12 =>
  bnd (lift (bin .add x12 (Value.int .i64 1))) fun x13 =>
  bnd (
    bnd (lift (bin .geq x13 (at_ vs 1))) fun x16 =>
    condM x16 (
      ret (.brk 0 [])
      ) (
      ret (.nxt [(at_ vs 0), (at_ vs 1), (at_ vs 2), (at_ vs 3), x13])
      )
    ) fun o => nx o slices_siftDownOrdered_int_k2
  ) fun o => ret (unblk 1 o)
def F_slices_siftDownOrdered_int (x0 x1 x2 x3 : V) : M V :=
  bnd (
    bnd (
      loopM FUEL slices_siftDownOrdered_int_l3 [x0, x2, x3, x1]
      ) fun o => ret (unblk 0 o)
    ) fun o => finM o fun vs => ret (outV [])
def h_slices_siftDownOrdered_int : Hint := (.seq [] .leaf (.blk (.loop [0, 2, 3, 8] (.blk (.seq [] .leaf (.seq [0, 2, 3, 8, 9] (.seq [] .leaf (.cond .leaf .leaf)) (.seq [0, 2, 3, 8, 9] (.seq [] (.reg [0, 1, 2, 3, 4, 5, 6, 7, 8, 9, 11, 12, 13, 14, 15, 16, 10, 17, 18, 19] []) (.cond .leaf .leaf)) (.seq [0, 2, 3, 8, 9] (.seq [] (.reg [0, 1, 2, 3, 4, 6, 7, 8, 9, 10, 5, 11, 12, 13] []) (.cond .leaf .leaf)) (.seq [] (.reg [0, 1, 2, 3, 4, 5, 6, 7, 8, 9, 10, 11, 12, 14, 15, 16, 17, 18, 13, 19, 20, 21, 22, 23] []) .leaf)))))))))
def A_slices_siftDownOrdered_int (l : List V) : M V := match l with | [x0, x1, x2, x3] => F_slices_siftDownOrdered_int x0 x1 x2 x3 | _ => fail
theorem e_slices_siftDownOrdered_int (x0 x1 x2 x3 : V) : funM Try.prog (ovr [(fid_cmp_Less_int, A_cmp_Less_int)] noC) fid_slices_siftDownOrdered_int h_slices_siftDownOrdered_int [x0, x1, x2, x3] = F_slices_siftDownOrdered_int x0 x1 x2 x3 := by kernel_rfl
theorem K_slices_siftDownOrdered_int : Known Try.prog fid_slices_siftDownOrdered_int (A_slices_siftDownOrdered_int) := known_of (σ := ovr [(fid_cmp_Less_int, A_cmp_Less_int)] noC) (hint := h_slices_siftDownOrdered_int) (by kernel_rfl) (simAll_ovr K_cmp_Less_int simAll_nil0) fun l H r H' h => by
  unfold A_slices_siftDownOrdered_int at h; split at h
  · rw [e_slices_siftDownOrdered_int]; exact h
  · exact (fail_ne h).elim

/-! ### slices.heapSortOrdered[int] -/
def slices_heapSortOrdered_int_k0 (vs_3 : List V) : M Out :=
  bnd (lift (bin .sub (at_ vs_3 4) (Value.int .i64 1))) fun x21 =>
  ret (.nxt [(at_ vs_3 0), (at_ vs_3 1), (at_ vs_3 2), (at_ vs_3 3), x21])
def slices_heapSortOrdered_int_k1 (vs_2 : List V) : M Out :=
  bnd (
  bnd (
    bnd (A_slices_siftDownOrdered_int [(at_ vs_2 0), (at_ vs_2 4), (at_ vs_2 3), (at_ vs_2 1)]) fun x26 =>
    ret (.nxt [(at_ vs_2 0), (at_ vs_2 1), (at_ vs_2 2), (at_ vs_2 3), (at_ vs_2 4)])
    ) fun o => ret (unblk 1 o)
  ) fun o => nx o slices_heapSortOrdered_int_k0
def slices_heapSortOrdered_int_l2 (vs : List V) : M Out :=
  bnd (
  bnd (lift (bin .geq (at_ vs 4) (Value.int .i64 0))) fun x19 =>
  condM x19 (
    ret (.nxt [(at_ vs 0), (at_ vs 1), (at_ vs 2), (at_ vs 3), (at_ vs 4)])
    ) (
    ret (.brk 0 [(at_ vs 0), (at_ vs 1), (at_ vs 2), (at_ vs 3)])
    )
  ) fun o => nx o slices_heapSortOrdered_int_k1
def slices_heapSortOrdered_int_k3 (vs_7 : List V) : M Out :=
  bnd (lift (bin .sub (at_ vs_7 3) (Value.int .i64 1))) fun x32 =>
  ret (.nxt [(at_ vs_7 0), (at_ vs_7 1), (at_ vs_7 2), x32])
def slices_heapSortOrdered_int_k4 (vs_6 : List V) : M Out :=
  bnd (
  bnd (
    bnd (lift (bin .add (at_ vs_6 1) (at_ vs_6 3))) fun x38 =>
    bnd (lift (bin .add (at_ vs_6 1) (at_ vs_6 3))) fun x42 =>
    bnd (lift (iaddrS 1 (at_ vs_6 0) x42)) fun x43 =>
    bnd (lift (iaddrS 1 (at_ vs_6 0) (at_ vs_6 1))) fun x47 =>
    bnd (ld1 x43) fun x44 =>
    bnd (ld1 x47) fun x48 =>
    bnd (lift (iaddrS 1 (at_ vs_6 0) (at_ vs_6 1))) fun x49 =>
    bnd (st1 x49 x44) fun _ =>
    bnd (lift (iaddrS 1 (at_ vs_6 0) x38)) fun x50 =>
    bnd (st1 x50 x48) fun _ =>
    bnd (A_slices_siftDownOrdered_int [(at_ vs_6 0), (at_ vs_6 2), (at_ vs_6 3), (at_ vs_6 1)]) fun x55 =>
    ret (.nxt [(at_ vs_6 0), (at_ vs_6 1), (at_ vs_6 2), (at_ vs_6 3)])
    ) fun o => ret (unblk 3 o)
  ) fun o => nx o slices_heapSortOrdered_int_k3
def slices_heapSortOrdered_int_l5 (vs_5 : List V) : M Out :=
  bnd (
  bnd (lift (bin .geq (at_ vs_5 3) (Value.int .i64 0))) fun x30 =>
  condM x30 (
    ret (.nxt [(at_ vs_5 0), (at_ vs_5 1), (at_ vs_5 2), (at_ vs_5 3)])
    ) (
    ret (.brk 2 [])
    )
  ) fun o => nx o slices_heapSortOrdered_int_k4
def slices_heapSortOrdered_int_k6 (vs_4 : List V) : M Out :=
  bnd (lift (bin .sub (at_ vs_4 3) (Value.int .i64 1))) fun x28 =>
  bnd (
    loopM FUEL slices_heapSortOrdered_int_l5 [(at_ vs_4 0), (at_ vs_4 1), (at_ vs_4 2), x28]
    ) fun o => ret (unblk 2 o)
def F_slices_heapSortOrdered_int (x0 x1 x2 : V) : M V :=
  bnd (
    bnd (lift (bin .sub x2 x1)) fun x14 =>
    bnd (
      bnd (lift (bin .sub x14 (Value.int .i64 1))) fun x16 =>
      bnd (lift (bin .quo x16 (Value.int .i64 2))) fun x17 =>
      bnd (
        loopM FUEL slices_heapSortOrdered_int_l2 [x0, x1, (Value.int .i64 0), x14, x17]
        ) fun o => ret (unblk 0 o)
      ) fun o => nx o slices_heapSortOrdered_int_k6
    ) fun o => finM o fun vs => ret (outV [])
def h_slices_heapSortOrdered_int : Hint := (.seq [] .leaf (.seq [] .leaf (.seq [] .leaf (.seq [0, 6, 7, 8] (.seq [] .leaf (.blk (.loop [0, 6, 7, 8, 9] (.seq [0, 6, 7, 8, 9] (.seq [] .leaf (.cond .leaf .leaf)) (.seq [0, 6, 7, 8, 9] (.blk .leaf) .leaf))))) (.seq [] .leaf (.blk (.loop [0, 6, 7, 10] (.seq [0, 6, 7, 10] (.seq [] .leaf (.cond .leaf .leaf)) (.seq [0, 6, 7, 10] (.blk (.seq [] (.reg [0, 1, 2, 3, 4, 5, 6, 7, 8, 9, 10, 12, 13, 14, 11, 15, 16, 17, 18, 19] []) .leaf)) .leaf)))))))))
def A_slices_heapSortOrdered_int (l : List V) : M V := match l with | [x0, x1, x2] => F_slices_heapSortOrdered_int x0 x1 x2 | _ => fail
theorem e_slices_heapSortOrdered_int (x0 x1 x2 : V) : funM Try.prog (ovr [(fid_slices_siftDownOrdered_int, A_slices_siftDownOrdered_int)] noC) fid_slices_heapSortOrdered_int h_slices_heapSortOrdered_int [x0, x1, x2] = F_slices_heapSortOrdered_int x0 x1 x2 := by kernel_rfl
theorem K_slices_heapSortOrdered_int : Known Try.prog fid_slices_heapSortOrdered_int (A_slices_heapSortOrdered_int) := known_of (σ := ovr [(fid_slices_siftDownOrdered_int, A_slices_siftDownOrdered_int)] noC) (hint := h_slices_heapSortOrdered_int) (by kernel_rfl) (simAll_ovr K_slices_siftDownOrdered_int simAll_nil0) fun l H r H' h => by
  unfold A_slices_heapSortOrdered_int at h; split at h
  · rw [e_slices_heapSortOrdered_int]; exact h
  · exact (fail_ne h).elim

/-! ### slices.nextPowerOfTwo -/
def F_slices_nextPowerOfTwo (x0 : V) : M V :=
  bnd (
    bnd (lift (cvi .u64 x0)) fun x4 =>
    bnd (A_math_bits_Len [x4]) fun x5 =>
    bnd (lift (bin .shl (Value.int .u64 1) x5)) fun x6 =>
    ret (.ret [x6])
    ) fun o => finM o fun vs => ret (outV [(at_ vs 0)])
def h_slices_nextPowerOfTwo : Hint := (.seq [] .leaf (.seq [] .leaf .leaf))
def A_slices_nextPowerOfTwo (l : List V) : M V := match l with | [x0] => F_slices_nextPowerOfTwo x0 | _ => fail
theorem e_slices_nextPowerOfTwo (x0 : V) : funM Try.prog (ovr [(fid_math_bits_Len, A_math_bits_Len)] noC) fid_slices_nextPowerOfTwo h_slices_nextPowerOfTwo [x0] = F_slices_nextPowerOfTwo x0 := by kernel_rfl
theorem K_slices_nextPowerOfTwo : Known Try.prog fid_slices_nextPowerOfTwo (A_slices_nextPowerOfTwo) := known_of (σ := ovr [(fid_math_bits_Len, A_math_bits_Len)] noC) (hint := h_slices_nextPowerOfTwo) (by kernel_rfl) (simAll_ovr K_math_bits_Len simAll_nil0) fun l H r H' h => by
  unfold A_slices_nextPowerOfTwo at h; split at h
  · rw [e_slices_nextPowerOfTwo]; exact h
  · exact (fail_ne h).elim

/-! ### (*slices.xorshift).Next -/
def F_slices_xorshift_Next (x0 : V) : M V :=
  bnd (
    bnd (lift (nilck x0)) fun x4 =>
    bnd (lift (nilck x0)) fun x7 =>
    bnd (ld1 x4) fun x5 =>
    bnd (ld1 x7) fun x8 =>
    bnd (lift (bin .shl x8 (Value.int .u64 13))) fun x9 =>
    bnd (lift (bin .xor x5 x9)) fun x10 =>
    bnd (lift (nilck x0)) fun x11 =>
    bnd (st1 x11 x10) fun _ =>
    bnd (lift (nilck x0)) fun x13 =>
    bnd (lift (nilck x0)) fun x16 =>
    bnd (ld1 x13) fun x14 =>
    bnd (ld1 x16) fun x17 =>
    bnd (lift (bin .shr x17 (Value.int .u64 7))) fun x18 =>
    bnd (lift (bin .xor x14 x18)) fun x19 =>
    bnd (lift (nilck x0)) fun x20 =>
    bnd (st1 x20 x19) fun _ =>
    bnd (lift (nilck x0)) fun x22 =>
    bnd (lift (nilck x0)) fun x25 =>
    bnd (ld1 x22) fun x23 =>
    bnd (ld1 x25) fun x26 =>
    bnd (lift (bin .shl x26 (Value.int .u64 17))) fun x27 =>
    bnd (lift (bin .xor x23 x27)) fun x28 =>
    bnd (lift (nilck x0)) fun x29 =>
    bnd (st1 x29 x28) fun _ =>
    bnd (lift (nilck x0)) fun x31 =>
    bnd (ld1 x31) fun x32 =>
    ret (.ret [x32])
    ) fun o => finM o fun vs => ret (outV [(at_ vs 0)])
def h_slices_xorshift_Next : Hint := (.seq [] .leaf (.seq [] (.reg [0, 1, 3, 4, 2, 5, 6, 7, 8, 9] []) (.seq [] (.reg [0, 1, 3, 4, 2, 5, 6, 7, 8, 9] []) (.seq [] (.reg [0, 1, 3, 4, 2, 5, 6, 7, 8, 9] []) (.seq [] .leaf .leaf)))))
def A_slices_xorshift_Next (l : List V) : M V := match l with | [x0] => F_slices_xorshift_Next x0 | _ => fail
theorem e_slices_xorshift_Next (x0 : V) : funM Try.prog (ovr [] noC) fid_slices_xorshift_Next h_slices_xorshift_Next [x0] = F_slices_xorshift_Next x0 := by kernel_rfl
theorem K_slices_xorshift_Next : Known Try.prog fid_slices_xorshift_Next (A_slices_xorshift_Next) := known_of (σ := ovr [] noC) (hint := h_slices_xorshift_Next) (by kernel_rfl) simAll_nil0 fun l H r H' h => by
  unfold A_slices_xorshift_Next at h; split at h
  · rw [e_slices_xorshift_Next]; exact h
  · exact (fail_ne h).elim

/-! ### slices.breakPatternsOrdered[int] -/
def slices_breakPatternsOrdered_int_k0 (vs_3 : List V) : M Out :=
    bnd (lift (bin .add (at_ vs_3 1) (at_ vs_3 6))) fun x52 =>
    bnd (lift (bin .add (at_ vs_3 1) (at_ vs_3 6))) fun x56 =>
    bnd (lift (iaddrS 1 (at_ vs_3 0) x56)) fun x57 =>
    bnd (lift (iaddrS 1 (at_ vs_3 0) (at_ vs_3 5))) fun x61 =>
    bnd (ld1 x57) fun x58 =>
    bnd (ld1 x61) fun x62 =>
    bnd (lift (iaddrS 1 (at_ vs_3 0) (at_ vs_3 5))) fun x63 =>
    bnd (st1 x63 x58) fun _ =>
    bnd (lift (iaddrS 1 (at_ vs_3 0) x52)) fun x64 =>
    bnd (st1 x64 x62) fun _ =>
    ret (.nxt [(at_ vs_3 0), (at_ vs_3 1), (at_ vs_3 2), (at_ vs_3 3), (at_ vs_3 4), (at_ vs_3 5)])
def slices_breakPatternsOrdered_int_k1 (vs_4 : List V) : M Out :=
  bnd (lift (bin .add (at_ vs_4 5) (Value.int .i64 1))) fun x35 =>
  ret (.nxt [(at_ vs_4 0), (at_ vs_4 1), (at_ vs_4 2), (at_ vs_4 3), (at_ vs_4 4), x35])
def slices_breakPatternsOrdered_int_k2 (vs_2 : List V) : M Out :=
  bnd (
  bnd (
    bnd (A_slices_xorshift_Next [(at_ vs_2 3)]) fun x36 =>
    bnd (lift (bin .sub (at_ vs_2 4) (Value.int .u64 1))) fun x38 =>
    bnd (lift (bin .and x36 x38)) fun x39 =>
    bnd (lift (cvi .i64 x39)) fun x40 =>
    bnd (
      bnd (lift (bin .geq x40 (at_ vs_2 2))) fun x43 =>
      condM x43 (
        bnd (lift (bin .sub x40 (at_ vs_2 2))) fun x46 =>
        ret (.nxt [(at_ vs_2 0), (at_ vs_2 1), (at_ vs_2 2), (at_ vs_2 3), (at_ vs_2 4), (at_ vs_2 5), x46])
        ) (
        ret (.nxt [(at_ vs_2 0), (at_ vs_2 1), (at_ vs_2 2), (at_ vs_2 3), (at_ vs_2 4), (at_ vs_2 5), x40])
        )
      ) fun o => nx o slices_breakPatternsOrdered_int_k0
    ) fun o => ret (unblk 1 o)
  ) fun o => nx o slices_breakPatternsOrdered_int_k1
def slices_breakPatternsOrdered_int_l3 (vs : List V) : M Out :=
  bnd (
  bnd (lift (bin .quo (at_ vs 2) (Value.int .i64 4))) fun x29 =>
  bnd (lift (bin .mul x29 (Value.int .i64 2))) fun x30 =>
  bnd (lift (bin .add (at_ vs 1) x30)) fun x31 =>
  bnd (lift (bin .add x31 (Value.int .i64 1))) fun x32 =>
  bnd (lift (bin .leq (at_ vs 5) x32)) fun x33 =>
  condM x33 (
    ret (.nxt [(at_ vs 0), (at_ vs 1), (at_ vs 2), (at_ vs 3), (at_ vs 4), (at_ vs 5)])
    ) (
    ret (.brk 0 [])
    )
  ) fun o => nx o slices_breakPatternsOrdered_int_k2
def F_slices_breakPatternsOrdered_int (x0 x1 x2 : V) : M V :=
  bnd (
    bnd (lift (bin .sub x2 x1)) fun x13 =>
    bnd (lift (bin .geq x13 (Value.int .i64 8))) fun x15 =>
    condM x15 (
      bnd (lift (cvi .u64 x13)) fun x17 =>
      bnd (newc [Value.int .u64 0]) fun x7 =>
      bnd (st1 x7 x17) fun _ =>
      bnd (A_slices_nextPowerOfTwo [x13]) fun x19 =>
      bnd (lift (bin .quo x13 (Value.int .i64 4))) fun x22 =>
      bnd (lift (bin .mul x22 (Value.int .i64 2))) fun x23 =>
      bnd (lift (bin .add x1 x23)) fun x24 =>
      bnd (lift (bin .sub x24 (Value.int .i64 1))) fun x25 =>
      bnd (
        loopM FUEL slices_breakPatternsOrdered_int_l3 [x0, x1, x13, x7, x19, x25]
        ) fun o => ret (unblk 0 o)
      ) (
      ret (.nxt [])
      )
    ) fun o => finM o fun vs => ret (outV [])
def h_slices_breakPatternsOrdered_int : Hint := (.seq [] .leaf (.seq [] .leaf (.cond (.seq [] .leaf (.seq [] .leaf (.seq [] .leaf (.blk (.loop [0, 1, 6, 7, 8, 9] (.seq [0, 1, 6, 7, 8, 9] (.seq [] .leaf (.cond .leaf .leaf)) (.seq [0, 1, 6, 7, 8, 9] (.blk (.seq [] .leaf (.seq [0, 1, 6, 7, 8, 9, 10] (.seq [] .leaf (.cond .leaf .leaf)) (.reg [0, 1, 2, 3, 4, 5, 6, 7, 8, 9, 10, 12, 13, 14, 11, 15, 16, 17, 18, 19] [])))) .leaf))))))) .leaf)))
def A_slices_breakPatternsOrdered_int (l : List V) : M V := match l with | [x0, x1, x2] => F_slices_breakPatternsOrdered_int x0 x1 x2 | _ => fail
theorem e_slices_breakPatternsOrdered_int (x0 x1 x2 : V) : funM Try.prog (ovr [(fid_slices_nextPowerOfTwo, A_slices_nextPowerOfTwo), (fid_slices_xorshift_Next, A_slices_xorshift_Next)] noC) fid_slices_breakPatternsOrdered_int h_slices_breakPatternsOrdered_int [x0, x1, x2] = F_slices_breakPatternsOrdered_int x0 x1 x2 := by kernel_rfl
theorem K_slices_breakPatternsOrdered_int : Known Try.prog fid_slices_breakPatternsOrdered_int (A_slices_breakPatternsOrdered_int) := known_of (σ := ovr [(fid_slices_nextPowerOfTwo, A_slices_nextPowerOfTwo), (fid_slices_xorshift_Next, A_slices_xorshift_Next)] noC) (hint := h_slices_breakPatternsOrdered_int) (by kernel_rfl) (simAll_ovr K_slices_nextPowerOfTwo (simAll_ovr K_slices_xorshift_Next simAll_nil0)) fun l H r H' h => by
  unfold A_slices_breakPatternsOrdered_int at h; split at h
  · rw [e_slices_breakPatternsOrdered_int]; exact h
  · exact (fail_ne h).elim

/-! ### slices.order2Ordered[int] -/
def slices_order2Ordered_int_k0 (vs : List V) : M Out :=
  ret (.ret [(at_ vs 0), (at_ vs 1)])
def F_slices_order2Ordered_int (x0 x1 x2 x3 : V) : M V :=
  bnd (
    bnd (
      bnd (lift (iaddrS 1 x0 x2)) fun x12 =>
      bnd (lift (iaddrS 1 x0 x1)) fun x16 =>
      bnd (ld1 x12) fun x13 =>
      bnd (ld1 x16) fun x17 =>
      bnd (A_cmp_Less_int [x13, x17]) fun x18 =>
      condM x18 (
        bnd (lift (nilck x3)) fun x20 =>
        bnd (ld1 x20) fun x21 =>
        bnd (lift (bin .add x21 (Value.int .i64 1))) fun x22 =>
        bnd (lift (nilck x3)) fun x23 =>
        bnd (st1 x23 x22) fun _ =>
        ret (.ret [x2, x1])
        ) (
        ret (.nxt [x1, x2])
        )
      ) fun o => nx o slices_order2Ordered_int_k0
    ) fun o => finM o fun vs => ret (outV [(at_ vs 0), (at_ vs 1)])
def h_slices_order2Ordered_int : Hint := (.seq [] .leaf (.seq [1, 2] (.seq [] (.reg [0, 1, 2, 4, 5, 6, 3, 7, 8] []) (.cond (.seq [] .leaf (.seq [] .leaf .leaf)) .leaf)) (.seq [] .leaf .leaf)))
def A_slices_order2Ordered_int (l : List V) : M V := match l with | [x0, x1, x2, x3] => F_slices_order2Ordered_int x0 x1 x2 x3 | _ => fail
theorem e_slices_order2Ordered_int (x0 x1 x2 x3 : V) : funM Try.prog (ovr [(fid_cmp_Less_int, A_cmp_Less_int)] noC) fid_slices_order2Ordered_int h_slices_order2Ordered_int [x0, x1, x2, x3] = F_slices_order2Ordered_int x0 x1 x2 x3 := by kernel_rfl
theorem K_slices_order2Ordered_int : Known Try.prog fid_slices_order2Ordered_int (A_slices_order2Ordered_int) := known_of (σ := ovr [(fid_cmp_Less_int, A_cmp_Less_int)] noC) (hint := h_slices_order2Ordered_int) (by kernel_rfl) (simAll_ovr K_cmp_Less_int simAll_nil0) fun l H r H' h => by
  unfold A_slices_order2Ordered_int at h; split at h
  · rw [e_slices_order2Ordered_int]; exact h
  · exact (fail_ne h).elim

/-! ### slices.medianOrdered[int] -/
def F_slices_medianOrdered_int (x0 x1 x2 x3 x4 : V) : M V :=
  bnd (
    bnd (A_slices_order2Ordered_int [x0, x1, x2, x4]) fun x16 =>
    bnd (lift (ext 0 x16)) fun x17 =>
    bnd (lift (ext 1 x16)) fun x18 =>
    bnd (A_slices_order2Ordered_int [x0, x18, x3, x4]) fun x24 =>
    bnd (lift (ext 0 x24)) fun x25 =>
    bnd (lift (ext 1 x24)) fun x26 =>
    bnd (A_slices_order2Ordered_int [x0, x17, x25, x4]) fun x32 =>
    bnd (lift (ext 0 x32)) fun x33 =>
    bnd (lift (ext 1 x32)) fun x34 =>
    ret (.ret [x34])
    ) fun o => finM o fun vs => ret (outV [(at_ vs 0)])
def h_slices_medianOrdered_int : Hint := (.seq [] .leaf (.seq [] .leaf (.seq [] .leaf (.seq [] .leaf (.seq [] .leaf .leaf)))))
def A_slices_medianOrdered_int (l : List V) : M V := match l with | [x0, x1, x2, x3, x4] => F_slices_medianOrdered_int x0 x1 x2 x3 x4 | _ => fail
theorem e_slices_medianOrdered_int (x0 x1 x2 x3 x4 : V) : funM Try.prog (ovr [(fid_slices_order2Ordered_int, A_slices_order2Ordered_int)] noC) fid_slices_medianOrdered_int h_slices_medianOrdered_int [x0, x1, x2, x3, x4] = F_slices_medianOrdered_int x0 x1 x2 x3 x4 := by kernel_rfl
theorem K_slices_medianOrdered_int : Known Try.prog fid_slices_medianOrdered_int (A_slices_medianOrdered_int) := known_of (σ := ovr [(fid_slices_order2Ordered_int, A_slices_order2Ordered_int)] noC) (hint := h_slices_medianOrdered_int) (by kernel_rfl) (simAll_ovr K_slices_order2Ordered_int simAll_nil0) fun l H r H' h => by
  unfold A_slices_medianOrdered_int at h; split at h
  · rw [e_slices_medianOrdered_int]; exact h
  · exact (fail_ne h).elim

/-! ### slices.medianAdjacentOrdered[int] -/
def F_slices_medianAdjacentOrdered_int (x0 x1 x2 : V) : M V :=
  bnd (
    bnd (lift (bin .sub x1 (Value.int .i64 1))) fun x9 =>
    bnd (lift (bin .add x1 (Value.int .i64 1))) fun x12 =>
    bnd (A_slices_medianOrdered_int [x0, x9, x1, x12, x2]) fun x14 =>
    ret (.ret [x14])
    ) fun o => finM o fun vs => ret (outV [(at_ vs 0)])
def h_slices_medianAdjacentOrdered_int : Hint := (.seq [] .leaf (.seq [] .leaf .leaf))
def A_slices_medianAdjacentOrdered_int (l : List V) : M V := match l with | [x0, x1, x2] => F_slices_medianAdjacentOrdered_int x0 x1 x2 | _ => fail
theorem e_slices_medianAdjacentOrdered_int (x0 x1 x2 : V) : funM Try.prog (ovr [(fid_slices_medianOrdered_int, A_slices_medianOrdered_int)] noC) fid_slices_medianAdjacentOrdered_int h_slices_medianAdjacentOrdered_int [x0, x1, x2] = F_slices_medianAdjacentOrdered_int x0 x1 x2 := by kernel_rfl
theorem K_slices_medianAdjacentOrdered_int : Known Try.prog fid_slices_medianAdjacentOrdered_int (A_slices_medianAdjacentOrdered_int) := known_of (σ := ovr [(fid_slices_medianOrdered_int, A_slices_medianOrdered_int)] noC) (hint := h_slices_medianAdjacentOrdered_int) (by kernel_rfl) (simAll_ovr K_slices_medianOrdered_int simAll_nil0) fun l H r H' h => by
  unfold A_slices_medianAdjacentOrdered_int at h; split at h
  · rw [e_slices_medianAdjacentOrdered_int]; exact h
  · exact (fail_ne h).elim

/-! ### slices.choosePivotOrdered[int] -/
def slices_choosePivotOrdered_int_k0 (vs : List V) : M Out :=
      bnd (A_slices_medianOrdered_int [(at_ vs 0), (at_ vs 2), (at_ vs 3), (at_ vs 4), (at_ vs 1)]) fun x48 =>
      ret (.nxt [(at_ vs 1), x48])
def slices_choosePivotOrdered_int_k1 (vs_2 : List V) : M Out :=
  bnd (ld1 (at_ vs_2 0)) fun x49 =>
  bnd (
    bnd (lift (bin .eql x49 (Value.int .i64 0))) fun x52 =>
    condM x52 (
      ret (.ret [(at_ vs_2 1), (Value.int .i64 1)])
      ) (
      bnd (lift (bin .eql x49 (Value.int .i64 12))) fun x55 =>
      condM x55 (
        ret (.ret [(at_ vs_2 1), (Value.int .i64 2)])
        ) (
        ret (.ret [(at_ vs_2 1), (Value.int .i64 0)])
        )
      )
    ) fun o => ret (unblk 0 o)
def F_slices_choosePivotOrdered_int (x0 x1 x2 : V) : M V :=
  bnd (
    bnd (lift (bin .sub x2 x1)) fun x15 =>
    bnd (newc [Value.int .i64 0]) fun x9 =>
    bnd (lift (bin .quo x15 (Value.int .i64 4))) fun x18 =>
    bnd (lift (bin .mul x18 (Value.int .i64 1))) fun x19 =>
    bnd (lift (bin .add x1 x19)) fun x20 =>
    bnd (lift (bin .quo x15 (Value.int .i64 4))) fun x23 =>
    bnd (lift (bin .mul x23 (Value.int .i64 2))) fun x24 =>
    bnd (lift (bin .add x1 x24)) fun x25 =>
    bnd (lift (bin .quo x15 (Value.int .i64 4))) fun x28 =>
    bnd (lift (bin .mul x28 (Value.int .i64 3))) fun x29 =>
    bnd (lift (bin .add x1 x29)) fun x30 =>
    bnd (
      bnd (lift (bin .geq x15 (Value.int .i64 8))) fun x32 =>
      condM x32 (
        bnd (
          bnd (lift (bin .geq x15 (Value.int .i64 50))) fun x34 =>
          condM x34 (
            bnd (A_slices_medianAdjacentOrdered_int [x0, x20, x9]) fun x37 =>
            bnd (A_slices_medianAdjacentOrdered_int [x0, x25, x9]) fun x40 =>
            bnd (A_slices_medianAdjacentOrdered_int [x0, x30, x9]) fun x43 =>
            ret (.nxt [x0, x9, x37, x40, x43])
            ) (
            ret (.nxt [x0, x9, x20, x25, x30])
            )
          ) fun o => nx o slices_choosePivotOrdered_int_k0
        ) (
        ret (.nxt [x9, x25])
        )
      ) fun o => nx o slices_choosePivotOrdered_int_k1
    ) fun o => finM o fun vs => ret (outV [(at_ vs 0), (at_ vs 1)])
def h_slices_choosePivotOrdered_int : Hint := (.seq [] .leaf (.seq [] .leaf (.seq [] .leaf (.seq [] .leaf (.seq [] .leaf (.seq [] .leaf (.seq [9, 11] (.seq [] .leaf (.cond (.seq [0, 9, 10, 11, 12] (.seq [] .leaf (.cond (.seq [] .leaf (.seq [] .leaf .leaf)) .leaf)) .leaf) .leaf)) (.seq [] .leaf (.blk (.seq [] .leaf (.cond (.seq [] .leaf .leaf) (.seq [] .leaf (.cond (.seq [] .leaf .leaf) (.seq [] .leaf .leaf))))))))))))))
def A_slices_choosePivotOrdered_int (l : List V) : M V := match l with | [x0, x1, x2] => F_slices_choosePivotOrdered_int x0 x1 x2 | _ => fail
theorem e_slices_choosePivotOrdered_int (x0 x1 x2 : V) : funM Try.prog (ovr [(fid_slices_medianAdjacentOrdered_int, A_slices_medianAdjacentOrdered_int), (fid_slices_medianOrdered_int, A_slices_medianOrdered_int)] noC) fid_slices_choosePivotOrdered_int h_slices_choosePivotOrdered_int [x0, x1, x2] = F_slices_choosePivotOrdered_int x0 x1 x2 := by kernel_rfl
theorem K_slices_choosePivotOrdered_int : Known Try.prog fid_slices_choosePivotOrdered_int (A_slices_choosePivotOrdered_int) := known_of (σ := ovr [(fid_slices_medianAdjacentOrdered_int, A_slices_medianAdjacentOrdered_int), (fid_slices_medianOrdered_int, A_slices_medianOrdered_int)] noC) (hint := h_slices_choosePivotOrdered_int) (by kernel_rfl) (simAll_ovr K_slices_medianAdjacentOrdered_int (simAll_ovr K_slices_medianOrdered_int simAll_nil0)) fun l H r H' h => by
  unfold A_slices_choosePivotOrdered_int at h; split at h
  · rw [e_slices_choosePivotOrdered_int]; exact h
  · exact (fail_ne h).elim

/-! ### slices.reverseRangeOrdered[int] -/
def slices_reverseRangeOrdered_int_k0 (vs_2 : List V) : M Out :=
  bnd (
  bnd (lift (iaddrS 1 (at_ vs_2 0) (at_ vs_2 2))) fun x20 =>
  bnd (lift (iaddrS 1 (at_ vs_2 0) (at_ vs_2 1))) fun x24 =>
  bnd (ld1 x20) fun x21 =>
  bnd (ld1 x24) fun x25 =>
  bnd (lift (iaddrS 1 (at_ vs_2 0) (at_ vs_2 1))) fun x26 =>
  bnd (st1 x26 x21) fun _ =>
  bnd (lift (iaddrS 1 (at_ vs_2 0) (at_ vs_2 2))) fun x27 =>
  bnd (st1 x27 x25) fun _ =>
  bnd (lift (bin .add (at_ vs_2 1) (Value.int .i64 1))) fun x29 =>
  bnd (lift (bin .sub (at_ vs_2 2) (Value.int .i64 1))) fun x31 =>
  ret (.nxt [(at_ vs_2 0), x29, x31])
  ) fun o => ret (unblk 1 o)
def slices_reverseRangeOrdered_int_l1 (vs : List V) : M Out :=
  bnd (
  bnd (lift (bin .lss (at_ vs 1) (at_ vs 2))) fun x13 =>
  condM x13 (
    ret (.nxt [(at_ vs 0), (at_ vs 1), (at_ vs 2)])
    ) (
    ret (.brk 0 [])
    )
  ) fun o => nx o slices_reverseRangeOrdered_int_k0
def F_slices_reverseRangeOrdered_int (x0 x1 x2 : V) : M V :=
  bnd (
    bnd (lift (bin .sub x2 (Value.int .i64 1))) fun x10 =>
    bnd (
      loopM FUEL slices_reverseRangeOrdered_int_l1 [x0, x1, x10]
      ) fun o => ret (unblk 0 o)
    ) fun o => finM o fun vs => ret (outV [])
def h_slices_reverseRangeOrdered_int : Hint := (.seq [] .leaf (.seq [] .leaf (.blk (.loop [0, 6, 7] (.seq [0, 6, 7] (.seq [] .leaf (.cond .leaf .leaf)) (.blk (.seq [] (.reg [0, 1, 2, 3, 4, 5, 6, 8, 9, 10, 7, 11, 12, 13, 14, 15] []) (.seq [] .leaf .leaf))))))))
def A_slices_reverseRangeOrdered_int (l : List V) : M V := match l with | [x0, x1, x2] => F_slices_reverseRangeOrdered_int x0 x1 x2 | _ => fail
theorem e_slices_reverseRangeOrdered_int (x0 x1 x2 : V) : funM Try.prog (ovr [] noC) fid_slices_reverseRangeOrdered_int h_slices_reverseRangeOrdered_int [x0, x1, x2] = F_slices_reverseRangeOrdered_int x0 x1 x2 := by kernel_rfl
theorem K_slices_reverseRangeOrdered_int : Known Try.prog fid_slices_reverseRangeOrdered_int (A_slices_reverseRangeOrdered_int) := known_of (σ := ovr [] noC) (hint := h_slices_reverseRangeOrdered_int) (by kernel_rfl) simAll_nil0 fun l H r H' h => by
  unfold A_slices_reverseRangeOrdered_int at h; split at h
  · rw [e_slices_reverseRangeOrdered_int]; exact h
  · exact (fail_ne h).elim

/-! ### slices.partialInsertionSortOrdered[int] -/
def slices_partialInsertionSortOrdered_int_k0 (vs_4 : List V) : M Out :=
  bnd (
  bnd (lift (bin .add (at_ vs_4 3) (Value.int .i64 1))) fun x34 =>
  ret (.nxt [(at_ vs_4 0), (at_ vs_4 1), (at_ vs_4 2), x34, (at_ vs_4 4)])
  ) fun o => ret (unblk 3 o)
def slices_partialInsertionSortOrdered_int_l1 (vs_3 : List V) : M Out :=
  bnd (
  bnd (lift (bin .lss (at_ vs_3 3) (at_ vs_3 2))) fun x19 =>
  bnd (gd x19 true (lift (some (at_ vs_3 0)))) fun x21 =>
  bnd (gd x19 true (lift (some (at_ vs_3 3)))) fun x22 =>
  bnd (gd x19 true (lift (iaddrS 1 x21 x22))) fun x23 =>
  bnd (gd x19 true (lift (some (at_ vs_3 0)))) fun x25 =>
  bnd (gd x19 true (lift (some (at_ vs_3 3)))) fun x26 =>
  bnd (gd x19 true (lift (bin .sub x26 (Value.int .i64 1)))) fun x27 =>
  bnd (gd x19 true (lift (iaddrS 1 x25 x27))) fun x28 =>
  bnd (gd x19 true (ld1 x23)) fun x24 =>
  bnd (gd x19 true (ld1 x28)) fun x29 =>
  bnd (gd x19 true (A_cmp_Less_int [x24, x29])) fun x30 =>
  bnd (gd x19 true (lift (un .not x30))) fun x31 =>
  bnd (lift (pickV x19 x31 (Value.bool false))) fun x32 =>
  condM x32 (
    ret (.nxt [(at_ vs_3 0), (at_ vs_3 1), (at_ vs_3 2), (at_ vs_3 3), (at_ vs_3 4)])
    ) (
    ret (.brk 2 [(at_ vs_3 0), (at_ vs_3 1), (at_ vs_3 2), (at_ vs_3 3), (at_ vs_3 4)])
    )
  ) fun o => nx o slices_partialInsertionSortOrdered_int_k0
def slices_partialInsertionSortOrdered_int_k2 (vs_10 : List V) : M Out :=
    bnd (lift (bin .sub (at_ vs_10 5) (Value.int .i64 1))) fun x83 =>
    bnd (lift (bin .sub (at_ vs_10 5) (Value.int .i64 1))) fun x86 =>
    bnd (lift (iaddrS 1 (at_ vs_10 0) x86)) fun x87 =>
    bnd (lift (iaddrS 1 (at_ vs_10 0) (at_ vs_10 5))) fun x91 =>
    bnd (ld1 x87) fun x88 =>
    bnd (ld1 x91) fun x92 =>
    bnd (lift (iaddrS 1 (at_ vs_10 0) (at_ vs_10 5))) fun x93 =>
    bnd (st1 x93 x88) fun _ =>
    bnd (lift (iaddrS 1 (at_ vs_10 0) x83)) fun x94 =>
    bnd (st1 x94 x92) fun _ =>
    ret (.nxt [(at_ vs_10 0), (at_ vs_10 1), (at_ vs_10 2), (at_ vs_10 3), (at_ vs_10 4), (at_ vs_10 5)])
def slices_partialInsertionSortOrdered_int_k3 (vs_11 : List V) : M Out :=
  bnd (lift (bin .sub (at_ vs_11 5) (Value.int .i64 1))) fun x67 =>
  ret (.nxt [(at_ vs_11 0), (at_ vs_11 1), (at_ vs_11 2), (at_ vs_11 3), (at_ vs_11 4), x67])
def slices_partialInsertionSortOrdered_int_k4 (vs_9 : List V) : M Out :=
  bnd (
  bnd (
    bnd (
      bnd (lift (iaddrS 1 (at_ vs_9 0) (at_ vs_9 5))) fun x70 =>
      bnd (lift (bin .sub (at_ vs_9 5) (Value.int .i64 1))) fun x74 =>
      bnd (lift (iaddrS 1 (at_ vs_9 0) x74)) fun x75 =>
      bnd (ld1 x70) fun x71 =>
      bnd (ld1 x75) fun x76 =>
      bnd (A_cmp_Less_int [x71, x76]) fun x77 =>
      bnd (lift (un .not x77)) fun x78 =>
      condM x78 (
        ret (.brk 4 [(at_ vs_9 0), (at_ vs_9 1), (at_ vs_9 2), (at_ vs_9 3), (at_ vs_9 4)])
        ) (
        ret (.nxt [(at_ vs_9 0), (at_ vs_9 1), (at_ vs_9 2), (at_ vs_9 3), (at_ vs_9 4), (at_ vs_9 5)])
        )
      ) fun o => nx o slices_partialInsertionSortOrdered_int_k2
    ) fun o => ret (unblk 5 o)
  ) fun o => nx o slices_partialInsertionSortOrdered_int_k3
def slices_partialInsertionSortOrdered_int_l5 (vs_8 : List V) : M Out :=
  bnd (
  bnd (lift (bin .geq (at_ vs_8 5) (Value.int .i64 1))) fun x65 =>
  condM x65 (
    ret (.nxt [(at_ vs_8 0), (at_ vs_8 1), (at_ vs_8 2), (at_ vs_8 3), (at_ vs_8 4), (at_ vs_8 5)])
    ) (
    ret (.brk 4 [(at_ vs_8 0), (at_ vs_8 1), (at_ vs_8 2), (at_ vs_8 3), (at_ vs_8 4)])
    )
  ) fun o => nx o slices_partialInsertionSortOrdered_int_k4
def slices_partialInsertionSortOrdered_int_k6 (vs_15 : List V) : M Out :=
    bnd (lift (bin .sub (at_ vs_15 5) (Value.int .i64 1))) fun x121 =>
    bnd (lift (bin .sub (at_ vs_15 5) (Value.int .i64 1))) fun x124 =>
    bnd (lift (iaddrS 1 (at_ vs_15 0) x124)) fun x125 =>
    bnd (lift (iaddrS 1 (at_ vs_15 0) (at_ vs_15 5))) fun x129 =>
    bnd (ld1 x125) fun x126 =>
    bnd (ld1 x129) fun x130 =>
    bnd (lift (iaddrS 1 (at_ vs_15 0) (at_ vs_15 5))) fun x131 =>
    bnd (st1 x131 x126) fun _ =>
    bnd (lift (iaddrS 1 (at_ vs_15 0) x121)) fun x132 =>
    bnd (st1 x132 x130) fun _ =>
    ret (.nxt [(at_ vs_15 0), (at_ vs_15 1), (at_ vs_15 2), (at_ vs_15 3), (at_ vs_15 4), (at_ vs_15 5)])
def slices_partialInsertionSortOrdered_int_k7 (vs_16 : List V) : M Out :=
  bnd (lift (bin .add (at_ vs_16 5) (Value.int .i64 1))) fun x105 =>
  ret (.nxt [(at_ vs_16 0), (at_ vs_16 1), (at_ vs_16 2), (at_ vs_16 3), (at_ vs_16 4), x105])
def slices_partialInsertionSortOrdered_int_k8 (vs_14 : List V) : M Out :=
  bnd (
  bnd (
    bnd (
      bnd (lift (iaddrS 1 (at_ vs_14 0) (at_ vs_14 5))) fun x108 =>
      bnd (lift (bin .sub (at_ vs_14 5) (Value.int .i64 1))) fun x112 =>
      bnd (lift (iaddrS 1 (at_ vs_14 0) x112)) fun x113 =>
      bnd (ld1 x108) fun x109 =>
      bnd (ld1 x113) fun x114 =>
      bnd (A_cmp_Less_int [x109, x114]) fun x115 =>
      bnd (lift (un .not x115)) fun x116 =>
      condM x116 (
        ret (.brk 6 [(at_ vs_14 0), (at_ vs_14 1), (at_ vs_14 2), (at_ vs_14 3), (at_ vs_14 4)])
        ) (
        ret (.nxt [(at_ vs_14 0), (at_ vs_14 1), (at_ vs_14 2), (at_ vs_14 3), (at_ vs_14 4), (at_ vs_14 5)])
        )
      ) fun o => nx o slices_partialInsertionSortOrdered_int_k6
    ) fun o => ret (unblk 7 o)
  ) fun o => nx o slices_partialInsertionSortOrdered_int_k7
def slices_partialInsertionSortOrdered_int_l9 (vs_13 : List V) : M Out :=
  bnd (
  bnd (lift (bin .lss (at_ vs_13 5) (at_ vs_13 2))) fun x103 =>
  condM x103 (
    ret (.nxt [(at_ vs_13 0), (at_ vs_13 1), (at_ vs_13 2), (at_ vs_13 3), (at_ vs_13 4), (at_ vs_13 5)])
    ) (
    ret (.brk 6 [(at_ vs_13 0), (at_ vs_13 1), (at_ vs_13 2), (at_ vs_13 3), (at_ vs_13 4)])
    )
  ) fun o => nx o slices_partialInsertionSortOrdered_int_k8
def slices_partialInsertionSortOrdered_int_k10 (vs_12 : List V) : M Out :=
    bnd (lift (bin .sub (at_ vs_12 2) (at_ vs_12 3))) fun x97 =>
    bnd (lift (bin .geq x97 (Value.int .i64 2))) fun x98 =>
    condM x98 (
      bnd (lift (bin .add (at_ vs_12 3) (Value.int .i64 1))) fun x100 =>
      bnd (
        loopM FUEL slices_partialInsertionSortOrdered_int_l9 [(at_ vs_12 0), (at_ vs_12 1), (at_ vs_12 2), (at_ vs_12 3), (at_ vs_12 4), x100]
        ) fun o => ret (unblk 6 o)
      ) (
      ret (.nxt [(at_ vs_12 0), (at_ vs_12 1), (at_ vs_12 2), (at_ vs_12 3), (at_ vs_12 4)])
      )
def slices_partialInsertionSortOrdered_int_k11 (vs_7 : List V) : M Out :=
    bnd (lift (bin .sub (at_ vs_7 3) (Value.int .i64 1))) fun x46 =>
    bnd (lift (bin .sub (at_ vs_7 3) (Value.int .i64 1))) fun x49 =>
    bnd (lift (iaddrS 1 (at_ vs_7 0) x49)) fun x50 =>
    bnd (lift (iaddrS 1 (at_ vs_7 0) (at_ vs_7 3))) fun x54 =>
    bnd (ld1 x50) fun x51 =>
    bnd (ld1 x54) fun x55 =>
    bnd (lift (iaddrS 1 (at_ vs_7 0) (at_ vs_7 3))) fun x56 =>
    bnd (st1 x56 x51) fun _ =>
    bnd (lift (iaddrS 1 (at_ vs_7 0) x46)) fun x57 =>
    bnd (st1 x57 x55) fun _ =>
    bnd (
      bnd (lift (bin .sub (at_ vs_7 3) (at_ vs_7 1))) fun x60 =>
      bnd (lift (bin .geq x60 (Value.int .i64 2))) fun x61 =>
      condM x61 (
        bnd (lift (bin .sub (at_ vs_7 3) (Value.int .i64 1))) fun x63 =>
        bnd (
          loopM FUEL slices_partialInsertionSortOrdered_int_l5 [(at_ vs_7 0), (at_ vs_7 1), (at_ vs_7 2), (at_ vs_7 3), (at_ vs_7 4), x63]
          ) fun o => ret (unblk 4 o)
        ) (
        ret (.nxt [(at_ vs_7 0), (at_ vs_7 1), (at_ vs_7 2), (at_ vs_7 3), (at_ vs_7 4)])
        )
      ) fun o => nx o slices_partialInsertionSortOrdered_int_k10
def slices_partialInsertionSortOrdered_int_k12 (vs_6 : List V) : M Out :=
    bnd (
      bnd (lift (bin .sub (at_ vs_6 2) (at_ vs_6 1))) fun x40 =>
      bnd (lift (bin .lss x40 (Value.int .i64 50))) fun x41 =>
      condM x41 (
        ret (.ret [(Value.bool false)])
        ) (
        ret (.nxt [(at_ vs_6 0), (at_ vs_6 1), (at_ vs_6 2), (at_ vs_6 3), (at_ vs_6 4)])
        )
      ) fun o => nx o slices_partialInsertionSortOrdered_int_k11
def slices_partialInsertionSortOrdered_int_k13 (vs_5 : List V) : M Out :=
    bnd (
      bnd (lift (bin .eql (at_ vs_5 3) (at_ vs_5 2))) fun x37 =>
      condM x37 (
        ret (.ret [(Value.bool true)])
        ) (
        ret (.nxt [(at_ vs_5 0), (at_ vs_5 1), (at_ vs_5 2), (at_ vs_5 3), (at_ vs_5 4)])
        )
      ) fun o => nx o slices_partialInsertionSortOrdered_int_k12
def slices_partialInsertionSortOrdered_int_k14 (vs_17 : List V) : M Out :=
  bnd (lift (bin .add (at_ vs_17 4) (Value.int .i64 1))) fun x16 =>
  ret (.nxt [(at_ vs_17 0), (at_ vs_17 1), (at_ vs_17 2), (at_ vs_17 3), x16])
def slices_partialInsertionSortOrdered_int_k15 (vs_2 : List V) : M Out :=
  bnd (
  bnd (
    bnd (
      bnd (
        loopM FUEL slices_partialInsertionSortOrdered_int_l1 [(at_ vs_2 0), (at_ vs_2 1), (at_ vs_2 2), (at_ vs_2 3), (at_ vs_2 4)]
        ) fun o => ret (unblk 2 o)
      ) fun o => nx o slices_partialInsertionSortOrdered_int_k13
    ) fun o => ret (unblk 1 o)
  ) fun o => nx o slices_partialInsertionSortOrdered_int_k14
def slices_partialInsertionSortOrdered_int_l16 (vs : List V) : M Out :=
  bnd (
  bnd (lift (bin .lss (at_ vs 4) (Value.int .i64 5))) fun x14 =>
  condM x14 (
    ret (.nxt [(at_ vs 0), (at_ vs 1), (at_ vs 2), (at_ vs 3), (at_ vs 4)])
    ) (
    ret (.brk 0 [])
    )
  ) fun o => nx o slices_partialInsertionSortOrdered_int_k15
def slices_partialInsertionSortOrdered_int_k17 (vs_18 : List V) : M Out :=
  ret (.ret [(Value.bool false)])
def F_slices_partialInsertionSortOrdered_int (x0 x1 x2 : V) : M V :=
  bnd (
    bnd (lift (bin .add x1 (Value.int .i64 1))) fun x12 =>
    bnd (
      bnd (
        loopM FUEL slices_partialInsertionSortOrdered_int_l16 [x0, x1, x2, x12, (Value.int .i64 0)]
        ) fun o => ret (unblk 0 o)
      ) fun o => nx o slices_partialInsertionSortOrdered_int_k17
    ) fun o => finM o fun vs => ret (outV [(at_ vs 0)])
def h_slices_partialInsertionSortOrdered_int : Hint := (.seq [] .leaf (.seq [] .leaf (.seq [] (.seq [] .leaf (.blk (.loop [0, 1, 2, 7, 8] (.seq [0, 1, 2, 7, 8] (.seq [] .leaf (.cond .leaf .leaf)) (.seq [0, 1, 2, 7, 8] (.blk (.seq [0, 1, 2, 7, 8] (.blk (.loop [0, 1, 2, 7, 8] (.seq [0, 1, 2, 7, 8] (.seq [] (.reg [0, 1, 2, 3, 4, 5, 6, 8, 9, 10, 11, 7, 12, 13, 14, 15] []) (.cond .leaf .leaf)) (.blk .leaf)))) (.seq [0, 1, 2, 7, 8] (.seq [] .leaf (.cond (.seq [] .leaf .leaf) .leaf)) (.seq [0, 1, 2, 7, 8] (.seq [] .leaf (.cond (.seq [] .leaf .leaf) .leaf)) (.seq [] (.reg [0, 1, 2, 3, 4, 5, 6, 7, 8, 10, 11, 12, 9, 13, 14, 15, 16, 17] []) (.seq [0, 1, 2, 7, 8] (.seq [] .leaf (.cond (.seq [] .leaf (.blk (.loop [0, 1, 2, 7, 8, 9] (.seq [0, 1, 2, 7, 8, 9] (.seq [] .leaf (.cond .leaf .leaf)) (.seq [0, 1, 2, 7, 8, 9] (.blk (.seq [0, 1, 2, 7, 8, 9] (.seq [] (.reg [0, 1, 2, 4, 5, 6, 7, 3, 8, 9, 10] []) (.cond .leaf .leaf)) (.reg [0, 1, 2, 3, 4, 5, 6, 7, 8, 10, 11, 12, 9, 13, 14, 15, 16, 17] []))) .leaf))))) .leaf)) (.seq [] .leaf (.cond (.seq [] .leaf (.blk (.loop [0, 1, 2, 7, 8, 10] (.seq [0, 1, 2, 7, 8, 10] (.seq [] .leaf (.cond .leaf .leaf)) (.seq [0, 1, 2, 7, 8, 10] (.blk (.seq [0, 1, 2, 7, 8, 10] (.seq [] (.reg [0, 1, 2, 4, 5, 6, 7, 3, 8, 9, 10] []) (.cond .leaf .leaf)) (.reg [0, 1, 2, 3, 4, 5, 6, 7, 8, 10, 11, 12, 9, 13, 14, 15, 16, 17] []))) .leaf))))) .leaf)))))))) .leaf))))) (.seq [] .leaf .leaf))))
def A_slices_partialInsertionSortOrdered_int (l : List V) : M V := match l with | [x0, x1, x2] => F_slices_partialInsertionSortOrdered_int x0 x1 x2 | _ => fail
theorem e_slices_partialInsertionSortOrdered_int (x0 x1 x2 : V) : funM Try.prog (ovr [(fid_cmp_Less_int, A_cmp_Less_int)] noC) fid_slices_partialInsertionSortOrdered_int h_slices_partialInsertionSortOrdered_int [x0, x1, x2] = F_slices_partialInsertionSortOrdered_int x0 x1 x2 := by kernel_rfl
theorem K_slices_partialInsertionSortOrdered_int : Known Try.prog fid_slices_partialInsertionSortOrdered_int (A_slices_partialInsertionSortOrdered_int) := known_of (σ := ovr [(fid_cmp_Less_int, A_cmp_Less_int)] noC) (hint := h_slices_partialInsertionSortOrdered_int) (by kernel_rfl) (simAll_ovr K_cmp_Less_int simAll_nil0) fun l H r H' h => by
  unfold A_slices_partialInsertionSortOrdered_int at h; split at h
  · rw [e_slices_partialInsertionSortOrdered_int]; exact h
  · exact (fail_ne h).elim

/-! ### slices.partitionEqualOrdered[int] -/
def slices_partitionEqualOrdered_int_k0 (vs_3 : List V) : M Out :=
  bnd (
  bnd (lift (bin .add (at_ vs_3 2) (Value.int .i64 1))) fun x45 =>
  ret (.nxt [(at_ vs_3 0), (at_ vs_3 1), x45, (at_ vs_3 3)])
  ) fun o => ret (unblk 3 o)
def slices_partitionEqualOrdered_int_l1 (vs_2 : List V) : M Out :=
  bnd (
  bnd (lift (bin .leq (at_ vs_2 2) (at_ vs_2 3))) fun x31 =>
  bnd (gd x31 true (lift (some (at_ vs_2 0)))) fun x33 =>
  bnd (gd x31 true (lift (some (at_ vs_2 1)))) fun x34 =>
  bnd (gd x31 true (lift (iaddrS 1 x33 x34))) fun x35 =>
  bnd (gd x31 true (lift (some (at_ vs_2 0)))) fun x37 =>
  bnd (gd x31 true (lift (some (at_ vs_2 2)))) fun x38 =>
  bnd (gd x31 true (lift (iaddrS 1 x37 x38))) fun x39 =>
  bnd (gd x31 true (ld1 x35)) fun x36 =>
  bnd (gd x31 true (ld1 x39)) fun x40 =>
  bnd (gd x31 true (A_cmp_Less_int [x36, x40])) fun x41 =>
  bnd (gd x31 true (lift (un .not x41))) fun x42 =>
  bnd (lift (pickV x31 x42 (Value.bool false))) fun x43 =>
  condM x43 (
    ret (.nxt [(at_ vs_2 0), (at_ vs_2 1), (at_ vs_2 2), (at_ vs_2 3)])
    ) (
    ret (.brk 2 [(at_ vs_2 0), (at_ vs_2 1), (at_ vs_2 2), (at_ vs_2 3)])
    )
  ) fun o => nx o slices_partitionEqualOrdered_int_k0
def slices_partitionEqualOrdered_int_k2 (vs_6 : List V) : M Out :=
  bnd (
  bnd (lift (bin .sub (at_ vs_6 3) (Value.int .i64 1))) fun x61 =>
  ret (.nxt [(at_ vs_6 0), (at_ vs_6 1), (at_ vs_6 2), x61])
  ) fun o => ret (unblk 5 o)
def slices_partitionEqualOrdered_int_l3 (vs_5 : List V) : M Out :=
  bnd (
  bnd (lift (bin .leq (at_ vs_5 2) (at_ vs_5 3))) fun x48 =>
  bnd (gd x48 true (lift (some (at_ vs_5 0)))) fun x50 =>
  bnd (gd x48 true (lift (some (at_ vs_5 1)))) fun x51 =>
  bnd (gd x48 true (lift (iaddrS 1 x50 x51))) fun x52 =>
  bnd (gd x48 true (lift (some (at_ vs_5 0)))) fun x54 =>
  bnd (gd x48 true (lift (some (at_ vs_5 3)))) fun x55 =>
  bnd (gd x48 true (lift (iaddrS 1 x54 x55))) fun x56 =>
  bnd (gd x48 true (ld1 x52)) fun x53 =>
  bnd (gd x48 true (ld1 x56)) fun x57 =>
  bnd (gd x48 true (A_cmp_Less_int [x53, x57])) fun x58 =>
  bnd (lift (pickV x48 x58 (Value.bool false))) fun x59 =>
  condM x59 (
    ret (.nxt [(at_ vs_5 0), (at_ vs_5 1), (at_ vs_5 2), (at_ vs_5 3)])
    ) (
    ret (.brk 4 [(at_ vs_5 0), (at_ vs_5 1), (at_ vs_5 2), (at_ vs_5 3)])
    )
  ) fun o => nx o slices_partitionEqualOrdered_int_k2
def slices_partitionEqualOrdered_int_k4 (vs_8 : List V) : M Out :=
  bnd (lift (iaddrS 1 (at_ vs_8 0) (at_ vs_8 3))) fun x71 =>
  bnd (lift (iaddrS 1 (at_ vs_8 0) (at_ vs_8 2))) fun x75 =>
  bnd (ld1 x71) fun x72 =>
  bnd (ld1 x75) fun x76 =>
  bnd (lift (iaddrS 1 (at_ vs_8 0) (at_ vs_8 2))) fun x77 =>
  bnd (st1 x77 x72) fun _ =>
  bnd (lift (iaddrS 1 (at_ vs_8 0) (at_ vs_8 3))) fun x78 =>
  bnd (st1 x78 x76) fun _ =>
  bnd (lift (bin .add (at_ vs_8 2) (Value.int .i64 1))) fun x80 =>
  bnd (lift (bin .sub (at_ vs_8 3) (Value.int .i64 1))) fun x82 =>
  ret (.nxt [(at_ vs_8 0), (at_ vs_8 1), x80, x82])
def slices_partitionEqualOrdered_int_k5 (vs_7 : List V) : M Out :=
  bnd (
    bnd (lift (bin .gtr (at_ vs_7 2) (at_ vs_7 3))) fun x64 =>
    condM x64 (
      ret (.brk 0 [(at_ vs_7 2)])
      ) (
      ret (.nxt [(at_ vs_7 0), (at_ vs_7 1), (at_ vs_7 2), (at_ vs_7 3)])
      )
    ) fun o => nx o slices_partitionEqualOrdered_int_k4
def slices_partitionEqualOrdered_int_k6 (vs_4 : List V) : M Out :=
  bnd (
    bnd (
      loopM FUEL slices_partitionEqualOrdered_int_l3 [(at_ vs_4 0), (at_ vs_4 1), (at_ vs_4 2), (at_ vs_4 3)]
      ) fun o => ret (unblk 4 o)
    ) fun o => nx o slices_partitionEqualOrdered_int_k5
def slices_partitionEqualOrdered_int_l7 (vs : List V) : M Out :=
  bnd (
  bnd (
    bnd (
      loopM FUEL slices_partitionEqualOrdered_int_l1 [(at_ vs 0), (at_ vs 1), (at_ vs 2), (at_ vs 3)]
      ) fun o => ret (unblk 2 o)
    ) fun o => nx o slices_partitionEqualOrdered_int_k6
  ) fun o => ret (unblk 1 o)
def slices_partitionEqualOrdered_int_k8 (vs_9 : List V) : M Out :=
  ret (.ret [(at_ vs_9 0)])
def F_slices_partitionEqualOrdered_int (x0 x1 x2 x3 : V) : M V :=
  bnd (
    bnd (lift (iaddrS 1 x0 x3)) fun x17 =>
    bnd (lift (iaddrS 1 x0 x1)) fun x21 =>
    bnd (ld1 x17) fun x18 =>
    bnd (ld1 x21) fun x22 =>
    bnd (lift (iaddrS 1 x0 x1)) fun x23 =>
    bnd (st1 x23 x18) fun _ =>
    bnd (lift (iaddrS 1 x0 x3)) fun x24 =>
    bnd (st1 x24 x22) fun _ =>
    bnd (lift (bin .add x1 (Value.int .i64 1))) fun x26 =>
    bnd (lift (bin .sub x2 (Value.int .i64 1))) fun x28 =>
    bnd (
      bnd (
        loopM FUEL slices_partitionEqualOrdered_int_l7 [x0, x1, x26, x28]
        ) fun o => ret (unblk 0 o)
      ) fun o => nx o slices_partitionEqualOrdered_int_k8
    ) fun o => finM o fun vs => ret (outV [(at_ vs 0)])
def h_slices_partitionEqualOrdered_int : Hint := (.seq [] .leaf (.seq [] (.reg [0, 1, 2, 3, 4, 5, 6, 8, 9, 10, 7, 11, 12, 13, 14, 15] []) (.seq [] .leaf (.seq [9] (.blk (.loop [0, 1, 9, 10] (.blk (.seq [0, 1, 9, 10] (.blk (.loop [0, 1, 9, 10] (.seq [0, 1, 9, 10] (.seq [] (.reg [0, 1, 2, 3, 4, 5, 6, 8, 9, 10, 7, 11, 12, 13, 14] []) (.cond .leaf .leaf)) (.blk .leaf)))) (.seq [0, 1, 9, 10] (.blk (.loop [0, 1, 9, 10] (.seq [0, 1, 9, 10] (.seq [] (.reg [0, 1, 2, 3, 4, 5, 6, 8, 9, 10, 7, 11, 12, 13] []) (.cond .leaf .leaf)) (.blk .leaf)))) (.seq [0, 1, 9, 10] (.seq [] .leaf (.cond .leaf .leaf)) (.seq [] (.reg [0, 1, 2, 3, 4, 5, 6, 8, 9, 10, 7, 11, 12, 13, 14, 15] []) (.seq [] .leaf .leaf)))))))) (.seq [] .leaf .leaf)))))
def A_slices_partitionEqualOrdered_int (l : List V) : M V := match l with | [x0, x1, x2, x3] => F_slices_partitionEqualOrdered_int x0 x1 x2 x3 | _ => fail
theorem e_slices_partitionEqualOrdered_int (x0 x1 x2 x3 : V) : funM Try.prog (ovr [(fid_cmp_Less_int, A_cmp_Less_int)] noC) fid_slices_partitionEqualOrdered_int h_slices_partitionEqualOrdered_int [x0, x1, x2, x3] = F_slices_partitionEqualOrdered_int x0 x1 x2 x3 := by kernel_rfl
theorem K_slices_partitionEqualOrdered_int : Known Try.prog fid_slices_partitionEqualOrdered_int (A_slices_partitionEqualOrdered_int) := known_of (σ := ovr [(fid_cmp_Less_int, A_cmp_Less_int)] noC) (hint := h_slices_partitionEqualOrdered_int) (by kernel_rfl) (simAll_ovr K_cmp_Less_int simAll_nil0) fun l H r H' h => by
  unfold A_slices_partitionEqualOrdered_int at h; split at h
  · rw [e_slices_partitionEqualOrdered_int]; exact h
  · exact (fail_ne h).elim

/-! ### slices.partitionOrdered[int] -/
def slices_partitionOrdered_int_k0 (vs_2 : List V) : M Out :=
  bnd (
  bnd (lift (bin .add (at_ vs_2 2) (Value.int .i64 1))) fun x45 =>
  ret (.nxt [(at_ vs_2 0), (at_ vs_2 1), x45, (at_ vs_2 3)])
  ) fun o => ret (unblk 1 o)
def slices_partitionOrdered_int_l1 (vs : List V) : M Out :=
  bnd (
  bnd (lift (bin .leq (at_ vs 2) (at_ vs 3))) fun x32 =>
  bnd (gd x32 true (lift (some (at_ vs 0)))) fun x34 =>
  bnd (gd x32 true (lift (some (at_ vs 2)))) fun x35 =>
  bnd (gd x32 true (lift (iaddrS 1 x34 x35))) fun x36 =>
  bnd (gd x32 true (lift (some (at_ vs 0)))) fun x38 =>
  bnd (gd x32 true (lift (some (at_ vs 1)))) fun x39 =>
  bnd (gd x32 true (lift (iaddrS 1 x38 x39))) fun x40 =>
  bnd (gd x32 true (ld1 x36)) fun x37 =>
  bnd (gd x32 true (ld1 x40)) fun x41 =>
  bnd (gd x32 true (A_cmp_Less_int [x37, x41])) fun x42 =>
  bnd (lift (pickV x32 x42 (Value.bool false))) fun x43 =>
  condM x43 (
    ret (.nxt [(at_ vs 0), (at_ vs 1), (at_ vs 2), (at_ vs 3)])
    ) (
    ret (.brk 0 [(at_ vs 0), (at_ vs 1), (at_ vs 2), (at_ vs 3)])
    )
  ) fun o => nx o slices_partitionOrdered_int_k0
def slices_partitionOrdered_int_k2 (vs_5 : List V) : M Out :=
  bnd (
  bnd (lift (bin .sub (at_ vs_5 3) (Value.int .i64 1))) fun x62 =>
  ret (.nxt [(at_ vs_5 0), (at_ vs_5 1), (at_ vs_5 2), x62])
  ) fun o => ret (unblk 3 o)
def slices_partitionOrdered_int_l3 (vs_4 : List V) : M Out :=
  bnd (
  bnd (lift (bin .leq (at_ vs_4 2) (at_ vs_4 3))) fun x48 =>
  bnd (gd x48 true (lift (some (at_ vs_4 0)))) fun x50 =>
  bnd (gd x48 true (lift (some (at_ vs_4 3)))) fun x51 =>
  bnd (gd x48 true (lift (iaddrS 1 x50 x51))) fun x52 =>
  bnd (gd x48 true (lift (some (at_ vs_4 0)))) fun x54 =>
  bnd (gd x48 true (lift (some (at_ vs_4 1)))) fun x55 =>
  bnd (gd x48 true (lift (iaddrS 1 x54 x55))) fun x56 =>
  bnd (gd x48 true (ld1 x52)) fun x53 =>
  bnd (gd x48 true (ld1 x56)) fun x57 =>
  bnd (gd x48 true (A_cmp_Less_int [x53, x57])) fun x58 =>
  bnd (gd x48 true (lift (un .not x58))) fun x59 =>
  bnd (lift (pickV x48 x59 (Value.bool false))) fun x60 =>
  condM x60 (
    ret (.nxt [(at_ vs_4 0), (at_ vs_4 1), (at_ vs_4 2), (at_ vs_4 3)])
    ) (
    ret (.brk 2 [(at_ vs_4 0), (at_ vs_4 1), (at_ vs_4 2), (at_ vs_4 3)])
    )
  ) fun o => nx o slices_partitionOrdered_int_k2
def slices_partitionOrdered_int_k4 (vs_10 : List V) : M Out :=
  bnd (
  bnd (lift (bin .add (at_ vs_10 2) (Value.int .i64 1))) fun x114 =>
  ret (.nxt [(at_ vs_10 0), (at_ vs_10 1), x114, (at_ vs_10 3)])
  ) fun o => ret (unblk 7 o)
def slices_partitionOrdered_int_l5 (vs_9 : List V) : M Out :=
  bnd (
  bnd (lift (bin .leq (at_ vs_9 2) (at_ vs_9 3))) fun x101 =>
  bnd (gd x101 true (lift (some (at_ vs_9 0)))) fun x103 =>
  bnd (gd x101 true (lift (some (at_ vs_9 2)))) fun x104 =>
  bnd (gd x101 true (lift (iaddrS 1 x103 x104))) fun x105 =>
  bnd (gd x101 true (lift (some (at_ vs_9 0)))) fun x107 =>
  bnd (gd x101 true (lift (some (at_ vs_9 1)))) fun x108 =>
  bnd (gd x101 true (lift (iaddrS 1 x107 x108))) fun x109 =>
  bnd (gd x101 true (ld1 x105)) fun x106 =>
  bnd (gd x101 true (ld1 x109)) fun x110 =>
  bnd (gd x101 true (A_cmp_Less_int [x106, x110])) fun x111 =>
  bnd (lift (pickV x101 x111 (Value.bool false))) fun x112 =>
  condM x112 (
    ret (.nxt [(at_ vs_9 0), (at_ vs_9 1), (at_ vs_9 2), (at_ vs_9 3)])
    ) (
    ret (.brk 6 [(at_ vs_9 0), (at_ vs_9 1), (at_ vs_9 2), (at_ vs_9 3)])
    )
  ) fun o => nx o slices_partitionOrdered_int_k4
def slices_partitionOrdered_int_k6 (vs_13 : List V) : M Out :=
  bnd (
  bnd (lift (bin .sub (at_ vs_13 3) (Value.int .i64 1))) fun x131 =>
  ret (.nxt [(at_ vs_13 0), (at_ vs_13 1), (at_ vs_13 2), x131])
  ) fun o => ret (unblk 9 o)
def slices_partitionOrdered_int_l7 (vs_12 : List V) : M Out :=
  bnd (
  bnd (lift (bin .leq (at_ vs_12 2) (at_ vs_12 3))) fun x117 =>
  bnd (gd x117 true (lift (some (at_ vs_12 0)))) fun x119 =>
  bnd (gd x117 true (lift (some (at_ vs_12 3)))) fun x120 =>
  bnd (gd x117 true (lift (iaddrS 1 x119 x120))) fun x121 =>
  bnd (gd x117 true (lift (some (at_ vs_12 0)))) fun x123 =>
  bnd (gd x117 true (lift (some (at_ vs_12 1)))) fun x124 =>
  bnd (gd x117 true (lift (iaddrS 1 x123 x124))) fun x125 =>
  bnd (gd x117 true (ld1 x121)) fun x122 =>
  bnd (gd x117 true (ld1 x125)) fun x126 =>
  bnd (gd x117 true (A_cmp_Less_int [x122, x126])) fun x127 =>
  bnd (gd x117 true (lift (un .not x127))) fun x128 =>
  bnd (lift (pickV x117 x128 (Value.bool false))) fun x129 =>
  condM x129 (
    ret (.nxt [(at_ vs_12 0), (at_ vs_12 1), (at_ vs_12 2), (at_ vs_12 3)])
    ) (
    ret (.brk 8 [(at_ vs_12 0), (at_ vs_12 1), (at_ vs_12 2), (at_ vs_12 3)])
    )
  ) fun o => nx o slices_partitionOrdered_int_k6
def slices_partitionOrdered_int_k8 (vs_15 : List V) : M Out :=
  bnd (lift (iaddrS 1 (at_ vs_15 0) (at_ vs_15 3))) fun x141 =>
  bnd (lift (iaddrS 1 (at_ vs_15 0) (at_ vs_15 2))) fun x145 =>
  bnd (ld1 x141) fun x142 =>
  bnd (ld1 x145) fun x146 =>
  bnd (lift (iaddrS 1 (at_ vs_15 0) (at_ vs_15 2))) fun x147 =>
  bnd (st1 x147 x142) fun _ =>
  bnd (lift (iaddrS 1 (at_ vs_15 0) (at_ vs_15 3))) fun x148 =>
  bnd (st1 x148 x146) fun _ =>
  bnd (lift (bin .add (at_ vs_15 2) (Value.int .i64 1))) fun x150 =>
  bnd (lift (bin .sub (at_ vs_15 3) (Value.int .i64 1))) fun x152 =>
  ret (.nxt [(at_ vs_15 0), (at_ vs_15 1), x150, x152])
def slices_partitionOrdered_int_k9 (vs_14 : List V) : M Out :=
  bnd (
    bnd (lift (bin .gtr (at_ vs_14 2) (at_ vs_14 3))) fun x134 =>
    condM x134 (
      ret (.brk 4 [(at_ vs_14 0), (at_ vs_14 1), (at_ vs_14 3)])
      ) (
      ret (.nxt [(at_ vs_14 0), (at_ vs_14 1), (at_ vs_14 2), (at_ vs_14 3)])
      )
    ) fun o => nx o slices_partitionOrdered_int_k8
def slices_partitionOrdered_int_k10 (vs_11 : List V) : M Out :=
  bnd (
    bnd (
      loopM FUEL slices_partitionOrdered_int_l7 [(at_ vs_11 0), (at_ vs_11 1), (at_ vs_11 2), (at_ vs_11 3)]
      ) fun o => ret (unblk 8 o)
    ) fun o => nx o slices_partitionOrdered_int_k9
def slices_partitionOrdered_int_l11 (vs_8 : List V) : M Out :=
  bnd (
  bnd (
    bnd (
      loopM FUEL slices_partitionOrdered_int_l5 [(at_ vs_8 0), (at_ vs_8 1), (at_ vs_8 2), (at_ vs_8 3)]
      ) fun o => ret (unblk 6 o)
    ) fun o => nx o slices_partitionOrdered_int_k10
  ) fun o => ret (unblk 5 o)
def slices_partitionOrdered_int_k12 (vs_16 : List V) : M Out :=
  bnd (lift (iaddrS 1 (at_ vs_16 0) (at_ vs_16 1))) fun x159 =>
  bnd (lift (iaddrS 1 (at_ vs_16 0) (at_ vs_16 2))) fun x163 =>
  bnd (ld1 x159) fun x160 =>
  bnd (ld1 x163) fun x164 =>
  bnd (lift (iaddrS 1 (at_ vs_16 0) (at_ vs_16 2))) fun x165 =>
  bnd (st1 x165 x160) fun _ =>
  bnd (lift (iaddrS 1 (at_ vs_16 0) (at_ vs_16 1))) fun x166 =>
  bnd (st1 x166 x164) fun _ =>
  ret (.ret [(at_ vs_16 2), (Value.bool false)])
def slices_partitionOrdered_int_k13 (vs_7 : List V) : M Out :=
  bnd (lift (iaddrS 1 (at_ vs_7 0) (at_ vs_7 3))) fun x87 =>
  bnd (lift (iaddrS 1 (at_ vs_7 0) (at_ vs_7 2))) fun x91 =>
  bnd (ld1 x87) fun x88 =>
  bnd (ld1 x91) fun x92 =>
  bnd (lift (iaddrS 1 (at_ vs_7 0) (at_ vs_7 2))) fun x93 =>
  bnd (st1 x93 x88) fun _ =>
  bnd (lift (iaddrS 1 (at_ vs_7 0) (at_ vs_7 3))) fun x94 =>
  bnd (st1 x94 x92) fun _ =>
  bnd (lift (bin .add (at_ vs_7 2) (Value.int .i64 1))) fun x96 =>
  bnd (lift (bin .sub (at_ vs_7 3) (Value.int .i64 1))) fun x98 =>
  bnd (
    bnd (
      loopM FUEL slices_partitionOrdered_int_l11 [(at_ vs_7 0), (at_ vs_7 1), x96, x98]
      ) fun o => ret (unblk 4 o)
    ) fun o => nx o slices_partitionOrdered_int_k12
def slices_partitionOrdered_int_k14 (vs_6 : List V) : M Out :=
  bnd (
    bnd (lift (bin .gtr (at_ vs_6 2) (at_ vs_6 3))) fun x65 =>
    condM x65 (
      bnd (lift (iaddrS 1 (at_ vs_6 0) (at_ vs_6 1))) fun x72 =>
      bnd (lift (iaddrS 1 (at_ vs_6 0) (at_ vs_6 3))) fun x76 =>
      bnd (ld1 x72) fun x73 =>
      bnd (ld1 x76) fun x77 =>
      bnd (lift (iaddrS 1 (at_ vs_6 0) (at_ vs_6 3))) fun x78 =>
      bnd (st1 x78 x73) fun _ =>
      bnd (lift (iaddrS 1 (at_ vs_6 0) (at_ vs_6 1))) fun x79 =>
      bnd (st1 x79 x77) fun _ =>
      ret (.ret [(at_ vs_6 3), (Value.bool true)])
      ) (
      ret (.nxt [(at_ vs_6 0), (at_ vs_6 1), (at_ vs_6 2), (at_ vs_6 3)])
      )
    ) fun o => nx o slices_partitionOrdered_int_k13
def slices_partitionOrdered_int_k15 (vs_3 : List V) : M Out :=
  bnd (
    bnd (
      loopM FUEL slices_partitionOrdered_int_l3 [(at_ vs_3 0), (at_ vs_3 1), (at_ vs_3 2), (at_ vs_3 3)]
      ) fun o => ret (unblk 2 o)
    ) fun o => nx o slices_partitionOrdered_int_k14
def F_slices_partitionOrdered_int (x0 x1 x2 x3 : V) : M V :=
  bnd (
    bnd (lift (iaddrS 1 x0 x3)) fun x18 =>
    bnd (lift (iaddrS 1 x0 x1)) fun x22 =>
    bnd (ld1 x18) fun x19 =>
    bnd (ld1 x22) fun x23 =>
    bnd (lift (iaddrS 1 x0 x1)) fun x24 =>
    bnd (st1 x24 x19) fun _ =>
    bnd (lift (iaddrS 1 x0 x3)) fun x25 =>
    bnd (st1 x25 x23) fun _ =>
    bnd (lift (bin .add x1 (Value.int .i64 1))) fun x27 =>
    bnd (lift (bin .sub x2 (Value.int .i64 1))) fun x29 =>
    bnd (
      bnd (
        loopM FUEL slices_partitionOrdered_int_l1 [x0, x1, x27, x29]
        ) fun o => ret (unblk 0 o)
      ) fun o => nx o slices_partitionOrdered_int_k15
    ) fun o => finM o fun vs => ret (outV [(at_ vs 0), (at_ vs 1)])
def h_slices_partitionOrdered_int : Hint := (.seq [] .leaf (.seq [] (.reg [0, 1, 2, 3, 4, 5, 6, 8, 9, 10, 7, 11, 12, 13, 14, 15] []) (.seq [] .leaf (.seq [0, 1, 10, 11] (.blk (.loop [0, 1, 10, 11] (.seq [0, 1, 10, 11] (.seq [] (.reg [0, 1, 2, 3, 4, 5, 6, 8, 9, 10, 7, 11, 12, 13] []) (.cond .leaf .leaf)) (.blk .leaf)))) (.seq [0, 1, 10, 11] (.blk (.loop [0, 1, 10, 11] (.seq [0, 1, 10, 11] (.seq [] (.reg [0, 1, 2, 3, 4, 5, 6, 8, 9, 10, 7, 11, 12, 13, 14] []) (.cond .leaf .leaf)) (.blk .leaf)))) (.seq [0, 1, 10, 11] (.seq [] .leaf (.cond (.seq [] (.reg [0, 1, 2, 3, 4, 5, 6, 8, 9, 10, 7, 11, 12, 13, 14, 15] []) (.seq [] .leaf .leaf)) .leaf)) (.seq [] (.reg [0, 1, 2, 3, 4, 5, 6, 8, 9, 10, 7, 11, 12, 13, 14, 15] []) (.seq [] .leaf (.seq [] .leaf (.seq [0, 1, 11] (.blk (.loop [0, 1, 10, 11] (.blk (.seq [0, 1, 10, 11] (.blk (.loop [0, 1, 10, 11] (.seq [0, 1, 10, 11] (.seq [] (.reg [0, 1, 2, 3, 4, 5, 6, 8, 9, 10, 7, 11, 12, 13] []) (.cond .leaf .leaf)) (.blk .leaf)))) (.seq [0, 1, 10, 11] (.blk (.loop [0, 1, 10, 11] (.seq [0, 1, 10, 11] (.seq [] (.reg [0, 1, 2, 3, 4, 5, 6, 8, 9, 10, 7, 11, 12, 13, 14] []) (.cond .leaf .leaf)) (.blk .leaf)))) (.seq [0, 1, 10, 11] (.seq [] .leaf (.cond .leaf .leaf)) (.seq [] (.reg [0, 1, 2, 3, 4, 5, 6, 8, 9, 10, 7, 11, 12, 13, 14, 15] []) (.seq [] .leaf .leaf)))))))) (.seq [] (.reg [0, 1, 2, 3, 4, 5, 6, 8, 9, 10, 7, 11, 12, 13, 14, 15] []) (.seq [] .leaf .leaf))))))))))))
def A_slices_partitionOrdered_int (l : List V) : M V := match l with | [x0, x1, x2, x3] => F_slices_partitionOrdered_int x0 x1 x2 x3 | _ => fail
theorem e_slices_partitionOrdered_int (x0 x1 x2 x3 : V) : funM Try.prog (ovr [(fid_cmp_Less_int, A_cmp_Less_int)] noC) fid_slices_partitionOrdered_int h_slices_partitionOrdered_int [x0, x1, x2, x3] = F_slices_partitionOrdered_int x0 x1 x2 x3 := by kernel_rfl
theorem K_slices_partitionOrdered_int : Known Try.prog fid_slices_partitionOrdered_int (A_slices_partitionOrdered_int) := known_of (σ := ovr [(fid_cmp_Less_int, A_cmp_Less_int)] noC) (hint := h_slices_partitionOrdered_int) (by kernel_rfl) (simAll_ovr K_cmp_Less_int simAll_nil0) fun l H r H' h => by
  unfold A_slices_partitionOrdered_int at h; split at h
  · rw [e_slices_partitionOrdered_int]; exact h
  · exact (fail_ne h).elim

/-! ### slices.pdqsortOrdered[int] -/
def slices_pdqsortOrdered_int_k0 (G_slices_pdqsortOrdered_int : List V → M V) (vs_7 : List V) : M Out :=
  bnd (A_slices_partitionOrdered_int [(at_ vs_7 0), (at_ vs_7 1), (at_ vs_7 2), (at_ vs_7 5)]) fun x99 =>
  bnd (lift (ext 0 x99)) fun x100 =>
  bnd (lift (ext 1 x99)) fun x101 =>
  bnd (lift (bin .sub x100 (at_ vs_7 1))) fun x105 =>
  bnd (lift (bin .sub (at_ vs_7 2) x100)) fun x108 =>
  bnd (lift (bin .quo (at_ vs_7 4) (Value.int .i64 8))) fun x110 =>
  bnd (lift (bin .lss x105 x108)) fun x113 =>
  condM x113 (
    bnd (lift (bin .geq x105 x110)) fun x116 =>
    bnd (G_slices_pdqsortOrdered_int [(at_ vs_7 0), (at_ vs_7 1), x100, (at_ vs_7 3)]) fun x121 =>
    bnd (lift (bin .add x100 (Value.int .i64 1))) fun x123 =>
    ret (.nxt [(at_ vs_7 0), x123, (at_ vs_7 2), (at_ vs_7 3), x116, x101])
    ) (
    bnd (lift (bin .geq x108 x110)) fun x126 =>
    bnd (lift (bin .add x100 (Value.int .i64 1))) fun x129 =>
    bnd (G_slices_pdqsortOrdered_int [(at_ vs_7 0), x129, (at_ vs_7 2), (at_ vs_7 3)]) fun x132 =>
    ret (.nxt [(at_ vs_7 0), (at_ vs_7 1), x100, (at_ vs_7 3), x126, x101])
    )
def slices_pdqsortOrdered_int_k1 (G_slices_pdqsortOrdered_int : List V → M V) (vs_6 : List V) : M Out :=
  bnd (
    bnd (lift (bin .gtr (at_ vs_6 1) (Value.int .i64 0))) fun x74 =>
    bnd (gd x74 true (lift (some (at_ vs_6 0)))) fun x76 =>
    bnd (gd x74 true (lift (some (at_ vs_6 1)))) fun x77 =>
    bnd (gd x74 true (lift (bin .sub x77 (Value.int .i64 1)))) fun x78 =>
    bnd (gd x74 true (lift (iaddrS 1 x76 x78))) fun x79 =>
    bnd (gd x74 true (lift (some (at_ vs_6 0)))) fun x81 =>
    bnd (gd x74 true (lift (some (at_ vs_6 7)))) fun x82 =>
    bnd (gd x74 true (lift (iaddrS 1 x81 x82))) fun x83 =>
    bnd (gd x74 true (ld1 x79)) fun x80 =>
    bnd (gd x74 true (ld1 x83)) fun x84 =>
    bnd (gd x74 true (A_cmp_Less_int [x80, x84])) fun x85 =>
    bnd (gd x74 true (lift (un .not x85))) fun x86 =>
    bnd (lift (pickV x74 x86 (Value.bool false))) fun x87 =>
    condM x87 (
      bnd (A_slices_partitionEqualOrdered_int [(at_ vs_6 0), (at_ vs_6 1), (at_ vs_6 2), (at_ vs_6 7)]) fun x92 =>
      ret (.brk 1 [(at_ vs_6 0), x92, (at_ vs_6 2), (at_ vs_6 3), (at_ vs_6 4), (at_ vs_6 5)])
      ) (
      ret (.nxt [(at_ vs_6 0), (at_ vs_6 1), (at_ vs_6 2), (at_ vs_6 3), (at_ vs_6 6), (at_ vs_6 7)])
      )
    ) fun o => nx o (slices_pdqsortOrdered_int_k0 G_slices_pdqsortOrdered_int)
def slices_pdqsortOrdered_int_k2 (G_slices_pdqsortOrdered_int : List V → M V) (vs_5 : List V) : M Out :=
  bnd (
    bnd (gd (at_ vs_5 4) true (lift (some (at_ vs_5 5)))) fun x63 =>
    bnd (lift (pickV (at_ vs_5 4) x63 (Value.bool false))) fun x64 =>
    bnd (gd x64 true (lift (some (at_ vs_5 8)))) fun x66 =>
    bnd (gd x64 true (lift (bin .eql x66 (Value.int .i64 1)))) fun x67 =>
    bnd (lift (pickV x64 x67 (Value.bool false))) fun x68 =>
    condM x68 (
      bnd (A_slices_partialInsertionSortOrdered_int [(at_ vs_5 0), (at_ vs_5 1), (at_ vs_5 2)]) fun x72 =>
      condM x72 (
        ret (.ret [])
        ) (
        ret (.nxt [(at_ vs_5 0), (at_ vs_5 1), (at_ vs_5 2), (at_ vs_5 3), (at_ vs_5 4), (at_ vs_5 5), (at_ vs_5 6), (at_ vs_5 7)])
        )
      ) (
      ret (.nxt [(at_ vs_5 0), (at_ vs_5 1), (at_ vs_5 2), (at_ vs_5 3), (at_ vs_5 4), (at_ vs_5 5), (at_ vs_5 6), (at_ vs_5 7)])
      )
    ) fun o => nx o (slices_pdqsortOrdered_int_k1 G_slices_pdqsortOrdered_int)
def slices_pdqsortOrdered_int_k3 (G_slices_pdqsortOrdered_int : List V → M V) (vs_4 : List V) : M Out :=
  bnd (A_slices_choosePivotOrdered_int [(at_ vs_4 0), (at_ vs_4 1), (at_ vs_4 2)]) fun x46 =>
  bnd (lift (ext 0 x46)) fun x47 =>
  bnd (lift (ext 1 x46)) fun x48 =>
  bnd (
    bnd (lift (bin .eql x48 (Value.int .i64 2))) fun x50 =>
    condM x50 (
      bnd (A_slices_reverseRangeOrdered_int [(at_ vs_4 0), (at_ vs_4 1), (at_ vs_4 2)]) fun x54 =>
      bnd (lift (bin .sub (at_ vs_4 2) (Value.int .i64 1))) fun x56 =>
      bnd (lift (bin .sub x47 (at_ vs_4 1))) fun x59 =>
      bnd (lift (bin .sub x56 x59)) fun x60 =>
      ret (.nxt [(at_ vs_4 0), (at_ vs_4 1), (at_ vs_4 2), (at_ vs_4 3), (at_ vs_4 4), (at_ vs_4 5), (at_ vs_4 6), x60, (Value.int .i64 1)])
      ) (
      ret (.nxt [(at_ vs_4 0), (at_ vs_4 1), (at_ vs_4 2), (at_ vs_4 3), (at_ vs_4 4), (at_ vs_4 5), (at_ vs_4 6), x47, x48])
      )
    ) fun o => nx o (slices_pdqsortOrdered_int_k2 G_slices_pdqsortOrdered_int)
def slices_pdqsortOrdered_int_k4 (G_slices_pdqsortOrdered_int : List V → M V) (vs_3 : List V) : M Out :=
  bnd (
    bnd (lift (un .not (at_ vs_3 4))) fun x35 =>
    condM x35 (
      bnd (A_slices_breakPatternsOrdered_int [(at_ vs_3 0), (at_ vs_3 1), (at_ vs_3 2)]) fun x39 =>
      bnd (lift (bin .sub (at_ vs_3 3) (Value.int .i64 1))) fun x41 =>
      ret (.nxt [(at_ vs_3 0), (at_ vs_3 1), (at_ vs_3 2), x41, (at_ vs_3 4), (at_ vs_3 5), (at_ vs_3 6)])
      ) (
      ret (.nxt [(at_ vs_3 0), (at_ vs_3 1), (at_ vs_3 2), (at_ vs_3 3), (at_ vs_3 4), (at_ vs_3 5), (at_ vs_3 6)])
      )
    ) fun o => nx o (slices_pdqsortOrdered_int_k3 G_slices_pdqsortOrdered_int)
def slices_pdqsortOrdered_int_k5 (G_slices_pdqsortOrdered_int : List V → M V) (vs_2 : List V) : M Out :=
  bnd (
    bnd (lift (bin .eql (at_ vs_2 3) (Value.int .i64 0))) fun x29 =>
    condM x29 (
      bnd (A_slices_heapSortOrdered_int [(at_ vs_2 0), (at_ vs_2 1), (at_ vs_2 2)]) fun x33 =>
      ret (.ret [])
      ) (
      ret (.nxt [(at_ vs_2 0), (at_ vs_2 1), (at_ vs_2 2), (at_ vs_2 3), (at_ vs_2 4), (at_ vs_2 5), (at_ vs_2 6)])
      )
    ) fun o => nx o (slices_pdqsortOrdered_int_k4 G_slices_pdqsortOrdered_int)
def slices_pdqsortOrdered_int_l6 (G_slices_pdqsortOrdered_int : List V → M V) (vs : List V) : M Out :=
  bnd (
  bnd (lift (bin .sub (at_ vs 2) (at_ vs 1))) fun x21 =>
  bnd (
    bnd (lift (bin .leq x21 (Value.int .i64 12))) fun x23 =>
    condM x23 (
      bnd (A_slices_insertionSortOrdered_int [(at_ vs 0), (at_ vs 1), (at_ vs 2)]) fun x27 =>
      ret (.ret [])
      ) (
      ret (.nxt [(at_ vs 0), (at_ vs 1), (at_ vs 2), (at_ vs 3), (at_ vs 4), (at_ vs 5), x21])
      )
    ) fun o => nx o (slices_pdqsortOrdered_int_k5 G_slices_pdqsortOrdered_int)
  ) fun o => ret (unblk 1 o)
def F_slices_pdqsortOrdered_int (G_slices_pdqsortOrdered_int : List V → M V) (x0 x1 x2 x3 : V) : M V :=
  bnd (
    bnd (
      loopM FUEL (slices_pdqsortOrdered_int_l6 G_slices_pdqsortOrdered_int) [x0, x1, x2, x3, (Value.bool true), (Value.bool true)]
      ) fun o => ret (unblk 0 o)
    ) fun o => finM o fun vs => ret (outV [])
def h_slices_pdqsortOrdered_int : Hint := (.seq [] .leaf (.seq [] .leaf (.blk (.loop [0, 1, 2, 3, 8, 9] (.blk (.seq [] .leaf (.seq [0, 1, 2, 3, 8, 9, 10] (.seq [] .leaf (.cond (.seq [] .leaf .leaf) .leaf)) (.seq [0, 1, 2, 3, 8, 9, 10] (.seq [] .leaf (.cond (.seq [] .leaf .leaf) .leaf)) (.seq [0, 1, 2, 3, 8, 9, 10] (.seq [] .leaf (.cond (.seq [] .leaf .leaf) .leaf)) (.seq [] .leaf (.seq [0, 1, 2, 3, 8, 9, 10, 11, 12] (.seq [] .leaf (.cond (.seq [] .leaf (.seq [] .leaf .leaf)) .leaf)) (.seq [0, 1, 2, 3, 8, 9, 10, 11] (.seq [] .leaf (.cond (.seq [] .leaf (.cond .leaf .leaf)) .leaf)) (.seq [0, 1, 2, 3, 10, 11] (.seq [] (.reg [0, 1, 2, 3, 4, 5, 6, 8, 9, 10, 7, 11, 12, 13, 14] []) (.cond (.seq [] .leaf (.seq [] .leaf .leaf)) .leaf)) (.seq [] .leaf (.seq [] .leaf (.seq [] .leaf (.seq [] .leaf (.seq [] .leaf (.cond (.seq [] .leaf (.seq [] .leaf .leaf)) (.seq [] .leaf (.seq [] .leaf .leaf)))))))))))))))))))))
def A_slices_pdqsortOrdered_int (G_slices_pdqsortOrdered_int : List V → M V) (l : List V) : M V := match l with | [x0, x1, x2, x3] => F_slices_pdqsortOrdered_int G_slices_pdqsortOrdered_int x0 x1 x2 x3 | _ => fail
theorem e_slices_pdqsortOrdered_int (G_slices_pdqsortOrdered_int : List V → M V) (x0 x1 x2 x3 : V) : funM Try.prog (ovr [(fid_slices_insertionSortOrdered_int, A_slices_insertionSortOrdered_int), (fid_slices_heapSortOrdered_int, A_slices_heapSortOrdered_int), (fid_slices_breakPatternsOrdered_int, A_slices_breakPatternsOrdered_int), (fid_slices_choosePivotOrdered_int, A_slices_choosePivotOrdered_int), (fid_slices_reverseRangeOrdered_int, A_slices_reverseRangeOrdered_int), (fid_slices_partialInsertionSortOrdered_int, A_slices_partialInsertionSortOrdered_int), (fid_cmp_Less_int, A_cmp_Less_int), (fid_slices_partitionEqualOrdered_int, A_slices_partitionEqualOrdered_int), (fid_slices_partitionOrdered_int, A_slices_partitionOrdered_int), (fid_slices_pdqsortOrdered_int, G_slices_pdqsortOrdered_int)] noC) fid_slices_pdqsortOrdered_int h_slices_pdqsortOrdered_int [x0, x1, x2, x3] = F_slices_pdqsortOrdered_int G_slices_pdqsortOrdered_int x0 x1 x2 x3 := by kernel_rfl
theorem K_slices_pdqsortOrdered_int {G_slices_pdqsortOrdered_int : List V → M V} (k_slices_pdqsortOrdered_int : Known Try.prog fid_slices_pdqsortOrdered_int G_slices_pdqsortOrdered_int) : Known Try.prog fid_slices_pdqsortOrdered_int (A_slices_pdqsortOrdered_int G_slices_pdqsortOrdered_int) := known_of (σ := ovr [(fid_slices_insertionSortOrdered_int, A_slices_insertionSortOrdered_int), (fid_slices_heapSortOrdered_int, A_slices_heapSortOrdered_int), (fid_slices_breakPatternsOrdered_int, A_slices_breakPatternsOrdered_int), (fid_slices_choosePivotOrdered_int, A_slices_choosePivotOrdered_int), (fid_slices_reverseRangeOrdered_int, A_slices_reverseRangeOrdered_int), (fid_slices_partialInsertionSortOrdered_int, A_slices_partialInsertionSortOrdered_int), (fid_cmp_Less_int, A_cmp_Less_int), (fid_slices_partitionEqualOrdered_int, A_slices_partitionEqualOrdered_int), (fid_slices_partitionOrdered_int, A_slices_partitionOrdered_int), (fid_slices_pdqsortOrdered_int, G_slices_pdqsortOrdered_int)] noC) (hint := h_slices_pdqsortOrdered_int) (by kernel_rfl) (simAll_ovr K_slices_insertionSortOrdered_int (simAll_ovr K_slices_heapSortOrdered_int (simAll_ovr K_slices_breakPatternsOrdered_int (simAll_ovr K_slices_choosePivotOrdered_int (simAll_ovr K_slices_reverseRangeOrdered_int (simAll_ovr K_slices_partialInsertionSortOrdered_int (simAll_ovr K_cmp_Less_int (simAll_ovr K_slices_partitionEqualOrdered_int (simAll_ovr K_slices_partitionOrdered_int (simAll_ovr k_slices_pdqsortOrdered_int simAll_nil0)))))))))) fun l H r H' h => by
  unfold A_slices_pdqsortOrdered_int at h; split at h
  · rw [e_slices_pdqsortOrdered_int]; exact h
  · exact (fail_ne h).elim

/-! ### slices.Sort[[]int,int] -/
def F_slices_Sort_S_int_int (G_slices_pdqsortOrdered_int : List V → M V) (x0 : V) : M V :=
  bnd (
    bnd (lift (lenSlc x0)) fun x4 =>
    bnd (lift (cvi .u64 x4)) fun x8 =>
    bnd (A_math_bits_Len [x8]) fun x9 =>
    bnd ((A_slices_pdqsortOrdered_int G_slices_pdqsortOrdered_int) [x0, (Value.int .i64 0), x4, x9]) fun x10 =>
    ret (.nxt [])
    ) fun o => finM o fun vs => ret (outV [])
def h_slices_Sort_S_int_int : Hint := (.seq [] .leaf .leaf)
def A_slices_Sort_S_int_int (G_slices_pdqsortOrdered_int : List V → M V) (l : List V) : M V := match l with | [x0] => F_slices_Sort_S_int_int G_slices_pdqsortOrdered_int x0 | _ => fail
theorem e_slices_Sort_S_int_int (G_slices_pdqsortOrdered_int : List V → M V) (x0 : V) : funM Try.prog (ovr [(fid_math_bits_Len, A_math_bits_Len), (fid_slices_pdqsortOrdered_int, A_slices_pdqsortOrdered_int G_slices_pdqsortOrdered_int)] noC) fid_slices_Sort_S_int_int h_slices_Sort_S_int_int [x0] = F_slices_Sort_S_int_int G_slices_pdqsortOrdered_int x0 := by kernel_rfl
theorem K_slices_Sort_S_int_int {G_slices_pdqsortOrdered_int : List V → M V} (k_slices_pdqsortOrdered_int : Known Try.prog fid_slices_pdqsortOrdered_int G_slices_pdqsortOrdered_int) : Known Try.prog fid_slices_Sort_S_int_int (A_slices_Sort_S_int_int G_slices_pdqsortOrdered_int) := known_of (σ := ovr [(fid_math_bits_Len, A_math_bits_Len), (fid_slices_pdqsortOrdered_int, A_slices_pdqsortOrdered_int G_slices_pdqsortOrdered_int)] noC) (hint := h_slices_Sort_S_int_int) (by kernel_rfl) (simAll_ovr K_math_bits_Len (simAll_ovr (K_slices_pdqsortOrdered_int k_slices_pdqsortOrdered_int) simAll_nil0)) fun l H r H' h => by
  unfold A_slices_Sort_S_int_int at h; split at h
  · rw [e_slices_Sort_S_int_int]; exact h
  · exact (fail_ne h).elim

/-! ### capstan/ports.Flows -/
def ports_Flows_k0 (G_slices_pdqsortOrdered_int : List V → M V) (vs_8 : List V) : M Out :=
  bnd (lift (bin .add (at_ vs_8 6) (Value.int .i64 1))) fun x59 =>
  ret (.nxt [(at_ vs_8 0), (at_ vs_8 1), (at_ vs_8 2), (at_ vs_8 3), (at_ vs_8 4), (at_ vs_8 5), x59])
def ports_Flows_k1 (G_slices_pdqsortOrdered_int : List V → M V) (vs_7 : List V) : M Out :=
  bnd (
  bnd (
    bnd (lift (iaddrS 5 (at_ vs_7 4) (at_ vs_7 6))) fun x36 =>
    bnd (ldn 5 x36) fun x37 =>
    bnd (newc [Value.int .i64 0, Value.int .i64 0, Value.int .i64 0, Value.int .i64 0, Value.int .i64 0]) fun x12 =>
    bnd (stn 5 x12 x37) fun _ =>
    bnd (lift (faddr 1 x12)) fun x38 =>
    bnd (ld1 x38) fun x39 =>
    bnd (lift (bin .eql x39 (at_ vs_7 3))) fun x41 =>
    bnd (gd x41 true (lift (some (at_ vs_7 1)))) fun x43 =>
    bnd (gd x41 true (lift (faddr 2 x12))) fun x44 =>
    bnd (gd x41 true (ld1 x44)) fun x45 =>
    bnd (gd x41 true (A_slices_Contains_S_int_int [x43, x45])) fun x46 =>
    bnd (gd x41 true (lift (un .not x46))) fun x47 =>
    bnd (lift (pickV x41 x47 (Value.bool false))) fun x48 =>
    condM x48 (
      bnd (lift (faddr 2 x12)) fun x50 =>
      bnd (ld1 x50) fun x51 =>
      bnd (bslc 1 1 (rep 1 [Value.int .i64 0]) [(0, 1, x51)]) fun x52 =>
      bnd (appV 1 8 (at_ vs_7 1) x52) fun x53 =>
      bnd (lift (faddr 2 x12)) fun x55 =>
      bnd (ld1 x55) fun x56 =>
      bnd (bslc 1 1 (rep 1 [Value.int .i64 0]) [(0, 1, x56)]) fun x57 =>
      bnd (appV 1 8 (at_ vs_7 2) x57) fun x58 =>
      ret (.brk 1 [(at_ vs_7 0), x53, x58])
      ) (
      ret (.nxt [(at_ vs_7 0), (at_ vs_7 1), (at_ vs_7 2), (at_ vs_7 3), (at_ vs_7 4), (at_ vs_7 5), (at_ vs_7 6)])
      )
    ) fun o => ret (unblk 3 o)
  ) fun o => nx o (ports_Flows_k0 G_slices_pdqsortOrdered_int)
def ports_Flows_l2 (G_slices_pdqsortOrdered_int : List V → M V) (vs_6 : List V) : M Out :=
  bnd (lift (bin .lss (at_ vs_6 6) (at_ vs_6 5))) fun x35 =>
  bnd (
  condM x35 (
    ret (.nxt [(at_ vs_6 0), (at_ vs_6 1), (at_ vs_6 2), (at_ vs_6 3), (at_ vs_6 4), (at_ vs_6 5), (at_ vs_6 6)])
    ) (
    ret (.brk 2 [(at_ vs_6 0), (at_ vs_6 1), (at_ vs_6 2)])
    )
  ) fun o => nx o (ports_Flows_k1 G_slices_pdqsortOrdered_int)
def ports_Flows_k3 (G_slices_pdqsortOrdered_int : List V → M V) (vs_9 : List V) : M Out :=
  bnd (lift (subV 1 (at_ vs_9 2) (some (Value.int .i64 1)) none)) fun x61 =>
  ret (.nxt [(at_ vs_9 0), (at_ vs_9 1), x61])
def ports_Flows_k4 (G_slices_pdqsortOrdered_int : List V → M V) (vs_5 : List V) : M Out :=
  bnd (
  bnd (lift (iaddrS 1 (at_ vs_5 2) (Value.int .i64 0))) fun x30 =>
  bnd (ld1 x30) fun x31 =>
  bnd (
    bnd (lift (lenSlc (at_ vs_5 0))) fun x33 =>
    bnd (
      loopM FUEL (ports_Flows_l2 G_slices_pdqsortOrdered_int) [(at_ vs_5 0), (at_ vs_5 1), (at_ vs_5 2), x31, (at_ vs_5 0), x33, (Value.int .i64 0)]
      ) fun o => ret (unblk 2 o)
    ) fun o => nx o (ports_Flows_k3 G_slices_pdqsortOrdered_int)
  ) fun o => ret (unblk 1 o)
def ports_Flows_l5 (G_slices_pdqsortOrdered_int : List V → M V) (vs_4 : List V) : M Out :=
  bnd (
  bnd (lift (lenSlc (at_ vs_4 2))) fun x27 =>
  bnd (lift (bin .gtr x27 (Value.int .i64 0))) fun x28 =>
  condM x28 (
    ret (.nxt [(at_ vs_4 0), (at_ vs_4 1), (at_ vs_4 2)])
    ) (
    ret (.brk 0 [(at_ vs_4 1)])
    )
  ) fun o => nx o (ports_Flows_k4 G_slices_pdqsortOrdered_int)
def ports_Flows_k6 (G_slices_pdqsortOrdered_int : List V → M V) (vs_10 : List V) : M Out :=
  bnd ((A_slices_Sort_S_int_int G_slices_pdqsortOrdered_int) [(at_ vs_10 0)]) fun x63 =>
  ret (.ret [(at_ vs_10 0), (Value.int .i64 0)])
def ports_Flows_k7 (G_slices_pdqsortOrdered_int : List V → M V) (vs_3 : List V) : M Out :=
  bnd (
    bnd (
      loopM FUEL (ports_Flows_l5 G_slices_pdqsortOrdered_int) [(at_ vs_3 0), (at_ vs_3 1), (at_ vs_3 2)]
      ) fun o => ret (unblk 0 o)
    ) fun o => nx o (ports_Flows_k6 G_slices_pdqsortOrdered_int)
def ports_Flows_k8 (G_slices_pdqsortOrdered_int : List V → M V) (vs_2 : List V) : M Out :=
  bnd (bslc 1 1 (rep 1 [Value.int .i64 0]) [(0, 1, (at_ vs_2 1))]) fun x25 =>
  bnd (
    ret (.nxt [(at_ vs_2 0), (Value.slice none 0 0), x25])
    ) fun o => nx o (ports_Flows_k7 G_slices_pdqsortOrdered_int)
def ports_Flows_k9 (G_slices_pdqsortOrdered_int : List V → M V) (vs : List V) : M Out :=
  bnd (
    bnd (A_ports_there [(at_ vs 1)]) fun x22 =>
    bnd (lift (un .not x22)) fun x23 =>
    condM x23 (
      ret (.ret [(Value.slice none 0 0), (Value.int .i64 1)])
      ) (
      ret (.nxt [(at_ vs 0), (at_ vs 1)])
      )
    ) fun o => nx o (ports_Flows_k8 G_slices_pdqsortOrdered_int)
def F_ports_Flows (G_slices_pdqsortOrdered_int : List V → M V) (x0 x1 : V) : M V :=
  bnd (
    bnd (
      bnd (A_ports_Check [x0]) fun x15 =>
      bnd (lift (ext 0 x15)) fun x16 =>
      bnd (lift (ext 1 x15)) fun x17 =>
      bnd (lift (bin .neq x17 (Value.int .i64 0))) fun x19 =>
      condM x19 (
        ret (.ret [(Value.slice none 0 0), x17])
        ) (
        ret (.nxt [x0, x1])
        )
      ) fun o => nx o (ports_Flows_k9 G_slices_pdqsortOrdered_int)
    ) fun o => finM o fun vs => ret (outV [(at_ vs 0), (at_ vs 1)])
def h_ports_Flows : Hint := (.seq [] .leaf (.scp (.seq [0, 1] (.seq [] .leaf (.seq [] .leaf (.cond (.seq [] .leaf .leaf) .leaf))) (.seq [0, 1] (.seq [] .leaf (.cond (.seq [] .leaf .leaf) .leaf)) (.seq [] .leaf (.seq [] .leaf (.seq [0, 8, 9] .leaf (.seq [8] (.blk (.loop [0, 8, 9] (.seq [0, 8, 9] (.seq [] .leaf (.cond .leaf .leaf)) (.blk (.seq [] .leaf (.seq [0, 8, 9] (.seq [] .leaf (.blk (.loop [0, 8, 9, 10, 32, 33, 34] (.seq [] .leaf (.seq [0, 8, 9, 10, 32, 33, 34] (.cond .leaf .leaf) (.seq [0, 8, 9, 10, 32, 33, 34] (.blk (.seq [] .leaf (.seq [] .leaf (.cond (.seq [] .leaf (.seq [] .leaf .leaf)) .leaf)))) .leaf)))))) .leaf)))))) (.seq [] .leaf (.seq [] .leaf .leaf))))))))))
def A_ports_Flows (G_slices_pdqsortOrdered_int : List V → M V) (l : List V) : M V := match l with | [x0, x1] => F_ports_Flows G_slices_pdqsortOrdered_int x0 x1 | _ => fail
theorem e_ports_Flows (G_slices_pdqsortOrdered_int : List V → M V) (x0 x1 : V) : funM Try.prog (ovr [(fid_ports_Check, A_ports_Check), (fid_ports_there, A_ports_there), (fid_slices_Contains_S_int_int, A_slices_Contains_S_int_int), (fid_slices_Sort_S_int_int, A_slices_Sort_S_int_int G_slices_pdqsortOrdered_int)] noC) fid_ports_Flows h_ports_Flows [x0, x1] = F_ports_Flows G_slices_pdqsortOrdered_int x0 x1 := by kernel_rfl
theorem K_ports_Flows {G_slices_pdqsortOrdered_int : List V → M V} (k_slices_pdqsortOrdered_int : Known Try.prog fid_slices_pdqsortOrdered_int G_slices_pdqsortOrdered_int) : Known Try.prog fid_ports_Flows (A_ports_Flows G_slices_pdqsortOrdered_int) := known_of (σ := ovr [(fid_ports_Check, A_ports_Check), (fid_ports_there, A_ports_there), (fid_slices_Contains_S_int_int, A_slices_Contains_S_int_int), (fid_slices_Sort_S_int_int, A_slices_Sort_S_int_int G_slices_pdqsortOrdered_int)] noC) (hint := h_ports_Flows) (by kernel_rfl) (simAll_ovr K_ports_Check (simAll_ovr K_ports_there (simAll_ovr K_slices_Contains_S_int_int (simAll_ovr (K_slices_Sort_S_int_int k_slices_pdqsortOrdered_int) simAll_nil0)))) fun l H r H' h => by
  unfold A_ports_Flows at h; split at h
  · rw [e_ports_Flows]; exact h
  · exact (fail_ne h).elim

/-! ### capstan/capstanref20.Flows -/
def ref20_Flows_k0 (vs_7 : List V) : M Out :=
  bnd (lift (bin .add (at_ vs_7 4) (Value.int .i64 1))) fun x34 =>
  ret (.nxt [(at_ vs_7 0), (at_ vs_7 1), (at_ vs_7 2), (at_ vs_7 3), x34])
def ref20_Flows_k1 (vs_6 : List V) : M Out :=
  bnd (
  bnd (
    bnd (lift (iaddrS 5 (at_ vs_6 0) (at_ vs_6 4))) fun x37 =>
    bnd (lift (faddr 1 x37)) fun x38 =>
    bnd (ld1 x38) fun x39 =>
    bnd (lift (bin .eql x39 (at_ vs_6 1))) fun x41 =>
    bnd (gd x41 false (lift (some (at_ vs_6 2)))) fun x43 =>
    bnd (gd x41 false (lift (some (at_ vs_6 0)))) fun x44 =>
    bnd (gd x41 false (lift (some (at_ vs_6 4)))) fun x45 =>
    bnd (gd x41 false (lift (iaddrS 5 x44 x45))) fun x46 =>
    bnd (gd x41 false (lift (faddr 1 x46))) fun x47 =>
    bnd (gd x41 false (ld1 x47)) fun x48 =>
    bnd (gd x41 false (lift (iaddrS 1 x43 x48))) fun x49 =>
    bnd (gd x41 false (ld1 x49)) fun x50 =>
    bnd (lift (pickV x41 (Value.bool true) x50)) fun x51 =>
    condM x51 (
      bnd (lift (iaddrS 5 (at_ vs_6 0) (at_ vs_6 4))) fun x55 =>
      bnd (lift (faddr 2 x55)) fun x56 =>
      bnd (ld1 x56) fun x57 =>
      bnd (lift (iaddrS 1 (at_ vs_6 2) x57)) fun x58 =>
      bnd (st1 x58 (Value.bool true)) fun _ =>
      ret (.nxt [(at_ vs_6 0), (at_ vs_6 1), (at_ vs_6 2), (at_ vs_6 3), (at_ vs_6 4)])
      ) (
      ret (.nxt [(at_ vs_6 0), (at_ vs_6 1), (at_ vs_6 2), (at_ vs_6 3), (at_ vs_6 4)])
      )
    ) fun o => ret (unblk 3 o)
  ) fun o => nx o ref20_Flows_k0
def ref20_Flows_l2 (vs_5 : List V) : M Out :=
  bnd (
  bnd (lift (lenSlc (at_ vs_5 0))) fun x31 =>
  bnd (lift (bin .lss (at_ vs_5 4) x31)) fun x32 =>
  condM x32 (
    ret (.nxt [(at_ vs_5 0), (at_ vs_5 1), (at_ vs_5 2), (at_ vs_5 3), (at_ vs_5 4)])
    ) (
    ret (.brk 2 [(at_ vs_5 0), (at_ vs_5 1), (at_ vs_5 2), (at_ vs_5 3)])
    )
  ) fun o => nx o ref20_Flows_k1
def ref20_Flows_k3 (vs_8 : List V) : M Out :=
  bnd (lift (bin .add (at_ vs_8 3) (Value.int .i64 1))) fun x28 =>
  ret (.nxt [(at_ vs_8 0), (at_ vs_8 1), (at_ vs_8 2), x28])
def ref20_Flows_k4 (vs_4 : List V) : M Out :=
  bnd (
  bnd (
    bnd (
      loopM FUEL ref20_Flows_l2 [(at_ vs_4 0), (at_ vs_4 1), (at_ vs_4 2), (at_ vs_4 3), (Value.int .i64 0)]
      ) fun o => ret (unblk 2 o)
    ) fun o => ret (unblk 1 o)
  ) fun o => nx o ref20_Flows_k3
def ref20_Flows_l5 (vs_3 : List V) : M Out :=
  bnd (
  bnd (lift (bin .lss (at_ vs_3 3) (Value.int .i64 8))) fun x26 =>
  condM x26 (
    ret (.nxt [(at_ vs_3 0), (at_ vs_3 1), (at_ vs_3 2), (at_ vs_3 3)])
    ) (
    ret (.brk 0 [(at_ vs_3 2)])
    )
  ) fun o => nx o ref20_Flows_k4
def ref20_Flows_k6 (vs_12 : List V) : M Out :=
  bnd (lift (bin .add (at_ vs_12 2) (Value.int .i64 1))) fun x64 =>
  ret (.nxt [(at_ vs_12 0), (at_ vs_12 1), x64])
def ref20_Flows_k7 (vs_11 : List V) : M Out :=
  bnd (
  bnd (
    bnd (lift (iaddrS 1 (at_ vs_11 0) (at_ vs_11 2))) fun x67 =>
    bnd (ld1 x67) fun x68 =>
    condM x68 (
      bnd (bslc 1 1 (rep 1 [Value.int .i64 0]) [(0, 1, (at_ vs_11 2))]) fun x71 =>
      bnd (appV 1 8 (at_ vs_11 1) x71) fun x72 =>
      ret (.nxt [(at_ vs_11 0), x72, (at_ vs_11 2)])
      ) (
      ret (.nxt [(at_ vs_11 0), (at_ vs_11 1), (at_ vs_11 2)])
      )
    ) fun o => ret (unblk 5 o)
  ) fun o => nx o ref20_Flows_k6
def ref20_Flows_l8 (vs_10 : List V) : M Out :=
  bnd (
  bnd (lift (lenSlc (at_ vs_10 0))) fun x61 =>
  bnd (lift (bin .lss (at_ vs_10 2) x61)) fun x62 =>
  condM x62 (
    ret (.nxt [(at_ vs_10 0), (at_ vs_10 1), (at_ vs_10 2)])
    ) (
    ret (.brk 4 [(at_ vs_10 1)])
    )
  ) fun o => nx o ref20_Flows_k7
def ref20_Flows_k9 (vs_13 : List V) : M Out :=
  ret (.ret [(at_ vs_13 0), (Value.int .i64 0)])
def ref20_Flows_k10 (vs_9 : List V) : M Out :=
  bnd (
    bnd (
      loopM FUEL ref20_Flows_l8 [(at_ vs_9 0), (Value.slice none 0 0), (Value.int .i64 0)]
      ) fun o => ret (unblk 4 o)
    ) fun o => nx o ref20_Flows_k9
def ref20_Flows_k11 (vs_2 : List V) : M Out :=
  bnd (mkslc 1 1 [Value.bool false] (Value.int .i64 8) (Value.int .i64 8)) fun x24 =>
  bnd (
    bnd (
      loopM FUEL ref20_Flows_l5 [(at_ vs_2 0), (at_ vs_2 1), x24, (Value.int .i64 0)]
      ) fun o => ret (unblk 0 o)
    ) fun o => nx o ref20_Flows_k10
def ref20_Flows_k12 (vs : List V) : M Out :=
  bnd (
    bnd (A_ref20_part [(at_ vs 1)]) fun x22 =>
    bnd (lift (un .not x22)) fun x23 =>
    condM x23 (
      ret (.ret [(Value.slice none 0 0), (Value.int .i64 1)])
      ) (
      ret (.nxt [(at_ vs 0), (at_ vs 1)])
      )
    ) fun o => nx o ref20_Flows_k11
def F_ref20_Flows (x0 x1 : V) : M V :=
  bnd (
    bnd (
      bnd (A_ref20_Check [x0]) fun x15 =>
      bnd (lift (ext 0 x15)) fun x16 =>
      bnd (lift (ext 1 x15)) fun x17 =>
      bnd (lift (bin .neq x17 (Value.int .i64 0))) fun x19 =>
      condM x19 (
        ret (.ret [(Value.slice none 0 0), x17])
        ) (
        ret (.nxt [x0, x1])
        )
      ) fun o => nx o ref20_Flows_k12
    ) fun o => finM o fun vs => ret (outV [(at_ vs 0), (at_ vs 1)])
def h_ref20_Flows : Hint := (.seq [] .leaf (.seq [0, 1] (.seq [] .leaf (.seq [] .leaf (.cond (.seq [] .leaf .leaf) .leaf))) (.seq [0, 1] (.seq [] .leaf (.cond (.seq [] .leaf .leaf) .leaf)) (.seq [] .leaf (.seq [8] (.seq [] .leaf (.blk (.loop [0, 1, 8, 9] (.seq [0, 1, 8, 9] (.seq [] .leaf (.cond .leaf .leaf)) (.seq [0, 1, 8, 9] (.blk (.seq [] .leaf (.blk (.loop [0, 1, 8, 9, 10] (.seq [0, 1, 8, 9, 10] (.seq [] .leaf (.cond .leaf .leaf)) (.seq [0, 1, 8, 9, 10] (.blk (.seq [] .leaf (.cond .leaf .leaf))) .leaf)))))) .leaf))))) (.seq [] .leaf (.seq [11] (.seq [] .leaf (.blk (.loop [8, 11, 12] (.seq [8, 11, 12] (.seq [] .leaf (.cond .leaf .leaf)) (.seq [8, 11, 12] (.blk (.seq [] .leaf (.cond .leaf .leaf))) .leaf))))) (.seq [] .leaf .leaf))))))))
def A_ref20_Flows (l : List V) : M V := match l with | [x0, x1] => F_ref20_Flows x0 x1 | _ => fail
theorem e_ref20_Flows (x0 x1 : V) : funM Try.prog (ovr [(fid_ref20_Check, A_ref20_Check), (fid_ref20_part, A_ref20_part)] noC) fid_ref20_Flows h_ref20_Flows [x0, x1] = F_ref20_Flows x0 x1 := by kernel_rfl
theorem K_ref20_Flows : Known Try.prog fid_ref20_Flows (A_ref20_Flows) := known_of (σ := ovr [(fid_ref20_Check, A_ref20_Check), (fid_ref20_part, A_ref20_part)] noC) (hint := h_ref20_Flows) (by kernel_rfl) (simAll_ovr K_ref20_Check (simAll_ovr K_ref20_part simAll_nil0)) fun l H r H' h => by
  unfold A_ref20_Flows at h; split at h
  · rw [e_ref20_Flows]; exact h
  · exact (fail_ne h).elim

/-! ### capstan/capstanbook.SameInts -/
def book_SameInts_k0 (vs_4 : List V) : M Out :=
  bnd (lift (bin .add (at_ vs_4 2) (Value.int .i64 1))) fun x16 =>
  ret (.nxt [(at_ vs_4 0), (at_ vs_4 1), x16])
def book_SameInts_k1 (vs_3 : List V) : M Out :=
  bnd (
  bnd (
    bnd (lift (iaddrS 1 (at_ vs_3 0) (at_ vs_3 2))) fun x19 =>
    bnd (lift (iaddrS 1 (at_ vs_3 1) (at_ vs_3 2))) fun x23 =>
    bnd (ld1 x19) fun x20 =>
    bnd (ld1 x23) fun x24 =>
    bnd (lift (bin .neq x20 x24)) fun x25 =>
    condM x25 (
      ret (.ret [(Value.bool false)])
      ) (
      ret (.nxt [(at_ vs_3 0), (at_ vs_3 1), (at_ vs_3 2)])
      )
    ) fun o => ret (unblk 1 o)
  ) fun o => nx o book_SameInts_k0
def book_SameInts_l2 (vs_2 : List V) : M Out :=
  bnd (
  bnd (lift (lenSlc (at_ vs_2 0))) fun x13 =>
  bnd (lift (bin .lss (at_ vs_2 2) x13)) fun x14 =>
  condM x14 (
    ret (.nxt [(at_ vs_2 0), (at_ vs_2 1), (at_ vs_2 2)])
    ) (
    ret (.brk 0 [])
    )
  ) fun o => nx o book_SameInts_k1
def book_SameInts_k3 (vs_5 : List V) : M Out :=
  ret (.ret [(Value.bool true)])
def book_SameInts_k4 (vs : List V) : M Out :=
  bnd (
    bnd (
      loopM FUEL book_SameInts_l2 [(at_ vs 0), (at_ vs 1), (Value.int .i64 0)]
      ) fun o => ret (unblk 0 o)
    ) fun o => nx o book_SameInts_k3
def F_book_SameInts (x0 x1 : V) : M V :=
  bnd (
    bnd (
      bnd (lift (lenSlc x0)) fun x7 =>
      bnd (lift (lenSlc x1)) fun x9 =>
      bnd (lift (bin .neq x7 x9)) fun x10 =>
      condM x10 (
        ret (.ret [(Value.bool false)])
        ) (
        ret (.nxt [x0, x1])
        )
      ) fun o => nx o book_SameInts_k4
    ) fun o => finM o fun vs => ret (outV [(at_ vs 0)])
def h_book_SameInts : Hint := (.seq [] .leaf (.seq [0, 1] (.seq [] .leaf (.cond (.seq [] .leaf .leaf) .leaf)) (.seq [] (.seq [] .leaf (.blk (.loop [0, 1, 5] (.seq [0, 1, 5] (.seq [] .leaf (.cond .leaf .leaf)) (.seq [0, 1, 5] (.blk (.seq [] (.reg [0, 1, 2, 4, 5, 6, 3, 7, 8] []) (.cond (.seq [] .leaf .leaf) .leaf))) .leaf))))) (.seq [] .leaf .leaf))))
def A_book_SameInts (l : List V) : M V := match l with | [x0, x1] => F_book_SameInts x0 x1 | _ => fail
theorem e_book_SameInts (x0 x1 : V) : funM Try.prog (ovr [] noC) fid_book_SameInts h_book_SameInts [x0, x1] = F_book_SameInts x0 x1 := by kernel_rfl
theorem K_book_SameInts : Known Try.prog fid_book_SameInts (A_book_SameInts) := known_of (σ := ovr [] noC) (hint := h_book_SameInts) (by kernel_rfl) simAll_nil0 fun l H r H' h => by
  unfold A_book_SameInts at h; split at h
  · rw [e_book_SameInts]; exact h
  · exact (fail_ne h).elim

end Go.AM.Cap
