import Derived.Test.YtcmimkacafphkaaGreatDoorAmOwnF
import Derived.Test.YtcmimkacafphkaaGreatDoorProg
set_option linter.all false
/- Printed by amprint2.py: functions of YtcmimkacafphkaaGreatDoor on the abstract machine. -/
set_option linter.unusedVariables false
set_option maxRecDepth 100000
namespace Go.AM.Cap
open Go.AM Go.Proofs

def gid_code_opNames : Nat := 0
def gid_unicode_utf8_first : Nat := 6
def gid_unicode_utf8_acceptRanges : Nat := 7
def fid_law13_CodeBack : Nat := 8
def fid_code_Show : Nat := 9
def fid_law13_works : Nat := 11
def fid_code_Check : Nat := 12
def fid_code_Encode : Nat := 15
def fid_book_SameImage : Nat := 18
def fid_code_Decode : Nat := 19
def fid_strings_Join : Nat := 21
def fid_strconv_Itoa : Nat := 22
def fid_strconv_FormatInt : Nat := 23
def fid_code_sound : Nat := 25
def fid_code_rules : Nat := 26
def fid_slices_IndexFunc_S_api_Instr_api_Instr : Nat := 27
def fid_code_Check_1 : Nat := 28
def fid_code_may : Nat := 29
def fid_code_numbers_int : Nat := 34
def fid_code_numbers_int64 : Nat := 35
def fid_wire_Encode : Nat := 36
def fid_book_SameInts : Nat := 39
def fid_book_SameNums : Nat := 40
def fid_wire_Decode : Nat := 41
def fid_code_reader_take : Nat := 42
def fid_code_reader_many : Nat := 43
def fid_code_reader_list : Nat := 44
def fid_code_unsigned : Nat := 45
def fid_slices_Concat_S_int_int : Nat := 57
def fid_expr_Name : Nat := 58
def fid_num_Fits : Nat := 59
def fid_code_rules_1 : Nat := 60
def fid_code_cells : Nat := 61
def fid_code_rules_2 : Nat := 62
def fid_slices_ContainsFunc_S_int_int : Nat := 63
def fid_code_rules_2_1 : Nat := 64
def fid_code_rules_3 : Nat := 65
def fid_code_rules_4 : Nat := 66
def fid_code_rules_5 : Nat := 67
def fid_num_Two : Nat := 68
def fid_code_rules_6 : Nat := 69
def fid_num_One : Nat := 70
def fid_code_rules_7 : Nat := 71
def fid_num_Convert : Nat := 72
def fid_code_rules_8 : Nat := 73
def fid_typed_Fields : Nat := 74
def fid_slices_EqualFunc_S_int_S_typed_Field_int_typed_Field : Nat := 75
def fid_code_rules_8_1 : Nat := 76
def fid_code_rules_9 : Nat := 77
def fid_wire_list : Nat := 88
def fid_wire_fault : Nat := 89
def fid_slices_Grow_S_int_int : Nat := 99
def fid_expr_word : Nat := 100
def fid_strings_Contains : Nat := 101
def fid_num_known : Nat := 102
def fid_num_wrap : Nat := 103
def fid_slices_IndexFunc_S_int_int : Nat := 104
def fid_num_does : Nat := 105
def fid_typed_in : Nat := 106
def fid_typed_out : Nat := 107
def fid_wire_bad : Nat := 110
def fid_wire_unsigned : Nat := 111
def fid_wire_item : Nat := 112
def fid_errors_As : Nat := 113
def fid_strings_Trim : Nat := 121
def fid_num_find : Nat := 123
def fid_num_op_has : Nat := 124
def fid_strings_trimLeftByte : Nat := 131
def fid_strings_trimRightByte : Nat := 132
def fid_strings_makeASCIISet : Nat := 133
def fid_strings_trimLeftASCII : Nat := 134
def fid_strings_trimRightASCII : Nat := 135
def fid_strings_trimLeftUnicode : Nat := 136
def fid_strings_trimRightUnicode : Nat := 137
def fid_num_find_1 : Nat := 139
def fid_num_find_2 : Nat := 140
def fid_num_find_3 : Nat := 141
def fid_num_find_4 : Nat := 142
def fid_num_find_5 : Nat := 143
def fid_num_find_6 : Nat := 144
def fid_num_find_7 : Nat := 145
def fid_num_find_8 : Nat := 146
def fid_num_find_9 : Nat := 147
def fid_num_flag : Nat := 148
def fid_num_find_10 : Nat := 149
def fid_num_find_11 : Nat := 150
def fid_num_find_12 : Nat := 151
def fid_num_find_13 : Nat := 152
def fid_num_find_14 : Nat := 153
def fid_num_find_15 : Nat := 154
def fid_num_find_16 : Nat := 155
def fid_strings_asciiSet_contains : Nat := 159
def fid_unicode_utf8_DecodeRuneInString : Nat := 160
def fid_strings_ContainsRune : Nat := 161
def fid_unicode_utf8_DecodeLastRuneInString : Nat := 162
def fid_unicode_utf8_decodeRuneInStringSlow : Nat := 167
def fid_strings_IndexRune : Nat := 168
def fid_unicode_utf8_RuneStart : Nat := 169
def tid_string : Nat := 9
def tid_wire_broken : Nat := 147
def tid_p_wire_broken : Nat := 149

/-! ### slices.Grow[[]int,int] -/
def slices_Grow_S_int_int_k0 (vs_2 : List V) : M Out :=
  ret (.ret [(at_ vs_2 0)])
def slices_Grow_S_int_int_k1 (vs : List V) : M Out :=
  bnd (
    bnd (lift (capV (at_ vs 0))) fun x10 =>
    bnd (lift (lenSlc (at_ vs 0))) fun x12 =>
    bnd (lift (bin .sub x10 x12)) fun x13 =>
    bnd (lift (bin .sub (at_ vs 1) x13)) fun x14 =>
    bnd (lift (bin .gtr x14 (Value.int .i64 0))) fun x16 =>
    condM x16 (
      bnd (lift (capV (at_ vs 0))) fun x19 =>
      bnd (lift (subV 1 (at_ vs 0) none (some x19))) fun x20 =>
      bnd (appZ 1 8 [Value.int .i64 0] x20 x14) fun x22 =>
      bnd (lift (lenSlc (at_ vs 0))) fun x24 =>
      bnd (lift (subV 1 x22 none (some x24))) fun x25 =>
      ret (.nxt [x25])
      ) (
      ret (.nxt [(at_ vs 0)])
      )
    ) fun o => nx o slices_Grow_S_int_int_k0
def F_slices_Grow_S_int_int (x0 x1 : V) : M V :=
  bnd (
    bnd (
      bnd (lift (bin .lss x1 (Value.int .i64 0))) fun x6 =>
      condM x6 (
        bnd (lift (some (Value.iface tid_string (Value.string ⟨#[99, 97, 110, 110, 111, 116, 32, 98, 101, 32, 110, 101, 103, 97, 116, 105, 118, 101]⟩)))) fun x7 =>
        bnd (lift ((none : Option V))) fun _ =>
        ret (.nxt [x0, x1])
        ) (
        ret (.nxt [x0, x1])
        )
      ) fun o => nx o slices_Grow_S_int_int_k1
    ) fun o => finM o fun vs => ret (outV [(at_ vs 0)])
def h_slices_Grow_S_int_int : Hint := (.seq [] .leaf (.seq [0, 1] (.seq [] .leaf (.cond .leaf .leaf)) (.seq [0] (.seq [] .leaf (.seq [] .leaf (.cond .leaf .leaf))) (.seq [] .leaf .leaf))))
def A_slices_Grow_S_int_int (l : List V) : M V := match l with | [x0, x1] => F_slices_Grow_S_int_int x0 x1 | _ => fail
theorem e_slices_Grow_S_int_int (x0 x1 : V) : funM Tryz.prog (ovr [] noC) fid_slices_Grow_S_int_int h_slices_Grow_S_int_int [x0, x1] = F_slices_Grow_S_int_int x0 x1 := by kernel_rfl
theorem K_slices_Grow_S_int_int : Known Tryz.prog fid_slices_Grow_S_int_int (A_slices_Grow_S_int_int) := known_of (σ := ovr [] noC) (hint := h_slices_Grow_S_int_int) (by kernel_rfl) simAll_nil0 fun l H r H' h => by
  unfold A_slices_Grow_S_int_int at h; split at h
  · rw [e_slices_Grow_S_int_int]; exact h
  · exact (fail_ne h).elim

/-! ### slices.Concat[[]int,int] -/
def slices_Concat_S_int_int_k0 (vs_3 : List V) : M Out :=
  bnd (lift (bin .add (at_ vs_3 4) (Value.int .i64 1))) fun x22 =>
  ret (.nxt [(at_ vs_3 0), (at_ vs_3 1), (at_ vs_3 2), (at_ vs_3 3), x22])
def slices_Concat_S_int_int_k1 (vs_2 : List V) : M Out :=
  bnd (
  bnd (
    bnd (lift (iaddrS 1 (at_ vs_2 2) (at_ vs_2 4))) fun x13 =>
    bnd (ld1 x13) fun x14 =>
    bnd (lift (lenSlc x14)) fun x17 =>
    bnd (lift (bin .add (at_ vs_2 1) x17)) fun x18 =>
    bnd (lift (bin .lss x18 (Value.int .i64 0))) fun x20 =>
    condM x20 (
      bnd (lift (some (Value.iface tid_string (Value.string ⟨#[108, 101, 110, 32, 111, 117, 116, 32, 111, 102, 32, 114, 97, 110, 103, 101]⟩)))) fun x21 =>
      bnd (lift ((none : Option V))) fun _ =>
      ret (.nxt [(at_ vs_2 0), x18, (at_ vs_2 2), (at_ vs_2 3), (at_ vs_2 4)])
      ) (
      ret (.nxt [(at_ vs_2 0), x18, (at_ vs_2 2), (at_ vs_2 3), (at_ vs_2 4)])
      )
    ) fun o => ret (unblk 1 o)
  ) fun o => nx o slices_Concat_S_int_int_k0
def slices_Concat_S_int_int_l2 (vs : List V) : M Out :=
  bnd (lift (bin .lss (at_ vs 4) (at_ vs 3))) fun x12 =>
  bnd (
  condM x12 (
    ret (.nxt [(at_ vs 0), (at_ vs 1), (at_ vs 2), (at_ vs 3), (at_ vs 4)])
    ) (
    ret (.brk 0 [(at_ vs 0), (at_ vs 1)])
    )
  ) fun o => nx o slices_Concat_S_int_int_k1
def slices_Concat_S_int_int_k3 (vs_7 : List V) : M Out :=
  bnd (lift (bin .add (at_ vs_7 3) (Value.int .i64 1))) fun x34 =>
  ret (.nxt [(at_ vs_7 0), (at_ vs_7 1), (at_ vs_7 2), x34])
def slices_Concat_S_int_int_k4 (vs_6 : List V) : M Out :=
  bnd (
  bnd (
    bnd (lift (iaddrS 1 (at_ vs_6 1) (at_ vs_6 3))) fun x29 =>
    bnd (ld1 x29) fun x30 =>
    bnd (appV 1 8 (at_ vs_6 0) x30) fun x33 =>
    ret (.nxt [x33, (at_ vs_6 1), (at_ vs_6 2), (at_ vs_6 3)])
    ) fun o => ret (unblk 3 o)
  ) fun o => nx o slices_Concat_S_int_int_k3
def slices_Concat_S_int_int_l5 (vs_5 : List V) : M Out :=
  bnd (lift (bin .lss (at_ vs_5 3) (at_ vs_5 2))) fun x28 =>
  bnd (
  condM x28 (
    ret (.nxt [(at_ vs_5 0), (at_ vs_5 1), (at_ vs_5 2), (at_ vs_5 3)])
    ) (
    ret (.brk 2 [(at_ vs_5 0)])
    )
  ) fun o => nx o slices_Concat_S_int_int_k4
def slices_Concat_S_int_int_k6 (vs_8 : List V) : M Out :=
  ret (.ret [(at_ vs_8 0)])
def slices_Concat_S_int_int_k7 (vs_4 : List V) : M Out :=
  bnd (A_slices_Grow_S_int_int [(Value.slice none 0 0), (at_ vs_4 1)]) fun x24 =>
  bnd (
    bnd (lift (lenSlc (at_ vs_4 0))) fun x26 =>
    bnd (
      loopM FUEL slices_Concat_S_int_int_l5 [x24, (at_ vs_4 0), x26, (Value.int .i64 0)]
      ) fun o => ret (unblk 2 o)
    ) fun o => nx o slices_Concat_S_int_int_k6
def F_slices_Concat_S_int_int (x0 : V) : M V :=
  bnd (
    bnd (
      bnd (lift (lenSlc x0)) fun x10 =>
      bnd (
        loopM FUEL slices_Concat_S_int_int_l2 [x0, (Value.int .i64 0), x0, x10, (Value.int .i64 0)]
        ) fun o => ret (unblk 0 o)
      ) fun o => nx o slices_Concat_S_int_int_k7
    ) fun o => finM o fun vs => ret (outV [(at_ vs 0)])
def h_slices_Concat_S_int_int : Hint := (.seq [] .leaf (.seq [] .leaf (.seq [0, 3] (.seq [] .leaf (.blk (.loop [0, 3, 9, 10, 11] (.seq [] .leaf (.seq [0, 3, 9, 10, 11] (.cond .leaf .leaf) (.seq [0, 3, 9, 10, 11] (.blk (.seq [] .leaf (.seq [] .leaf (.seq [] .leaf (.cond .leaf .leaf))))) .leaf)))))) (.seq [] .leaf (.seq [6] (.seq [] .leaf (.blk (.loop [6, 25, 26, 27] (.seq [] .leaf (.seq [6, 25, 26, 27] (.cond .leaf .leaf) (.seq [6, 25, 26, 27] (.blk (.seq [] .leaf .leaf)) .leaf)))))) (.seq [] .leaf .leaf))))))
def A_slices_Concat_S_int_int (l : List V) : M V := match l with | [x0] => F_slices_Concat_S_int_int x0 | _ => fail
def s_slices_Concat_S_int_int : Calls' := ovr [(fid_slices_Grow_S_int_int, A_slices_Grow_S_int_int)] noC
theorem e_slices_Concat_S_int_int (x0 : V) : funM Tryz.prog (s_slices_Concat_S_int_int) fid_slices_Concat_S_int_int h_slices_Concat_S_int_int [x0] = F_slices_Concat_S_int_int x0 := by kernel_rfl
theorem K_slices_Concat_S_int_int : Known Tryz.prog fid_slices_Concat_S_int_int (A_slices_Concat_S_int_int) := known_of (σ := s_slices_Concat_S_int_int) (hint := h_slices_Concat_S_int_int) (by kernel_rfl) (simAll_ovr K_slices_Grow_S_int_int simAll_nil0) fun l H r H' h => by
  unfold A_slices_Concat_S_int_int at h; split at h
  · rw [e_slices_Concat_S_int_int]; exact h
  · exact (fail_ne h).elim

/-! ### strings.trimRightByte -/
def strings_trimRightByte_k0 (vs_2 : List V) : M Out :=
  bnd (
  bnd (lift (lenStr (at_ vs_2 0))) fun x19 =>
  bnd (lift (bin .sub x19 (Value.int .i64 1))) fun x20 =>
  bnd (lift (subS (at_ vs_2 0) none (some x20))) fun x21 =>
  ret (.nxt [x21, (at_ vs_2 1)])
  ) fun o => ret (unblk 1 o)
def strings_trimRightByte_l1 (vs : List V) : M Out :=
  bnd (
  bnd (lift (lenStr (at_ vs 0))) fun x6 =>
  bnd (lift (bin .gtr x6 (Value.int .i64 0))) fun x7 =>
  bnd (gd x7 true (lift (some (at_ vs 0)))) fun x9 =>
  bnd (gd x7 true (lift (some (at_ vs 0)))) fun x10 =>
  bnd (gd x7 true (lift (lenStr x10))) fun x11 =>
  bnd (gd x7 true (lift (bin .sub x11 (Value.int .i64 1)))) fun x12 =>
  bnd (gd x7 true (lift (idxS x9 x12))) fun x13 =>
  bnd (gd x7 true (lift (some (at_ vs 1)))) fun x14 =>
  bnd (gd x7 true (lift (bin .eql x13 x14))) fun x15 =>
  bnd (lift (pickV x7 x15 (Value.bool false))) fun x16 =>
  condM x16 (
    ret (.nxt [(at_ vs 0), (at_ vs 1)])
    ) (
    ret (.brk 0 [(at_ vs 0)])
    )
  ) fun o => nx o strings_trimRightByte_k0
def strings_trimRightByte_k2 (vs_3 : List V) : M Out :=
  ret (.ret [(at_ vs_3 0)])
def F_strings_trimRightByte (x0 x1 : V) : M V :=
  bnd (
    bnd (
      bnd (
        loopM FUEL strings_trimRightByte_l1 [x0, x1]
        ) fun o => ret (unblk 0 o)
      ) fun o => nx o strings_trimRightByte_k2
    ) fun o => finM o fun vs => ret (outV [(at_ vs 0)])
def h_strings_trimRightByte : Hint := (.seq [] .leaf (.seq [0] (.blk (.loop [0, 1] (.seq [0, 1] (.seq [] .leaf (.cond .leaf .leaf)) (.blk .leaf)))) (.seq [] .leaf .leaf)))
def A_strings_trimRightByte (l : List V) : M V := match l with | [x0, x1] => F_strings_trimRightByte x0 x1 | _ => fail
theorem e_strings_trimRightByte (x0 x1 : V) : funM Tryz.prog (ovr [] noC) fid_strings_trimRightByte h_strings_trimRightByte [x0, x1] = F_strings_trimRightByte x0 x1 := by kernel_rfl
theorem K_strings_trimRightByte : Known Tryz.prog fid_strings_trimRightByte (A_strings_trimRightByte) := known_of (σ := ovr [] noC) (hint := h_strings_trimRightByte) (by kernel_rfl) simAll_nil0 fun l H r H' h => by
  unfold A_strings_trimRightByte at h; split at h
  · rw [e_strings_trimRightByte]; exact h
  · exact (fail_ne h).elim

/-! ### strings.trimLeftByte -/
def strings_trimLeftByte_k0 (vs_2 : List V) : M Out :=
  bnd (
  bnd (lift (subS (at_ vs_2 0) (some (Value.int .i64 1)) none)) fun x15 =>
  ret (.nxt [x15, (at_ vs_2 1)])
  ) fun o => ret (unblk 1 o)
def strings_trimLeftByte_l1 (vs : List V) : M Out :=
  bnd (
  bnd (lift (lenStr (at_ vs 0))) fun x6 =>
  bnd (lift (bin .gtr x6 (Value.int .i64 0))) fun x7 =>
  bnd (gd x7 true (lift (some (at_ vs 0)))) fun x9 =>
  bnd (gd x7 true (lift (idxS x9 (Value.int .i64 0)))) fun x10 =>
  bnd (gd x7 true (lift (some (at_ vs 1)))) fun x11 =>
  bnd (gd x7 true (lift (bin .eql x10 x11))) fun x12 =>
  bnd (lift (pickV x7 x12 (Value.bool false))) fun x13 =>
  condM x13 (
    ret (.nxt [(at_ vs 0), (at_ vs 1)])
    ) (
    ret (.brk 0 [(at_ vs 0)])
    )
  ) fun o => nx o strings_trimLeftByte_k0
def strings_trimLeftByte_k2 (vs_3 : List V) : M Out :=
  ret (.ret [(at_ vs_3 0)])
def F_strings_trimLeftByte (x0 x1 : V) : M V :=
  bnd (
    bnd (
      bnd (
        loopM FUEL strings_trimLeftByte_l1 [x0, x1]
        ) fun o => ret (unblk 0 o)
      ) fun o => nx o strings_trimLeftByte_k2
    ) fun o => finM o fun vs => ret (outV [(at_ vs 0)])
def h_strings_trimLeftByte : Hint := (.seq [] .leaf (.seq [0] (.blk (.loop [0, 1] (.seq [0, 1] (.seq [] .leaf (.cond .leaf .leaf)) (.blk .leaf)))) (.seq [] .leaf .leaf)))
def A_strings_trimLeftByte (l : List V) : M V := match l with | [x0, x1] => F_strings_trimLeftByte x0 x1 | _ => fail
theorem e_strings_trimLeftByte (x0 x1 : V) : funM Tryz.prog (ovr [] noC) fid_strings_trimLeftByte h_strings_trimLeftByte [x0, x1] = F_strings_trimLeftByte x0 x1 := by kernel_rfl
theorem K_strings_trimLeftByte : Known Tryz.prog fid_strings_trimLeftByte (A_strings_trimLeftByte) := known_of (σ := ovr [] noC) (hint := h_strings_trimLeftByte) (by kernel_rfl) simAll_nil0 fun l H r H' h => by
  unfold A_strings_trimLeftByte at h; split at h
  · rw [e_strings_trimLeftByte]; exact h
  · exact (fail_ne h).elim

/-! ### strings.makeASCIISet -/
def strings_makeASCIISet_k0 (vs_3 : List V) : M Out :=
    bnd (lift (iaddrA 256 1 (at_ vs_3 1) (at_ vs_3 3))) fun x19 =>
    bnd (st1 x19 (Value.bool true)) fun _ =>
    ret (.nxt [(at_ vs_3 0), (at_ vs_3 1), (at_ vs_3 2)])
def strings_makeASCIISet_k1 (vs_4 : List V) : M Out :=
  bnd (lift (bin .add (at_ vs_4 2) (Value.int .i64 1))) fun x11 =>
  ret (.nxt [(at_ vs_4 0), (at_ vs_4 1), x11])
def strings_makeASCIISet_k2 (vs_2 : List V) : M Out :=
  bnd (
  bnd (
    bnd (lift (idxS (at_ vs_2 0) (at_ vs_2 2))) fun x14 =>
    bnd (
      bnd (lift (bin .geq x14 (Value.int .u8 128))) fun x16 =>
      condM x16 (
        bnd (ldn 256 (at_ vs_2 1)) fun x17 =>
        bnd (stn 256 (at_ vs_2 1) x17) fun _ =>
        ret (.ret [(at_ vs_2 1), (Value.bool false)])
        ) (
        ret (.nxt [(at_ vs_2 0), (at_ vs_2 1), (at_ vs_2 2), x14])
        )
      ) fun o => nx o strings_makeASCIISet_k0
    ) fun o => ret (unblk 1 o)
  ) fun o => nx o strings_makeASCIISet_k1
def strings_makeASCIISet_l3 (vs : List V) : M Out :=
  bnd (
  bnd (lift (lenStr (at_ vs 0))) fun x8 =>
  bnd (lift (bin .lss (at_ vs 2) x8)) fun x9 =>
  condM x9 (
    ret (.nxt [(at_ vs 0), (at_ vs 1), (at_ vs 2)])
    ) (
    ret (.brk 0 [(at_ vs 1)])
    )
  ) fun o => nx o strings_makeASCIISet_k2
def strings_makeASCIISet_k4 (vs_5 : List V) : M Out :=
  bnd (ldn 256 (at_ vs_5 0)) fun x20 =>
  bnd (stn 256 (at_ vs_5 0) x20) fun _ =>
  ret (.ret [(at_ vs_5 0), (Value.bool true)])
def F_strings_makeASCIISet (x0 : V) : M V :=
  bnd (
    bnd (newc (List.replicate 256 (Value.bool false))) fun x2 =>
    bnd (
      bnd (
        loopM FUEL strings_makeASCIISet_l3 [x0, x2, (Value.int .i64 0)]
        ) fun o => ret (unblk 0 o)
      ) fun o => nx o strings_makeASCIISet_k4
    ) fun o => finM o fun vs => bnd (ldn 256 (at_ vs 0)) fun r0 => ret (outV [r0, (at_ vs 1)])
def h_strings_makeASCIISet : Hint := (.seq [] .leaf (.seq [2] (.seq [] .leaf (.blk (.loop [0, 2, 4] (.seq [0, 2, 4] (.seq [] .leaf (.cond .leaf .leaf)) (.seq [0, 2, 4] (.blk (.seq [] .leaf (.seq [0, 2, 4, 5] (.seq [] .leaf (.cond (.seq [] .leaf .leaf) .leaf)) .leaf))) .leaf))))) (.seq [] .leaf .leaf)))
def A_strings_makeASCIISet (l : List V) : M V := match l with | [x0] => F_strings_makeASCIISet x0 | _ => fail
theorem e_strings_makeASCIISet (x0 : V) : funM Tryz.prog (ovr [] noC) fid_strings_makeASCIISet h_strings_makeASCIISet [x0] = F_strings_makeASCIISet x0 := by kernel_rfl
theorem K_strings_makeASCIISet : Known Tryz.prog fid_strings_makeASCIISet (A_strings_makeASCIISet) := known_of (σ := ovr [] noC) (hint := h_strings_makeASCIISet) (by kernel_rfl) simAll_nil0 fun l H r H' h => by
  unfold A_strings_makeASCIISet at h; split at h
  · rw [e_strings_makeASCIISet]; exact h
  · exact (fail_ne h).elim

/-! ### (*strings.asciiSet).contains -/
def F_strings_asciiSet_contains (x0 x1 : V) : M V :=
  bnd (
    bnd (lift (nilck x0)) fun x7 =>
    bnd (lift (iaddrA 256 1 x7 x1)) fun x8 =>
    bnd (ld1 x8) fun x9 =>
    ret (.ret [x9])
    ) fun o => finM o fun vs => ret (outV [(at_ vs 0)])
def h_strings_asciiSet_contains : Hint := (.seq [] .leaf (.seq [] .leaf .leaf))
def A_strings_asciiSet_contains (l : List V) : M V := match l with | [x0, x1] => F_strings_asciiSet_contains x0 x1 | _ => fail
theorem e_strings_asciiSet_contains (x0 x1 : V) : funM Tryz.prog (ovr [] noC) fid_strings_asciiSet_contains h_strings_asciiSet_contains [x0, x1] = F_strings_asciiSet_contains x0 x1 := by kernel_rfl
theorem K_strings_asciiSet_contains : Known Tryz.prog fid_strings_asciiSet_contains (A_strings_asciiSet_contains) := known_of (σ := ovr [] noC) (hint := h_strings_asciiSet_contains) (by kernel_rfl) simAll_nil0 fun l H r H' h => by
  unfold A_strings_asciiSet_contains at h; split at h
  · rw [e_strings_asciiSet_contains]; exact h
  · exact (fail_ne h).elim

/-! ### strings.trimRightASCII -/
def strings_trimRightASCII_k0 (vs_3 : List V) : M Out :=
  bnd (lift (lenStr (at_ vs_3 0))) fun x18 =>
  bnd (lift (bin .sub x18 (Value.int .i64 1))) fun x19 =>
  bnd (lift (subS (at_ vs_3 0) none (some x19))) fun x20 =>
  ret (.nxt [x20, (at_ vs_3 1)])
def strings_trimRightASCII_k1 (vs_2 : List V) : M Out :=
  bnd (
  bnd (
    bnd (lift (lenStr (at_ vs_2 0))) fun x11 =>
    bnd (lift (bin .sub x11 (Value.int .i64 1))) fun x12 =>
    bnd (lift (idxS (at_ vs_2 0) x12)) fun x13 =>
    bnd (A_strings_asciiSet_contains [(at_ vs_2 1), x13]) fun x14 =>
    bnd (lift (un .not x14)) fun x15 =>
    condM x15 (
      ret (.brk 0 [(at_ vs_2 0)])
      ) (
      ret (.nxt [(at_ vs_2 0), (at_ vs_2 1)])
      )
    ) fun o => nx o strings_trimRightASCII_k0
  ) fun o => ret (unblk 1 o)
def strings_trimRightASCII_l2 (vs : List V) : M Out :=
  bnd (
  bnd (lift (lenStr (at_ vs 0))) fun x6 =>
  bnd (lift (bin .gtr x6 (Value.int .i64 0))) fun x7 =>
  condM x7 (
    ret (.nxt [(at_ vs 0), (at_ vs 1)])
    ) (
    ret (.brk 0 [(at_ vs 0)])
    )
  ) fun o => nx o strings_trimRightASCII_k1
def strings_trimRightASCII_k3 (vs_4 : List V) : M Out :=
  ret (.ret [(at_ vs_4 0)])
def F_strings_trimRightASCII (x0 x1 : V) : M V :=
  bnd (
    bnd (
      bnd (
        loopM FUEL strings_trimRightASCII_l2 [x0, x1]
        ) fun o => ret (unblk 0 o)
      ) fun o => nx o strings_trimRightASCII_k3
    ) fun o => finM o fun vs => ret (outV [(at_ vs 0)])
def h_strings_trimRightASCII : Hint := (.seq [] .leaf (.seq [0] (.blk (.loop [0, 1] (.seq [0, 1] (.seq [] .leaf (.cond .leaf .leaf)) (.blk (.seq [0, 1] (.seq [] .leaf (.cond .leaf .leaf)) .leaf))))) (.seq [] .leaf .leaf)))
def A_strings_trimRightASCII (l : List V) : M V := match l with | [x0, x1] => F_strings_trimRightASCII x0 x1 | _ => fail
def s_strings_trimRightASCII : Calls' := ovr [(fid_strings_asciiSet_contains, A_strings_asciiSet_contains)] noC
theorem e_strings_trimRightASCII (x0 x1 : V) : funM Tryz.prog (s_strings_trimRightASCII) fid_strings_trimRightASCII h_strings_trimRightASCII [x0, x1] = F_strings_trimRightASCII x0 x1 := by kernel_rfl
theorem K_strings_trimRightASCII : Known Tryz.prog fid_strings_trimRightASCII (A_strings_trimRightASCII) := known_of (σ := s_strings_trimRightASCII) (hint := h_strings_trimRightASCII) (by kernel_rfl) (simAll_ovr K_strings_asciiSet_contains simAll_nil0) fun l H r H' h => by
  unfold A_strings_trimRightASCII at h; split at h
  · rw [e_strings_trimRightASCII]; exact h
  · exact (fail_ne h).elim

/-! ### strings.trimLeftASCII -/
def strings_trimLeftASCII_k0 (vs_3 : List V) : M Out :=
  bnd (lift (subS (at_ vs_3 0) (some (Value.int .i64 1)) none)) fun x14 =>
  ret (.nxt [x14, (at_ vs_3 1)])
def strings_trimLeftASCII_k1 (vs_2 : List V) : M Out :=
  bnd (
  bnd (
    bnd (lift (idxS (at_ vs_2 0) (Value.int .i64 0))) fun x10 =>
    bnd (A_strings_asciiSet_contains [(at_ vs_2 1), x10]) fun x11 =>
    bnd (lift (un .not x11)) fun x12 =>
    condM x12 (
      ret (.brk 0 [(at_ vs_2 0)])
      ) (
      ret (.nxt [(at_ vs_2 0), (at_ vs_2 1)])
      )
    ) fun o => nx o strings_trimLeftASCII_k0
  ) fun o => ret (unblk 1 o)
def strings_trimLeftASCII_l2 (vs : List V) : M Out :=
  bnd (
  bnd (lift (lenStr (at_ vs 0))) fun x6 =>
  bnd (lift (bin .gtr x6 (Value.int .i64 0))) fun x7 =>
  condM x7 (
    ret (.nxt [(at_ vs 0), (at_ vs 1)])
    ) (
    ret (.brk 0 [(at_ vs 0)])
    )
  ) fun o => nx o strings_trimLeftASCII_k1
def strings_trimLeftASCII_k3 (vs_4 : List V) : M Out :=
  ret (.ret [(at_ vs_4 0)])
def F_strings_trimLeftASCII (x0 x1 : V) : M V :=
  bnd (
    bnd (
      bnd (
        loopM FUEL strings_trimLeftASCII_l2 [x0, x1]
        ) fun o => ret (unblk 0 o)
      ) fun o => nx o strings_trimLeftASCII_k3
    ) fun o => finM o fun vs => ret (outV [(at_ vs 0)])
def h_strings_trimLeftASCII : Hint := (.seq [] .leaf (.seq [0] (.blk (.loop [0, 1] (.seq [0, 1] (.seq [] .leaf (.cond .leaf .leaf)) (.blk (.seq [0, 1] (.seq [] .leaf (.cond .leaf .leaf)) .leaf))))) (.seq [] .leaf .leaf)))
def A_strings_trimLeftASCII (l : List V) : M V := match l with | [x0, x1] => F_strings_trimLeftASCII x0 x1 | _ => fail
def s_strings_trimLeftASCII : Calls' := ovr [(fid_strings_asciiSet_contains, A_strings_asciiSet_contains)] noC
theorem e_strings_trimLeftASCII (x0 x1 : V) : funM Tryz.prog (s_strings_trimLeftASCII) fid_strings_trimLeftASCII h_strings_trimLeftASCII [x0, x1] = F_strings_trimLeftASCII x0 x1 := by kernel_rfl
theorem K_strings_trimLeftASCII : Known Tryz.prog fid_strings_trimLeftASCII (A_strings_trimLeftASCII) := known_of (σ := s_strings_trimLeftASCII) (hint := h_strings_trimLeftASCII) (by kernel_rfl) (simAll_ovr K_strings_asciiSet_contains simAll_nil0) fun l H r H' h => by
  unfold A_strings_trimLeftASCII at h; split at h
  · rw [e_strings_trimLeftASCII]; exact h
  · exact (fail_ne h).elim

/-! ### unicode/utf8.RuneStart -/
def F_unicode_utf8_RuneStart (x0 : V) : M V :=
  bnd (
    bnd (lift (bin .and x0 (Value.int .u8 192))) fun x4 =>
    bnd (lift (bin .neq x4 (Value.int .u8 128))) fun x5 =>
    ret (.ret [x5])
    ) fun o => finM o fun vs => ret (outV [(at_ vs 0)])
def h_unicode_utf8_RuneStart : Hint := (.seq [] .leaf (.seq [] .leaf .leaf))
def A_unicode_utf8_RuneStart (l : List V) : M V := match l with | [x0] => F_unicode_utf8_RuneStart x0 | _ => fail
theorem e_unicode_utf8_RuneStart (x0 : V) : funM Tryz.prog (ovr [] noC) fid_unicode_utf8_RuneStart h_unicode_utf8_RuneStart [x0] = F_unicode_utf8_RuneStart x0 := by kernel_rfl
theorem K_unicode_utf8_RuneStart : Known Tryz.prog fid_unicode_utf8_RuneStart (A_unicode_utf8_RuneStart) := known_of (σ := ovr [] noC) (hint := h_unicode_utf8_RuneStart) (by kernel_rfl) simAll_nil0 fun l H r H' h => by
  unfold A_unicode_utf8_RuneStart at h; split at h
  · rw [e_unicode_utf8_RuneStart]; exact h
  · exact (fail_ne h).elim

/-! ### unicode/utf8.decodeRuneInStringSlow -/
def unicode_utf8_decodeRuneInStringSlow_k0 (vs_8 : List V) : M Out :=
  bnd (lift (bin .and (at_ vs_8 0) (Value.int .u8 7))) fun x100 =>
  bnd (lift (cvi .i32 x100)) fun x101 =>
  bnd (lift (bin .shl x101 (Value.int .u64 18))) fun x102 =>
  bnd (lift (bin .and (at_ vs_8 1) (Value.int .u8 63))) fun x104 =>
  bnd (lift (cvi .i32 x104)) fun x105 =>
  bnd (lift (bin .shl x105 (Value.int .u64 12))) fun x106 =>
  bnd (lift (bin .or x102 x106)) fun x107 =>
  bnd (lift (bin .and (at_ vs_8 2) (Value.int .u8 63))) fun x109 =>
  bnd (lift (cvi .i32 x109)) fun x110 =>
  bnd (lift (bin .shl x110 (Value.int .u64 6))) fun x111 =>
  bnd (lift (bin .or x107 x111)) fun x112 =>
  bnd (lift (bin .and (at_ vs_8 3) (Value.int .u8 63))) fun x114 =>
  bnd (lift (cvi .i32 x114)) fun x115 =>
  bnd (lift (bin .or x112 x115)) fun x116 =>
  ret (.ret [x116, (Value.int .i64 4)])
def unicode_utf8_decodeRuneInStringSlow_k1 (vs_7 : List V) : M Out :=
  bnd (lift (idxS (at_ vs_7 0) (Value.int .i64 3))) fun x92 =>
  bnd (
    bnd (lift (bin .lss x92 (Value.int .u8 128))) fun x94 =>
    bnd (gd x94 false (lift (some x92))) fun x96 =>
    bnd (gd x94 false (lift (bin .lss (Value.int .u8 191) x96))) fun x97 =>
    bnd (lift (pickV x94 (Value.bool true) x97)) fun x98 =>
    condM x98 (
      ret (.ret [(Value.int .i32 65533), (Value.int .i64 1)])
      ) (
      ret (.nxt [(at_ vs_7 1), (at_ vs_7 2), (at_ vs_7 3), x92])
      )
    ) fun o => nx o unicode_utf8_decodeRuneInStringSlow_k0
def unicode_utf8_decodeRuneInStringSlow_k2 (vs_6 : List V) : M Out :=
  bnd (
    bnd (lift (bin .leq (at_ vs_6 2) (Value.int .i64 3))) fun x77 =>
    condM x77 (
      bnd (lift (bin .and (at_ vs_6 1) (Value.int .u8 15))) fun x79 =>
      bnd (lift (cvi .i32 x79)) fun x80 =>
      bnd (lift (bin .shl x80 (Value.int .u64 12))) fun x81 =>
      bnd (lift (bin .and (at_ vs_6 3) (Value.int .u8 63))) fun x83 =>
      bnd (lift (cvi .i32 x83)) fun x84 =>
      bnd (lift (bin .shl x84 (Value.int .u64 6))) fun x85 =>
      bnd (lift (bin .or x81 x85)) fun x86 =>
      bnd (lift (bin .and (at_ vs_6 4) (Value.int .u8 63))) fun x88 =>
      bnd (lift (cvi .i32 x88)) fun x89 =>
      bnd (lift (bin .or x86 x89)) fun x90 =>
      ret (.ret [x90, (Value.int .i64 3)])
      ) (
      ret (.nxt [(at_ vs_6 0), (at_ vs_6 1), (at_ vs_6 3), (at_ vs_6 4)])
      )
    ) fun o => nx o unicode_utf8_decodeRuneInStringSlow_k1
def unicode_utf8_decodeRuneInStringSlow_k3 (vs_5 : List V) : M Out :=
  bnd (lift (idxS (at_ vs_5 0) (Value.int .i64 2))) fun x69 =>
  bnd (
    bnd (lift (bin .lss x69 (Value.int .u8 128))) fun x71 =>
    bnd (gd x71 false (lift (some x69))) fun x73 =>
    bnd (gd x71 false (lift (bin .lss (Value.int .u8 191) x73))) fun x74 =>
    bnd (lift (pickV x71 (Value.bool true) x74)) fun x75 =>
    condM x75 (
      ret (.ret [(Value.int .i32 65533), (Value.int .i64 1)])
      ) (
      ret (.nxt [(at_ vs_5 0), (at_ vs_5 1), (at_ vs_5 2), (at_ vs_5 3), x69])
      )
    ) fun o => nx o unicode_utf8_decodeRuneInStringSlow_k2
def unicode_utf8_decodeRuneInStringSlow_k4 (vs_4 : List V) : M Out :=
  bnd (
    bnd (lift (bin .leq (at_ vs_4 2) (Value.int .i64 2))) fun x59 =>
    condM x59 (
      bnd (lift (bin .and (at_ vs_4 1) (Value.int .u8 31))) fun x61 =>
      bnd (lift (cvi .i32 x61)) fun x62 =>
      bnd (lift (bin .shl x62 (Value.int .u64 6))) fun x63 =>
      bnd (lift (bin .and (at_ vs_4 3) (Value.int .u8 63))) fun x65 =>
      bnd (lift (cvi .i32 x65)) fun x66 =>
      bnd (lift (bin .or x63 x66)) fun x67 =>
      ret (.ret [x67, (Value.int .i64 2)])
      ) (
      ret (.nxt [(at_ vs_4 0), (at_ vs_4 1), (at_ vs_4 2), (at_ vs_4 3)])
      )
    ) fun o => nx o unicode_utf8_decodeRuneInStringSlow_k3
def unicode_utf8_decodeRuneInStringSlow_k5 (vs_3 : List V) : M Out :=
  bnd (lift (idxS (at_ vs_3 0) (Value.int .i64 1))) fun x47 =>
  bnd (
    bnd (lift (faddr 0 (at_ vs_3 3))) fun x49 =>
    bnd (ld1 x49) fun x50 =>
    bnd (lift (bin .lss x47 x50)) fun x51 =>
    bnd (gd x51 false (lift (faddr 1 (at_ vs_3 3)))) fun x53 =>
    bnd (gd x51 false (ld1 x53)) fun x54 =>
    bnd (gd x51 false (lift (some x47))) fun x55 =>
    bnd (gd x51 false (lift (bin .lss x54 x55))) fun x56 =>
    bnd (lift (pickV x51 (Value.bool true) x56)) fun x57 =>
    condM x57 (
      ret (.ret [(Value.int .i32 65533), (Value.int .i64 1)])
      ) (
      ret (.nxt [(at_ vs_3 0), (at_ vs_3 1), (at_ vs_3 2), x47])
      )
    ) fun o => nx o unicode_utf8_decodeRuneInStringSlow_k4
def unicode_utf8_decodeRuneInStringSlow_k6 (vs_2 : List V) : M Out :=
  bnd (lift (bin .and (at_ vs_2 3) (Value.int .u8 7))) fun x37 =>
  bnd (lift (cvi .i64 x37)) fun x38 =>
  bnd (lift (bin .shr (at_ vs_2 3) (Value.int .u64 4))) fun x40 =>
  bnd (lift (iaddrA 16 2 (ptr gid_unicode_utf8_acceptRanges 0) x40)) fun x41 =>
  bnd (ldn 2 x41) fun x42 =>
  bnd (newc [Value.int .u8 0, Value.int .u8 0]) fun x9 =>
  bnd (stn 2 x9 x42) fun _ =>
  bnd (
    bnd (lift (bin .lss (at_ vs_2 1) x38)) fun x45 =>
    condM x45 (
      ret (.ret [(Value.int .i32 65533), (Value.int .i64 1)])
      ) (
      ret (.nxt [(at_ vs_2 0), (at_ vs_2 2), x38, x9])
      )
    ) fun o => nx o unicode_utf8_decodeRuneInStringSlow_k5
def unicode_utf8_decodeRuneInStringSlow_k7 (vs : List V) : M Out :=
  bnd (lift (idxS (at_ vs 0) (Value.int .i64 0))) fun x18 =>
  bnd (lift (iaddrA 256 1 (ptr gid_unicode_utf8_first 0) x18)) fun x20 =>
  bnd (ld1 x20) fun x21 =>
  bnd (
    bnd (lift (bin .geq x21 (Value.int .u8 240))) fun x23 =>
    condM x23 (
      bnd (lift (cvi .i32 x21)) fun x25 =>
      bnd (lift (bin .shl x25 (Value.int .u64 31))) fun x26 =>
      bnd (lift (bin .shr x26 (Value.int .u64 31))) fun x27 =>
      bnd (lift (idxS (at_ vs 0) (Value.int .i64 0))) fun x29 =>
      bnd (lift (cvi .i32 x29)) fun x30 =>
      bnd (lift (bin .andNot x30 x27)) fun x32 =>
      bnd (lift (bin .and (Value.int .i32 65533) x27)) fun x34 =>
      bnd (lift (bin .or x32 x34)) fun x35 =>
      ret (.ret [x35, (Value.int .i64 1)])
      ) (
      ret (.nxt [(at_ vs 0), (at_ vs 1), x18, x21])
      )
    ) fun o => nx o unicode_utf8_decodeRuneInStringSlow_k6
def F_unicode_utf8_decodeRuneInStringSlow (x0 : V) : M V :=
  bnd (
    bnd (lift (lenStr x0)) fun x14 =>
    bnd (
      bnd (lift (bin .lss x14 (Value.int .i64 1))) fun x16 =>
      condM x16 (
        ret (.ret [(Value.int .i32 65533), (Value.int .i64 0)])
        ) (
        ret (.nxt [x0, x14])
        )
      ) fun o => nx o unicode_utf8_decodeRuneInStringSlow_k7
    ) fun o => finM o fun vs => ret (outV [(at_ vs 0), (at_ vs 1)])
def h_unicode_utf8_decodeRuneInStringSlow : Hint := (.seq [] .leaf (.seq [] .leaf (.seq [0, 4] (.seq [] .leaf (.cond (.seq [] .leaf .leaf) .leaf)) (.seq [] .leaf (.seq [] .leaf (.seq [0, 4, 5, 6] (.seq [] .leaf (.cond (.seq [] .leaf (.seq [] .leaf .leaf)) .leaf)) (.seq [] .leaf (.seq [] .leaf (.seq [0, 5, 8, 9] (.seq [] .leaf (.cond (.seq [] .leaf .leaf) .leaf)) (.seq [] .leaf (.seq [0, 5, 8, 10] (.seq [] .leaf (.cond (.seq [] .leaf .leaf) .leaf)) (.seq [0, 5, 8, 10] (.seq [] .leaf (.cond (.seq [] .leaf .leaf) .leaf)) (.seq [] .leaf (.seq [0, 5, 8, 10, 11] (.seq [] .leaf (.cond (.seq [] .leaf .leaf) .leaf)) (.seq [0, 5, 10, 11] (.seq [] .leaf (.cond (.seq [] .leaf .leaf) .leaf)) (.seq [] .leaf (.seq [5, 10, 11, 12] (.seq [] .leaf (.cond (.seq [] .leaf .leaf) .leaf)) (.seq [] .leaf .leaf))))))))))))))))))
def A_unicode_utf8_decodeRuneInStringSlow (l : List V) : M V := match l with | [x0] => F_unicode_utf8_decodeRuneInStringSlow x0 | _ => fail
theorem e_unicode_utf8_decodeRuneInStringSlow (x0 : V) : funM Tryz.prog (ovr [] noC) fid_unicode_utf8_decodeRuneInStringSlow h_unicode_utf8_decodeRuneInStringSlow [x0] = F_unicode_utf8_decodeRuneInStringSlow x0 := by kernel_rfl
theorem K_unicode_utf8_decodeRuneInStringSlow : Known Tryz.prog fid_unicode_utf8_decodeRuneInStringSlow (A_unicode_utf8_decodeRuneInStringSlow) := known_of (σ := ovr [] noC) (hint := h_unicode_utf8_decodeRuneInStringSlow) (by kernel_rfl) simAll_nil0 fun l H r H' h => by
  unfold A_unicode_utf8_decodeRuneInStringSlow at h; split at h
  · rw [e_unicode_utf8_decodeRuneInStringSlow]; exact h
  · exact (fail_ne h).elim

/-! ### unicode/utf8.DecodeRuneInString -/
def unicode_utf8_DecodeRuneInString_k0 (vs : List V) : M Out :=
  ret (.ret [(at_ vs 0), (at_ vs 1)])
def F_unicode_utf8_DecodeRuneInString (x0 : V) : M V :=
  bnd (
    bnd (
      bnd (lift (bin .neq x0 (Value.string ⟨#[]⟩))) fun x5 =>
      bnd (gd x5 true (lift (some x0))) fun x7 =>
      bnd (gd x5 true (lift (idxS x7 (Value.int .i64 0)))) fun x8 =>
      bnd (gd x5 true (lift (bin .lss x8 (Value.int .u8 128)))) fun x9 =>
      bnd (lift (pickV x5 x9 (Value.bool false))) fun x10 =>
      condM x10 (
        bnd (lift (idxS x0 (Value.int .i64 0))) fun x12 =>
        bnd (lift (cvi .i32 x12)) fun x13 =>
        ret (.ret [x13, (Value.int .i64 1)])
        ) (
        bnd (A_unicode_utf8_decodeRuneInStringSlow [x0]) fun x16 =>
        bnd (lift (ext 0 x16)) fun x17 =>
        bnd (lift (ext 1 x16)) fun x18 =>
        ret (.nxt [x17, x18])
        )
      ) fun o => nx o unicode_utf8_DecodeRuneInString_k0
    ) fun o => finM o fun vs => ret (outV [(at_ vs 0), (at_ vs 1)])
def h_unicode_utf8_DecodeRuneInString : Hint := (.seq [] .leaf (.seq [2, 3] (.seq [] .leaf (.cond (.seq [] .leaf .leaf) .leaf)) .leaf))
def A_unicode_utf8_DecodeRuneInString (l : List V) : M V := match l with | [x0] => F_unicode_utf8_DecodeRuneInString x0 | _ => fail
def s_unicode_utf8_DecodeRuneInString : Calls' := ovr [(fid_unicode_utf8_decodeRuneInStringSlow, A_unicode_utf8_decodeRuneInStringSlow)] noC
theorem e_unicode_utf8_DecodeRuneInString (x0 : V) : funM Tryz.prog (s_unicode_utf8_DecodeRuneInString) fid_unicode_utf8_DecodeRuneInString h_unicode_utf8_DecodeRuneInString [x0] = F_unicode_utf8_DecodeRuneInString x0 := by kernel_rfl
theorem K_unicode_utf8_DecodeRuneInString : Known Tryz.prog fid_unicode_utf8_DecodeRuneInString (A_unicode_utf8_DecodeRuneInString) := known_of (σ := s_unicode_utf8_DecodeRuneInString) (hint := h_unicode_utf8_DecodeRuneInString) (by kernel_rfl) (simAll_ovr K_unicode_utf8_decodeRuneInStringSlow simAll_nil0) fun l H r H' h => by
  unfold A_unicode_utf8_DecodeRuneInString at h; split at h
  · rw [e_unicode_utf8_DecodeRuneInString]; exact h
  · exact (fail_ne h).elim

/-! ### unicode/utf8.DecodeLastRuneInString -/
def unicode_utf8_DecodeLastRuneInString_k0 (vs_5 : List V) : M Out :=
  bnd (lift (bin .sub (at_ vs_5 2) (Value.int .i64 1))) fun x29 =>
  ret (.nxt [(at_ vs_5 0), (at_ vs_5 1), x29, (at_ vs_5 3)])
def unicode_utf8_DecodeLastRuneInString_k1 (vs_4 : List V) : M Out :=
  bnd (
  bnd (
    bnd (lift (idxS (at_ vs_4 0) (at_ vs_4 2))) fun x32 =>
    bnd (A_unicode_utf8_RuneStart [x32]) fun x33 =>
    condM x33 (
      ret (.brk 0 [(at_ vs_4 0), (at_ vs_4 1), (at_ vs_4 2)])
      ) (
      ret (.nxt [(at_ vs_4 0), (at_ vs_4 1), (at_ vs_4 2), (at_ vs_4 3)])
      )
    ) fun o => ret (unblk 1 o)
  ) fun o => nx o unicode_utf8_DecodeLastRuneInString_k0
def unicode_utf8_DecodeLastRuneInString_l2 (vs_3 : List V) : M Out :=
  bnd (
  bnd (lift (bin .geq (at_ vs_3 2) (at_ vs_3 3))) fun x27 =>
  condM x27 (
    ret (.nxt [(at_ vs_3 0), (at_ vs_3 1), (at_ vs_3 2), (at_ vs_3 3)])
    ) (
    ret (.brk 0 [(at_ vs_3 0), (at_ vs_3 1), (at_ vs_3 2)])
    )
  ) fun o => nx o unicode_utf8_DecodeLastRuneInString_k1
def unicode_utf8_DecodeLastRuneInString_k3 (vs_8 : List V) : M Out :=
  ret (.ret [(at_ vs_8 0), (at_ vs_8 1)])
def unicode_utf8_DecodeLastRuneInString_k4 (vs_7 : List V) : M Out :=
  bnd (lift (subS (at_ vs_7 0) (some (at_ vs_7 2)) (some (at_ vs_7 1)))) fun x40 =>
  bnd (A_unicode_utf8_DecodeRuneInString [x40]) fun x41 =>
  bnd (lift (ext 0 x41)) fun x42 =>
  bnd (lift (ext 1 x41)) fun x43 =>
  bnd (
    bnd (lift (bin .add (at_ vs_7 2) x43)) fun x46 =>
    bnd (lift (bin .neq x46 (at_ vs_7 1))) fun x48 =>
    condM x48 (
      ret (.ret [(Value.int .i32 65533), (Value.int .i64 1)])
      ) (
      ret (.nxt [x42, x43])
      )
    ) fun o => nx o unicode_utf8_DecodeLastRuneInString_k3
def unicode_utf8_DecodeLastRuneInString_k5 (vs_6 : List V) : M Out :=
  bnd (
    bnd (lift (bin .lss (at_ vs_6 2) (Value.int .i64 0))) fun x35 =>
    condM x35 (
      ret (.nxt [(at_ vs_6 0), (at_ vs_6 1), (Value.int .i64 0)])
      ) (
      ret (.nxt [(at_ vs_6 0), (at_ vs_6 1), (at_ vs_6 2)])
      )
    ) fun o => nx o unicode_utf8_DecodeLastRuneInString_k4
def unicode_utf8_DecodeLastRuneInString_k6 (vs_2 : List V) : M Out :=
  bnd (lift (bin .sub (at_ vs_2 1) (Value.int .i64 4))) fun x21 =>
  bnd (lift (maxV x21 (Value.int .i64 0))) fun x22 =>
  bnd (
    bnd (lift (bin .sub (at_ vs_2 2) (Value.int .i64 1))) fun x24 =>
    bnd (
      loopM FUEL unicode_utf8_DecodeLastRuneInString_l2 [(at_ vs_2 0), (at_ vs_2 1), x24, x22]
      ) fun o => ret (unblk 0 o)
    ) fun o => nx o unicode_utf8_DecodeLastRuneInString_k5
def unicode_utf8_DecodeLastRuneInString_k7 (vs : List V) : M Out :=
  bnd (lift (bin .sub (at_ vs 1) (Value.int .i64 1))) fun x12 =>
  bnd (lift (idxS (at_ vs 0) x12)) fun x15 =>
  bnd (lift (cvi .i32 x15)) fun x16 =>
  bnd (
    bnd (lift (bin .lss x16 (Value.int .i32 128))) fun x18 =>
    condM x18 (
      ret (.ret [x16, (Value.int .i64 1)])
      ) (
      ret (.nxt [(at_ vs 0), (at_ vs 1), x12])
      )
    ) fun o => nx o unicode_utf8_DecodeLastRuneInString_k6
def F_unicode_utf8_DecodeLastRuneInString (x0 : V) : M V :=
  bnd (
    bnd (lift (lenStr x0)) fun x8 =>
    bnd (
      bnd (lift (bin .eql x8 (Value.int .i64 0))) fun x10 =>
      condM x10 (
        ret (.ret [(Value.int .i32 65533), (Value.int .i64 0)])
        ) (
        ret (.nxt [x0, x8])
        )
      ) fun o => nx o unicode_utf8_DecodeLastRuneInString_k7
    ) fun o => finM o fun vs => ret (outV [(at_ vs 0), (at_ vs 1)])
def h_unicode_utf8_DecodeLastRuneInString : Hint := (.seq [] .leaf (.seq [] .leaf (.seq [0, 4] (.seq [] .leaf (.cond (.seq [] .leaf .leaf) .leaf)) (.seq [] .leaf (.seq [] .leaf (.seq [0, 4, 5] (.seq [] .leaf (.cond (.seq [] .leaf .leaf) .leaf)) (.seq [] .leaf (.seq [0, 4, 5] (.seq [] .leaf (.blk (.loop [0, 4, 5, 6] (.seq [0, 4, 5, 6] (.seq [] .leaf (.cond .leaf .leaf)) (.seq [0, 4, 5, 6] (.blk (.seq [] .leaf (.cond .leaf .leaf))) .leaf))))) (.seq [0, 4, 5] (.seq [] .leaf (.cond .leaf .leaf)) (.seq [] .leaf (.seq [2, 3] (.seq [] .leaf (.cond (.seq [] .leaf .leaf) .leaf)) (.seq [] .leaf .leaf))))))))))))
def A_unicode_utf8_DecodeLastRuneInString (l : List V) : M V := match l with | [x0] => F_unicode_utf8_DecodeLastRuneInString x0 | _ => fail
def s_unicode_utf8_DecodeLastRuneInString : Calls' := ovr [(fid_unicode_utf8_RuneStart, A_unicode_utf8_RuneStart), (fid_unicode_utf8_DecodeRuneInString, A_unicode_utf8_DecodeRuneInString)] noC
theorem e_unicode_utf8_DecodeLastRuneInString (x0 : V) : funM Tryz.prog (s_unicode_utf8_DecodeLastRuneInString) fid_unicode_utf8_DecodeLastRuneInString h_unicode_utf8_DecodeLastRuneInString [x0] = F_unicode_utf8_DecodeLastRuneInString x0 := by kernel_rfl
theorem K_unicode_utf8_DecodeLastRuneInString : Known Tryz.prog fid_unicode_utf8_DecodeLastRuneInString (A_unicode_utf8_DecodeLastRuneInString) := known_of (σ := s_unicode_utf8_DecodeLastRuneInString) (hint := h_unicode_utf8_DecodeLastRuneInString) (by kernel_rfl) (simAll_ovr K_unicode_utf8_RuneStart (simAll_ovr K_unicode_utf8_DecodeRuneInString simAll_nil0)) fun l H r H' h => by
  unfold A_unicode_utf8_DecodeLastRuneInString at h; split at h
  · rw [e_unicode_utf8_DecodeLastRuneInString]; exact h
  · exact (fail_ne h).elim

/-! ### strings.ContainsRune -/
def F_strings_ContainsRune (G_strings_IndexRune : List V → M V) (x0 x1 : V) : M V :=
  bnd (
    bnd (G_strings_IndexRune [x0, x1]) fun x7 =>
    bnd (lift (bin .geq x7 (Value.int .i64 0))) fun x8 =>
    ret (.ret [x8])
    ) fun o => finM o fun vs => ret (outV [(at_ vs 0)])
def h_strings_ContainsRune : Hint := (.seq [] .leaf (.seq [] .leaf .leaf))
def A_strings_ContainsRune (G_strings_IndexRune : List V → M V) (l : List V) : M V := match l with | [x0, x1] => F_strings_ContainsRune G_strings_IndexRune x0 x1 | _ => fail
theorem e_strings_ContainsRune (G_strings_IndexRune : List V → M V) (x0 x1 : V) : funM Tryz.prog (ovr [(fid_strings_IndexRune, G_strings_IndexRune)] noC) fid_strings_ContainsRune h_strings_ContainsRune [x0, x1] = F_strings_ContainsRune G_strings_IndexRune x0 x1 := by kernel_rfl
theorem K_strings_ContainsRune {G_strings_IndexRune : List V → M V} (k_strings_IndexRune : Known Tryz.prog fid_strings_IndexRune G_strings_IndexRune) : Known Tryz.prog fid_strings_ContainsRune (A_strings_ContainsRune G_strings_IndexRune) := known_of (σ := ovr [(fid_strings_IndexRune, G_strings_IndexRune)] noC) (hint := h_strings_ContainsRune) (by kernel_rfl) (simAll_ovr k_strings_IndexRune simAll_nil0) fun l H r H' h => by
  unfold A_strings_ContainsRune at h; split at h
  · rw [e_strings_ContainsRune]; exact h
  · exact (fail_ne h).elim

/-! ### strings.trimRightUnicode -/
def strings_trimRightUnicode_k0 (G_strings_IndexRune : List V → M V) (vs_4 : List V) : M Out :=
  bnd (lift (lenStr (at_ vs_4 0))) fun x29 =>
  bnd (lift (bin .sub x29 (at_ vs_4 2))) fun x31 =>
  bnd (lift (subS (at_ vs_4 0) none (some x31))) fun x32 =>
  ret (.nxt [x32, (at_ vs_4 1)])
def strings_trimRightUnicode_k1 (G_strings_IndexRune : List V → M V) (vs_3 : List V) : M Out :=
  bnd (
    bnd ((A_strings_ContainsRune G_strings_IndexRune) [(at_ vs_3 1), (at_ vs_3 2)]) fun x25 =>
    bnd (lift (un .not x25)) fun x26 =>
    condM x26 (
      ret (.brk 0 [(at_ vs_3 0)])
      ) (
      ret (.nxt [(at_ vs_3 0), (at_ vs_3 1), (at_ vs_3 3)])
      )
    ) fun o => nx o (strings_trimRightUnicode_k0 G_strings_IndexRune)
def strings_trimRightUnicode_k2 (G_strings_IndexRune : List V → M V) (vs_2 : List V) : M Out :=
  bnd (
  bnd (lift (lenStr (at_ vs_2 0))) fun x12 =>
  bnd (lift (bin .sub x12 (Value.int .i64 1))) fun x13 =>
  bnd (lift (idxS (at_ vs_2 0) x13)) fun x14 =>
  bnd (lift (cvi .i32 x14)) fun x15 =>
  bnd (
    bnd (lift (bin .geq x15 (Value.int .i32 128))) fun x17 =>
    condM x17 (
      bnd (A_unicode_utf8_DecodeLastRuneInString [(at_ vs_2 0)]) fun x20 =>
      bnd (lift (ext 0 x20)) fun x21 =>
      bnd (lift (ext 1 x20)) fun x22 =>
      ret (.nxt [(at_ vs_2 0), (at_ vs_2 1), x21, x22])
      ) (
      ret (.nxt [(at_ vs_2 0), (at_ vs_2 1), x15, (Value.int .i64 1)])
      )
    ) fun o => nx o (strings_trimRightUnicode_k1 G_strings_IndexRune)
  ) fun o => ret (unblk 1 o)
def strings_trimRightUnicode_l3 (G_strings_IndexRune : List V → M V) (vs : List V) : M Out :=
  bnd (
  bnd (lift (lenStr (at_ vs 0))) fun x8 =>
  bnd (lift (bin .gtr x8 (Value.int .i64 0))) fun x9 =>
  condM x9 (
    ret (.nxt [(at_ vs 0), (at_ vs 1)])
    ) (
    ret (.brk 0 [(at_ vs 0)])
    )
  ) fun o => nx o (strings_trimRightUnicode_k2 G_strings_IndexRune)
def strings_trimRightUnicode_k4 (G_strings_IndexRune : List V → M V) (vs_5 : List V) : M Out :=
  ret (.ret [(at_ vs_5 0)])
def F_strings_trimRightUnicode (G_strings_IndexRune : List V → M V) (x0 x1 : V) : M V :=
  bnd (
    bnd (
      bnd (
        loopM FUEL (strings_trimRightUnicode_l3 G_strings_IndexRune) [x0, x1]
        ) fun o => ret (unblk 0 o)
      ) fun o => nx o (strings_trimRightUnicode_k4 G_strings_IndexRune)
    ) fun o => finM o fun vs => ret (outV [(at_ vs 0)])
def h_strings_trimRightUnicode : Hint := (.seq [] .leaf (.seq [0] (.blk (.loop [0, 1] (.seq [0, 1] (.seq [] .leaf (.cond .leaf .leaf)) (.blk (.seq [] .leaf (.seq [0, 1, 5, 6] (.seq [] .leaf (.cond .leaf .leaf)) (.seq [0, 1, 6] (.seq [] .leaf (.cond .leaf .leaf)) .leaf))))))) (.seq [] .leaf .leaf)))
def A_strings_trimRightUnicode (G_strings_IndexRune : List V → M V) (l : List V) : M V := match l with | [x0, x1] => F_strings_trimRightUnicode G_strings_IndexRune x0 x1 | _ => fail
theorem e_strings_trimRightUnicode (G_strings_IndexRune : List V → M V) (x0 x1 : V) : funM Tryz.prog (ovr [(fid_unicode_utf8_DecodeLastRuneInString, A_unicode_utf8_DecodeLastRuneInString), (fid_strings_ContainsRune, A_strings_ContainsRune G_strings_IndexRune)] noC) fid_strings_trimRightUnicode h_strings_trimRightUnicode [x0, x1] = F_strings_trimRightUnicode G_strings_IndexRune x0 x1 := by kernel_rfl
theorem K_strings_trimRightUnicode {G_strings_IndexRune : List V → M V} (k_strings_IndexRune : Known Tryz.prog fid_strings_IndexRune G_strings_IndexRune) : Known Tryz.prog fid_strings_trimRightUnicode (A_strings_trimRightUnicode G_strings_IndexRune) := known_of (σ := ovr [(fid_unicode_utf8_DecodeLastRuneInString, A_unicode_utf8_DecodeLastRuneInString), (fid_strings_ContainsRune, A_strings_ContainsRune G_strings_IndexRune)] noC) (hint := h_strings_trimRightUnicode) (by kernel_rfl) (simAll_ovr K_unicode_utf8_DecodeLastRuneInString (simAll_ovr (K_strings_ContainsRune k_strings_IndexRune) simAll_nil0)) fun l H r H' h => by
  unfold A_strings_trimRightUnicode at h; split at h
  · rw [e_strings_trimRightUnicode]; exact h
  · exact (fail_ne h).elim

/-! ### strings.trimLeftUnicode -/
def strings_trimLeftUnicode_k0 (G_strings_IndexRune : List V → M V) (vs_3 : List V) : M Out :=
  bnd (lift (subS (at_ vs_3 0) (some (at_ vs_3 2)) none)) fun x21 =>
  ret (.nxt [x21, (at_ vs_3 1)])
def strings_trimLeftUnicode_k1 (G_strings_IndexRune : List V → M V) (vs_2 : List V) : M Out :=
  bnd (
  bnd (A_unicode_utf8_DecodeRuneInString [(at_ vs_2 0)]) fun x12 =>
  bnd (lift (ext 0 x12)) fun x13 =>
  bnd (lift (ext 1 x12)) fun x14 =>
  bnd (
    bnd ((A_strings_ContainsRune G_strings_IndexRune) [(at_ vs_2 1), x13]) fun x17 =>
    bnd (lift (un .not x17)) fun x18 =>
    condM x18 (
      ret (.brk 0 [(at_ vs_2 0)])
      ) (
      ret (.nxt [(at_ vs_2 0), (at_ vs_2 1), x14])
      )
    ) fun o => nx o (strings_trimLeftUnicode_k0 G_strings_IndexRune)
  ) fun o => ret (unblk 1 o)
def strings_trimLeftUnicode_l2 (G_strings_IndexRune : List V → M V) (vs : List V) : M Out :=
  bnd (
  bnd (lift (lenStr (at_ vs 0))) fun x8 =>
  bnd (lift (bin .gtr x8 (Value.int .i64 0))) fun x9 =>
  condM x9 (
    ret (.nxt [(at_ vs 0), (at_ vs 1)])
    ) (
    ret (.brk 0 [(at_ vs 0)])
    )
  ) fun o => nx o (strings_trimLeftUnicode_k1 G_strings_IndexRune)
def strings_trimLeftUnicode_k3 (G_strings_IndexRune : List V → M V) (vs_4 : List V) : M Out :=
  ret (.ret [(at_ vs_4 0)])
def F_strings_trimLeftUnicode (G_strings_IndexRune : List V → M V) (x0 x1 : V) : M V :=
  bnd (
    bnd (
      bnd (
        loopM FUEL (strings_trimLeftUnicode_l2 G_strings_IndexRune) [x0, x1]
        ) fun o => ret (unblk 0 o)
      ) fun o => nx o (strings_trimLeftUnicode_k3 G_strings_IndexRune)
    ) fun o => finM o fun vs => ret (outV [(at_ vs 0)])
def h_strings_trimLeftUnicode : Hint := (.seq [] .leaf (.seq [0] (.blk (.loop [0, 1] (.seq [0, 1] (.seq [] .leaf (.cond .leaf .leaf)) (.blk (.seq [] .leaf (.seq [0, 1, 6] (.seq [] .leaf (.cond .leaf .leaf)) .leaf)))))) (.seq [] .leaf .leaf)))
def A_strings_trimLeftUnicode (G_strings_IndexRune : List V → M V) (l : List V) : M V := match l with | [x0, x1] => F_strings_trimLeftUnicode G_strings_IndexRune x0 x1 | _ => fail
theorem e_strings_trimLeftUnicode (G_strings_IndexRune : List V → M V) (x0 x1 : V) : funM Tryz.prog (ovr [(fid_unicode_utf8_DecodeRuneInString, A_unicode_utf8_DecodeRuneInString), (fid_strings_ContainsRune, A_strings_ContainsRune G_strings_IndexRune)] noC) fid_strings_trimLeftUnicode h_strings_trimLeftUnicode [x0, x1] = F_strings_trimLeftUnicode G_strings_IndexRune x0 x1 := by kernel_rfl
theorem K_strings_trimLeftUnicode {G_strings_IndexRune : List V → M V} (k_strings_IndexRune : Known Tryz.prog fid_strings_IndexRune G_strings_IndexRune) : Known Tryz.prog fid_strings_trimLeftUnicode (A_strings_trimLeftUnicode G_strings_IndexRune) := known_of (σ := ovr [(fid_unicode_utf8_DecodeRuneInString, A_unicode_utf8_DecodeRuneInString), (fid_strings_ContainsRune, A_strings_ContainsRune G_strings_IndexRune)] noC) (hint := h_strings_trimLeftUnicode) (by kernel_rfl) (simAll_ovr K_unicode_utf8_DecodeRuneInString (simAll_ovr (K_strings_ContainsRune k_strings_IndexRune) simAll_nil0)) fun l H r H' h => by
  unfold A_strings_trimLeftUnicode at h; split at h
  · rw [e_strings_trimLeftUnicode]; exact h
  · exact (fail_ne h).elim

/-! ### strings.Trim -/
def strings_Trim_k0 (G_strings_IndexRune : List V → M V) (vs_3 : List V) : M Out :=
  bnd ((A_strings_trimRightUnicode G_strings_IndexRune) [(at_ vs_3 0), (at_ vs_3 1)]) fun x40 =>
  bnd ((A_strings_trimLeftUnicode G_strings_IndexRune) [x40, (at_ vs_3 1)]) fun x42 =>
  ret (.ret [x42])
def strings_Trim_k1 (G_strings_IndexRune : List V → M V) (vs_2 : List V) : M Out :=
  bnd (
    bnd (A_strings_makeASCIISet [(at_ vs_2 1)]) fun x31 =>
    bnd (lift (ext 0 x31)) fun x32 =>
    bnd (lift (ext 1 x31)) fun x33 =>
    bnd (newc (List.replicate 256 (Value.bool false))) fun x5 =>
    bnd (stn 256 x5 x32) fun _ =>
    condM x33 (
      bnd (A_strings_trimRightASCII [(at_ vs_2 0), x5]) fun x36 =>
      bnd (A_strings_trimLeftASCII [x36, x5]) fun x37 =>
      ret (.ret [x37])
      ) (
      ret (.nxt [(at_ vs_2 0), (at_ vs_2 1)])
      )
    ) fun o => nx o (strings_Trim_k0 G_strings_IndexRune)
def strings_Trim_k2 (G_strings_IndexRune : List V → M V) (vs : List V) : M Out :=
  bnd (
    bnd (lift (lenStr (at_ vs 1))) fun x15 =>
    bnd (lift (bin .eql x15 (Value.int .i64 1))) fun x16 =>
    bnd (gd x16 true (lift (some (at_ vs 1)))) fun x18 =>
    bnd (gd x16 true (lift (idxS x18 (Value.int .i64 0)))) fun x19 =>
    bnd (gd x16 true (lift (bin .lss x19 (Value.int .u8 128)))) fun x20 =>
    bnd (lift (pickV x16 x20 (Value.bool false))) fun x21 =>
    condM x21 (
      bnd (lift (idxS (at_ vs 1) (Value.int .i64 0))) fun x24 =>
      bnd (lift (idxS (at_ vs 1) (Value.int .i64 0))) fun x27 =>
      bnd (A_strings_trimRightByte [(at_ vs 0), x24]) fun x25 =>
      bnd (A_strings_trimLeftByte [x25, x27]) fun x28 =>
      ret (.ret [x28])
      ) (
      ret (.nxt [(at_ vs 0), (at_ vs 1)])
      )
    ) fun o => nx o (strings_Trim_k1 G_strings_IndexRune)
def F_strings_Trim (G_strings_IndexRune : List V → M V) (x0 x1 : V) : M V :=
  bnd (
    bnd (
      bnd (lift (bin .eql x0 (Value.string ⟨#[]⟩))) fun x8 =>
      bnd (gd x8 false (lift (some x1))) fun x10 =>
      bnd (gd x8 false (lift (bin .eql x10 (Value.string ⟨#[]⟩)))) fun x11 =>
      bnd (lift (pickV x8 (Value.bool true) x11)) fun x12 =>
      condM x12 (
        ret (.ret [x0])
        ) (
        ret (.nxt [x0, x1])
        )
      ) fun o => nx o (strings_Trim_k2 G_strings_IndexRune)
    ) fun o => finM o fun vs => ret (outV [(at_ vs 0)])
def h_strings_Trim : Hint := (.seq [] .leaf (.seq [0, 1] (.seq [] .leaf (.cond (.seq [] .leaf .leaf) .leaf)) (.seq [0, 1] (.seq [] .leaf (.cond (.seq [] (.reg [0, 1, 2, 4, 5, 3, 6, 7] []) .leaf) .leaf)) (.seq [0, 1] (.seq [] .leaf (.seq [] .leaf (.cond (.seq [] .leaf .leaf) .leaf))) (.seq [] .leaf .leaf)))))
def A_strings_Trim (G_strings_IndexRune : List V → M V) (l : List V) : M V := match l with | [x0, x1] => F_strings_Trim G_strings_IndexRune x0 x1 | _ => fail
theorem e_strings_Trim (G_strings_IndexRune : List V → M V) (x0 x1 : V) : funM Tryz.prog (ovr [(fid_strings_trimRightByte, A_strings_trimRightByte), (fid_strings_trimLeftByte, A_strings_trimLeftByte), (fid_strings_makeASCIISet, A_strings_makeASCIISet), (fid_strings_trimRightASCII, A_strings_trimRightASCII), (fid_strings_trimLeftASCII, A_strings_trimLeftASCII), (fid_strings_trimRightUnicode, A_strings_trimRightUnicode G_strings_IndexRune), (fid_strings_trimLeftUnicode, A_strings_trimLeftUnicode G_strings_IndexRune)] noC) fid_strings_Trim h_strings_Trim [x0, x1] = F_strings_Trim G_strings_IndexRune x0 x1 := by kernel_rfl
theorem K_strings_Trim {G_strings_IndexRune : List V → M V} (k_strings_IndexRune : Known Tryz.prog fid_strings_IndexRune G_strings_IndexRune) : Known Tryz.prog fid_strings_Trim (A_strings_Trim G_strings_IndexRune) := known_of (σ := ovr [(fid_strings_trimRightByte, A_strings_trimRightByte), (fid_strings_trimLeftByte, A_strings_trimLeftByte), (fid_strings_makeASCIISet, A_strings_makeASCIISet), (fid_strings_trimRightASCII, A_strings_trimRightASCII), (fid_strings_trimLeftASCII, A_strings_trimLeftASCII), (fid_strings_trimRightUnicode, A_strings_trimRightUnicode G_strings_IndexRune), (fid_strings_trimLeftUnicode, A_strings_trimLeftUnicode G_strings_IndexRune)] noC) (hint := h_strings_Trim) (by kernel_rfl) (simAll_ovr K_strings_trimRightByte (simAll_ovr K_strings_trimLeftByte (simAll_ovr K_strings_makeASCIISet (simAll_ovr K_strings_trimRightASCII (simAll_ovr K_strings_trimLeftASCII (simAll_ovr (K_strings_trimRightUnicode k_strings_IndexRune) (simAll_ovr (K_strings_trimLeftUnicode k_strings_IndexRune) simAll_nil0))))))) fun l H r H' h => by
  unfold A_strings_Trim at h; split at h
  · rw [e_strings_Trim]; exact h
  · exact (fail_ne h).elim

/-! ### capstan/expr.word -/
def F_expr_word (G_strings_IndexRune : List V → M V) (G_strings_Contains : List V → M V) (x0 : V) : M V :=
  bnd (
    bnd (lift (bin .neq x0 (Value.string ⟨#[]⟩))) fun x4 =>
    bnd (gd x4 true (lift (some x0))) fun x6 =>
    bnd (gd x4 true (lift (lenStr x6))) fun x7 =>
    bnd (gd x4 true (lift (bin .leq x7 (Value.int .i64 24)))) fun x8 =>
    bnd (lift (pickV x4 x8 (Value.bool false))) fun x9 =>
    bnd (gd x9 true (lift (some x0))) fun x11 =>
    bnd (gd x9 true ((A_strings_Trim G_strings_IndexRune) [x11, (Value.string ⟨#[65, 66, 67, 68, 69, 70, 71, 72, 73, 74, 75, 76, 77, 78, 79, 80, 81, 82, 83, 84, 85, 86, 87, 88, 89, 90, 95, 48, 49, 50, 51, 52, 53, 54, 55, 56, 57]⟩)])) fun x12 =>
    bnd (gd x9 true (lift (bin .eql x12 (Value.string ⟨#[]⟩)))) fun x13 =>
    bnd (lift (pickV x9 x13 (Value.bool false))) fun x14 =>
    bnd (gd x14 true (lift (some x0))) fun x16 =>
    bnd (gd x14 true (lift (subS x16 none (some (Value.int .i64 1))))) fun x17 =>
    bnd (gd x14 true (G_strings_Contains [(Value.string ⟨#[48, 49, 50, 51, 52, 53, 54, 55, 56, 57]⟩), x17])) fun x18 =>
    bnd (gd x14 true (lift (un .not x18))) fun x19 =>
    bnd (lift (pickV x14 x19 (Value.bool false))) fun x20 =>
    ret (.ret [x20])
    ) fun o => finM o fun vs => ret (outV [(at_ vs 0)])
def h_expr_word : Hint := (.seq [] .leaf (.seq [] .leaf .leaf))
def A_expr_word (G_strings_IndexRune : List V → M V) (G_strings_Contains : List V → M V) (l : List V) : M V := match l with | [x0] => F_expr_word G_strings_IndexRune G_strings_Contains x0 | _ => fail
theorem e_expr_word (G_strings_IndexRune : List V → M V) (G_strings_Contains : List V → M V) (x0 : V) : funM Tryz.prog (ovr [(fid_strings_Trim, A_strings_Trim G_strings_IndexRune), (fid_strings_Contains, G_strings_Contains)] noC) fid_expr_word h_expr_word [x0] = F_expr_word G_strings_IndexRune G_strings_Contains x0 := by kernel_rfl
theorem K_expr_word {G_strings_IndexRune : List V → M V} {G_strings_Contains : List V → M V} (k_strings_IndexRune : Known Tryz.prog fid_strings_IndexRune G_strings_IndexRune) (k_strings_Contains : Known Tryz.prog fid_strings_Contains G_strings_Contains) : Known Tryz.prog fid_expr_word (A_expr_word G_strings_IndexRune G_strings_Contains) := known_of (σ := ovr [(fid_strings_Trim, A_strings_Trim G_strings_IndexRune), (fid_strings_Contains, G_strings_Contains)] noC) (hint := h_expr_word) (by kernel_rfl) (simAll_ovr (K_strings_Trim k_strings_IndexRune) (simAll_ovr k_strings_Contains simAll_nil0)) fun l H r H' h => by
  unfold A_expr_word at h; split at h
  · rw [e_expr_word]; exact h
  · exact (fail_ne h).elim

/-! ### capstan/expr.Name -/
def F_expr_Name (G_strings_IndexRune : List V → M V) (G_strings_Contains : List V → M V) (x0 : V) : M V :=
  bnd (
    bnd ((A_expr_word G_strings_IndexRune G_strings_Contains) [x0]) fun x4 =>
    bnd (gd x4 true (lift (some x0))) fun x6 =>
    bnd (gd x4 true (lift (bin .add (Value.string ⟨#[32]⟩) x6))) fun x7 =>
    bnd (gd x4 true (lift (bin .add x7 (Value.string ⟨#[32]⟩)))) fun x8 =>
    bnd (gd x4 true (G_strings_Contains [(Value.string ⟨#[32, 80, 82, 79, 71, 82, 65, 77, 32, 69, 78, 68, 95, 80, 82, 79, 71, 82, 65, 77, 32, 86, 65, 82, 32, 86, 65, 82, 95, 73, 78, 80, 85, 84, 32, 86, 65, 82, 95, 79, 85, 84, 80, 85, 84, 32, 69, 78, 68, 95, 86, 65, 82, 32, 65, 82, 82, 65, 89, 32, 79, 70, 32, 66, 79, 79, 76, 32, 73, 78, 84, 32, 68, 73, 78, 84, 32, 84, 73, 77, 69, 32, 84, 79, 78, 32, 84, 79, 70, 32, 84, 80, 32, 67, 84, 85, 32, 67, 84, 68, 32, 82, 95, 84, 82, 73, 71, 32, 70, 95, 84, 82, 73, 71, 32, 83, 82, 32, 82, 83, 32, 81, 85, 65, 68, 32, 73, 70, 32, 84, 72, 69, 78, 32, 69, 76, 83, 73, 70, 32, 69, 76, 83, 69, 32, 69, 78, 68, 95, 73, 70, 32, 67, 65, 83, 69, 32, 69, 78, 68, 95, 67, 65, 83, 69, 32, 87, 72, 73, 76, 69, 32, 68, 79, 32, 69, 78, 68, 95, 87, 72, 73, 76, 69, 32, 70, 79, 82, 32, 84, 79, 32, 66, 89, 32, 69, 78, 68, 95, 70, 79, 82, 32, 82, 69, 80, 69, 65, 84, 32, 85, 78, 84, 73, 76, 32, 69, 78, 68, 95, 82, 69, 80, 69, 65, 84, 32, 69, 88, 73, 84, 32, 82, 69, 84, 85, 82, 78, 32, 65, 78, 68, 32, 79, 82, 32, 88, 79, 82, 32, 78, 79, 84, 32, 77, 79, 68, 32, 84, 82, 85, 69, 32, 70, 65, 76, 83, 69, 32, 84, 79, 95, 73, 78, 84, 32, 84, 79, 95, 68, 73, 78, 84, 32, 84, 79, 95, 84, 73, 77, 69, 32]⟩), x8])) fun x9 =>
    bnd (gd x4 true (lift (un .not x9))) fun x10 =>
    bnd (lift (pickV x4 x10 (Value.bool false))) fun x11 =>
    ret (.ret [x11])
    ) fun o => finM o fun vs => ret (outV [(at_ vs 0)])
def h_expr_Name : Hint := (.seq [] .leaf (.seq [] .leaf .leaf))
def A_expr_Name (G_strings_IndexRune : List V → M V) (G_strings_Contains : List V → M V) (l : List V) : M V := match l with | [x0] => F_expr_Name G_strings_IndexRune G_strings_Contains x0 | _ => fail
theorem e_expr_Name (G_strings_IndexRune : List V → M V) (G_strings_Contains : List V → M V) (x0 : V) : funM Tryz.prog (ovr [(fid_expr_word, A_expr_word G_strings_IndexRune G_strings_Contains), (fid_strings_Contains, G_strings_Contains)] noC) fid_expr_Name h_expr_Name [x0] = F_expr_Name G_strings_IndexRune G_strings_Contains x0 := by kernel_rfl
theorem K_expr_Name {G_strings_IndexRune : List V → M V} {G_strings_Contains : List V → M V} (k_strings_IndexRune : Known Tryz.prog fid_strings_IndexRune G_strings_IndexRune) (k_strings_Contains : Known Tryz.prog fid_strings_Contains G_strings_Contains) : Known Tryz.prog fid_expr_Name (A_expr_Name G_strings_IndexRune G_strings_Contains) := known_of (σ := ovr [(fid_expr_word, A_expr_word G_strings_IndexRune G_strings_Contains), (fid_strings_Contains, G_strings_Contains)] noC) (hint := h_expr_Name) (by kernel_rfl) (simAll_ovr (K_expr_word k_strings_IndexRune k_strings_Contains) (simAll_ovr k_strings_Contains simAll_nil0)) fun l H r H' h => by
  unfold A_expr_Name at h; split at h
  · rw [e_expr_Name]; exact h
  · exact (fail_ne h).elim

/-! ### capstan/num.known -/
def F_num_known (x0 : V) : M V :=
  bnd (
    bnd (lift (bin .geq x0 (Value.int .i64 1))) fun x4 =>
    bnd (gd x4 true (lift (some x0))) fun x6 =>
    bnd (gd x4 true (lift (bin .leq x6 (Value.int .i64 4)))) fun x7 =>
    bnd (lift (pickV x4 x7 (Value.bool false))) fun x8 =>
    ret (.ret [x8])
    ) fun o => finM o fun vs => ret (outV [(at_ vs 0)])
def h_num_known : Hint := (.seq [] .leaf (.seq [] .leaf .leaf))
def A_num_known (l : List V) : M V := match l with | [x0] => F_num_known x0 | _ => fail
theorem e_num_known (x0 : V) : funM Tryz.prog (ovr [] noC) fid_num_known h_num_known [x0] = F_num_known x0 := by kernel_rfl
theorem K_num_known : Known Tryz.prog fid_num_known (A_num_known) := known_of (σ := ovr [] noC) (hint := h_num_known) (by kernel_rfl) simAll_nil0 fun l H r H' h => by
  unfold A_num_known at h; split at h
  · rw [e_num_known]; exact h
  · exact (fail_ne h).elim

/-! ### capstan/num.wrap -/
def num_wrap_k0 (vs : List V) : M Out :=
  bnd (lift (cvi .i32 (at_ vs 0))) fun x16 =>
  bnd (lift (cvi .i64 x16)) fun x17 =>
  ret (.ret [x17])
def F_num_wrap (x0 x1 : V) : M V :=
  bnd (
    bnd (
      bnd (
        bnd (lift (bin .eql x0 (Value.int .i64 1))) fun x7 =>
        condM x7 (
          bnd (lift (bin .and x1 (Value.int .i64 1))) fun x9 =>
          ret (.ret [x9])
          ) (
          bnd (lift (bin .eql x0 (Value.int .i64 2))) fun x11 =>
          condM x11 (
            bnd (lift (cvi .i16 x1)) fun x13 =>
            bnd (lift (cvi .i64 x13)) fun x14 =>
            ret (.ret [x14])
            ) (
            ret (.nxt [x1])
            )
          )
        ) fun o => ret (unblk 0 o)
      ) fun o => nx o num_wrap_k0
    ) fun o => finM o fun vs => ret (outV [(at_ vs 0)])
def h_num_wrap : Hint := (.seq [] .leaf (.seq [1] (.seq [] .leaf (.blk (.seq [] .leaf (.cond (.seq [] .leaf .leaf) (.seq [] .leaf (.cond (.seq [] .leaf .leaf) .leaf)))))) (.seq [] .leaf .leaf)))
def A_num_wrap (l : List V) : M V := match l with | [x0, x1] => F_num_wrap x0 x1 | _ => fail
theorem e_num_wrap (x0 x1 : V) : funM Tryz.prog (ovr [] noC) fid_num_wrap h_num_wrap [x0, x1] = F_num_wrap x0 x1 := by kernel_rfl
theorem K_num_wrap : Known Tryz.prog fid_num_wrap (A_num_wrap) := known_of (σ := ovr [] noC) (hint := h_num_wrap) (by kernel_rfl) simAll_nil0 fun l H r H' h => by
  unfold A_num_wrap at h; split at h
  · rw [e_num_wrap]; exact h
  · exact (fail_ne h).elim

/-! ### capstan/num.Fits -/
def F_num_Fits (x0 x1 : V) : M V :=
  bnd (
    bnd (A_num_known [x0]) fun x6 =>
    bnd (gd x6 true (lift (some x0))) fun x8 =>
    bnd (gd x6 true (lift (some x1))) fun x9 =>
    bnd (gd x6 true (A_num_wrap [x8, x9])) fun x10 =>
    bnd (gd x6 true (lift (some x1))) fun x11 =>
    bnd (gd x6 true (lift (bin .eql x10 x11))) fun x12 =>
    bnd (lift (pickV x6 x12 (Value.bool false))) fun x13 =>
    ret (.ret [x13])
    ) fun o => finM o fun vs => ret (outV [(at_ vs 0)])
def h_num_Fits : Hint := (.seq [] .leaf (.seq [] .leaf .leaf))
def A_num_Fits (l : List V) : M V := match l with | [x0, x1] => F_num_Fits x0 x1 | _ => fail
def s_num_Fits : Calls' := ovr [(fid_num_known, A_num_known), (fid_num_wrap, A_num_wrap)] noC
theorem e_num_Fits (x0 x1 : V) : funM Tryz.prog (s_num_Fits) fid_num_Fits h_num_Fits [x0, x1] = F_num_Fits x0 x1 := by kernel_rfl
theorem K_num_Fits : Known Tryz.prog fid_num_Fits (A_num_Fits) := known_of (σ := s_num_Fits) (hint := h_num_Fits) (by kernel_rfl) (simAll_ovr K_num_known (simAll_ovr K_num_wrap simAll_nil0)) fun l H r H' h => by
  unfold A_num_Fits at h; split at h
  · rw [e_num_Fits]; exact h
  · exact (fail_ne h).elim

/-! ### capstan/code.sound -/
def code_sound_k0 (G_strings_IndexRune : List V → M V) (G_strings_Contains : List V → M V) (vs_4 : List V) : M Out :=
  bnd (lift (bin .add (at_ vs_4 4) (Value.int .i64 1))) fun x70 =>
  ret (.nxt [(at_ vs_4 0), (at_ vs_4 1), (at_ vs_4 2), (at_ vs_4 3), x70])
def code_sound_k1 (G_strings_IndexRune : List V → M V) (G_strings_Contains : List V → M V) (vs_3 : List V) : M Out :=
  bnd (
  bnd (
    bnd (lift (iaddrS 1 (at_ vs_3 2) (at_ vs_3 4))) fun x60 =>
    bnd (ld1 x60) fun x61 =>
    bnd (lift (faddr 2 (at_ vs_3 0))) fun x63 =>
    bnd (ld1 x63) fun x64 =>
    bnd (lift (iaddrS 1 x64 (at_ vs_3 4))) fun x66 =>
    bnd (ld1 x66) fun x67 =>
    bnd (A_num_Fits [x61, x67]) fun x68 =>
    bnd (lift (un .not x68)) fun x69 =>
    condM x69 (
      ret (.ret [(Value.bool false)])
      ) (
      ret (.nxt [(at_ vs_3 0), (at_ vs_3 1), (at_ vs_3 2), (at_ vs_3 3), (at_ vs_3 4)])
      )
    ) fun o => ret (unblk 1 o)
  ) fun o => nx o (code_sound_k0 G_strings_IndexRune G_strings_Contains)
def code_sound_l2 (G_strings_IndexRune : List V → M V) (G_strings_Contains : List V → M V) (vs_2 : List V) : M Out :=
  bnd (lift (bin .lss (at_ vs_2 4) (at_ vs_2 3))) fun x58 =>
  bnd (
  condM x58 (
    ret (.nxt [(at_ vs_2 0), (at_ vs_2 1), (at_ vs_2 2), (at_ vs_2 3), (at_ vs_2 4)])
    ) (
    ret (.brk 0 [(at_ vs_2 0), (at_ vs_2 1)])
    )
  ) fun o => nx o (code_sound_k1 G_strings_IndexRune G_strings_Contains)
def code_sound_k3 (G_strings_IndexRune : List V → M V) (G_strings_Contains : List V → M V) (vs_8 : List V) : M Out :=
    bnd (mapSet (.one .i) (at_ vs_8 1) (at_ vs_8 2) (Value.bool true)) fun _ =>
    ret (.nxt [(at_ vs_8 0), (at_ vs_8 1), (at_ vs_8 3), (at_ vs_8 4), (at_ vs_8 5)])
def code_sound_k4 (G_strings_IndexRune : List V → M V) (G_strings_Contains : List V → M V) (vs_9 : List V) : M Out :=
  bnd (lift (bin .add (at_ vs_9 4) (Value.int .i64 1))) fun x94 =>
  ret (.nxt [(at_ vs_9 0), (at_ vs_9 1), (at_ vs_9 2), (at_ vs_9 3), x94])
def code_sound_k5 (G_strings_IndexRune : List V → M V) (G_strings_Contains : List V → M V) (vs_7 : List V) : M Out :=
  bnd (
  bnd (
    bnd (lift (iaddrS 1 (at_ vs_7 2) (at_ vs_7 4))) fun x76 =>
    bnd (ld1 x76) fun x77 =>
    bnd (
      bnd (lift (bin .lss x77 (Value.int .i64 0))) fun x79 =>
      bnd (gd x79 false (lift (some x77))) fun x81 =>
      bnd (gd x79 false (lift (faddr 1 (at_ vs_7 0)))) fun x82 =>
      bnd (gd x79 false (ld1 x82)) fun x83 =>
      bnd (gd x79 false (lift (lenSlc x83))) fun x84 =>
      bnd (gd x79 false (lift (bin .geq x81 x84))) fun x85 =>
      bnd (lift (pickV x79 (Value.bool true) x85)) fun x86 =>
      bnd (gd x86 false (lift (some (at_ vs_7 1)))) fun x88 =>
      bnd (gd x86 false (lift (some x77))) fun x89 =>
      bnd (gd x86 false (lookup (.one .i) (Value.bool false) false x88 x89)) fun x90 =>
      bnd (lift (pickV x86 (Value.bool true) x90)) fun x91 =>
      condM x91 (
        ret (.ret [(Value.bool false)])
        ) (
        ret (.nxt [(at_ vs_7 0), (at_ vs_7 1), x77, (at_ vs_7 2), (at_ vs_7 3), (at_ vs_7 4)])
        )
      ) fun o => nx o (code_sound_k3 G_strings_IndexRune G_strings_Contains)
    ) fun o => ret (unblk 3 o)
  ) fun o => nx o (code_sound_k4 G_strings_IndexRune G_strings_Contains)
def code_sound_l6 (G_strings_IndexRune : List V → M V) (G_strings_Contains : List V → M V) (vs_6 : List V) : M Out :=
  bnd (lift (bin .lss (at_ vs_6 4) (at_ vs_6 3))) fun x75 =>
  bnd (
  condM x75 (
    ret (.nxt [(at_ vs_6 0), (at_ vs_6 1), (at_ vs_6 2), (at_ vs_6 3), (at_ vs_6 4)])
    ) (
    ret (.brk 2 [])
    )
  ) fun o => nx o (code_sound_k5 G_strings_IndexRune G_strings_Contains)
def code_sound_k7 (G_strings_IndexRune : List V → M V) (G_strings_Contains : List V → M V) (vs_10 : List V) : M Out :=
  ret (.ret [(Value.bool true)])
def code_sound_k8 (G_strings_IndexRune : List V → M V) (G_strings_Contains : List V → M V) (vs_5 : List V) : M Out :=
  bnd (mkmap) fun x71 =>
  bnd (
    bnd (lift (lenSlc (at_ vs_5 1))) fun x73 =>
    bnd (
      loopM FUEL (code_sound_l6 G_strings_IndexRune G_strings_Contains) [(at_ vs_5 0), x71, (at_ vs_5 1), x73, (Value.int .i64 0)]
      ) fun o => ret (unblk 2 o)
    ) fun o => nx o (code_sound_k7 G_strings_IndexRune G_strings_Contains)
def code_sound_k9 (G_strings_IndexRune : List V → M V) (G_strings_Contains : List V → M V) (vs : List V) : M Out :=
  bnd (
    bnd (lift (faddr 1 (at_ vs 0))) fun x54 =>
    bnd (ld1 x54) fun x55 =>
    bnd (lift (lenSlc x55)) fun x56 =>
    bnd (
      loopM FUEL (code_sound_l2 G_strings_IndexRune G_strings_Contains) [(at_ vs 0), (at_ vs 1), x55, x56, (Value.int .i64 0)]
      ) fun o => ret (unblk 0 o)
    ) fun o => nx o (code_sound_k8 G_strings_IndexRune G_strings_Contains)
def F_code_sound (G_strings_IndexRune : List V → M V) (G_strings_Contains : List V → M V) (x0 : V) : M V :=
  bnd (
    bnd (boxv x0) fun x1 =>
    bnd (lift (faddr 3 x1)) fun x9 =>
    bnd (ld1 x9) fun x10 =>
    bnd (lift (faddr 4 x1)) fun x11 =>
    bnd (ld1 x11) fun x12 =>
    bnd (bslc 1 2 (rep 2 [Value.slice none 0 0]) [(0, 1, x10), (1, 1, x12)]) fun x13 =>
    bnd (A_slices_Concat_S_int_int [x13]) fun x14 =>
    bnd (
      bnd (lift (faddr 0 x1)) fun x15 =>
      bnd (ld1 x15) fun x16 =>
      bnd ((A_expr_Name G_strings_IndexRune G_strings_Contains) [x16]) fun x17 =>
      bnd (lift (un .not x17)) fun x18 =>
      bnd (gd x18 false (lift (faddr 1 x1))) fun x20 =>
      bnd (gd x18 false (ld1 x20)) fun x21 =>
      bnd (gd x18 false (lift (lenSlc x21))) fun x22 =>
      bnd (gd x18 false (lift (faddr 2 x1))) fun x23 =>
      bnd (gd x18 false (ld1 x23)) fun x24 =>
      bnd (gd x18 false (lift (lenSlc x24))) fun x25 =>
      bnd (gd x18 false (lift (bin .neq x22 x25))) fun x26 =>
      bnd (lift (pickV x18 (Value.bool true) x26)) fun x27 =>
      bnd (gd x27 false (lift (faddr 1 x1))) fun x29 =>
      bnd (gd x27 false (ld1 x29)) fun x30 =>
      bnd (gd x27 false (lift (lenSlc x30))) fun x31 =>
      bnd (gd x27 false (lift (bin .gtr x31 (Value.int .i64 1024)))) fun x32 =>
      bnd (lift (pickV x27 (Value.bool true) x32)) fun x33 =>
      bnd (gd x33 false (lift (faddr 5 x1))) fun x35 =>
      bnd (gd x33 false (ld1 x35)) fun x36 =>
      bnd (gd x33 false (lift (lenSlc x36))) fun x37 =>
      bnd (gd x33 false (lift (bin .lss x37 (Value.int .i64 1)))) fun x38 =>
      bnd (lift (pickV x33 (Value.bool true) x38)) fun x39 =>
      bnd (gd x39 false (lift (faddr 5 x1))) fun x41 =>
      bnd (gd x39 false (ld1 x41)) fun x42 =>
      bnd (gd x39 false (lift (lenSlc x42))) fun x43 =>
      bnd (gd x39 false (lift (bin .gtr x43 (Value.int .i64 4096)))) fun x44 =>
      bnd (lift (pickV x39 (Value.bool true) x44)) fun x45 =>
      bnd (gd x45 false (lift (some x14))) fun x47 =>
      bnd (gd x45 false (lift (lenSlc x47))) fun x48 =>
      bnd (gd x45 false (lift (faddr 1 x1))) fun x49 =>
      bnd (gd x45 false (ld1 x49)) fun x50 =>
      bnd (gd x45 false (lift (lenSlc x50))) fun x51 =>
      bnd (gd x45 false (lift (bin .gtr x48 x51))) fun x52 =>
      bnd (lift (pickV x45 (Value.bool true) x52)) fun x53 =>
      condM x53 (
        ret (.ret [(Value.bool false)])
        ) (
        ret (.nxt [x1, x14])
        )
      ) fun o => nx o (code_sound_k9 G_strings_IndexRune G_strings_Contains)
    ) fun o => finM o fun vs => ret (outV [(at_ vs 0)])
def h_code_sound : Hint := (.seq [] .leaf (.seq [] .leaf (.seq [1, 3] (.seq [] .leaf (.cond (.seq [] .leaf .leaf) .leaf)) (.seq [1, 3] (.seq [] .leaf (.blk (.loop [1, 3, 55, 56, 57] (.seq [] .leaf (.seq [1, 3, 55, 56, 57] (.cond .leaf .leaf) (.seq [1, 3, 55, 56, 57] (.blk (.seq [] .leaf (.seq [] .leaf (.cond (.seq [] .leaf .leaf) .leaf)))) .leaf)))))) (.seq [] .leaf (.seq [] (.seq [] .leaf (.blk (.loop [1, 6, 72, 73, 74] (.seq [] .leaf (.seq [1, 6, 72, 73, 74] (.cond .leaf .leaf) (.seq [1, 6, 72, 73, 74] (.blk (.seq [] .leaf (.seq [1, 6, 8, 72, 73, 74] (.seq [] .leaf (.cond (.seq [] .leaf .leaf) .leaf)) .leaf))) .leaf)))))) (.seq [] .leaf .leaf)))))))
def A_code_sound (G_strings_IndexRune : List V → M V) (G_strings_Contains : List V → M V) (l : List V) : M V := match l with | [x0] => F_code_sound G_strings_IndexRune G_strings_Contains x0 | _ => fail
theorem e_code_sound (G_strings_IndexRune : List V → M V) (G_strings_Contains : List V → M V) (x0 : V) : funM Tryz.prog (ovr [(fid_slices_Concat_S_int_int, A_slices_Concat_S_int_int), (fid_expr_Name, A_expr_Name G_strings_IndexRune G_strings_Contains), (fid_num_Fits, A_num_Fits)] noC) fid_code_sound h_code_sound [x0] = F_code_sound G_strings_IndexRune G_strings_Contains x0 := by kernel_rfl
theorem K_code_sound {G_strings_IndexRune : List V → M V} {G_strings_Contains : List V → M V} (k_strings_IndexRune : Known Tryz.prog fid_strings_IndexRune G_strings_IndexRune) (k_strings_Contains : Known Tryz.prog fid_strings_Contains G_strings_Contains) : Known Tryz.prog fid_code_sound (A_code_sound G_strings_IndexRune G_strings_Contains) := known_of (σ := ovr [(fid_slices_Concat_S_int_int, A_slices_Concat_S_int_int), (fid_expr_Name, A_expr_Name G_strings_IndexRune G_strings_Contains), (fid_num_Fits, A_num_Fits)] noC) (hint := h_code_sound) (by kernel_rfl) (simAll_ovr K_slices_Concat_S_int_int (simAll_ovr (K_expr_Name k_strings_IndexRune k_strings_Contains) (simAll_ovr K_num_Fits simAll_nil0))) fun l H r H' h => by
  unfold A_code_sound at h; split at h
  · rw [e_code_sound]; exact h
  · exact (fail_ne h).elim

/-! ### capstan/code.cells -/
def code_cells_k0 (vs : List V) : M Out :=
  bnd (lift (faddr 1 (at_ vs 2))) fun x25 =>
  bnd (ld1 x25) fun x26 =>
  bnd (lift (bin .add (at_ vs 0) (at_ vs 1))) fun x30 =>
  bnd (lift (subV 1 x26 (some (at_ vs 0)) (some x30))) fun x31 =>
  ret (.ret [x31])
def F_code_cells (x0 x1 x2 : V) : M V :=
  bnd (
    bnd (boxv x0) fun x3 =>
    bnd (
      bnd (lift (bin .lss x1 (Value.int .i64 0))) fun x8 =>
      bnd (gd x8 false (lift (some x1))) fun x10 =>
      bnd (gd x8 false (lift (faddr 1 x3))) fun x11 =>
      bnd (gd x8 false (ld1 x11)) fun x12 =>
      bnd (gd x8 false (lift (lenSlc x12))) fun x13 =>
      bnd (gd x8 false (lift (bin .geq x10 x13))) fun x14 =>
      bnd (lift (pickV x8 (Value.bool true) x14)) fun x15 =>
      bnd (gd x15 false (lift (some x2))) fun x17 =>
      bnd (gd x15 false (lift (faddr 1 x3))) fun x18 =>
      bnd (gd x15 false (ld1 x18)) fun x19 =>
      bnd (gd x15 false (lift (lenSlc x19))) fun x20 =>
      bnd (gd x15 false (lift (some x1))) fun x21 =>
      bnd (gd x15 false (lift (bin .sub x20 x21))) fun x22 =>
      bnd (gd x15 false (lift (bin .gtr x17 x22))) fun x23 =>
      bnd (lift (pickV x15 (Value.bool true) x23)) fun x24 =>
      condM x24 (
        ret (.ret [(Value.slice none 0 0)])
        ) (
        ret (.nxt [x1, x2, x3])
        )
      ) fun o => nx o code_cells_k0
    ) fun o => finM o fun vs => ret (outV [(at_ vs 0)])
def h_code_cells : Hint := (.seq [] .leaf (.seq [1, 2, 3] (.seq [] .leaf (.cond (.seq [] .leaf .leaf) .leaf)) (.seq [] .leaf .leaf)))
def A_code_cells (l : List V) : M V := match l with | [x0, x1, x2] => F_code_cells x0 x1 x2 | _ => fail
theorem e_code_cells (x0 x1 x2 : V) : funM Tryz.prog (ovr [] noC) fid_code_cells h_code_cells [x0, x1, x2] = F_code_cells x0 x1 x2 := by kernel_rfl
theorem K_code_cells : Known Tryz.prog fid_code_cells (A_code_cells) := known_of (σ := ovr [] noC) (hint := h_code_cells) (by kernel_rfl) simAll_nil0 fun l H r H' h => by
  unfold A_code_cells at h; split at h
  · rw [e_code_cells]; exact h
  · exact (fail_ne h).elim

/-! ### capstan/code.rules$1 -/
def F_code_rules_1 (x0 x1 : V) : M V :=
  bnd (
    bnd (boxv x0) fun x2 =>
    bnd (boxv x1) fun x3 =>
    bnd (ldn 6 x2) fun x5 =>
    bnd (lift (faddr 1 x3)) fun x6 =>
    bnd (ld1 x6) fun x7 =>
    bnd (A_code_cells [x5, x7, (Value.int .i64 1)]) fun x8 =>
    bnd (lift (notIf true (isNil .s x8))) fun x9 =>
    ret (.ret [x9])
    ) fun o => finM o fun vs => ret (outV [(at_ vs 0)])
def h_code_rules_1 : Hint := (.seq [] .leaf (.seq [] .leaf .leaf))
def A_code_rules_1 (l : List V) : M V := match l with | [x0, x1] => F_code_rules_1 x0 x1 | _ => fail
def s_code_rules_1 : Calls' := ovr [(fid_code_cells, A_code_cells)] noC
theorem e_code_rules_1 (x0 x1 : V) : funM Tryz.prog (s_code_rules_1) fid_code_rules_1 h_code_rules_1 [x0, x1] = F_code_rules_1 x0 x1 := by kernel_rfl
theorem K_code_rules_1 : Known Tryz.prog fid_code_rules_1 (A_code_rules_1) := known_of (σ := s_code_rules_1) (hint := h_code_rules_1) (by kernel_rfl) (simAll_ovr K_code_cells simAll_nil0) fun l H r H' h => by
  unfold A_code_rules_1 at h; split at h
  · rw [e_code_rules_1]; exact h
  · exact (fail_ne h).elim

/-! ### capstan/code.rules$2$1 -/
def F_code_rules_2_1 (x0 x1 : V) : M V :=
  bnd (
    bnd (ld1 x1) fun x5 =>
    bnd (lift (iaddrS 1 x5 (Value.int .i64 0))) fun x6 =>
    bnd (ld1 x6) fun x7 =>
    bnd (lift (bin .neq x0 x7)) fun x8 =>
    ret (.ret [x8])
    ) fun o => finM o fun vs => ret (outV [(at_ vs 0)])
def h_code_rules_2_1 : Hint := (.seq [] .leaf (.seq [] .leaf .leaf))
def A_code_rules_2_1 (l : List V) : M V := match l with | [x0, x1] => F_code_rules_2_1 x0 x1 | _ => fail
theorem e_code_rules_2_1 (x0 x1 : V) : funM Tryz.prog (ovr [] noC) fid_code_rules_2_1 h_code_rules_2_1 [x0, x1] = F_code_rules_2_1 x0 x1 := by kernel_rfl
theorem K_code_rules_2_1 : Known Tryz.prog fid_code_rules_2_1 (A_code_rules_2_1) := known_of (σ := ovr [] noC) (hint := h_code_rules_2_1) (by kernel_rfl) simAll_nil0 fun l H r H' h => by
  unfold A_code_rules_2_1 at h; split at h
  · rw [e_code_rules_2_1]; exact h
  · exact (fail_ne h).elim

/-! ### slices.IndexFunc[[]int,int] -/
def slices_IndexFunc_S_int_int_k0 (S : Calls') (vs_3 : List V) : M Out :=
  bnd (lift (bin .add (at_ vs_3 3) (Value.int .i64 1))) fun x18 =>
  ret (.nxt [(at_ vs_3 0), (at_ vs_3 1), (at_ vs_3 2), x18])
def slices_IndexFunc_S_int_int_k1 (S : Calls') (vs_2 : List V) : M Out :=
  bnd (
  bnd (
    bnd (lift (iaddrS 1 (at_ vs_2 0) (at_ vs_2 3))) fun x14 =>
    bnd (ld1 x14) fun x15 =>
    bnd (callM (ovr [] S) (at_ vs_2 1) [x15]) fun x16 =>
    condM x16 (
      ret (.ret [(at_ vs_2 3)])
      ) (
      ret (.nxt [(at_ vs_2 0), (at_ vs_2 1), (at_ vs_2 2), (at_ vs_2 3)])
      )
    ) fun o => ret (unblk 1 o)
  ) fun o => nx o (slices_IndexFunc_S_int_int_k0 S)
def slices_IndexFunc_S_int_int_l2 (S : Calls') (vs : List V) : M Out :=
  bnd (lift (bin .lss (at_ vs 3) (at_ vs 2))) fun x9 =>
  bnd (
  condM x9 (
    ret (.nxt [(at_ vs 0), (at_ vs 1), (at_ vs 2), (at_ vs 3)])
    ) (
    ret (.brk 0 [])
    )
  ) fun o => nx o (slices_IndexFunc_S_int_int_k1 S)
def slices_IndexFunc_S_int_int_k3 (S : Calls') (vs_4 : List V) : M Out :=
  ret (.ret [(Value.int .i64 (-1))])
def F_slices_IndexFunc_S_int_int (S : Calls') (x0 x1 : V) : M V :=
  bnd (
    bnd (
      bnd (lift (lenSlc x0)) fun x7 =>
      bnd (
        loopM FUEL (slices_IndexFunc_S_int_int_l2 S) [x0, x1, x7, (Value.int .i64 0)]
        ) fun o => ret (unblk 0 o)
      ) fun o => nx o (slices_IndexFunc_S_int_int_k3 S)
    ) fun o => finM o fun vs => ret (outV [(at_ vs 0)])
def h_slices_IndexFunc_S_int_int : Hint := (.seq [] .leaf (.seq [] (.seq [] .leaf (.blk (.loop [0, 1, 7, 8] (.seq [] .leaf (.seq [0, 1, 7, 8] (.cond .leaf .leaf) (.seq [0, 1, 7, 8] (.blk (.seq [] .leaf (.seq [] .leaf (.cond (.seq [] .leaf .leaf) .leaf)))) .leaf)))))) (.seq [] .leaf .leaf)))
def A_slices_IndexFunc_S_int_int (S : Calls') (l : List V) : M V := match l with | [x0, x1] => F_slices_IndexFunc_S_int_int S x0 x1 | _ => fail
theorem e_slices_IndexFunc_S_int_int (S : Calls') (x0 x1 : V) : funM Tryz.prog (ovr [] S) fid_slices_IndexFunc_S_int_int h_slices_IndexFunc_S_int_int [x0, x1] = F_slices_IndexFunc_S_int_int S x0 x1 := by kernel_rfl
theorem K_slices_IndexFunc_S_int_int {S : Calls'} (hS : SimAll Tryz.prog S) : Known Tryz.prog fid_slices_IndexFunc_S_int_int (A_slices_IndexFunc_S_int_int S) := known_of (σ := ovr [] S) (hint := h_slices_IndexFunc_S_int_int) (by kernel_rfl) (simAll_base hS) fun l H r H' h => by
  unfold A_slices_IndexFunc_S_int_int at h; split at h
  · rw [e_slices_IndexFunc_S_int_int]; exact h
  · exact (fail_ne h).elim

/-! ### slices.ContainsFunc[[]int,int] -/
def F_slices_ContainsFunc_S_int_int (S : Calls') (x0 x1 : V) : M V :=
  bnd (
    bnd ((A_slices_IndexFunc_S_int_int S) [x0, x1]) fun x7 =>
    bnd (lift (bin .geq x7 (Value.int .i64 0))) fun x8 =>
    ret (.ret [x8])
    ) fun o => finM o fun vs => ret (outV [(at_ vs 0)])
def h_slices_ContainsFunc_S_int_int : Hint := (.seq [] .leaf (.seq [] .leaf .leaf))
def A_slices_ContainsFunc_S_int_int (S : Calls') (l : List V) : M V := match l with | [x0, x1] => F_slices_ContainsFunc_S_int_int S x0 x1 | _ => fail
theorem e_slices_ContainsFunc_S_int_int (S : Calls') (x0 x1 : V) : funM Tryz.prog (ovr [(fid_slices_IndexFunc_S_int_int, A_slices_IndexFunc_S_int_int S)] S) fid_slices_ContainsFunc_S_int_int h_slices_ContainsFunc_S_int_int [x0, x1] = F_slices_ContainsFunc_S_int_int S x0 x1 := by kernel_rfl
theorem K_slices_ContainsFunc_S_int_int {S : Calls'} (hS : SimAll Tryz.prog S) : Known Tryz.prog fid_slices_ContainsFunc_S_int_int (A_slices_ContainsFunc_S_int_int S) := known_of (σ := ovr [(fid_slices_IndexFunc_S_int_int, A_slices_IndexFunc_S_int_int S)] S) (hint := h_slices_ContainsFunc_S_int_int) (by kernel_rfl) (simAll_ovr (K_slices_IndexFunc_S_int_int (simAll_base hS)) (simAll_base hS)) fun l H r H' h => by
  unfold A_slices_ContainsFunc_S_int_int at h; split at h
  · rw [e_slices_ContainsFunc_S_int_int]; exact h
  · exact (fail_ne h).elim

/-! ### capstan/code.rules$2 -/
def code_rules_2_k0 (vs : List V) : M Out :=
  bnd (ldn 6 (at_ vs 0)) fun x14 =>
  bnd (lift (faddr 1 (at_ vs 1))) fun x15 =>
  bnd (ld1 x15) fun x16 =>
  bnd (lift (faddr 2 (at_ vs 1))) fun x17 =>
  bnd (ld1 x17) fun x18 =>
  bnd (A_code_cells [x14, x16, x18]) fun x19 =>
  bnd (newc [Value.slice none 0 0]) fun x5 =>
  bnd (st1 x5 x19) fun _ =>
  bnd (ld1 x5) fun x20 =>
  bnd (lift (notIf true (isNil .s x20))) fun x21 =>
  bnd (gd x21 true (ld1 x5)) fun x23 =>
  bnd (gd x21 true (lift (some (Value.func (.func fid_code_rules_2_1) #[] #[x5])))) fun x24 =>
  bnd (gd x21 true ((A_slices_ContainsFunc_S_int_int (ovr [(fid_code_rules_2_1, A_code_rules_2_1)] noC)) [x23, x24])) fun x25 =>
  bnd (gd x21 true (lift (un .not x25))) fun x26 =>
  bnd (lift (pickV x21 x26 (Value.bool false))) fun x27 =>
  ret (.ret [x27])
def F_code_rules_2 (x0 x1 : V) : M V :=
  bnd (
    bnd (boxv x0) fun x2 =>
    bnd (boxv x1) fun x3 =>
    bnd (
      bnd (lift (faddr 2 x3)) fun x6 =>
      bnd (ld1 x6) fun x7 =>
      bnd (lift (bin .lss x7 (Value.int .i64 1))) fun x8 =>
      bnd (gd x8 false (lift (faddr 2 x3))) fun x10 =>
      bnd (gd x8 false (ld1 x10)) fun x11 =>
      bnd (gd x8 false (lift (bin .gtr x11 (Value.int .i64 32)))) fun x12 =>
      bnd (lift (pickV x8 (Value.bool true) x12)) fun x13 =>
      condM x13 (
        ret (.ret [(Value.bool false)])
        ) (
        ret (.nxt [x2, x3])
        )
      ) fun o => nx o code_rules_2_k0
    ) fun o => finM o fun vs => ret (outV [(at_ vs 0)])
def h_code_rules_2 : Hint := (.seq [] .leaf (.seq [2, 3] (.seq [] .leaf (.cond (.seq [] .leaf .leaf) .leaf)) (.seq [] .leaf (.seq [] .leaf .leaf))))
def A_code_rules_2 (l : List V) : M V := match l with | [x0, x1] => F_code_rules_2 x0 x1 | _ => fail
def s_code_rules_2 : Calls' := ovr [(fid_code_cells, A_code_cells), (fid_slices_ContainsFunc_S_int_int, A_slices_ContainsFunc_S_int_int (ovr [(fid_code_rules_2_1, A_code_rules_2_1)] noC))] noC
theorem e_code_rules_2 (x0 x1 : V) : funM Tryz.prog (s_code_rules_2) fid_code_rules_2 h_code_rules_2 [x0, x1] = F_code_rules_2 x0 x1 := by kernel_rfl
theorem K_code_rules_2 : Known Tryz.prog fid_code_rules_2 (A_code_rules_2) := known_of (σ := s_code_rules_2) (hint := h_code_rules_2) (by kernel_rfl) (simAll_ovr K_code_cells (simAll_ovr (K_slices_ContainsFunc_S_int_int (simAll_ovr K_code_rules_2_1 simAll_nil0)) simAll_nil0)) fun l H r H' h => by
  unfold A_code_rules_2 at h; split at h
  · rw [e_code_rules_2]; exact h
  · exact (fail_ne h).elim

/-! ### capstan/code.rules$3 -/
def F_code_rules_3 (x0 x1 : V) : M V :=
  bnd (
    bnd (boxv x0) fun x2 =>
    bnd (boxv x1) fun x3 =>
    bnd (lift (faddr 1 x3)) fun x5 =>
    bnd (ld1 x5) fun x6 =>
    bnd (lift (bin .geq x6 (Value.int .i64 0))) fun x7 =>
    bnd (gd x7 true (lift (faddr 1 x3))) fun x9 =>
    bnd (gd x7 true (ld1 x9)) fun x10 =>
    bnd (gd x7 true (lift (faddr 5 x2))) fun x11 =>
    bnd (gd x7 true (ld1 x11)) fun x12 =>
    bnd (gd x7 true (lift (lenSlc x12))) fun x13 =>
    bnd (gd x7 true (lift (bin .lss x10 x13))) fun x14 =>
    bnd (lift (pickV x7 x14 (Value.bool false))) fun x15 =>
    ret (.ret [x15])
    ) fun o => finM o fun vs => ret (outV [(at_ vs 0)])
def h_code_rules_3 : Hint := (.seq [] .leaf (.seq [] .leaf .leaf))
def A_code_rules_3 (l : List V) : M V := match l with | [x0, x1] => F_code_rules_3 x0 x1 | _ => fail
theorem e_code_rules_3 (x0 x1 : V) : funM Tryz.prog (ovr [] noC) fid_code_rules_3 h_code_rules_3 [x0, x1] = F_code_rules_3 x0 x1 := by kernel_rfl
theorem K_code_rules_3 : Known Tryz.prog fid_code_rules_3 (A_code_rules_3) := known_of (σ := ovr [] noC) (hint := h_code_rules_3) (by kernel_rfl) simAll_nil0 fun l H r H' h => by
  unfold A_code_rules_3 at h; split at h
  · rw [e_code_rules_3]; exact h
  · exact (fail_ne h).elim

/-! ### capstan/code.rules$4 -/
def F_code_rules_4 (x0 x1 : V) : M V :=
  bnd (
    bnd (boxv x0) fun x2 =>
    bnd (boxv x1) fun x3 =>
    bnd (lift (faddr 1 x3)) fun x5 =>
    bnd (ld1 x5) fun x6 =>
    bnd (lift (faddr 3 x3)) fun x7 =>
    bnd (ld1 x7) fun x8 =>
    bnd (A_num_Fits [x6, x8]) fun x9 =>
    ret (.ret [x9])
    ) fun o => finM o fun vs => ret (outV [(at_ vs 0)])
def h_code_rules_4 : Hint := (.seq [] .leaf (.seq [] .leaf .leaf))
def A_code_rules_4 (l : List V) : M V := match l with | [x0, x1] => F_code_rules_4 x0 x1 | _ => fail
def s_code_rules_4 : Calls' := ovr [(fid_num_Fits, A_num_Fits)] noC
theorem e_code_rules_4 (x0 x1 : V) : funM Tryz.prog (s_code_rules_4) fid_code_rules_4 h_code_rules_4 [x0, x1] = F_code_rules_4 x0 x1 := by kernel_rfl
theorem K_code_rules_4 : Known Tryz.prog fid_code_rules_4 (A_code_rules_4) := known_of (σ := s_code_rules_4) (hint := h_code_rules_4) (by kernel_rfl) (simAll_ovr K_num_Fits simAll_nil0) fun l H r H' h => by
  unfold A_code_rules_4 at h; split at h
  · rw [e_code_rules_4]; exact h
  · exact (fail_ne h).elim

/-! ### capstan/num.find$1 -/
def F_num_find_1 (x0 x1 : V) : M V :=
  bnd (
    bnd (lift (bin .add x0 x1)) fun x7 =>
    ret (.ret [x7])
    ) fun o => finM o fun vs => ret (outV [(at_ vs 0)])
def h_num_find_1 : Hint := (.seq [] .leaf (.seq [] .leaf .leaf))
def A_num_find_1 (l : List V) : M V := match l with | [x0, x1] => F_num_find_1 x0 x1 | _ => fail
theorem e_num_find_1 (x0 x1 : V) : funM Tryz.prog (ovr [] noC) fid_num_find_1 h_num_find_1 [x0, x1] = F_num_find_1 x0 x1 := by kernel_rfl
theorem K_num_find_1 : Known Tryz.prog fid_num_find_1 (A_num_find_1) := known_of (σ := ovr [] noC) (hint := h_num_find_1) (by kernel_rfl) simAll_nil0 fun l H r H' h => by
  unfold A_num_find_1 at h; split at h
  · rw [e_num_find_1]; exact h
  · exact (fail_ne h).elim

/-! ### capstan/num.find$2 -/
def F_num_find_2 (x0 x1 : V) : M V :=
  bnd (
    bnd (lift (bin .sub x0 x1)) fun x7 =>
    ret (.ret [x7])
    ) fun o => finM o fun vs => ret (outV [(at_ vs 0)])
def h_num_find_2 : Hint := (.seq [] .leaf (.seq [] .leaf .leaf))
def A_num_find_2 (l : List V) : M V := match l with | [x0, x1] => F_num_find_2 x0 x1 | _ => fail
theorem e_num_find_2 (x0 x1 : V) : funM Tryz.prog (ovr [] noC) fid_num_find_2 h_num_find_2 [x0, x1] = F_num_find_2 x0 x1 := by kernel_rfl
theorem K_num_find_2 : Known Tryz.prog fid_num_find_2 (A_num_find_2) := known_of (σ := ovr [] noC) (hint := h_num_find_2) (by kernel_rfl) simAll_nil0 fun l H r H' h => by
  unfold A_num_find_2 at h; split at h
  · rw [e_num_find_2]; exact h
  · exact (fail_ne h).elim

/-! ### capstan/num.find$3 -/
def F_num_find_3 (x0 x1 : V) : M V :=
  bnd (
    bnd (lift (bin .mul x0 x1)) fun x7 =>
    ret (.ret [x7])
    ) fun o => finM o fun vs => ret (outV [(at_ vs 0)])
def h_num_find_3 : Hint := (.seq [] .leaf (.seq [] .leaf .leaf))
def A_num_find_3 (l : List V) : M V := match l with | [x0, x1] => F_num_find_3 x0 x1 | _ => fail
theorem e_num_find_3 (x0 x1 : V) : funM Tryz.prog (ovr [] noC) fid_num_find_3 h_num_find_3 [x0, x1] = F_num_find_3 x0 x1 := by kernel_rfl
theorem K_num_find_3 : Known Tryz.prog fid_num_find_3 (A_num_find_3) := known_of (σ := ovr [] noC) (hint := h_num_find_3) (by kernel_rfl) simAll_nil0 fun l H r H' h => by
  unfold A_num_find_3 at h; split at h
  · rw [e_num_find_3]; exact h
  · exact (fail_ne h).elim

/-! ### capstan/num.find$4 -/
def F_num_find_4 (x0 x1 : V) : M V :=
  bnd (
    bnd (lift (bin .quo x0 x1)) fun x7 =>
    ret (.ret [x7])
    ) fun o => finM o fun vs => ret (outV [(at_ vs 0)])
def h_num_find_4 : Hint := (.seq [] .leaf (.seq [] .leaf .leaf))
def A_num_find_4 (l : List V) : M V := match l with | [x0, x1] => F_num_find_4 x0 x1 | _ => fail
theorem e_num_find_4 (x0 x1 : V) : funM Tryz.prog (ovr [] noC) fid_num_find_4 h_num_find_4 [x0, x1] = F_num_find_4 x0 x1 := by kernel_rfl
theorem K_num_find_4 : Known Tryz.prog fid_num_find_4 (A_num_find_4) := known_of (σ := ovr [] noC) (hint := h_num_find_4) (by kernel_rfl) simAll_nil0 fun l H r H' h => by
  unfold A_num_find_4 at h; split at h
  · rw [e_num_find_4]; exact h
  · exact (fail_ne h).elim

/-! ### capstan/num.find$5 -/
def F_num_find_5 (x0 x1 : V) : M V :=
  bnd (
    bnd (lift (bin .rem x0 x1)) fun x7 =>
    ret (.ret [x7])
    ) fun o => finM o fun vs => ret (outV [(at_ vs 0)])
def h_num_find_5 : Hint := (.seq [] .leaf (.seq [] .leaf .leaf))
def A_num_find_5 (l : List V) : M V := match l with | [x0, x1] => F_num_find_5 x0 x1 | _ => fail
theorem e_num_find_5 (x0 x1 : V) : funM Tryz.prog (ovr [] noC) fid_num_find_5 h_num_find_5 [x0, x1] = F_num_find_5 x0 x1 := by kernel_rfl
theorem K_num_find_5 : Known Tryz.prog fid_num_find_5 (A_num_find_5) := known_of (σ := ovr [] noC) (hint := h_num_find_5) (by kernel_rfl) simAll_nil0 fun l H r H' h => by
  unfold A_num_find_5 at h; split at h
  · rw [e_num_find_5]; exact h
  · exact (fail_ne h).elim

/-! ### capstan/num.find$6 -/
def F_num_find_6 (x0 x1 : V) : M V :=
  bnd (
    bnd (lift (bin .and x0 x1)) fun x7 =>
    ret (.ret [x7])
    ) fun o => finM o fun vs => ret (outV [(at_ vs 0)])
def h_num_find_6 : Hint := (.seq [] .leaf (.seq [] .leaf .leaf))
def A_num_find_6 (l : List V) : M V := match l with | [x0, x1] => F_num_find_6 x0 x1 | _ => fail
theorem e_num_find_6 (x0 x1 : V) : funM Tryz.prog (ovr [] noC) fid_num_find_6 h_num_find_6 [x0, x1] = F_num_find_6 x0 x1 := by kernel_rfl
theorem K_num_find_6 : Known Tryz.prog fid_num_find_6 (A_num_find_6) := known_of (σ := ovr [] noC) (hint := h_num_find_6) (by kernel_rfl) simAll_nil0 fun l H r H' h => by
  unfold A_num_find_6 at h; split at h
  · rw [e_num_find_6]; exact h
  · exact (fail_ne h).elim

/-! ### capstan/num.find$7 -/
def F_num_find_7 (x0 x1 : V) : M V :=
  bnd (
    bnd (lift (bin .or x0 x1)) fun x7 =>
    ret (.ret [x7])
    ) fun o => finM o fun vs => ret (outV [(at_ vs 0)])
def h_num_find_7 : Hint := (.seq [] .leaf (.seq [] .leaf .leaf))
def A_num_find_7 (l : List V) : M V := match l with | [x0, x1] => F_num_find_7 x0 x1 | _ => fail
theorem e_num_find_7 (x0 x1 : V) : funM Tryz.prog (ovr [] noC) fid_num_find_7 h_num_find_7 [x0, x1] = F_num_find_7 x0 x1 := by kernel_rfl
theorem K_num_find_7 : Known Tryz.prog fid_num_find_7 (A_num_find_7) := known_of (σ := ovr [] noC) (hint := h_num_find_7) (by kernel_rfl) simAll_nil0 fun l H r H' h => by
  unfold A_num_find_7 at h; split at h
  · rw [e_num_find_7]; exact h
  · exact (fail_ne h).elim

/-! ### capstan/num.find$8 -/
def F_num_find_8 (x0 x1 : V) : M V :=
  bnd (
    bnd (lift (bin .xor x0 x1)) fun x7 =>
    ret (.ret [x7])
    ) fun o => finM o fun vs => ret (outV [(at_ vs 0)])
def h_num_find_8 : Hint := (.seq [] .leaf (.seq [] .leaf .leaf))
def A_num_find_8 (l : List V) : M V := match l with | [x0, x1] => F_num_find_8 x0 x1 | _ => fail
theorem e_num_find_8 (x0 x1 : V) : funM Tryz.prog (ovr [] noC) fid_num_find_8 h_num_find_8 [x0, x1] = F_num_find_8 x0 x1 := by kernel_rfl
theorem K_num_find_8 : Known Tryz.prog fid_num_find_8 (A_num_find_8) := known_of (σ := ovr [] noC) (hint := h_num_find_8) (by kernel_rfl) simAll_nil0 fun l H r H' h => by
  unfold A_num_find_8 at h; split at h
  · rw [e_num_find_8]; exact h
  · exact (fail_ne h).elim

/-! ### capstan/num.flag -/
def num_flag_k0 (vs : List V) : M Out :=
  ret (.ret [(Value.int .i64 0)])
def F_num_flag (x0 : V) : M V :=
  bnd (
    bnd (
      condM x0 (
        ret (.ret [(Value.int .i64 1)])
        ) (
        ret (.nxt [])
        )
      ) fun o => nx o num_flag_k0
    ) fun o => finM o fun vs => ret (outV [(at_ vs 0)])
def h_num_flag : Hint := (.seq [] .leaf (.seq [] (.seq [] .leaf (.cond (.seq [] .leaf .leaf) .leaf)) (.seq [] .leaf .leaf)))
def A_num_flag (l : List V) : M V := match l with | [x0] => F_num_flag x0 | _ => fail
theorem e_num_flag (x0 : V) : funM Tryz.prog (ovr [] noC) fid_num_flag h_num_flag [x0] = F_num_flag x0 := by kernel_rfl
theorem K_num_flag : Known Tryz.prog fid_num_flag (A_num_flag) := known_of (σ := ovr [] noC) (hint := h_num_flag) (by kernel_rfl) simAll_nil0 fun l H r H' h => by
  unfold A_num_flag at h; split at h
  · rw [e_num_flag]; exact h
  · exact (fail_ne h).elim

/-! ### capstan/num.find$9 -/
def F_num_find_9 (x0 x1 : V) : M V :=
  bnd (
    bnd (lift (bin .eql x0 x1)) fun x7 =>
    bnd (A_num_flag [x7]) fun x8 =>
    ret (.ret [x8])
    ) fun o => finM o fun vs => ret (outV [(at_ vs 0)])
def h_num_find_9 : Hint := (.seq [] .leaf (.seq [] .leaf .leaf))
def A_num_find_9 (l : List V) : M V := match l with | [x0, x1] => F_num_find_9 x0 x1 | _ => fail
def s_num_find_9 : Calls' := ovr [(fid_num_flag, A_num_flag)] noC
theorem e_num_find_9 (x0 x1 : V) : funM Tryz.prog (s_num_find_9) fid_num_find_9 h_num_find_9 [x0, x1] = F_num_find_9 x0 x1 := by kernel_rfl
theorem K_num_find_9 : Known Tryz.prog fid_num_find_9 (A_num_find_9) := known_of (σ := s_num_find_9) (hint := h_num_find_9) (by kernel_rfl) (simAll_ovr K_num_flag simAll_nil0) fun l H r H' h => by
  unfold A_num_find_9 at h; split at h
  · rw [e_num_find_9]; exact h
  · exact (fail_ne h).elim

/-! ### capstan/num.find$10 -/
def F_num_find_10 (x0 x1 : V) : M V :=
  bnd (
    bnd (lift (bin .neq x0 x1)) fun x7 =>
    bnd (A_num_flag [x7]) fun x8 =>
    ret (.ret [x8])
    ) fun o => finM o fun vs => ret (outV [(at_ vs 0)])
def h_num_find_10 : Hint := (.seq [] .leaf (.seq [] .leaf .leaf))
def A_num_find_10 (l : List V) : M V := match l with | [x0, x1] => F_num_find_10 x0 x1 | _ => fail
def s_num_find_10 : Calls' := ovr [(fid_num_flag, A_num_flag)] noC
theorem e_num_find_10 (x0 x1 : V) : funM Tryz.prog (s_num_find_10) fid_num_find_10 h_num_find_10 [x0, x1] = F_num_find_10 x0 x1 := by kernel_rfl
theorem K_num_find_10 : Known Tryz.prog fid_num_find_10 (A_num_find_10) := known_of (σ := s_num_find_10) (hint := h_num_find_10) (by kernel_rfl) (simAll_ovr K_num_flag simAll_nil0) fun l H r H' h => by
  unfold A_num_find_10 at h; split at h
  · rw [e_num_find_10]; exact h
  · exact (fail_ne h).elim

/-! ### capstan/num.find$11 -/
def F_num_find_11 (x0 x1 : V) : M V :=
  bnd (
    bnd (lift (bin .lss x0 x1)) fun x7 =>
    bnd (A_num_flag [x7]) fun x8 =>
    ret (.ret [x8])
    ) fun o => finM o fun vs => ret (outV [(at_ vs 0)])
def h_num_find_11 : Hint := (.seq [] .leaf (.seq [] .leaf .leaf))
def A_num_find_11 (l : List V) : M V := match l with | [x0, x1] => F_num_find_11 x0 x1 | _ => fail
def s_num_find_11 : Calls' := ovr [(fid_num_flag, A_num_flag)] noC
theorem e_num_find_11 (x0 x1 : V) : funM Tryz.prog (s_num_find_11) fid_num_find_11 h_num_find_11 [x0, x1] = F_num_find_11 x0 x1 := by kernel_rfl
theorem K_num_find_11 : Known Tryz.prog fid_num_find_11 (A_num_find_11) := known_of (σ := s_num_find_11) (hint := h_num_find_11) (by kernel_rfl) (simAll_ovr K_num_flag simAll_nil0) fun l H r H' h => by
  unfold A_num_find_11 at h; split at h
  · rw [e_num_find_11]; exact h
  · exact (fail_ne h).elim

/-! ### capstan/num.find$12 -/
def F_num_find_12 (x0 x1 : V) : M V :=
  bnd (
    bnd (lift (bin .leq x0 x1)) fun x7 =>
    bnd (A_num_flag [x7]) fun x8 =>
    ret (.ret [x8])
    ) fun o => finM o fun vs => ret (outV [(at_ vs 0)])
def h_num_find_12 : Hint := (.seq [] .leaf (.seq [] .leaf .leaf))
def A_num_find_12 (l : List V) : M V := match l with | [x0, x1] => F_num_find_12 x0 x1 | _ => fail
def s_num_find_12 : Calls' := ovr [(fid_num_flag, A_num_flag)] noC
theorem e_num_find_12 (x0 x1 : V) : funM Tryz.prog (s_num_find_12) fid_num_find_12 h_num_find_12 [x0, x1] = F_num_find_12 x0 x1 := by kernel_rfl
theorem K_num_find_12 : Known Tryz.prog fid_num_find_12 (A_num_find_12) := known_of (σ := s_num_find_12) (hint := h_num_find_12) (by kernel_rfl) (simAll_ovr K_num_flag simAll_nil0) fun l H r H' h => by
  unfold A_num_find_12 at h; split at h
  · rw [e_num_find_12]; exact h
  · exact (fail_ne h).elim

/-! ### capstan/num.find$13 -/
def F_num_find_13 (x0 x1 : V) : M V :=
  bnd (
    bnd (lift (bin .gtr x0 x1)) fun x7 =>
    bnd (A_num_flag [x7]) fun x8 =>
    ret (.ret [x8])
    ) fun o => finM o fun vs => ret (outV [(at_ vs 0)])
def h_num_find_13 : Hint := (.seq [] .leaf (.seq [] .leaf .leaf))
def A_num_find_13 (l : List V) : M V := match l with | [x0, x1] => F_num_find_13 x0 x1 | _ => fail
def s_num_find_13 : Calls' := ovr [(fid_num_flag, A_num_flag)] noC
theorem e_num_find_13 (x0 x1 : V) : funM Tryz.prog (s_num_find_13) fid_num_find_13 h_num_find_13 [x0, x1] = F_num_find_13 x0 x1 := by kernel_rfl
theorem K_num_find_13 : Known Tryz.prog fid_num_find_13 (A_num_find_13) := known_of (σ := s_num_find_13) (hint := h_num_find_13) (by kernel_rfl) (simAll_ovr K_num_flag simAll_nil0) fun l H r H' h => by
  unfold A_num_find_13 at h; split at h
  · rw [e_num_find_13]; exact h
  · exact (fail_ne h).elim

/-! ### capstan/num.find$14 -/
def F_num_find_14 (x0 x1 : V) : M V :=
  bnd (
    bnd (lift (bin .geq x0 x1)) fun x7 =>
    bnd (A_num_flag [x7]) fun x8 =>
    ret (.ret [x8])
    ) fun o => finM o fun vs => ret (outV [(at_ vs 0)])
def h_num_find_14 : Hint := (.seq [] .leaf (.seq [] .leaf .leaf))
def A_num_find_14 (l : List V) : M V := match l with | [x0, x1] => F_num_find_14 x0 x1 | _ => fail
def s_num_find_14 : Calls' := ovr [(fid_num_flag, A_num_flag)] noC
theorem e_num_find_14 (x0 x1 : V) : funM Tryz.prog (s_num_find_14) fid_num_find_14 h_num_find_14 [x0, x1] = F_num_find_14 x0 x1 := by kernel_rfl
theorem K_num_find_14 : Known Tryz.prog fid_num_find_14 (A_num_find_14) := known_of (σ := s_num_find_14) (hint := h_num_find_14) (by kernel_rfl) (simAll_ovr K_num_flag simAll_nil0) fun l H r H' h => by
  unfold A_num_find_14 at h; split at h
  · rw [e_num_find_14]; exact h
  · exact (fail_ne h).elim

/-! ### capstan/num.find$15 -/
def F_num_find_15 (x0 x1 : V) : M V :=
  bnd (
    bnd (lift (un .neg x0)) fun x6 =>
    ret (.ret [x6])
    ) fun o => finM o fun vs => ret (outV [(at_ vs 0)])
def h_num_find_15 : Hint := (.seq [] .leaf (.seq [] .leaf .leaf))
def A_num_find_15 (l : List V) : M V := match l with | [x0, x1] => F_num_find_15 x0 x1 | _ => fail
theorem e_num_find_15 (x0 x1 : V) : funM Tryz.prog (ovr [] noC) fid_num_find_15 h_num_find_15 [x0, x1] = F_num_find_15 x0 x1 := by kernel_rfl
theorem K_num_find_15 : Known Tryz.prog fid_num_find_15 (A_num_find_15) := known_of (σ := ovr [] noC) (hint := h_num_find_15) (by kernel_rfl) simAll_nil0 fun l H r H' h => by
  unfold A_num_find_15 at h; split at h
  · rw [e_num_find_15]; exact h
  · exact (fail_ne h).elim

/-! ### capstan/num.find$16 -/
def F_num_find_16 (x0 x1 : V) : M V :=
  bnd (
    bnd (lift (un .xor x0)) fun x6 =>
    ret (.ret [x6])
    ) fun o => finM o fun vs => ret (outV [(at_ vs 0)])
def h_num_find_16 : Hint := (.seq [] .leaf (.seq [] .leaf .leaf))
def A_num_find_16 (l : List V) : M V := match l with | [x0, x1] => F_num_find_16 x0 x1 | _ => fail
theorem e_num_find_16 (x0 x1 : V) : funM Tryz.prog (ovr [] noC) fid_num_find_16 h_num_find_16 [x0, x1] = F_num_find_16 x0 x1 := by kernel_rfl
theorem K_num_find_16 : Known Tryz.prog fid_num_find_16 (A_num_find_16) := known_of (σ := ovr [] noC) (hint := h_num_find_16) (by kernel_rfl) simAll_nil0 fun l H r H' h => by
  unfold A_num_find_16 at h; split at h
  · rw [e_num_find_16]; exact h
  · exact (fail_ne h).elim

/-! ### capstan/num.find -/
def num_find_k0 (vs : List V) : M Out :=
  bnd (lift (bin .sub (at_ vs 0) (Value.int .i64 1))) fun x33 =>
  bnd (lift (iaddrS 4 (at_ vs 2) x33)) fun x34 =>
  bnd (ldn 4 x34) fun x35 =>
  bnd (stn 4 (at_ vs 1) x35) fun _ =>
  ret (.ret [(at_ vs 1), (Value.bool true)])
def F_num_find (x0 : V) : M V :=
  bnd (
    bnd (newc [Value.int .i64 0, Value.bool false, Value.nilFunc, Value.bool false]) fun x2 =>
    bnd (lift (build [Value.int .i64 0, Value.bool false, Value.nilFunc, Value.bool false] [(0, 1, (Value.int .i64 28)), (2, 1, (Value.func (.func fid_num_find_1) #[] #[]))])) fun x5 =>
    bnd (lift (build [Value.int .i64 0, Value.bool false, Value.nilFunc, Value.bool false] [(0, 1, (Value.int .i64 28)), (2, 1, (Value.func (.func fid_num_find_2) #[] #[]))])) fun x6 =>
    bnd (lift (build [Value.int .i64 0, Value.bool false, Value.nilFunc, Value.bool false] [(0, 1, (Value.int .i64 12)), (2, 1, (Value.func (.func fid_num_find_3) #[] #[]))])) fun x7 =>
    bnd (lift (build [Value.int .i64 0, Value.bool false, Value.nilFunc, Value.bool false] [(0, 1, (Value.int .i64 12)), (2, 1, (Value.func (.func fid_num_find_4) #[] #[]))])) fun x8 =>
    bnd (lift (build [Value.int .i64 0, Value.bool false, Value.nilFunc, Value.bool false] [(0, 1, (Value.int .i64 12)), (2, 1, (Value.func (.func fid_num_find_5) #[] #[]))])) fun x9 =>
    bnd (lift (build [Value.int .i64 0, Value.bool false, Value.nilFunc, Value.bool false] [(0, 1, (Value.int .i64 14)), (2, 1, (Value.func (.func fid_num_find_6) #[] #[]))])) fun x10 =>
    bnd (lift (build [Value.int .i64 0, Value.bool false, Value.nilFunc, Value.bool false] [(0, 1, (Value.int .i64 14)), (2, 1, (Value.func (.func fid_num_find_7) #[] #[]))])) fun x11 =>
    bnd (lift (build [Value.int .i64 0, Value.bool false, Value.nilFunc, Value.bool false] [(0, 1, (Value.int .i64 14)), (2, 1, (Value.func (.func fid_num_find_8) #[] #[]))])) fun x12 =>
    bnd (lift (build [Value.int .i64 0, Value.bool false, Value.nilFunc, Value.bool false] [(0, 1, (Value.int .i64 30)), (2, 1, (Value.func (.func fid_num_find_9) #[] #[])), (3, 1, (Value.bool true))])) fun x13 =>
    bnd (lift (build [Value.int .i64 0, Value.bool false, Value.nilFunc, Value.bool false] [(0, 1, (Value.int .i64 30)), (2, 1, (Value.func (.func fid_num_find_10) #[] #[])), (3, 1, (Value.bool true))])) fun x14 =>
    bnd (lift (build [Value.int .i64 0, Value.bool false, Value.nilFunc, Value.bool false] [(0, 1, (Value.int .i64 28)), (2, 1, (Value.func (.func fid_num_find_11) #[] #[])), (3, 1, (Value.bool true))])) fun x15 =>
    bnd (lift (build [Value.int .i64 0, Value.bool false, Value.nilFunc, Value.bool false] [(0, 1, (Value.int .i64 28)), (2, 1, (Value.func (.func fid_num_find_12) #[] #[])), (3, 1, (Value.bool true))])) fun x16 =>
    bnd (lift (build [Value.int .i64 0, Value.bool false, Value.nilFunc, Value.bool false] [(0, 1, (Value.int .i64 28)), (2, 1, (Value.func (.func fid_num_find_13) #[] #[])), (3, 1, (Value.bool true))])) fun x17 =>
    bnd (lift (build [Value.int .i64 0, Value.bool false, Value.nilFunc, Value.bool false] [(0, 1, (Value.int .i64 28)), (2, 1, (Value.func (.func fid_num_find_14) #[] #[])), (3, 1, (Value.bool true))])) fun x18 =>
    bnd (lift (build [Value.int .i64 0, Value.bool false, Value.nilFunc, Value.bool false] [(0, 1, (Value.int .i64 28)), (1, 1, (Value.bool true)), (2, 1, (Value.func (.func fid_num_find_15) #[] #[]))])) fun x19 =>
    bnd (lift (build [Value.int .i64 0, Value.bool false, Value.nilFunc, Value.bool false] [(0, 1, (Value.int .i64 14)), (1, 1, (Value.bool true)), (2, 1, (Value.func (.func fid_num_find_16) #[] #[]))])) fun x20 =>
    bnd (bslc 4 16 (rep 16 [Value.int .i64 0, Value.bool false, Value.nilFunc, Value.bool false]) [(0, 4, x5), (4, 4, x6), (8, 4, x7), (12, 4, x8), (16, 4, x9), (20, 4, x10), (24, 4, x11), (28, 4, x12), (32, 4, x13), (36, 4, x14), (40, 4, x15), (44, 4, x16), (48, 4, x17), (52, 4, x18), (56, 4, x19), (60, 4, x20)]) fun x21 =>
    bnd (
      bnd (lift (bin .lss x0 (Value.int .i64 1))) fun x23 =>
      bnd (gd x23 false (lift (some x0))) fun x25 =>
      bnd (gd x23 false (lift (some x21))) fun x26 =>
      bnd (gd x23 false (lift (lenSlc x26))) fun x27 =>
      bnd (gd x23 false (lift (bin .gtr x25 x27))) fun x28 =>
      bnd (lift (pickV x23 (Value.bool true) x28)) fun x29 =>
      condM x29 (
        bnd (lift (build [Value.int .i64 0, Value.bool false, Value.nilFunc, Value.bool false] [])) fun x30 =>
        bnd (stn 4 x2 x30) fun _ =>
        ret (.ret [x2, (Value.bool false)])
        ) (
        ret (.nxt [x0, x2, x21])
        )
      ) fun o => nx o num_find_k0
    ) fun o => finM o fun vs => bnd (ldn 4 (at_ vs 0)) fun r0 => ret (outV [r0, (at_ vs 1)])
def h_num_find : Hint := (.seq [] .leaf (.seq [] .leaf (.seq [0, 2, 4] (.seq [] .leaf (.cond (.seq [] .leaf .leaf) .leaf)) (.seq [] .leaf .leaf))))
def A_num_find (l : List V) : M V := match l with | [x0] => F_num_find x0 | _ => fail
theorem e_num_find (x0 : V) : funM Tryz.prog (ovr [] noC) fid_num_find h_num_find [x0] = F_num_find x0 := by kernel_rfl
theorem K_num_find : Known Tryz.prog fid_num_find (A_num_find) := known_of (σ := ovr [] noC) (hint := h_num_find) (by kernel_rfl) simAll_nil0 fun l H r H' h => by
  unfold A_num_find at h; split at h
  · rw [e_num_find]; exact h
  · exact (fail_ne h).elim

/-! ### (capstan/num.op).has -/
def F_num_op_has (x0 x1 : V) : M V :=
  bnd (
    bnd (boxv x0) fun x2 =>
    bnd (A_num_known [x1]) fun x6 =>
    bnd (gd x6 true (lift (faddr 0 x2))) fun x8 =>
    bnd (gd x6 true (ld1 x8)) fun x9 =>
    bnd (gd x6 true (lift (some x1))) fun x10 =>
    bnd (gd x6 true (lift (bin .shr x9 x10))) fun x11 =>
    bnd (gd x6 true (lift (bin .and x11 (Value.int .i64 1)))) fun x12 =>
    bnd (gd x6 true (lift (bin .eql x12 (Value.int .i64 1)))) fun x13 =>
    bnd (lift (pickV x6 x13 (Value.bool false))) fun x14 =>
    ret (.ret [x14])
    ) fun o => finM o fun vs => ret (outV [(at_ vs 0)])
def h_num_op_has : Hint := (.seq [] .leaf (.seq [] .leaf .leaf))
def A_num_op_has (l : List V) : M V := match l with | [x0, x1] => F_num_op_has x0 x1 | _ => fail
def s_num_op_has : Calls' := ovr [(fid_num_known, A_num_known)] noC
theorem e_num_op_has (x0 x1 : V) : funM Tryz.prog (s_num_op_has) fid_num_op_has h_num_op_has [x0, x1] = F_num_op_has x0 x1 := by kernel_rfl
theorem K_num_op_has : Known Tryz.prog fid_num_op_has (A_num_op_has) := known_of (σ := s_num_op_has) (hint := h_num_op_has) (by kernel_rfl) (simAll_ovr K_num_known simAll_nil0) fun l H r H' h => by
  unfold A_num_op_has at h; split at h
  · rw [e_num_op_has]; exact h
  · exact (fail_ne h).elim

/-! ### capstan/num.does -/
def num_does_k0 (vs : List V) : M Out :=
  bnd (lift (faddr 2 (at_ vs 3))) fun x65 =>
  bnd (ld1 x65) fun x66 =>
  bnd (callM (ovr [(fid_num_find_1, A_num_find_1), (fid_num_find_2, A_num_find_2), (fid_num_find_3, A_num_find_3), (fid_num_find_4, A_num_find_4), (fid_num_find_5, A_num_find_5), (fid_num_find_6, A_num_find_6), (fid_num_find_7, A_num_find_7), (fid_num_find_8, A_num_find_8), (fid_num_find_9, A_num_find_9), (fid_num_find_10, A_num_find_10), (fid_num_find_11, A_num_find_11), (fid_num_find_12, A_num_find_12), (fid_num_find_13, A_num_find_13), (fid_num_find_14, A_num_find_14), (fid_num_find_15, A_num_find_15), (fid_num_find_16, A_num_find_16), (fid_num_find, A_num_find), (fid_num_op_has, A_num_op_has), (fid_num_Fits, A_num_Fits), (fid_num_wrap, A_num_wrap)] noC) x66 [(at_ vs 1), (at_ vs 2)]) fun x69 =>
  bnd (A_num_wrap [(at_ vs 0), x69]) fun x70 =>
  ret (.ret [x70, (Value.int .i64 0)])
def F_num_does (x0 x1 x2 x3 x4 : V) : M V :=
  bnd (
    bnd (A_num_find [x0]) fun x16 =>
    bnd (lift (ext 0 x16)) fun x17 =>
    bnd (lift (ext 1 x16)) fun x18 =>
    bnd (newc [Value.int .i64 0, Value.bool false, Value.nilFunc, Value.bool false]) fun x12 =>
    bnd (stn 4 x12 x17) fun _ =>
    bnd (
      bnd (
        bnd (lift (un .not x18)) fun x21 =>
        bnd (gd x21 false (lift (faddr 1 x12))) fun x23 =>
        bnd (gd x21 false (ld1 x23)) fun x24 =>
        bnd (gd x21 false (lift (some x2))) fun x25 =>
        bnd (gd x21 false (lift (notIf true (eqK .b x24 x25)))) fun x26 =>
        bnd (lift (pickV x21 (Value.bool true) x26)) fun x27 =>
        bnd (gd x27 false (ldn 4 x12)) fun x29 =>
        bnd (gd x27 false (lift (some x1))) fun x30 =>
        bnd (gd x27 false (A_num_op_has [x29, x30])) fun x31 =>
        bnd (gd x27 false (lift (un .not x31))) fun x32 =>
        bnd (lift (pickV x27 (Value.bool true) x32)) fun x33 =>
        condM x33 (
          ret (.ret [(Value.int .i64 0), (Value.int .i64 40)])
          ) (
          bnd (A_num_Fits [x1, x3]) fun x37 =>
          bnd (lift (un .not x37)) fun x38 =>
          bnd (gd x38 false (lift (some x1))) fun x40 =>
          bnd (gd x38 false (lift (some x4))) fun x41 =>
          bnd (gd x38 false (A_num_Fits [x40, x41])) fun x42 =>
          bnd (gd x38 false (lift (un .not x42))) fun x43 =>
          bnd (lift (pickV x38 (Value.bool true) x43)) fun x44 =>
          condM x44 (
            ret (.ret [(Value.int .i64 0), (Value.int .i64 1)])
            ) (
            bnd (lift (bin .eql x0 (Value.int .i64 4))) fun x47 =>
            bnd (gd x47 false (lift (some x0))) fun x49 =>
            bnd (gd x47 false (lift (bin .eql x49 (Value.int .i64 5)))) fun x50 =>
            bnd (lift (pickV x47 (Value.bool true) x50)) fun x51 =>
            bnd (gd x51 true (lift (some x4))) fun x53 =>
            bnd (gd x51 true (lift (bin .eql x53 (Value.int .i64 0)))) fun x54 =>
            bnd (lift (pickV x51 x54 (Value.bool false))) fun x55 =>
            condM x55 (
              ret (.ret [(Value.int .i64 0), (Value.int .i64 41)])
              ) (
              bnd (lift (faddr 3 x12)) fun x57 =>
              bnd (ld1 x57) fun x58 =>
              condM x58 (
                bnd (lift (faddr 2 x12)) fun x59 =>
                bnd (ld1 x59) fun x60 =>
                bnd (callM (ovr [(fid_num_find_1, A_num_find_1), (fid_num_find_2, A_num_find_2), (fid_num_find_3, A_num_find_3), (fid_num_find_4, A_num_find_4), (fid_num_find_5, A_num_find_5), (fid_num_find_6, A_num_find_6), (fid_num_find_7, A_num_find_7), (fid_num_find_8, A_num_find_8), (fid_num_find_9, A_num_find_9), (fid_num_find_10, A_num_find_10), (fid_num_find_11, A_num_find_11), (fid_num_find_12, A_num_find_12), (fid_num_find_13, A_num_find_13), (fid_num_find_14, A_num_find_14), (fid_num_find_15, A_num_find_15), (fid_num_find_16, A_num_find_16), (fid_num_find, A_num_find), (fid_num_op_has, A_num_op_has), (fid_num_Fits, A_num_Fits), (fid_num_wrap, A_num_wrap)] noC) x60 [x3, x4]) fun x63 =>
                ret (.ret [x63, (Value.int .i64 0)])
                ) (
                ret (.nxt [x1, x3, x4, x12])
                )
              )
            )
          )
        ) fun o => ret (unblk 0 o)
      ) fun o => nx o num_does_k0
    ) fun o => finM o fun vs => ret (outV [(at_ vs 0), (at_ vs 1)])
def h_num_does : Hint := (.seq [] .leaf (.seq [] .leaf (.seq [1, 3, 4, 12] (.blk (.seq [] .leaf (.cond (.seq [] .leaf .leaf) (.seq [] .leaf (.cond (.seq [] .leaf .leaf) (.seq [] .leaf (.cond (.seq [] .leaf .leaf) (.seq [] .leaf (.cond (.seq [] .leaf .leaf) .leaf))))))))) (.seq [] .leaf .leaf))))
def A_num_does (l : List V) : M V := match l with | [x0, x1, x2, x3, x4] => F_num_does x0 x1 x2 x3 x4 | _ => fail
def s_num_does : Calls' := ovr [(fid_num_find_1, A_num_find_1), (fid_num_find_2, A_num_find_2), (fid_num_find_3, A_num_find_3), (fid_num_find_4, A_num_find_4), (fid_num_find_5, A_num_find_5), (fid_num_find_6, A_num_find_6), (fid_num_find_7, A_num_find_7), (fid_num_find_8, A_num_find_8), (fid_num_find_9, A_num_find_9), (fid_num_find_10, A_num_find_10), (fid_num_find_11, A_num_find_11), (fid_num_find_12, A_num_find_12), (fid_num_find_13, A_num_find_13), (fid_num_find_14, A_num_find_14), (fid_num_find_15, A_num_find_15), (fid_num_find_16, A_num_find_16), (fid_num_find, A_num_find), (fid_num_op_has, A_num_op_has), (fid_num_Fits, A_num_Fits), (fid_num_wrap, A_num_wrap)] noC
theorem e_num_does (x0 x1 x2 x3 x4 : V) : funM Tryz.prog (s_num_does) fid_num_does h_num_does [x0, x1, x2, x3, x4] = F_num_does x0 x1 x2 x3 x4 := by kernel_rfl
theorem K_num_does : Known Tryz.prog fid_num_does (A_num_does) := known_of (σ := s_num_does) (hint := h_num_does) (by kernel_rfl) (simAll_ovr K_num_find_1 (simAll_ovr K_num_find_2 (simAll_ovr K_num_find_3 (simAll_ovr K_num_find_4 (simAll_ovr K_num_find_5 (simAll_ovr K_num_find_6 (simAll_ovr K_num_find_7 (simAll_ovr K_num_find_8 (simAll_ovr K_num_find_9 (simAll_ovr K_num_find_10 (simAll_ovr K_num_find_11 (simAll_ovr K_num_find_12 (simAll_ovr K_num_find_13 (simAll_ovr K_num_find_14 (simAll_ovr K_num_find_15 (simAll_ovr K_num_find_16 (simAll_ovr K_num_find (simAll_ovr K_num_op_has (simAll_ovr K_num_Fits (simAll_ovr K_num_wrap simAll_nil0)))))))))))))))))))) fun l H r H' h => by
  unfold A_num_does at h; split at h
  · rw [e_num_does]; exact h
  · exact (fail_ne h).elim

/-! ### capstan/num.Two -/
def F_num_Two (x0 x1 x2 x3 : V) : M V :=
  bnd (
    bnd (A_num_does [x0, x1, (Value.bool false), x2, x3]) fun x14 =>
    bnd (lift (ext 0 x14)) fun x15 =>
    bnd (lift (ext 1 x14)) fun x16 =>
    ret (.ret [x15, x16])
    ) fun o => finM o fun vs => ret (outV [(at_ vs 0), (at_ vs 1)])
def h_num_Two : Hint := (.seq [] .leaf (.seq [] .leaf .leaf))
def A_num_Two (l : List V) : M V := match l with | [x0, x1, x2, x3] => F_num_Two x0 x1 x2 x3 | _ => fail
def s_num_Two : Calls' := ovr [(fid_num_does, A_num_does)] noC
theorem e_num_Two (x0 x1 x2 x3 : V) : funM Tryz.prog (s_num_Two) fid_num_Two h_num_Two [x0, x1, x2, x3] = F_num_Two x0 x1 x2 x3 := by kernel_rfl
theorem K_num_Two : Known Tryz.prog fid_num_Two (A_num_Two) := known_of (σ := s_num_Two) (hint := h_num_Two) (by kernel_rfl) (simAll_ovr K_num_does simAll_nil0) fun l H r H' h => by
  unfold A_num_Two at h; split at h
  · rw [e_num_Two]; exact h
  · exact (fail_ne h).elim

/-! ### capstan/code.rules$5 -/
def F_code_rules_5 (x0 x1 : V) : M V :=
  bnd (
    bnd (boxv x0) fun x2 =>
    bnd (boxv x1) fun x3 =>
    bnd (lift (faddr 1 x3)) fun x8 =>
    bnd (ld1 x8) fun x9 =>
    bnd (lift (faddr 2 x3)) fun x10 =>
    bnd (ld1 x10) fun x11 =>
    bnd (A_num_Two [x9, x11, (Value.int .i64 1), (Value.int .i64 1)]) fun x12 =>
    bnd (lift (ext 0 x12)) fun x13 =>
    bnd (lift (ext 1 x12)) fun x14 =>
    bnd (lift (bin .eql x14 (Value.int .i64 0))) fun x16 =>
    ret (.ret [x16])
    ) fun o => finM o fun vs => ret (outV [(at_ vs 0)])
def h_code_rules_5 : Hint := (.seq [] .leaf (.seq [] .leaf (.seq [] .leaf .leaf)))
def A_code_rules_5 (l : List V) : M V := match l with | [x0, x1] => F_code_rules_5 x0 x1 | _ => fail
def s_code_rules_5 : Calls' := ovr [(fid_num_Two, A_num_Two)] noC
theorem e_code_rules_5 (x0 x1 : V) : funM Tryz.prog (s_code_rules_5) fid_code_rules_5 h_code_rules_5 [x0, x1] = F_code_rules_5 x0 x1 := by kernel_rfl
theorem K_code_rules_5 : Known Tryz.prog fid_code_rules_5 (A_code_rules_5) := known_of (σ := s_code_rules_5) (hint := h_code_rules_5) (by kernel_rfl) (simAll_ovr K_num_Two simAll_nil0) fun l H r H' h => by
  unfold A_code_rules_5 at h; split at h
  · rw [e_code_rules_5]; exact h
  · exact (fail_ne h).elim

/-! ### capstan/num.One -/
def F_num_One (x0 x1 x2 : V) : M V :=
  bnd (
    bnd (A_num_does [x0, x1, (Value.bool true), x2, x2]) fun x12 =>
    bnd (lift (ext 0 x12)) fun x13 =>
    bnd (lift (ext 1 x12)) fun x14 =>
    ret (.ret [x13, x14])
    ) fun o => finM o fun vs => ret (outV [(at_ vs 0), (at_ vs 1)])
def h_num_One : Hint := (.seq [] .leaf (.seq [] .leaf .leaf))
def A_num_One (l : List V) : M V := match l with | [x0, x1, x2] => F_num_One x0 x1 x2 | _ => fail
def s_num_One : Calls' := ovr [(fid_num_does, A_num_does)] noC
theorem e_num_One (x0 x1 x2 : V) : funM Tryz.prog (s_num_One) fid_num_One h_num_One [x0, x1, x2] = F_num_One x0 x1 x2 := by kernel_rfl
theorem K_num_One : Known Tryz.prog fid_num_One (A_num_One) := known_of (σ := s_num_One) (hint := h_num_One) (by kernel_rfl) (simAll_ovr K_num_does simAll_nil0) fun l H r H' h => by
  unfold A_num_One at h; split at h
  · rw [e_num_One]; exact h
  · exact (fail_ne h).elim

/-! ### capstan/code.rules$6 -/
def F_code_rules_6 (x0 x1 : V) : M V :=
  bnd (
    bnd (boxv x0) fun x2 =>
    bnd (boxv x1) fun x3 =>
    bnd (lift (faddr 1 x3)) fun x8 =>
    bnd (ld1 x8) fun x9 =>
    bnd (lift (faddr 2 x3)) fun x10 =>
    bnd (ld1 x10) fun x11 =>
    bnd (A_num_One [x9, x11, (Value.int .i64 1)]) fun x12 =>
    bnd (lift (ext 0 x12)) fun x13 =>
    bnd (lift (ext 1 x12)) fun x14 =>
    bnd (lift (bin .eql x14 (Value.int .i64 0))) fun x16 =>
    ret (.ret [x16])
    ) fun o => finM o fun vs => ret (outV [(at_ vs 0)])
def h_code_rules_6 : Hint := (.seq [] .leaf (.seq [] .leaf (.seq [] .leaf .leaf)))
def A_code_rules_6 (l : List V) : M V := match l with | [x0, x1] => F_code_rules_6 x0 x1 | _ => fail
def s_code_rules_6 : Calls' := ovr [(fid_num_One, A_num_One)] noC
theorem e_code_rules_6 (x0 x1 : V) : funM Tryz.prog (s_code_rules_6) fid_code_rules_6 h_code_rules_6 [x0, x1] = F_code_rules_6 x0 x1 := by kernel_rfl
theorem K_code_rules_6 : Known Tryz.prog fid_code_rules_6 (A_code_rules_6) := known_of (σ := s_code_rules_6) (hint := h_code_rules_6) (by kernel_rfl) (simAll_ovr K_num_One simAll_nil0) fun l H r H' h => by
  unfold A_code_rules_6 at h; split at h
  · rw [e_code_rules_6]; exact h
  · exact (fail_ne h).elim

/-! ### capstan/num.Convert -/
def num_Convert_k0 (vs : List V) : M Out :=
  bnd (A_num_wrap [(at_ vs 0), (at_ vs 1)]) fun x31 =>
  ret (.ret [x31, (Value.int .i64 0)])
def F_num_Convert (x0 x1 x2 : V) : M V :=
  bnd (
    bnd (
      bnd (
        bnd (A_num_known [x0]) fun x10 =>
        bnd (lift (un .not x10)) fun x11 =>
        bnd (gd x11 false (lift (some x1))) fun x13 =>
        bnd (gd x11 false (A_num_known [x13])) fun x14 =>
        bnd (gd x11 false (lift (un .not x14))) fun x15 =>
        bnd (lift (pickV x11 (Value.bool true) x15)) fun x16 =>
        bnd (gd x16 false (lift (some x0))) fun x18 =>
        bnd (gd x16 false (lift (bin .eql x18 (Value.int .i64 1)))) fun x19 =>
        bnd (gd x16 false (lift (some x1))) fun x20 =>
        bnd (gd x16 false (lift (bin .eql x20 (Value.int .i64 1)))) fun x21 =>
        bnd (gd x16 false (lift (notIf true (eqK .b x19 x21)))) fun x22 =>
        bnd (lift (pickV x16 (Value.bool true) x22)) fun x23 =>
        condM x23 (
          ret (.ret [(Value.int .i64 0), (Value.int .i64 40)])
          ) (
          bnd (A_num_Fits [x0, x2]) fun x27 =>
          bnd (lift (un .not x27)) fun x28 =>
          condM x28 (
            ret (.ret [(Value.int .i64 0), (Value.int .i64 1)])
            ) (
            ret (.nxt [x1, x2])
            )
          )
        ) fun o => ret (unblk 0 o)
      ) fun o => nx o num_Convert_k0
    ) fun o => finM o fun vs => ret (outV [(at_ vs 0), (at_ vs 1)])
def h_num_Convert : Hint := (.seq [] .leaf (.seq [1, 2] (.blk (.seq [] .leaf (.cond (.seq [] .leaf .leaf) (.seq [] .leaf (.cond (.seq [] .leaf .leaf) .leaf))))) (.seq [] .leaf .leaf)))
def A_num_Convert (l : List V) : M V := match l with | [x0, x1, x2] => F_num_Convert x0 x1 x2 | _ => fail
def s_num_Convert : Calls' := ovr [(fid_num_known, A_num_known), (fid_num_Fits, A_num_Fits), (fid_num_wrap, A_num_wrap)] noC
theorem e_num_Convert (x0 x1 x2 : V) : funM Tryz.prog (s_num_Convert) fid_num_Convert h_num_Convert [x0, x1, x2] = F_num_Convert x0 x1 x2 := by kernel_rfl
theorem K_num_Convert : Known Tryz.prog fid_num_Convert (A_num_Convert) := known_of (σ := s_num_Convert) (hint := h_num_Convert) (by kernel_rfl) (simAll_ovr K_num_known (simAll_ovr K_num_Fits (simAll_ovr K_num_wrap simAll_nil0))) fun l H r H' h => by
  unfold A_num_Convert at h; split at h
  · rw [e_num_Convert]; exact h
  · exact (fail_ne h).elim

/-! ### capstan/code.rules$7 -/
def F_code_rules_7 (x0 x1 : V) : M V :=
  bnd (
    bnd (boxv x0) fun x2 =>
    bnd (boxv x1) fun x3 =>
    bnd (lift (faddr 1 x3)) fun x8 =>
    bnd (ld1 x8) fun x9 =>
    bnd (lift (faddr 2 x3)) fun x10 =>
    bnd (ld1 x10) fun x11 =>
    bnd (A_num_Convert [x9, x11, (Value.int .i64 0)]) fun x12 =>
    bnd (lift (ext 0 x12)) fun x13 =>
    bnd (lift (ext 1 x12)) fun x14 =>
    bnd (lift (bin .eql x14 (Value.int .i64 0))) fun x16 =>
    ret (.ret [x16])
    ) fun o => finM o fun vs => ret (outV [(at_ vs 0)])
def h_code_rules_7 : Hint := (.seq [] .leaf (.seq [] .leaf (.seq [] .leaf .leaf)))
def A_code_rules_7 (l : List V) : M V := match l with | [x0, x1] => F_code_rules_7 x0 x1 | _ => fail
def s_code_rules_7 : Calls' := ovr [(fid_num_Convert, A_num_Convert)] noC
theorem e_code_rules_7 (x0 x1 : V) : funM Tryz.prog (s_code_rules_7) fid_code_rules_7 h_code_rules_7 [x0, x1] = F_code_rules_7 x0 x1 := by kernel_rfl
theorem K_code_rules_7 : Known Tryz.prog fid_code_rules_7 (A_code_rules_7) := known_of (σ := s_code_rules_7) (hint := h_code_rules_7) (by kernel_rfl) (simAll_ovr K_num_Convert simAll_nil0) fun l H r H' h => by
  unfold A_code_rules_7 at h; split at h
  · rw [e_code_rules_7]; exact h
  · exact (fail_ne h).elim

/-! ### capstan/typed.in -/
def F_typed_in (x0 x1 : V) : M V :=
  bnd (
    bnd (newc [Value.string ⟨#[]⟩, Value.int .i64 0, Value.bool false]) fun x4 =>
    bnd (lift (build [Value.string ⟨#[]⟩, Value.int .i64 0, Value.bool false] [(0, 1, x0), (1, 1, x1), (2, 1, (Value.bool true))])) fun x7 =>
    bnd (stn 3 x4 x7) fun _ =>
    ret (.ret [x4])
    ) fun o => finM o fun vs => bnd (ldn 3 (at_ vs 0)) fun r0 => ret (outV [r0])
def h_typed_in : Hint := (.seq [] .leaf (.seq [] .leaf .leaf))
def A_typed_in (l : List V) : M V := match l with | [x0, x1] => F_typed_in x0 x1 | _ => fail
theorem e_typed_in (x0 x1 : V) : funM Tryz.prog (ovr [] noC) fid_typed_in h_typed_in [x0, x1] = F_typed_in x0 x1 := by kernel_rfl
theorem K_typed_in : Known Tryz.prog fid_typed_in (A_typed_in) := known_of (σ := ovr [] noC) (hint := h_typed_in) (by kernel_rfl) simAll_nil0 fun l H r H' h => by
  unfold A_typed_in at h; split at h
  · rw [e_typed_in]; exact h
  · exact (fail_ne h).elim

/-! ### capstan/typed.out -/
def F_typed_out (x0 x1 : V) : M V :=
  bnd (
    bnd (newc [Value.string ⟨#[]⟩, Value.int .i64 0, Value.bool false]) fun x4 =>
    bnd (lift (build [Value.string ⟨#[]⟩, Value.int .i64 0, Value.bool false] [(0, 1, x0), (1, 1, x1), (2, 1, (Value.bool false))])) fun x7 =>
    bnd (stn 3 x4 x7) fun _ =>
    ret (.ret [x4])
    ) fun o => finM o fun vs => bnd (ldn 3 (at_ vs 0)) fun r0 => ret (outV [r0])
def h_typed_out : Hint := (.seq [] .leaf (.seq [] .leaf .leaf))
def A_typed_out (l : List V) : M V := match l with | [x0, x1] => F_typed_out x0 x1 | _ => fail
theorem e_typed_out (x0 x1 : V) : funM Tryz.prog (ovr [] noC) fid_typed_out h_typed_out [x0, x1] = F_typed_out x0 x1 := by kernel_rfl
theorem K_typed_out : Known Tryz.prog fid_typed_out (A_typed_out) := known_of (σ := ovr [] noC) (hint := h_typed_out) (by kernel_rfl) simAll_nil0 fun l H r H' h => by
  unfold A_typed_out at h; split at h
  · rw [e_typed_out]; exact h
  · exact (fail_ne h).elim

/-! ### capstan/typed.Fields -/
def typed_Fields_k0 (vs_2 : List V) : M Out :=
            condM (at_ vs_2 1) (
              bnd (A_typed_in [(Value.string ⟨#[67, 76, 75]⟩), (Value.int .i64 1)]) fun x37 =>
              bnd (A_typed_out [(Value.string ⟨#[81]⟩), (Value.int .i64 1)]) fun x38 =>
              bnd (A_typed_out [(Value.string ⟨#[77]⟩), (Value.int .i64 1)]) fun x39 =>
              bnd (bslc 3 3 (rep 3 [Value.string ⟨#[]⟩, Value.int .i64 0, Value.bool false]) [(0, 3, x37), (3, 3, x38), (6, 3, x39)]) fun x40 =>
              ret (.ret [x40, (Value.int .i64 0)])
              ) (
              bnd (lift (bin .eql (at_ vs_2 0) (Value.int .i64 8))) fun x42 =>
              condM x42 (
                bnd (A_typed_in [(Value.string ⟨#[83, 49]⟩), (Value.int .i64 1)]) fun x43 =>
                bnd (A_typed_in [(Value.string ⟨#[82]⟩), (Value.int .i64 1)]) fun x44 =>
                bnd (A_typed_out [(Value.string ⟨#[81, 49]⟩), (Value.int .i64 1)]) fun x45 =>
                bnd (bslc 3 3 (rep 3 [Value.string ⟨#[]⟩, Value.int .i64 0, Value.bool false]) [(0, 3, x43), (3, 3, x44), (6, 3, x45)]) fun x46 =>
                ret (.ret [x46, (Value.int .i64 0)])
                ) (
                bnd (lift (bin .eql (at_ vs_2 0) (Value.int .i64 9))) fun x48 =>
                condM x48 (
                  bnd (A_typed_in [(Value.string ⟨#[83]⟩), (Value.int .i64 1)]) fun x49 =>
                  bnd (A_typed_in [(Value.string ⟨#[82, 49]⟩), (Value.int .i64 1)]) fun x50 =>
                  bnd (A_typed_out [(Value.string ⟨#[81, 49]⟩), (Value.int .i64 1)]) fun x51 =>
                  bnd (bslc 3 3 (rep 3 [Value.string ⟨#[]⟩, Value.int .i64 0, Value.bool false]) [(0, 3, x49), (3, 3, x50), (6, 3, x51)]) fun x52 =>
                  ret (.ret [x52, (Value.int .i64 0)])
                  ) (
                  bnd (lift (bin .eql (at_ vs_2 0) (Value.int .i64 10))) fun x54 =>
                  condM x54 (
                    bnd (A_typed_in [(Value.string ⟨#[65]⟩), (Value.int .i64 1)]) fun x55 =>
                    bnd (A_typed_in [(Value.string ⟨#[66]⟩), (Value.int .i64 1)]) fun x56 =>
                    bnd (A_typed_in [(Value.string ⟨#[82]⟩), (Value.int .i64 1)]) fun x57 =>
                    bnd (A_typed_out [(Value.string ⟨#[67, 86]⟩), (Value.int .i64 3)]) fun x58 =>
                    bnd (A_typed_out [(Value.string ⟨#[69, 82, 82]⟩), (Value.int .i64 1)]) fun x59 =>
                    bnd (A_typed_out [(Value.string ⟨#[76, 65, 83, 84]⟩), (Value.int .i64 2)]) fun x60 =>
                    bnd (bslc 3 6 (rep 6 [Value.string ⟨#[]⟩, Value.int .i64 0, Value.bool false]) [(0, 3, x55), (3, 3, x56), (6, 3, x57), (9, 3, x58), (12, 3, x59), (15, 3, x60)]) fun x61 =>
                    ret (.ret [x61, (Value.int .i64 0)])
                    ) (
                    ret (.nxt [])
                    )
                  )
                )
              )
def typed_Fields_k1 (vs : List V) : M Out :=
      condM (at_ vs 1) (
        bnd (A_typed_in [(Value.string ⟨#[73, 78]⟩), (Value.int .i64 1)]) fun x9 =>
        bnd (A_typed_in [(Value.string ⟨#[80, 84]⟩), (Value.int .i64 4)]) fun x10 =>
        bnd (A_typed_out [(Value.string ⟨#[81]⟩), (Value.int .i64 1)]) fun x11 =>
        bnd (A_typed_out [(Value.string ⟨#[69, 84]⟩), (Value.int .i64 4)]) fun x12 =>
        bnd (A_typed_out [(Value.string ⟨#[83, 84, 65, 82, 84]⟩), (Value.int .i64 4)]) fun x13 =>
        bnd (A_typed_out [(Value.string ⟨#[82, 85, 78]⟩), (Value.int .i64 1)]) fun x14 =>
        bnd (bslc 3 6 (rep 6 [Value.string ⟨#[]⟩, Value.int .i64 0, Value.bool false]) [(0, 3, x9), (3, 3, x10), (6, 3, x11), (9, 3, x12), (12, 3, x13), (15, 3, x14)]) fun x15 =>
        ret (.ret [x15, (Value.int .i64 0)])
        ) (
        bnd (lift (bin .eql (at_ vs 0) (Value.int .i64 4))) fun x17 =>
        condM x17 (
          bnd (A_typed_in [(Value.string ⟨#[67, 85]⟩), (Value.int .i64 1)]) fun x18 =>
          bnd (A_typed_in [(Value.string ⟨#[82]⟩), (Value.int .i64 1)]) fun x19 =>
          bnd (A_typed_in [(Value.string ⟨#[80, 86]⟩), (Value.int .i64 2)]) fun x20 =>
          bnd (A_typed_out [(Value.string ⟨#[81]⟩), (Value.int .i64 1)]) fun x21 =>
          bnd (A_typed_out [(Value.string ⟨#[67, 86]⟩), (Value.int .i64 2)]) fun x22 =>
          bnd (A_typed_out [(Value.string ⟨#[77]⟩), (Value.int .i64 1)]) fun x23 =>
          bnd (bslc 3 6 (rep 6 [Value.string ⟨#[]⟩, Value.int .i64 0, Value.bool false]) [(0, 3, x18), (3, 3, x19), (6, 3, x20), (9, 3, x21), (12, 3, x22), (15, 3, x23)]) fun x24 =>
          ret (.ret [x24, (Value.int .i64 0)])
          ) (
          bnd (lift (bin .eql (at_ vs 0) (Value.int .i64 5))) fun x26 =>
          condM x26 (
            bnd (A_typed_in [(Value.string ⟨#[67, 68]⟩), (Value.int .i64 1)]) fun x27 =>
            bnd (A_typed_in [(Value.string ⟨#[76, 68]⟩), (Value.int .i64 1)]) fun x28 =>
            bnd (A_typed_in [(Value.string ⟨#[80, 86]⟩), (Value.int .i64 2)]) fun x29 =>
            bnd (A_typed_out [(Value.string ⟨#[81]⟩), (Value.int .i64 1)]) fun x30 =>
            bnd (A_typed_out [(Value.string ⟨#[67, 86]⟩), (Value.int .i64 2)]) fun x31 =>
            bnd (A_typed_out [(Value.string ⟨#[77]⟩), (Value.int .i64 1)]) fun x32 =>
            bnd (bslc 3 6 (rep 6 [Value.string ⟨#[]⟩, Value.int .i64 0, Value.bool false]) [(0, 3, x27), (3, 3, x28), (6, 3, x29), (9, 3, x30), (12, 3, x31), (15, 3, x32)]) fun x33 =>
            ret (.ret [x33, (Value.int .i64 0)])
            ) (
            bnd (
              bnd (lift (bin .eql (at_ vs 0) (Value.int .i64 6))) fun x35 =>
              condM x35 (
                ret (.nxt [(at_ vs 0), x35])
                ) (
                bnd (lift (bin .eql (at_ vs 0) (Value.int .i64 7))) fun x36 =>
                ret (.nxt [(at_ vs 0), x36])
                )
              ) fun o => nx o typed_Fields_k0
            )
          )
        )
def typed_Fields_k2 (vs_3 : List V) : M Out :=
  ret (.ret [(Value.slice none 0 0), (Value.int .i64 92)])
def F_typed_Fields (x0 : V) : M V :=
  bnd (
    bnd (
      bnd (
        bnd (
          bnd (lift (bin .eql x0 (Value.int .i64 1))) fun x6 =>
          condM x6 (
            ret (.nxt [x0, x6])
            ) (
            bnd (lift (bin .eql x0 (Value.int .i64 2))) fun x7 =>
            condM x7 (
              ret (.nxt [x0, x7])
              ) (
              bnd (lift (bin .eql x0 (Value.int .i64 3))) fun x8 =>
              ret (.nxt [x0, x8])
              )
            )
          ) fun o => nx o typed_Fields_k1
        ) fun o => ret (unblk 0 o)
      ) fun o => nx o typed_Fields_k2
    ) fun o => finM o fun vs => ret (outV [(at_ vs 0), (at_ vs 1)])
def h_typed_Fields : Hint := (.seq [] .leaf (.seq [] (.seq [] .leaf (.blk (.seq [4, 5] (.seq [] .leaf (.cond .leaf (.seq [] .leaf (.cond .leaf .leaf)))) (.cond (.seq [] .leaf .leaf) (.seq [] .leaf (.cond (.seq [] .leaf .leaf) (.seq [] .leaf (.cond (.seq [] .leaf .leaf) (.seq [4, 34] (.seq [] .leaf (.cond .leaf .leaf)) (.cond (.seq [] .leaf .leaf) (.seq [] .leaf (.cond (.seq [] .leaf .leaf) (.seq [] .leaf (.cond (.seq [] .leaf .leaf) (.seq [] .leaf (.cond (.seq [] .leaf .leaf) .leaf)))))))))))))))) (.seq [] .leaf .leaf)))
def A_typed_Fields (l : List V) : M V := match l with | [x0] => F_typed_Fields x0 | _ => fail
def s_typed_Fields : Calls' := ovr [(fid_typed_in, A_typed_in), (fid_typed_out, A_typed_out)] noC
theorem e_typed_Fields (x0 : V) : funM Tryz.prog (s_typed_Fields) fid_typed_Fields h_typed_Fields [x0] = F_typed_Fields x0 := by kernel_rfl
theorem K_typed_Fields : Known Tryz.prog fid_typed_Fields (A_typed_Fields) := known_of (σ := s_typed_Fields) (hint := h_typed_Fields) (by kernel_rfl) (simAll_ovr K_typed_in (simAll_ovr K_typed_out simAll_nil0)) fun l H r H' h => by
  unfold A_typed_Fields at h; split at h
  · rw [e_typed_Fields]; exact h
  · exact (fail_ne h).elim

/-! ### slices.EqualFunc[[]int,[]capstan/typed.Field,int,capstan/typed.Field] -/
def slices_EqualFunc_S_int_S_typed_Field_int_typed_Field_k0 (S : Calls') (vs_4 : List V) : M Out :=
  bnd (lift (bin .add (at_ vs_4 4) (Value.int .i64 1))) fun x31 =>
  ret (.nxt [(at_ vs_4 0), (at_ vs_4 1), (at_ vs_4 2), (at_ vs_4 3), x31])
def slices_EqualFunc_S_int_S_typed_Field_int_typed_Field_k1 (S : Calls') (vs_3 : List V) : M Out :=
  bnd (
  bnd (
    bnd (lift (iaddrS 1 (at_ vs_3 2) (at_ vs_3 4))) fun x20 =>
    bnd (ld1 x20) fun x21 =>
    bnd (lift (iaddrS 3 (at_ vs_3 0) (at_ vs_3 4))) fun x24 =>
    bnd (ldn 3 x24) fun x25 =>
    bnd (newc [Value.string ⟨#[]⟩, Value.int .i64 0, Value.bool false]) fun x9 =>
    bnd (stn 3 x9 x25) fun _ =>
    bnd (ldn 3 x9) fun x28 =>
    bnd (callM (ovr [] S) (at_ vs_3 1) [x21, x28]) fun x29 =>
    bnd (lift (un .not x29)) fun x30 =>
    condM x30 (
      ret (.ret [(Value.bool false)])
      ) (
      ret (.nxt [(at_ vs_3 0), (at_ vs_3 1), (at_ vs_3 2), (at_ vs_3 3), (at_ vs_3 4)])
      )
    ) fun o => ret (unblk 1 o)
  ) fun o => nx o (slices_EqualFunc_S_int_S_typed_Field_int_typed_Field_k0 S)
def slices_EqualFunc_S_int_S_typed_Field_int_typed_Field_l2 (S : Calls') (vs_2 : List V) : M Out :=
  bnd (lift (bin .lss (at_ vs_2 4) (at_ vs_2 3))) fun x18 =>
  bnd (
  condM x18 (
    ret (.nxt [(at_ vs_2 0), (at_ vs_2 1), (at_ vs_2 2), (at_ vs_2 3), (at_ vs_2 4)])
    ) (
    ret (.brk 0 [])
    )
  ) fun o => nx o (slices_EqualFunc_S_int_S_typed_Field_int_typed_Field_k1 S)
def slices_EqualFunc_S_int_S_typed_Field_int_typed_Field_k3 (S : Calls') (vs_5 : List V) : M Out :=
  ret (.ret [(Value.bool true)])
def slices_EqualFunc_S_int_S_typed_Field_int_typed_Field_k4 (S : Calls') (vs : List V) : M Out :=
  bnd (
    bnd (lift (lenSlc (at_ vs 0))) fun x16 =>
    bnd (
      loopM FUEL (slices_EqualFunc_S_int_S_typed_Field_int_typed_Field_l2 S) [(at_ vs 1), (at_ vs 2), (at_ vs 0), x16, (Value.int .i64 0)]
      ) fun o => ret (unblk 0 o)
    ) fun o => nx o (slices_EqualFunc_S_int_S_typed_Field_int_typed_Field_k3 S)
def F_slices_EqualFunc_S_int_S_typed_Field_int_typed_Field (S : Calls') (x0 x1 x2 : V) : M V :=
  bnd (
    bnd (
      bnd (lift (lenSlc x0)) fun x11 =>
      bnd (lift (lenSlc x1)) fun x13 =>
      bnd (lift (bin .neq x11 x13)) fun x14 =>
      condM x14 (
        ret (.ret [(Value.bool false)])
        ) (
        ret (.nxt [x0, x1, x2])
        )
      ) fun o => nx o (slices_EqualFunc_S_int_S_typed_Field_int_typed_Field_k4 S)
    ) fun o => finM o fun vs => ret (outV [(at_ vs 0)])
def h_slices_EqualFunc_S_int_S_typed_Field_int_typed_Field : Hint := (.seq [] .leaf (.seq [0, 1, 2] (.seq [] .leaf (.cond (.seq [] .leaf .leaf) .leaf)) (.seq [] (.seq [] .leaf (.blk (.loop [1, 2, 15, 16, 17] (.seq [] .leaf (.seq [1, 2, 15, 16, 17] (.cond .leaf .leaf) (.seq [1, 2, 15, 16, 17] (.blk (.seq [] .leaf (.seq [] .leaf (.seq [] .leaf (.cond (.seq [] .leaf .leaf) .leaf))))) .leaf)))))) (.seq [] .leaf .leaf))))
def A_slices_EqualFunc_S_int_S_typed_Field_int_typed_Field (S : Calls') (l : List V) : M V := match l with | [x0, x1, x2] => F_slices_EqualFunc_S_int_S_typed_Field_int_typed_Field S x0 x1 x2 | _ => fail
theorem e_slices_EqualFunc_S_int_S_typed_Field_int_typed_Field (S : Calls') (x0 x1 x2 : V) : funM Tryz.prog (ovr [] S) fid_slices_EqualFunc_S_int_S_typed_Field_int_typed_Field h_slices_EqualFunc_S_int_S_typed_Field_int_typed_Field [x0, x1, x2] = F_slices_EqualFunc_S_int_S_typed_Field_int_typed_Field S x0 x1 x2 := by kernel_rfl
theorem K_slices_EqualFunc_S_int_S_typed_Field_int_typed_Field {S : Calls'} (hS : SimAll Tryz.prog S) : Known Tryz.prog fid_slices_EqualFunc_S_int_S_typed_Field_int_typed_Field (A_slices_EqualFunc_S_int_S_typed_Field_int_typed_Field S) := known_of (σ := ovr [] S) (hint := h_slices_EqualFunc_S_int_S_typed_Field_int_typed_Field) (by kernel_rfl) (simAll_base hS) fun l H r H' h => by
  unfold A_slices_EqualFunc_S_int_S_typed_Field_int_typed_Field at h; split at h
  · rw [e_slices_EqualFunc_S_int_S_typed_Field_int_typed_Field]; exact h
  · exact (fail_ne h).elim

/-! ### capstan/code.rules$8$1 -/
def F_code_rules_8_1 (x0 x1 : V) : M V :=
  bnd (
    bnd (boxv x1) fun x3 =>
    bnd (lift (faddr 1 x3)) fun x6 =>
    bnd (ld1 x6) fun x7 =>
    bnd (lift (bin .eql x0 x7)) fun x8 =>
    ret (.ret [x8])
    ) fun o => finM o fun vs => ret (outV [(at_ vs 0)])
def h_code_rules_8_1 : Hint := (.seq [] .leaf (.seq [] .leaf .leaf))
def A_code_rules_8_1 (l : List V) : M V := match l with | [x0, x1] => F_code_rules_8_1 x0 x1 | _ => fail
theorem e_code_rules_8_1 (x0 x1 : V) : funM Tryz.prog (ovr [] noC) fid_code_rules_8_1 h_code_rules_8_1 [x0, x1] = F_code_rules_8_1 x0 x1 := by kernel_rfl
theorem K_code_rules_8_1 : Known Tryz.prog fid_code_rules_8_1 (A_code_rules_8_1) := known_of (σ := ovr [] noC) (hint := h_code_rules_8_1) (by kernel_rfl) simAll_nil0 fun l H r H' h => by
  unfold A_code_rules_8_1 at h; split at h
  · rw [e_code_rules_8_1]; exact h
  · exact (fail_ne h).elim

/-! ### capstan/code.rules$8 -/
def F_code_rules_8 (x0 x1 : V) : M V :=
  bnd (
    bnd (boxv x0) fun x2 =>
    bnd (boxv x1) fun x3 =>
    bnd (lift (faddr 1 x3)) fun x9 =>
    bnd (ld1 x9) fun x10 =>
    bnd (A_typed_Fields [x10]) fun x11 =>
    bnd (lift (ext 0 x11)) fun x12 =>
    bnd (lift (ext 1 x11)) fun x13 =>
    bnd (ldn 6 x2) fun x14 =>
    bnd (lift (faddr 2 x3)) fun x15 =>
    bnd (ld1 x15) fun x16 =>
    bnd (lift (lenSlc x12)) fun x18 =>
    bnd (A_code_cells [x14, x16, x18]) fun x19 =>
    bnd (lift (bin .eql x13 (Value.int .i64 0))) fun x21 =>
    bnd (gd x21 true (lift (some x19))) fun x23 =>
    bnd (gd x21 true (lift (some x12))) fun x24 =>
    bnd (gd x21 true ((A_slices_EqualFunc_S_int_S_typed_Field_int_typed_Field (ovr [(fid_code_rules_8_1, A_code_rules_8_1)] noC)) [x23, x24, (Value.func (.func fid_code_rules_8_1) #[] #[])])) fun x25 =>
    bnd (lift (pickV x21 x25 (Value.bool false))) fun x26 =>
    ret (.ret [x26])
    ) fun o => finM o fun vs => ret (outV [(at_ vs 0)])
def h_code_rules_8 : Hint := (.seq [] .leaf (.seq [] .leaf (.seq [] .leaf (.seq [] .leaf .leaf))))
def A_code_rules_8 (l : List V) : M V := match l with | [x0, x1] => F_code_rules_8 x0 x1 | _ => fail
def s_code_rules_8 : Calls' := ovr [(fid_typed_Fields, A_typed_Fields), (fid_code_cells, A_code_cells), (fid_slices_EqualFunc_S_int_S_typed_Field_int_typed_Field, A_slices_EqualFunc_S_int_S_typed_Field_int_typed_Field (ovr [(fid_code_rules_8_1, A_code_rules_8_1)] noC))] noC
theorem e_code_rules_8 (x0 x1 : V) : funM Tryz.prog (s_code_rules_8) fid_code_rules_8 h_code_rules_8 [x0, x1] = F_code_rules_8 x0 x1 := by kernel_rfl
theorem K_code_rules_8 : Known Tryz.prog fid_code_rules_8 (A_code_rules_8) := known_of (σ := s_code_rules_8) (hint := h_code_rules_8) (by kernel_rfl) (simAll_ovr K_typed_Fields (simAll_ovr K_code_cells (simAll_ovr (K_slices_EqualFunc_S_int_S_typed_Field_int_typed_Field (simAll_ovr K_code_rules_8_1 simAll_nil0)) simAll_nil0))) fun l H r H' h => by
  unfold A_code_rules_8 at h; split at h
  · rw [e_code_rules_8]; exact h
  · exact (fail_ne h).elim

/-! ### capstan/code.rules$9 -/
def F_code_rules_9 (x0 x1 : V) : M V :=
  bnd (
    bnd (boxv x0) fun x2 =>
    bnd (boxv x1) fun x3 =>
    ret (.ret [(Value.bool true)])
    ) fun o => finM o fun vs => ret (outV [(at_ vs 0)])
def h_code_rules_9 : Hint := (.seq [] .leaf (.seq [] .leaf .leaf))
def A_code_rules_9 (l : List V) : M V := match l with | [x0, x1] => F_code_rules_9 x0 x1 | _ => fail
theorem e_code_rules_9 (x0 x1 : V) : funM Tryz.prog (ovr [] noC) fid_code_rules_9 h_code_rules_9 [x0, x1] = F_code_rules_9 x0 x1 := by kernel_rfl
theorem K_code_rules_9 : Known Tryz.prog fid_code_rules_9 (A_code_rules_9) := known_of (σ := ovr [] noC) (hint := h_code_rules_9) (by kernel_rfl) simAll_nil0 fun l H r H' h => by
  unfold A_code_rules_9 at h; split at h
  · rw [e_code_rules_9]; exact h
  · exact (fail_ne h).elim

/-! ### capstan/code.rules -/
def F_code_rules : M V :=
  bnd (
    bnd (lift (build [Value.bool false, Value.bool false, Value.bool false, Value.nilFunc] [(0, 1, (Value.bool true)), (3, 1, (Value.func (.func fid_code_rules_1) #[] #[]))])) fun x4 =>
    bnd (newc [Value.bool false, Value.bool false, Value.bool false, Value.nilFunc]) fun x1 =>
    bnd (stn 4 x1 x4) fun _ =>
    bnd (lift (build [Value.bool false, Value.bool false, Value.bool false, Value.nilFunc] [(0, 1, (Value.bool true)), (1, 1, (Value.bool true)), (3, 1, (Value.func (.func fid_code_rules_2) #[] #[]))])) fun x5 =>
    bnd (newc [Value.bool false, Value.bool false, Value.bool false, Value.nilFunc]) fun x2 =>
    bnd (stn 4 x2 x5) fun _ =>
    bnd (lift (build [Value.bool false, Value.bool false, Value.bool false, Value.nilFunc] [(0, 1, (Value.bool true)), (3, 1, (Value.func (.func fid_code_rules_3) #[] #[]))])) fun x6 =>
    bnd (newc [Value.bool false, Value.bool false, Value.bool false, Value.nilFunc]) fun x3 =>
    bnd (stn 4 x3 x6) fun _ =>
    bnd (lift (build [Value.bool false, Value.bool false, Value.bool false, Value.nilFunc] [(0, 1, (Value.bool true)), (2, 1, (Value.bool true)), (3, 1, (Value.func (.func fid_code_rules_4) #[] #[]))])) fun x7 =>
    bnd (ldn 4 x1) fun x8 =>
    bnd (ldn 4 x1) fun x9 =>
    bnd (ldn 4 x2) fun x10 =>
    bnd (ldn 4 x2) fun x11 =>
    bnd (lift (build [Value.bool false, Value.bool false, Value.bool false, Value.nilFunc] [(0, 1, (Value.bool true)), (1, 1, (Value.bool true)), (3, 1, (Value.func (.func fid_code_rules_5) #[] #[]))])) fun x12 =>
    bnd (lift (build [Value.bool false, Value.bool false, Value.bool false, Value.nilFunc] [(0, 1, (Value.bool true)), (1, 1, (Value.bool true)), (3, 1, (Value.func (.func fid_code_rules_6) #[] #[]))])) fun x13 =>
    bnd (lift (build [Value.bool false, Value.bool false, Value.bool false, Value.nilFunc] [(0, 1, (Value.bool true)), (1, 1, (Value.bool true)), (3, 1, (Value.func (.func fid_code_rules_7) #[] #[]))])) fun x14 =>
    bnd (ldn 4 x3) fun x15 =>
    bnd (ldn 4 x3) fun x16 =>
    bnd (lift (build [Value.bool false, Value.bool false, Value.bool false, Value.nilFunc] [(0, 1, (Value.bool true)), (1, 1, (Value.bool true)), (3, 1, (Value.func (.func fid_code_rules_8) #[] #[]))])) fun x17 =>
    bnd (lift (build [Value.bool false, Value.bool false, Value.bool false, Value.nilFunc] [(3, 1, (Value.func (.func fid_code_rules_9) #[] #[]))])) fun x18 =>
    bnd (bslc 4 12 (rep 12 [Value.bool false, Value.bool false, Value.bool false, Value.nilFunc]) [(0, 4, x7), (4, 4, x8), (8, 4, x9), (12, 4, x10), (16, 4, x11), (20, 4, x12), (24, 4, x13), (28, 4, x14), (32, 4, x15), (36, 4, x16), (40, 4, x17), (44, 4, x18)]) fun x19 =>
    ret (.ret [x19])
    ) fun o => finM o fun vs => ret (outV [(at_ vs 0)])
def h_code_rules : Hint := (.seq [] .leaf (.seq [] .leaf (.seq [] .leaf (.seq [] .leaf (.seq [] .leaf .leaf)))))
def A_code_rules (l : List V) : M V := match l with | [] => F_code_rules  | _ => fail
theorem e_code_rules : funM Tryz.prog (ovr [] noC) fid_code_rules h_code_rules [] = F_code_rules  := by kernel_rfl
theorem K_code_rules : Known Tryz.prog fid_code_rules (A_code_rules) := known_of (σ := ovr [] noC) (hint := h_code_rules) (by kernel_rfl) simAll_nil0 fun l H r H' h => by
  unfold A_code_rules at h; split at h
  · rw [e_code_rules]; exact h
  · exact (fail_ne h).elim

/-! ### capstan/code.may -/
def code_may_k0 (vs : List V) : M Out :=
  bnd (lift (faddr 0 (at_ vs 2))) fun x19 =>
  bnd (ld1 x19) fun x20 =>
  bnd (lift (bin .sub x20 (Value.int .i64 1))) fun x21 =>
  bnd (lift (iaddrS 4 (at_ vs 0) x21)) fun x22 =>
  bnd (ldn 4 x22) fun x23 =>
  bnd (newc [Value.bool false, Value.bool false, Value.bool false, Value.nilFunc]) fun x7 =>
  bnd (stn 4 x7 x23) fun _ =>
  bnd (lift (faddr 0 x7)) fun x24 =>
  bnd (ld1 x24) fun x25 =>
  bnd (gd x25 false (lift (faddr 1 (at_ vs 2)))) fun x27 =>
  bnd (gd x25 false (ld1 x27)) fun x28 =>
  bnd (gd x25 false (lift (bin .eql x28 (Value.int .i64 0)))) fun x29 =>
  bnd (lift (pickV x25 (Value.bool true) x29)) fun x30 =>
  bnd (gd x30 true (lift (faddr 1 x7))) fun x32 =>
  bnd (gd x30 true (ld1 x32)) fun x33 =>
  bnd (gd x30 true (lift (some x33))) fun x34 =>
  bnd (gd x34 false (lift (faddr 2 (at_ vs 2)))) fun x35 =>
  bnd (gd x34 false (ld1 x35)) fun x36 =>
  bnd (gd x34 false (lift (bin .eql x36 (Value.int .i64 0)))) fun x37 =>
  bnd (gd x30 true (lift (pickV x34 (Value.bool true) x37))) fun x38 =>
  bnd (lift (pickV x30 x38 (Value.bool false))) fun x39 =>
  bnd (gd x39 true (lift (faddr 2 x7))) fun x41 =>
  bnd (gd x39 true (ld1 x41)) fun x42 =>
  bnd (gd x39 true (lift (some x42))) fun x43 =>
  bnd (gd x43 false (lift (faddr 3 (at_ vs 2)))) fun x44 =>
  bnd (gd x43 false (ld1 x44)) fun x45 =>
  bnd (gd x43 false (lift (bin .eql x45 (Value.int .i64 0)))) fun x46 =>
  bnd (gd x39 true (lift (pickV x43 (Value.bool true) x46))) fun x47 =>
  bnd (lift (pickV x39 x47 (Value.bool false))) fun x48 =>
  bnd (gd x48 true (lift (faddr 3 x7))) fun x50 =>
  bnd (gd x48 true (ld1 x50)) fun x51 =>
  bnd (gd x48 true (ldn 6 (at_ vs 1))) fun x52 =>
  bnd (gd x48 true (ldn 4 (at_ vs 2))) fun x53 =>
  bnd (gd x48 true (callM (ovr [(fid_code_rules_1, A_code_rules_1), (fid_code_rules_2, A_code_rules_2), (fid_code_rules_3, A_code_rules_3), (fid_code_rules_4, A_code_rules_4), (fid_code_rules_5, A_code_rules_5), (fid_code_rules_6, A_code_rules_6), (fid_code_rules_7, A_code_rules_7), (fid_code_rules_8, A_code_rules_8), (fid_code_rules_9, A_code_rules_9)] noC) x51 [x52, x53])) fun x54 =>
  bnd (lift (pickV x48 x54 (Value.bool false))) fun x55 =>
  ret (.ret [x55])
def F_code_may (x0 x1 x2 : V) : M V :=
  bnd (
    bnd (boxv x0) fun x3 =>
    bnd (boxv x1) fun x4 =>
    bnd (
      bnd (lift (faddr 0 x4)) fun x8 =>
      bnd (ld1 x8) fun x9 =>
      bnd (lift (bin .lss x9 (Value.int .i64 1))) fun x10 =>
      bnd (gd x10 false (lift (faddr 0 x4))) fun x12 =>
      bnd (gd x10 false (ld1 x12)) fun x13 =>
      bnd (gd x10 false (lift (some x2))) fun x14 =>
      bnd (gd x10 false (lift (lenSlc x14))) fun x15 =>
      bnd (gd x10 false (lift (bin .gtr x13 x15))) fun x16 =>
      bnd (lift (pickV x10 (Value.bool true) x16)) fun x17 =>
      condM x17 (
        ret (.ret [(Value.bool false)])
        ) (
        ret (.nxt [x2, x3, x4])
        )
      ) fun o => nx o code_may_k0
    ) fun o => finM o fun vs => ret (outV [(at_ vs 0)])
def h_code_may : Hint := (.seq [] .leaf (.seq [2, 3, 4] (.seq [] .leaf (.cond (.seq [] .leaf .leaf) .leaf)) (.seq [] .leaf (.seq [] .leaf .leaf))))
def A_code_may (l : List V) : M V := match l with | [x0, x1, x2] => F_code_may x0 x1 x2 | _ => fail
def s_code_may : Calls' := ovr [(fid_code_rules_1, A_code_rules_1), (fid_code_rules_2, A_code_rules_2), (fid_code_rules_3, A_code_rules_3), (fid_code_rules_4, A_code_rules_4), (fid_code_rules_5, A_code_rules_5), (fid_code_rules_6, A_code_rules_6), (fid_code_rules_7, A_code_rules_7), (fid_code_rules_8, A_code_rules_8), (fid_code_rules_9, A_code_rules_9)] noC
theorem e_code_may (x0 x1 x2 : V) : funM Tryz.prog (s_code_may) fid_code_may h_code_may [x0, x1, x2] = F_code_may x0 x1 x2 := by kernel_rfl
theorem K_code_may : Known Tryz.prog fid_code_may (A_code_may) := known_of (σ := s_code_may) (hint := h_code_may) (by kernel_rfl) (simAll_ovr K_code_rules_1 (simAll_ovr K_code_rules_2 (simAll_ovr K_code_rules_3 (simAll_ovr K_code_rules_4 (simAll_ovr K_code_rules_5 (simAll_ovr K_code_rules_6 (simAll_ovr K_code_rules_7 (simAll_ovr K_code_rules_8 (simAll_ovr K_code_rules_9 simAll_nil0))))))))) fun l H r H' h => by
  unfold A_code_may at h; split at h
  · rw [e_code_may]; exact h
  · exact (fail_ne h).elim

/-! ### capstan/code.Check$1 -/
def F_code_Check_1 (x0 x1 x2 : V) : M V :=
  bnd (
    bnd (boxv x0) fun x3 =>
    bnd (ldn 6 x1) fun x5 =>
    bnd (ldn 4 x3) fun x6 =>
    bnd (ld1 x2) fun x7 =>
    bnd (A_code_may [x5, x6, x7]) fun x8 =>
    bnd (lift (un .not x8)) fun x9 =>
    ret (.ret [x9])
    ) fun o => finM o fun vs => ret (outV [(at_ vs 0)])
def h_code_Check_1 : Hint := (.seq [] .leaf (.seq [] .leaf .leaf))
def A_code_Check_1 (l : List V) : M V := match l with | [x0, x1, x2] => F_code_Check_1 x0 x1 x2 | _ => fail
def s_code_Check_1 : Calls' := ovr [(fid_code_may, A_code_may)] noC
theorem e_code_Check_1 (x0 x1 x2 : V) : funM Tryz.prog (s_code_Check_1) fid_code_Check_1 h_code_Check_1 [x0, x1, x2] = F_code_Check_1 x0 x1 x2 := by kernel_rfl
theorem K_code_Check_1 : Known Tryz.prog fid_code_Check_1 (A_code_Check_1) := known_of (σ := s_code_Check_1) (hint := h_code_Check_1) (by kernel_rfl) (simAll_ovr K_code_may simAll_nil0) fun l H r H' h => by
  unfold A_code_Check_1 at h; split at h
  · rw [e_code_Check_1]; exact h
  · exact (fail_ne h).elim

/-! ### slices.IndexFunc[[]capstan/api.Instr,capstan/api.Instr] -/
def slices_IndexFunc_S_api_Instr_api_Instr_k0 (S : Calls') (vs_3 : List V) : M Out :=
  bnd (lift (bin .add (at_ vs_3 3) (Value.int .i64 1))) fun x18 =>
  ret (.nxt [(at_ vs_3 0), (at_ vs_3 1), (at_ vs_3 2), x18])
def slices_IndexFunc_S_api_Instr_api_Instr_k1 (S : Calls') (vs_2 : List V) : M Out :=
  bnd (
  bnd (
    bnd (lift (iaddrS 4 (at_ vs_2 0) (at_ vs_2 3))) fun x14 =>
    bnd (ldn 4 x14) fun x15 =>
    bnd (callM (ovr [] S) (at_ vs_2 1) [x15]) fun x16 =>
    condM x16 (
      ret (.ret [(at_ vs_2 3)])
      ) (
      ret (.nxt [(at_ vs_2 0), (at_ vs_2 1), (at_ vs_2 2), (at_ vs_2 3)])
      )
    ) fun o => ret (unblk 1 o)
  ) fun o => nx o (slices_IndexFunc_S_api_Instr_api_Instr_k0 S)
def slices_IndexFunc_S_api_Instr_api_Instr_l2 (S : Calls') (vs : List V) : M Out :=
  bnd (lift (bin .lss (at_ vs 3) (at_ vs 2))) fun x9 =>
  bnd (
  condM x9 (
    ret (.nxt [(at_ vs 0), (at_ vs 1), (at_ vs 2), (at_ vs 3)])
    ) (
    ret (.brk 0 [])
    )
  ) fun o => nx o (slices_IndexFunc_S_api_Instr_api_Instr_k1 S)
def slices_IndexFunc_S_api_Instr_api_Instr_k3 (S : Calls') (vs_4 : List V) : M Out :=
  ret (.ret [(Value.int .i64 (-1))])
def F_slices_IndexFunc_S_api_Instr_api_Instr (S : Calls') (x0 x1 : V) : M V :=
  bnd (
    bnd (
      bnd (lift (lenSlc x0)) fun x7 =>
      bnd (
        loopM FUEL (slices_IndexFunc_S_api_Instr_api_Instr_l2 S) [x0, x1, x7, (Value.int .i64 0)]
        ) fun o => ret (unblk 0 o)
      ) fun o => nx o (slices_IndexFunc_S_api_Instr_api_Instr_k3 S)
    ) fun o => finM o fun vs => ret (outV [(at_ vs 0)])
def h_slices_IndexFunc_S_api_Instr_api_Instr : Hint := (.seq [] .leaf (.seq [] (.seq [] .leaf (.blk (.loop [0, 1, 7, 8] (.seq [] .leaf (.seq [0, 1, 7, 8] (.cond .leaf .leaf) (.seq [0, 1, 7, 8] (.blk (.seq [] .leaf (.seq [] .leaf (.cond (.seq [] .leaf .leaf) .leaf)))) .leaf)))))) (.seq [] .leaf .leaf)))
def A_slices_IndexFunc_S_api_Instr_api_Instr (S : Calls') (l : List V) : M V := match l with | [x0, x1] => F_slices_IndexFunc_S_api_Instr_api_Instr S x0 x1 | _ => fail
theorem e_slices_IndexFunc_S_api_Instr_api_Instr (S : Calls') (x0 x1 : V) : funM Tryz.prog (ovr [] S) fid_slices_IndexFunc_S_api_Instr_api_Instr h_slices_IndexFunc_S_api_Instr_api_Instr [x0, x1] = F_slices_IndexFunc_S_api_Instr_api_Instr S x0 x1 := by kernel_rfl
theorem K_slices_IndexFunc_S_api_Instr_api_Instr {S : Calls'} (hS : SimAll Tryz.prog S) : Known Tryz.prog fid_slices_IndexFunc_S_api_Instr_api_Instr (A_slices_IndexFunc_S_api_Instr_api_Instr S) := known_of (σ := ovr [] S) (hint := h_slices_IndexFunc_S_api_Instr_api_Instr) (by kernel_rfl) (simAll_base hS) fun l H r H' h => by
  unfold A_slices_IndexFunc_S_api_Instr_api_Instr at h; split at h
  · rw [e_slices_IndexFunc_S_api_Instr_api_Instr]; exact h
  · exact (fail_ne h).elim

/-! ### capstan/code.Check -/
def code_Check_k0 (G_strings_IndexRune : List V → M V) (G_strings_Contains : List V → M V) (vs_2 : List V) : M Out :=
  ret (.ret [(Value.int .i64 0), (Value.int .i64 0)])
def code_Check_k1 (G_strings_IndexRune : List V → M V) (G_strings_Contains : List V → M V) (vs : List V) : M Out :=
  bnd (A_code_rules []) fun x9 =>
  bnd (newc [Value.slice none 0 0]) fun x4 =>
  bnd (st1 x4 x9) fun _ =>
  bnd (
    bnd (lift (faddr 5 (at_ vs 0))) fun x10 =>
    bnd (ld1 x10) fun x11 =>
    bnd (lift (some (Value.func (.func fid_code_Check_1) #[] #[(at_ vs 0), x4]))) fun x12 =>
    bnd ((A_slices_IndexFunc_S_api_Instr_api_Instr (ovr [(fid_code_Check_1, A_code_Check_1)] noC)) [x11, x12]) fun x13 =>
    bnd (lift (bin .geq x13 (Value.int .i64 0))) fun x15 =>
    condM x15 (
      ret (.ret [x13, (Value.int .i64 130)])
      ) (
      ret (.nxt [])
      )
    ) fun o => nx o (code_Check_k0 G_strings_IndexRune G_strings_Contains)
def F_code_Check (G_strings_IndexRune : List V → M V) (G_strings_Contains : List V → M V) (x0 : V) : M V :=
  bnd (
    bnd (boxv x0) fun x1 =>
    bnd (
      bnd (ldn 6 x1) fun x6 =>
      bnd ((A_code_sound G_strings_IndexRune G_strings_Contains) [x6]) fun x7 =>
      bnd (lift (un .not x7)) fun x8 =>
      condM x8 (
        ret (.ret [(Value.int .i64 (-1)), (Value.int .i64 130)])
        ) (
        ret (.nxt [x1])
        )
      ) fun o => nx o (code_Check_k1 G_strings_IndexRune G_strings_Contains)
    ) fun o => finM o fun vs => ret (outV [(at_ vs 0), (at_ vs 1)])
def h_code_Check : Hint := (.seq [] .leaf (.seq [1] (.seq [] .leaf (.cond (.seq [] .leaf .leaf) .leaf)) (.seq [] .leaf (.seq [] (.seq [] .leaf (.seq [] .leaf (.cond (.seq [] .leaf .leaf) .leaf))) (.seq [] .leaf .leaf)))))
def A_code_Check (G_strings_IndexRune : List V → M V) (G_strings_Contains : List V → M V) (l : List V) : M V := match l with | [x0] => F_code_Check G_strings_IndexRune G_strings_Contains x0 | _ => fail
theorem e_code_Check (G_strings_IndexRune : List V → M V) (G_strings_Contains : List V → M V) (x0 : V) : funM Tryz.prog (ovr [(fid_code_sound, A_code_sound G_strings_IndexRune G_strings_Contains), (fid_code_rules, A_code_rules), (fid_slices_IndexFunc_S_api_Instr_api_Instr, A_slices_IndexFunc_S_api_Instr_api_Instr (ovr [(fid_code_Check_1, A_code_Check_1)] noC))] noC) fid_code_Check h_code_Check [x0] = F_code_Check G_strings_IndexRune G_strings_Contains x0 := by kernel_rfl
theorem K_code_Check {G_strings_IndexRune : List V → M V} {G_strings_Contains : List V → M V} (k_strings_IndexRune : Known Tryz.prog fid_strings_IndexRune G_strings_IndexRune) (k_strings_Contains : Known Tryz.prog fid_strings_Contains G_strings_Contains) : Known Tryz.prog fid_code_Check (A_code_Check G_strings_IndexRune G_strings_Contains) := known_of (σ := ovr [(fid_code_sound, A_code_sound G_strings_IndexRune G_strings_Contains), (fid_code_rules, A_code_rules), (fid_slices_IndexFunc_S_api_Instr_api_Instr, A_slices_IndexFunc_S_api_Instr_api_Instr (ovr [(fid_code_Check_1, A_code_Check_1)] noC))] noC) (hint := h_code_Check) (by kernel_rfl) (simAll_ovr (K_code_sound k_strings_IndexRune k_strings_Contains) (simAll_ovr K_code_rules (simAll_ovr (K_slices_IndexFunc_S_api_Instr_api_Instr (simAll_ovr K_code_Check_1 simAll_nil0)) simAll_nil0))) fun l H r H' h => by
  unfold A_code_Check at h; split at h
  · rw [e_code_Check]; exact h
  · exact (fail_ne h).elim

/-! ### capstan/code.Show -/
def code_Show_k0 (G_strconv_Itoa : List V → M V) (G_strconv_FormatInt : List V → M V) (G_strings_Join : List V → M V) (vs : List V) : M Out :=
  withH fun h0 =>
  bnd (lift (faddr 1 (at_ vs 0))) fun x19 =>
  bnd (lift (faddr 2 (at_ vs 0))) fun x22 =>
  bnd (lift (faddr 3 (at_ vs 0))) fun x25 =>
  bnd (ld1 x19) fun x20 =>
  bnd (ld1 x22) fun x23 =>
  bnd (ld1 x25) fun x26 =>
  bndH (G_strconv_Itoa [x20]) fun ha x21 h1 =>
  bndH (G_strconv_Itoa [x23]) fun ha_2 x24 h2 =>
  bndH (G_strconv_FormatInt [x26, (Value.int .i64 10)]) fun ha_3 x27 h3 =>
  bndH (bslc 1 4 (rep 4 [Value.string ⟨#[]⟩]) [(0, 1, (at_ vs 1)), (1, 1, x21), (2, 1, x24), (3, 1, x27)]) fun ha_4 x28 h4 =>
  bndH (G_strings_Join [x28, (Value.string ⟨#[32]⟩)]) fun ha_5 x29 h5 =>
  need (chk (ld1 x22) h1 x23) <|
  need (chk (ld1 x25) h1 x26) <|
  need (chk (ld1 x25) h2 x26) <|
  ret (.ret [x29])
def F_code_Show (G_strconv_Itoa : List V → M V) (G_strconv_FormatInt : List V → M V) (G_strings_Join : List V → M V) (x0 : V) : M V :=
  bnd (
    bnd (boxv x0) fun x1 =>
    bnd (lift (iaddrA 13 1 (ptr gid_code_opNames 0) (Value.int .i64 0))) fun x4 =>
    bnd (ld1 x4) fun x5 =>
    bnd (
      bnd (lift (faddr 0 x1)) fun x6 =>
      bnd (ld1 x6) fun x7 =>
      bnd (lift (bin .gtr x7 (Value.int .i64 0))) fun x8 =>
      bnd (gd x8 true (lift (faddr 0 x1))) fun x10 =>
      bnd (gd x8 true (ld1 x10)) fun x11 =>
      bnd (gd x8 true (lift (bin .lss x11 (Value.int .i64 13)))) fun x12 =>
      bnd (lift (pickV x8 x12 (Value.bool false))) fun x13 =>
      condM x13 (
        bnd (lift (faddr 0 x1)) fun x14 =>
        bnd (ld1 x14) fun x15 =>
        bnd (lift (iaddrA 13 1 (ptr gid_code_opNames 0) x15)) fun x16 =>
        bnd (ld1 x16) fun x17 =>
        ret (.nxt [x1, x17])
        ) (
        ret (.nxt [x1, x5])
        )
      ) fun o => nx o (code_Show_k0 G_strconv_Itoa G_strconv_FormatInt G_strings_Join)
    ) fun o => finM o fun vs => ret (outV [(at_ vs 0)])
def h_code_Show : Hint := (.seq [] .leaf (.seq [] .leaf (.seq [1, 3] (.seq [] .leaf (.cond .leaf .leaf)) (.seq [] (.reg [0, 1, 4, 7, 2, 5, 8, 3, 6, 9, 10, 11, 12] []) .leaf))))
def A_code_Show (G_strconv_Itoa : List V → M V) (G_strconv_FormatInt : List V → M V) (G_strings_Join : List V → M V) (l : List V) : M V := match l with | [x0] => F_code_Show G_strconv_Itoa G_strconv_FormatInt G_strings_Join x0 | _ => fail
theorem e_code_Show (G_strconv_Itoa : List V → M V) (G_strconv_FormatInt : List V → M V) (G_strings_Join : List V → M V) (x0 : V) : funM Tryz.prog (ovr [(fid_strconv_Itoa, G_strconv_Itoa), (fid_strconv_FormatInt, G_strconv_FormatInt), (fid_strings_Join, G_strings_Join)] noC) fid_code_Show h_code_Show [x0] = F_code_Show G_strconv_Itoa G_strconv_FormatInt G_strings_Join x0 := by kernel_rfl
theorem K_code_Show {G_strconv_Itoa : List V → M V} {G_strconv_FormatInt : List V → M V} {G_strings_Join : List V → M V} (k_strconv_Itoa : Known Tryz.prog fid_strconv_Itoa G_strconv_Itoa) (k_strconv_FormatInt : Known Tryz.prog fid_strconv_FormatInt G_strconv_FormatInt) (k_strings_Join : Known Tryz.prog fid_strings_Join G_strings_Join) : Known Tryz.prog fid_code_Show (A_code_Show G_strconv_Itoa G_strconv_FormatInt G_strings_Join) := known_of (σ := ovr [(fid_strconv_Itoa, G_strconv_Itoa), (fid_strconv_FormatInt, G_strconv_FormatInt), (fid_strings_Join, G_strings_Join)] noC) (hint := h_code_Show) (by kernel_rfl) (simAll_ovr k_strconv_Itoa (simAll_ovr k_strconv_FormatInt (simAll_ovr k_strings_Join simAll_nil0))) fun l H r H' h => by
  unfold A_code_Show at h; split at h
  · rw [e_code_Show]; exact h
  · exact (fail_ne h).elim

/-! ### capstan/capstanlaw13.works -/
def F_law13_works (G_strings_IndexRune : List V → M V) (G_strings_Contains : List V → M V) (G_strconv_Itoa : List V → M V) (G_strconv_FormatInt : List V → M V) (G_strings_Join : List V → M V) : M V :=
  bnd (
    bnd (bslc 1 1 (rep 1 [Value.int .i64 0]) [(0, 1, (Value.int .i64 2))]) fun x6 =>
    bnd (bslc 1 1 (rep 1 [Value.int .i64 0]) [(0, 1, (Value.int .i64 0))]) fun x7 =>
    bnd (lift (build [Value.int .i64 0, Value.int .i64 0, Value.int .i64 0, Value.int .i64 0] [(0, 1, (Value.int .i64 1)), (1, 1, (Value.int .i64 2)), (3, 1, (Value.int .i64 5))])) fun x8 =>
    bnd (lift (build [Value.int .i64 0, Value.int .i64 0, Value.int .i64 0, Value.int .i64 0] [(0, 1, (Value.int .i64 3))])) fun x9 =>
    bnd (lift (build [Value.int .i64 0, Value.int .i64 0, Value.int .i64 0, Value.int .i64 0] [(0, 1, (Value.int .i64 12))])) fun x10 =>
    bnd (bslc 4 3 (rep 3 [Value.int .i64 0, Value.int .i64 0, Value.int .i64 0, Value.int .i64 0]) [(0, 4, x8), (4, 4, x9), (8, 4, x10)]) fun x11 =>
    bnd (lift (build [Value.string ⟨#[]⟩, Value.slice none 0 0, Value.slice none 0 0, Value.slice none 0 0, Value.slice none 0 0, Value.slice none 0 0] [(0, 1, (Value.string ⟨#[80]⟩)), (1, 1, x6), (2, 1, x7), (5, 1, x11)])) fun x12 =>
    bnd (newc [Value.string ⟨#[]⟩, Value.slice none 0 0, Value.slice none 0 0, Value.slice none 0 0, Value.slice none 0 0, Value.slice none 0 0]) fun x1 =>
    bnd (stn 6 x1 x12) fun _ =>
    bnd (ldn 6 x1) fun x14 =>
    bnd ((A_code_Check G_strings_IndexRune G_strings_Contains) [x14]) fun x15 =>
    bnd (lift (ext 0 x15)) fun x16 =>
    bnd (lift (ext 1 x15)) fun x17 =>
    bnd (lift (faddr 5 x1)) fun x18 =>
    bnd (ld1 x18) fun x19 =>
    bnd (lift (build [Value.int .i64 0, Value.int .i64 0, Value.int .i64 0, Value.int .i64 0] [(0, 1, (Value.int .i64 2)), (1, 1, (Value.int .i64 1))])) fun x20 =>
    bnd (lift (iaddrS 4 x19 (Value.int .i64 1))) fun x21 =>
    bnd (stn 4 x21 x20) fun _ =>
    bnd (ldn 6 x1) fun x23 =>
    bnd ((A_code_Check G_strings_IndexRune G_strings_Contains) [x23]) fun x24 =>
    bnd (lift (ext 0 x24)) fun x25 =>
    bnd (lift (ext 1 x24)) fun x26 =>
    bnd (lift (bin .eql x17 (Value.int .i64 0))) fun x28 =>
    bnd (gd x28 true (lift (some x25))) fun x30 =>
    bnd (gd x28 true (lift (bin .eql x30 (Value.int .i64 1)))) fun x31 =>
    bnd (lift (pickV x28 x31 (Value.bool false))) fun x32 =>
    bnd (gd x32 true (lift (some x26))) fun x34 =>
    bnd (gd x32 true (lift (bin .eql x34 (Value.int .i64 130)))) fun x35 =>
    bnd (lift (pickV x32 x35 (Value.bool false))) fun x36 =>
    bnd (gd x36 true (lift (build [Value.int .i64 0, Value.int .i64 0, Value.int .i64 0, Value.int .i64 0] [(0, 1, (Value.int .i64 1)), (1, 1, (Value.int .i64 2)), (3, 1, (Value.int .i64 (-5)))]))) fun x38 =>
    bnd (gd x36 true ((A_code_Show G_strconv_Itoa G_strconv_FormatInt G_strings_Join) [x38])) fun x39 =>
    bnd (gd x36 true (lift (bin .eql x39 (Value.string ⟨#[80, 85, 83, 72, 32, 50, 32, 48, 32, 45, 53]⟩)))) fun x40 =>
    bnd (lift (pickV x36 x40 (Value.bool false))) fun x41 =>
    ret (.ret [x41])
    ) fun o => finM o fun vs => ret (outV [(at_ vs 0)])
def h_law13_works : Hint := (.seq [] .leaf (.seq [] .leaf (.seq [] .leaf (.seq [] .leaf (.seq [] .leaf (.seq [] .leaf .leaf))))))
def A_law13_works (G_strings_IndexRune : List V → M V) (G_strings_Contains : List V → M V) (G_strconv_Itoa : List V → M V) (G_strconv_FormatInt : List V → M V) (G_strings_Join : List V → M V) (l : List V) : M V := match l with | [] => F_law13_works G_strings_IndexRune G_strings_Contains G_strconv_Itoa G_strconv_FormatInt G_strings_Join  | _ => fail
theorem e_law13_works (G_strings_IndexRune : List V → M V) (G_strings_Contains : List V → M V) (G_strconv_Itoa : List V → M V) (G_strconv_FormatInt : List V → M V) (G_strings_Join : List V → M V) : funM Tryz.prog (ovr [(fid_code_Check, A_code_Check G_strings_IndexRune G_strings_Contains), (fid_code_Show, A_code_Show G_strconv_Itoa G_strconv_FormatInt G_strings_Join)] noC) fid_law13_works h_law13_works [] = F_law13_works G_strings_IndexRune G_strings_Contains G_strconv_Itoa G_strconv_FormatInt G_strings_Join  := by kernel_rfl
theorem K_law13_works {G_strings_IndexRune : List V → M V} {G_strings_Contains : List V → M V} {G_strconv_Itoa : List V → M V} {G_strconv_FormatInt : List V → M V} {G_strings_Join : List V → M V} (k_strings_IndexRune : Known Tryz.prog fid_strings_IndexRune G_strings_IndexRune) (k_strings_Contains : Known Tryz.prog fid_strings_Contains G_strings_Contains) (k_strconv_Itoa : Known Tryz.prog fid_strconv_Itoa G_strconv_Itoa) (k_strconv_FormatInt : Known Tryz.prog fid_strconv_FormatInt G_strconv_FormatInt) (k_strings_Join : Known Tryz.prog fid_strings_Join G_strings_Join) : Known Tryz.prog fid_law13_works (A_law13_works G_strings_IndexRune G_strings_Contains G_strconv_Itoa G_strconv_FormatInt G_strings_Join) := known_of (σ := ovr [(fid_code_Check, A_code_Check G_strings_IndexRune G_strings_Contains), (fid_code_Show, A_code_Show G_strconv_Itoa G_strconv_FormatInt G_strings_Join)] noC) (hint := h_law13_works) (by kernel_rfl) (simAll_ovr (K_code_Check k_strings_IndexRune k_strings_Contains) (simAll_ovr (K_code_Show k_strconv_Itoa k_strconv_FormatInt k_strings_Join) simAll_nil0)) fun l H r H' h => by
  unfold A_law13_works at h; split at h
  · rw [e_law13_works]; exact h
  · exact (fail_ne h).elim

/-! ### capstan/code.numbers[int] -/
def code_numbers_int_k0 (vs_3 : List V) : M Out :=
  bnd (lift (bin .add (at_ vs_3 3) (Value.int .i64 1))) fun x17 =>
  ret (.nxt [(at_ vs_3 0), (at_ vs_3 1), (at_ vs_3 2), x17])
def code_numbers_int_k1 (vs_2 : List V) : M Out :=
  bnd (
  bnd (
    bnd (lift (iaddrS 1 (at_ vs_2 1) (at_ vs_2 3))) fun x10 =>
    bnd (ld1 x10) fun x11 =>
    bnd (lift (build [Value.bool false, Value.int .i64 0, Value.string ⟨#[]⟩] [(1, 1, x11)])) fun x14 =>
    bnd (bslc 3 1 (rep 1 [Value.bool false, Value.int .i64 0, Value.string ⟨#[]⟩]) [(0, 3, x14)]) fun x15 =>
    bnd (appV 3 32 (at_ vs_2 0) x15) fun x16 =>
    ret (.nxt [x16, (at_ vs_2 1), (at_ vs_2 2), (at_ vs_2 3)])
    ) fun o => ret (unblk 1 o)
  ) fun o => nx o code_numbers_int_k0
def code_numbers_int_l2 (vs : List V) : M Out :=
  bnd (lift (bin .lss (at_ vs 3) (at_ vs 2))) fun x9 =>
  bnd (
  condM x9 (
    ret (.nxt [(at_ vs 0), (at_ vs 1), (at_ vs 2), (at_ vs 3)])
    ) (
    ret (.brk 0 [(at_ vs 0)])
    )
  ) fun o => nx o code_numbers_int_k1
def code_numbers_int_k3 (vs_4 : List V) : M Out :=
  ret (.ret [(at_ vs_4 0)])
def F_code_numbers_int (x0 : V) : M V :=
  bnd (
    bnd (
      bnd (lift (lenSlc x0)) fun x7 =>
      bnd (
        loopM FUEL code_numbers_int_l2 [(Value.slice none 0 0), x0, x7, (Value.int .i64 0)]
        ) fun o => ret (unblk 0 o)
      ) fun o => nx o code_numbers_int_k3
    ) fun o => finM o fun vs => ret (outV [(at_ vs 0)])
def h_code_numbers_int : Hint := (.seq [] .leaf (.seq [] .leaf (.seq [3] (.seq [] .leaf (.blk (.loop [3, 6, 7, 8] (.seq [] .leaf (.seq [3, 6, 7, 8] (.cond .leaf .leaf) (.seq [3, 6, 7, 8] (.blk (.seq [] .leaf .leaf)) .leaf)))))) (.seq [] .leaf .leaf))))
def A_code_numbers_int (l : List V) : M V := match l with | [x0] => F_code_numbers_int x0 | _ => fail
theorem e_code_numbers_int (x0 : V) : funM Tryz.prog (ovr [] noC) fid_code_numbers_int h_code_numbers_int [x0] = F_code_numbers_int x0 := by kernel_rfl
theorem K_code_numbers_int : Known Tryz.prog fid_code_numbers_int (A_code_numbers_int) := known_of (σ := ovr [] noC) (hint := h_code_numbers_int) (by kernel_rfl) simAll_nil0 fun l H r H' h => by
  unfold A_code_numbers_int at h; split at h
  · rw [e_code_numbers_int]; exact h
  · exact (fail_ne h).elim

/-! ### capstan/code.numbers[int64] -/
def code_numbers_int64_k0 (vs_3 : List V) : M Out :=
  bnd (lift (bin .add (at_ vs_3 3) (Value.int .i64 1))) fun x17 =>
  ret (.nxt [(at_ vs_3 0), (at_ vs_3 1), (at_ vs_3 2), x17])
def code_numbers_int64_k1 (vs_2 : List V) : M Out :=
  bnd (
  bnd (
    bnd (lift (iaddrS 1 (at_ vs_2 1) (at_ vs_2 3))) fun x10 =>
    bnd (ld1 x10) fun x11 =>
    bnd (lift (build [Value.bool false, Value.int .i64 0, Value.string ⟨#[]⟩] [(1, 1, x11)])) fun x14 =>
    bnd (bslc 3 1 (rep 1 [Value.bool false, Value.int .i64 0, Value.string ⟨#[]⟩]) [(0, 3, x14)]) fun x15 =>
    bnd (appV 3 32 (at_ vs_2 0) x15) fun x16 =>
    ret (.nxt [x16, (at_ vs_2 1), (at_ vs_2 2), (at_ vs_2 3)])
    ) fun o => ret (unblk 1 o)
  ) fun o => nx o code_numbers_int64_k0
def code_numbers_int64_l2 (vs : List V) : M Out :=
  bnd (lift (bin .lss (at_ vs 3) (at_ vs 2))) fun x9 =>
  bnd (
  condM x9 (
    ret (.nxt [(at_ vs 0), (at_ vs 1), (at_ vs 2), (at_ vs 3)])
    ) (
    ret (.brk 0 [(at_ vs 0)])
    )
  ) fun o => nx o code_numbers_int64_k1
def code_numbers_int64_k3 (vs_4 : List V) : M Out :=
  ret (.ret [(at_ vs_4 0)])
def F_code_numbers_int64 (x0 : V) : M V :=
  bnd (
    bnd (
      bnd (lift (lenSlc x0)) fun x7 =>
      bnd (
        loopM FUEL code_numbers_int64_l2 [(Value.slice none 0 0), x0, x7, (Value.int .i64 0)]
        ) fun o => ret (unblk 0 o)
      ) fun o => nx o code_numbers_int64_k3
    ) fun o => finM o fun vs => ret (outV [(at_ vs 0)])
def h_code_numbers_int64 : Hint := (.seq [] .leaf (.seq [] .leaf (.seq [3] (.seq [] .leaf (.blk (.loop [3, 6, 7, 8] (.seq [] .leaf (.seq [3, 6, 7, 8] (.cond .leaf .leaf) (.seq [3, 6, 7, 8] (.blk (.seq [] .leaf .leaf)) .leaf)))))) (.seq [] .leaf .leaf))))
def A_code_numbers_int64 (l : List V) : M V := match l with | [x0] => F_code_numbers_int64 x0 | _ => fail
theorem e_code_numbers_int64 (x0 : V) : funM Tryz.prog (ovr [] noC) fid_code_numbers_int64 h_code_numbers_int64 [x0] = F_code_numbers_int64 x0 := by kernel_rfl
theorem K_code_numbers_int64 : Known Tryz.prog fid_code_numbers_int64 (A_code_numbers_int64) := known_of (σ := ovr [] noC) (hint := h_code_numbers_int64) (by kernel_rfl) simAll_nil0 fun l H r H' h => by
  unfold A_code_numbers_int64 at h; split at h
  · rw [e_code_numbers_int64]; exact h
  · exact (fail_ne h).elim

/-! ### capstan/wire.Encode -/
def wire_Encode_k0 (vs_7 : List V) : M Out :=
  bnd (lift (bin .sub (at_ vs_7 3) (Value.int .i64 8))) fun x32 =>
  ret (.nxt [(at_ vs_7 0), (at_ vs_7 1), (at_ vs_7 2), x32, (at_ vs_7 4), (at_ vs_7 5), (at_ vs_7 6)])
def wire_Encode_k1 (vs_6 : List V) : M Out :=
  bnd (
  bnd (
    bnd (lift (faddr 1 (at_ vs_6 2))) fun x34 =>
    bnd (ld1 x34) fun x35 =>
    bnd (lift (cvi .u64 x35)) fun x36 =>
    bnd (lift (bin .shr x36 (at_ vs_6 3))) fun x38 =>
    bnd (lift (cvi .u8 x38)) fun x39 =>
    bnd (bslc 1 1 (rep 1 [Value.int .u8 0]) [(0, 1, x39)]) fun x40 =>
    bnd (appV 1 1 (at_ vs_6 0) x40) fun x41 =>
    ret (.nxt [x41, (at_ vs_6 1), (at_ vs_6 2), (at_ vs_6 3), (at_ vs_6 4), (at_ vs_6 5), (at_ vs_6 6)])
    ) fun o => ret (unblk 4 o)
  ) fun o => nx o wire_Encode_k0
def wire_Encode_l2 (vs_5 : List V) : M Out :=
  bnd (
  bnd (lift (bin .geq (at_ vs_5 3) (Value.int .i64 0))) fun x30 =>
  condM x30 (
    ret (.nxt [(at_ vs_5 0), (at_ vs_5 1), (at_ vs_5 2), (at_ vs_5 3), (at_ vs_5 4), (at_ vs_5 5), (at_ vs_5 6)])
    ) (
    ret (.brk 3 [(at_ vs_5 0), (at_ vs_5 1), (at_ vs_5 4), (at_ vs_5 5), (at_ vs_5 6)])
    )
  ) fun o => nx o wire_Encode_k1
def wire_Encode_k3 (vs_4 : List V) : M Out :=
      condM (at_ vs_4 6) (
        ret (.ret [(Value.string ⟨#[]⟩), (Value.int .i64 4)])
        ) (
        bnd (lift (lenSlc (at_ vs_4 0))) fun x66 =>
        bnd (lift (bin .gtr x66 (Value.int .i64 65536))) fun x67 =>
        condM x67 (
          ret (.nxt [(at_ vs_4 0), (Value.bool true), (at_ vs_4 3), (at_ vs_4 4), (at_ vs_4 5)])
          ) (
          bnd (lift (faddr 0 (at_ vs_4 2))) fun x69 =>
          bnd (ld1 x69) fun x70 =>
          condM x70 (
            withH fun h0 =>
            bnd (lift (faddr 2 (at_ vs_4 2))) fun x72 =>
            bnd (lift (faddr 2 (at_ vs_4 2))) fun x77 =>
            bnd (lift (faddr 2 (at_ vs_4 2))) fun x83 =>
            bnd (ld1 x72) fun x73 =>
            bnd (lift (lenStr x73)) fun x74 =>
            bnd (lift (bin .shr x74 (Value.int .u64 8))) fun x75 =>
            bnd (lift (cvi .u8 x75)) fun x76 =>
            bnd (ld1 x77) fun x78 =>
            bnd (lift (lenStr x78)) fun x79 =>
            bnd (lift (cvi .u8 x79)) fun x80 =>
            bnd (ld1 x83) fun x84 =>
            bndH (bslc 1 3 (rep 3 [Value.int .u8 0]) [(0, 1, (Value.int .u8 36)), (1, 1, x76), (2, 1, x80)]) fun ha x81 h1 =>
            bndH (appV 1 1 (at_ vs_4 0) x81) fun ha_2 x82 h2 =>
            bndH (appS x82 x84) fun ha_3 x85 h3 =>
            need (chk (ld1 x83) h1 x84) <|
            need (chk (ld1 x83) h2 x84) <|
            ret (.nxt [x85, (at_ vs_4 1), (at_ vs_4 3), (at_ vs_4 4), (at_ vs_4 5)])
            ) (
            bnd (bslc 1 1 (rep 1 [Value.int .u8 0]) [(0, 1, (Value.int .u8 35))]) fun x27 =>
            bnd (appV 1 1 (at_ vs_4 0) x27) fun x28 =>
            bnd (
              loopM FUEL wire_Encode_l2 [x28, (at_ vs_4 1), (at_ vs_4 2), (Value.int .i64 56), (at_ vs_4 3), (at_ vs_4 4), (at_ vs_4 5)]
              ) fun o => ret (unblk 3 o)
            )
          )
        )
def wire_Encode_k4 (vs_8 : List V) : M Out :=
  bnd (lift (bin .add (at_ vs_8 4) (Value.int .i64 1))) fun x86 =>
  ret (.nxt [(at_ vs_8 0), (at_ vs_8 1), (at_ vs_8 2), (at_ vs_8 3), x86])
def wire_Encode_k5 (vs_3 : List V) : M Out :=
  bnd (
  bnd (
    bnd (lift (iaddrS 3 (at_ vs_3 2) (at_ vs_3 4))) fun x24 =>
    bnd (ldn 3 x24) fun x25 =>
    bnd (newc [Value.bool false, Value.int .i64 0, Value.string ⟨#[]⟩]) fun x7 =>
    bnd (stn 3 x7 x25) fun _ =>
    bnd (
      bnd (
        bnd (lift (faddr 0 x7)) fun x43 =>
        bnd (ld1 x43) fun x44 =>
        bnd (gd x44 true (lift (faddr 1 x7))) fun x46 =>
        bnd (gd x44 true (ld1 x46)) fun x47 =>
        bnd (gd x44 true (lift (bin .neq x47 (Value.int .i64 0)))) fun x48 =>
        bnd (gd x44 true (lift (some x48))) fun x49 =>
        bnd (gd x49 false (lift (faddr 2 x7))) fun x50 =>
        bnd (gd x49 false (ld1 x50)) fun x51 =>
        bnd (gd x49 false (lift (lenStr x51))) fun x52 =>
        bnd (gd x49 false (lift (bin .gtr x52 (Value.int .i64 65535)))) fun x53 =>
        bnd (gd x44 true (lift (pickV x49 (Value.bool true) x53))) fun x54 =>
        bnd (lift (pickV x44 x54 (Value.bool false))) fun x55 =>
        condM x55 (
          ret (.nxt [(at_ vs_3 0), (at_ vs_3 1), x7, (at_ vs_3 2), (at_ vs_3 3), (at_ vs_3 4), x55])
          ) (
          bnd (lift (faddr 0 x7)) fun x56 =>
          bnd (ld1 x56) fun x57 =>
          bnd (lift (un .not x57)) fun x58 =>
          bnd (gd x58 true (lift (faddr 2 x7))) fun x60 =>
          bnd (gd x58 true (ld1 x60)) fun x61 =>
          bnd (gd x58 true (lift (bin .neq x61 (Value.string ⟨#[]⟩)))) fun x62 =>
          bnd (lift (pickV x58 x62 (Value.bool false))) fun x63 =>
          ret (.nxt [(at_ vs_3 0), (at_ vs_3 1), x7, (at_ vs_3 2), (at_ vs_3 3), (at_ vs_3 4), x63])
          )
        ) fun o => nx o wire_Encode_k3
      ) fun o => ret (unblk 2 o)
    ) fun o => ret (unblk 1 o)
  ) fun o => nx o wire_Encode_k4
def wire_Encode_l6 (vs_2 : List V) : M Out :=
  bnd (lift (bin .lss (at_ vs_2 4) (at_ vs_2 3))) fun x23 =>
  bnd (
  condM x23 (
    ret (.nxt [(at_ vs_2 0), (at_ vs_2 1), (at_ vs_2 2), (at_ vs_2 3), (at_ vs_2 4)])
    ) (
    ret (.brk 0 [(at_ vs_2 0), (at_ vs_2 1)])
    )
  ) fun o => nx o wire_Encode_k5
def wire_Encode_k7 (vs_10 : List V) : M Out :=
  bnd (b2s (at_ vs_10 0)) fun x94 =>
  ret (.ret [x94, (Value.int .i64 0)])
def wire_Encode_k8 (vs_9 : List V) : M Out :=
  bnd (
    bnd (gd (at_ vs_9 1) false (lift (some (at_ vs_9 0)))) fun x89 =>
    bnd (gd (at_ vs_9 1) false (lift (lenSlc x89))) fun x90 =>
    bnd (gd (at_ vs_9 1) false (lift (bin .gtr x90 (Value.int .i64 65536)))) fun x91 =>
    bnd (lift (pickV (at_ vs_9 1) (Value.bool true) x91)) fun x92 =>
    condM x92 (
      ret (.ret [(Value.string ⟨#[]⟩), (Value.int .i64 2)])
      ) (
      ret (.nxt [(at_ vs_9 0)])
      )
    ) fun o => nx o wire_Encode_k7
def wire_Encode_k9 (vs : List V) : M Out :=
  bnd (lift (lenSlc (at_ vs 0))) fun x13 =>
  bnd (lift (bin .shr x13 (Value.int .u64 8))) fun x14 =>
  bnd (lift (cvi .u8 x14)) fun x15 =>
  bnd (lift (lenSlc (at_ vs 0))) fun x17 =>
  bnd (lift (cvi .u8 x17)) fun x18 =>
  bnd (bslc 1 2 (rep 2 [Value.int .u8 0]) [(0, 1, x15), (1, 1, x18)]) fun x19 =>
  bnd (
    bnd (lift (lenSlc (at_ vs 0))) fun x21 =>
    bnd (
      loopM FUEL wire_Encode_l6 [x19, (Value.bool false), (at_ vs 0), x21, (Value.int .i64 0)]
      ) fun o => ret (unblk 0 o)
    ) fun o => nx o wire_Encode_k8
def F_wire_Encode (x0 : V) : M V :=
  bnd (
    bnd (
      bnd (lift (lenSlc x0)) fun x10 =>
      bnd (lift (bin .gtr x10 (Value.int .i64 1000))) fun x11 =>
      condM x11 (
        ret (.ret [(Value.string ⟨#[]⟩), (Value.int .i64 2)])
        ) (
        ret (.nxt [x0])
        )
      ) fun o => nx o wire_Encode_k9
    ) fun o => finM o fun vs => ret (outV [(at_ vs 0), (at_ vs 1)])
def h_wire_Encode : Hint := (.seq [] .leaf (.seq [0] (.seq [] .leaf (.cond (.seq [] .leaf .leaf) .leaf)) (.seq [] .leaf (.seq [] .leaf (.seq [4, 5] (.seq [] .leaf (.blk (.loop [4, 5, 20, 21, 22] (.seq [] .leaf (.seq [4, 5, 20, 21, 22] (.cond .leaf .leaf) (.seq [4, 5, 20, 21, 22] (.blk (.seq [] .leaf (.blk (.seq [4, 5, 7, 20, 21, 22, 42] (.seq [] .leaf (.cond .leaf .leaf)) (.cond (.seq [] .leaf .leaf) (.seq [] .leaf (.cond .leaf (.seq [] .leaf (.cond (.reg [0, 1, 6, 12, 2, 3, 4, 5, 7, 8, 9, 13, 10, 11, 14, 15] []) (.seq [] .leaf (.seq [] .leaf (.blk (.loop [4, 5, 7, 8, 20, 21, 22] (.seq [4, 5, 7, 8, 20, 21, 22] (.seq [] .leaf (.cond .leaf .leaf)) (.seq [4, 5, 7, 8, 20, 21, 22] (.blk .leaf) .leaf))))))))))))))) .leaf)))))) (.seq [4] (.seq [] .leaf (.cond (.seq [] .leaf .leaf) .leaf)) (.seq [] .leaf .leaf)))))))
def A_wire_Encode (l : List V) : M V := match l with | [x0] => F_wire_Encode x0 | _ => fail
theorem e_wire_Encode (x0 : V) : funM Tryz.prog (ovr [] noC) fid_wire_Encode h_wire_Encode [x0] = F_wire_Encode x0 := by kernel_rfl
theorem K_wire_Encode : Known Tryz.prog fid_wire_Encode (A_wire_Encode) := known_of (σ := ovr [] noC) (hint := h_wire_Encode) (by kernel_rfl) simAll_nil0 fun l H r H' h => by
  unfold A_wire_Encode at h; split at h
  · rw [e_wire_Encode]; exact h
  · exact (fail_ne h).elim

/-! ### capstan/code.Encode -/
def code_Encode_k0 (G_strings_IndexRune : List V → M V) (G_strings_Contains : List V → M V) (vs_4 : List V) : M Out :=
  bnd (lift (bin .add (at_ vs_4 4) (Value.int .i64 1))) fun x51 =>
  ret (.nxt [(at_ vs_4 0), (at_ vs_4 1), (at_ vs_4 2), (at_ vs_4 3), x51])
def code_Encode_k1 (G_strings_IndexRune : List V → M V) (G_strings_Contains : List V → M V) (vs_3 : List V) : M Out :=
  bnd (
  bnd (
    bnd (lift (iaddrS 1 (at_ vs_3 2) (at_ vs_3 4))) fun x39 =>
    bnd (ld1 x39) fun x40 =>
    bnd (lift (faddr 2 (at_ vs_3 0))) fun x43 =>
    bnd (ld1 x43) fun x44 =>
    bnd (lift (iaddrS 1 x44 (at_ vs_3 4))) fun x46 =>
    bnd (ld1 x46) fun x47 =>
    bnd (bslc 1 2 (rep 2 [Value.int .i64 0]) [(0, 1, x40), (1, 1, x47)]) fun x48 =>
    bnd (A_code_numbers_int64 [x48]) fun x49 =>
    bnd (appV 3 32 (at_ vs_3 1) x49) fun x50 =>
    ret (.nxt [(at_ vs_3 0), x50, (at_ vs_3 2), (at_ vs_3 3), (at_ vs_3 4)])
    ) fun o => ret (unblk 1 o)
  ) fun o => nx o (code_Encode_k0 G_strings_IndexRune G_strings_Contains)
def code_Encode_l2 (G_strings_IndexRune : List V → M V) (G_strings_Contains : List V → M V) (vs_2 : List V) : M Out :=
  bnd (lift (bin .lss (at_ vs_2 4) (at_ vs_2 3))) fun x37 =>
  bnd (
  condM x37 (
    ret (.nxt [(at_ vs_2 0), (at_ vs_2 1), (at_ vs_2 2), (at_ vs_2 3), (at_ vs_2 4)])
    ) (
    ret (.brk 0 [(at_ vs_2 0), (at_ vs_2 1)])
    )
  ) fun o => nx o (code_Encode_k1 G_strings_IndexRune G_strings_Contains)
def code_Encode_k3 (G_strings_IndexRune : List V → M V) (G_strings_Contains : List V → M V) (vs_8 : List V) : M Out :=
  bnd (lift (bin .add (at_ vs_8 4) (Value.int .i64 1))) fun x71 =>
  ret (.nxt [(at_ vs_8 0), (at_ vs_8 1), (at_ vs_8 2), (at_ vs_8 3), x71])
def code_Encode_k4 (G_strings_IndexRune : List V → M V) (G_strings_Contains : List V → M V) (vs_7 : List V) : M Out :=
  bnd (
  bnd (
    bnd (lift (iaddrS 1 (at_ vs_7 2) (at_ vs_7 4))) fun x60 =>
    bnd (ld1 x60) fun x61 =>
    bnd (lift (lenSlc x61)) fun x64 =>
    bnd (bslc 1 1 (rep 1 [Value.int .i64 0]) [(0, 1, x64)]) fun x65 =>
    bnd (A_code_numbers_int [x65]) fun x66 =>
    bnd (appV 3 32 (at_ vs_7 1) x66) fun x67 =>
    bnd (A_code_numbers_int [x61]) fun x69 =>
    bnd (appV 3 32 x67 x69) fun x70 =>
    ret (.nxt [(at_ vs_7 0), x70, (at_ vs_7 2), (at_ vs_7 3), (at_ vs_7 4)])
    ) fun o => ret (unblk 3 o)
  ) fun o => nx o (code_Encode_k3 G_strings_IndexRune G_strings_Contains)
def code_Encode_l5 (G_strings_IndexRune : List V → M V) (G_strings_Contains : List V → M V) (vs_6 : List V) : M Out :=
  bnd (lift (bin .lss (at_ vs_6 4) (at_ vs_6 3))) fun x59 =>
  bnd (
  condM x59 (
    ret (.nxt [(at_ vs_6 0), (at_ vs_6 1), (at_ vs_6 2), (at_ vs_6 3), (at_ vs_6 4)])
    ) (
    ret (.brk 2 [(at_ vs_6 0), (at_ vs_6 1)])
    )
  ) fun o => nx o (code_Encode_k4 G_strings_IndexRune G_strings_Contains)
def code_Encode_k6 (G_strings_IndexRune : List V → M V) (G_strings_Contains : List V → M V) (vs_14 : List V) : M Out :=
  bnd (lift (bin .sub (at_ vs_14 3) (Value.int .i64 8))) fun x102 =>
  ret (.nxt [(at_ vs_14 0), (at_ vs_14 1), (at_ vs_14 2), x102, (at_ vs_14 4), (at_ vs_14 5), (at_ vs_14 6)])
def code_Encode_k7 (G_strings_IndexRune : List V → M V) (G_strings_Contains : List V → M V) (vs_13 : List V) : M Out :=
  bnd (
  bnd (
    bnd (lift (faddr 3 (at_ vs_13 2))) fun x104 =>
    bnd (ld1 x104) fun x105 =>
    bnd (lift (bin .shr x105 (at_ vs_13 3))) fun x107 =>
    bnd (lift (cvi .u8 x107)) fun x108 =>
    bnd (bslc 1 1 (rep 1 [Value.int .u8 0]) [(0, 1, x108)]) fun x109 =>
    bnd (appV 1 1 (at_ vs_13 1) x109) fun x110 =>
    ret (.nxt [(at_ vs_13 0), x110, (at_ vs_13 2), (at_ vs_13 3), (at_ vs_13 4), (at_ vs_13 5), (at_ vs_13 6)])
    ) fun o => ret (unblk 7 o)
  ) fun o => nx o (code_Encode_k6 G_strings_IndexRune G_strings_Contains)
def code_Encode_l8 (G_strings_IndexRune : List V → M V) (G_strings_Contains : List V → M V) (vs_12 : List V) : M Out :=
  bnd (
  bnd (lift (bin .geq (at_ vs_12 3) (Value.int .i64 0))) fun x100 =>
  condM x100 (
    ret (.nxt [(at_ vs_12 0), (at_ vs_12 1), (at_ vs_12 2), (at_ vs_12 3), (at_ vs_12 4), (at_ vs_12 5), (at_ vs_12 6)])
    ) (
    ret (.brk 6 [(at_ vs_12 0), (at_ vs_12 1), (at_ vs_12 4), (at_ vs_12 5), (at_ vs_12 6)])
    )
  ) fun o => nx o (code_Encode_k7 G_strings_IndexRune G_strings_Contains)
def code_Encode_k9 (G_strings_IndexRune : List V → M V) (G_strings_Contains : List V → M V) (vs_15 : List V) : M Out :=
  bnd (lift (bin .add (at_ vs_15 4) (Value.int .i64 1))) fun x111 =>
  ret (.nxt [(at_ vs_15 0), (at_ vs_15 1), (at_ vs_15 2), (at_ vs_15 3), x111])
def code_Encode_k10 (G_strings_IndexRune : List V → M V) (G_strings_Contains : List V → M V) (vs_11 : List V) : M Out :=
  bnd (
  bnd (
    bnd (lift (iaddrS 4 (at_ vs_11 2) (at_ vs_11 4))) fun x77 =>
    bnd (ldn 4 x77) fun x78 =>
    bnd (newc [Value.int .i64 0, Value.int .i64 0, Value.int .i64 0, Value.int .i64 0]) fun x13 =>
    bnd (stn 4 x13 x78) fun _ =>
    bnd (lift (faddr 0 x13)) fun x80 =>
    bnd (ld1 x80) fun x81 =>
    bnd (lift (cvi .u8 x81)) fun x82 =>
    bnd (lift (faddr 1 x13)) fun x83 =>
    bnd (ld1 x83) fun x84 =>
    bnd (lift (bin .shr x84 (Value.int .u64 8))) fun x85 =>
    bnd (lift (cvi .u8 x85)) fun x86 =>
    bnd (lift (faddr 1 x13)) fun x87 =>
    bnd (ld1 x87) fun x88 =>
    bnd (lift (cvi .u8 x88)) fun x89 =>
    bnd (lift (faddr 2 x13)) fun x90 =>
    bnd (ld1 x90) fun x91 =>
    bnd (lift (bin .shr x91 (Value.int .u64 8))) fun x92 =>
    bnd (lift (cvi .u8 x92)) fun x93 =>
    bnd (lift (faddr 2 x13)) fun x94 =>
    bnd (ld1 x94) fun x95 =>
    bnd (lift (cvi .u8 x95)) fun x96 =>
    bnd (bslc 1 5 (rep 5 [Value.int .u8 0]) [(0, 1, x82), (1, 1, x86), (2, 1, x89), (3, 1, x93), (4, 1, x96)]) fun x97 =>
    bnd (appV 1 1 (at_ vs_11 1) x97) fun x98 =>
    bnd (
      loopM FUEL (code_Encode_l8 G_strings_IndexRune G_strings_Contains) [(at_ vs_11 0), x98, x13, (Value.int .i64 40), (at_ vs_11 2), (at_ vs_11 3), (at_ vs_11 4)]
      ) fun o => ret (unblk 6 o)
    ) fun o => ret (unblk 5 o)
  ) fun o => nx o (code_Encode_k9 G_strings_IndexRune G_strings_Contains)
def code_Encode_l11 (G_strings_IndexRune : List V → M V) (G_strings_Contains : List V → M V) (vs_10 : List V) : M Out :=
  bnd (lift (bin .lss (at_ vs_10 4) (at_ vs_10 3))) fun x76 =>
  bnd (
  condM x76 (
    ret (.nxt [(at_ vs_10 0), (at_ vs_10 1), (at_ vs_10 2), (at_ vs_10 3), (at_ vs_10 4)])
    ) (
    ret (.brk 4 [(at_ vs_10 0), (at_ vs_10 1)])
    )
  ) fun o => nx o (code_Encode_k10 G_strings_IndexRune G_strings_Contains)
def code_Encode_k12 (G_strings_IndexRune : List V → M V) (G_strings_Contains : List V → M V) (vs_16 : List V) : M Out :=
  bnd (b2s (at_ vs_16 1)) fun x114 =>
  bnd (lift (build [Value.bool false, Value.int .i64 0, Value.string ⟨#[]⟩] [(0, 1, (Value.bool true)), (2, 1, x114)])) fun x115 =>
  bnd (bslc 3 1 (rep 1 [Value.bool false, Value.int .i64 0, Value.string ⟨#[]⟩]) [(0, 3, x115)]) fun x116 =>
  bnd (appV 3 32 (at_ vs_16 0) x116) fun x117 =>
  bnd (A_wire_Encode [x117]) fun x118 =>
  bnd (lift (ext 0 x118)) fun x119 =>
  bnd (lift (ext 1 x118)) fun x120 =>
  ret (.ret [x119, x120])
def code_Encode_k13 (G_strings_IndexRune : List V → M V) (G_strings_Contains : List V → M V) (vs_9 : List V) : M Out :=
  bnd (
    bnd (lift (faddr 5 (at_ vs_9 0))) fun x72 =>
    bnd (ld1 x72) fun x73 =>
    bnd (lift (lenSlc x73)) fun x74 =>
    bnd (
      loopM FUEL (code_Encode_l11 G_strings_IndexRune G_strings_Contains) [(at_ vs_9 1), (Value.slice none 0 0), x73, x74, (Value.int .i64 0)]
      ) fun o => ret (unblk 4 o)
    ) fun o => nx o (code_Encode_k12 G_strings_IndexRune G_strings_Contains)
def code_Encode_k14 (G_strings_IndexRune : List V → M V) (G_strings_Contains : List V → M V) (vs_5 : List V) : M Out :=
  bnd (
    bnd (lift (faddr 3 (at_ vs_5 0))) fun x52 =>
    bnd (ld1 x52) fun x53 =>
    bnd (lift (faddr 4 (at_ vs_5 0))) fun x54 =>
    bnd (ld1 x54) fun x55 =>
    bnd (bslc 1 2 (rep 2 [Value.slice none 0 0]) [(0, 1, x53), (1, 1, x55)]) fun x56 =>
    bnd (lift (lenSlc x56)) fun x57 =>
    bnd (
      loopM FUEL (code_Encode_l5 G_strings_IndexRune G_strings_Contains) [(at_ vs_5 0), (at_ vs_5 1), x56, x57, (Value.int .i64 0)]
      ) fun o => ret (unblk 2 o)
    ) fun o => nx o (code_Encode_k13 G_strings_IndexRune G_strings_Contains)
def code_Encode_k15 (G_strings_IndexRune : List V → M V) (G_strings_Contains : List V → M V) (vs : List V) : M Out :=
  withResv 2 fun base h0 =>
  bnd (lift (faddr 0 (at_ vs 0))) fun x23 =>
  bnd (lift (faddr 1 (at_ vs 0))) fun x27 =>
  bnd (ld1 x23) fun x24 =>
  bnd (lift (build [Value.bool false, Value.int .i64 0, Value.string ⟨#[]⟩] [(0, 1, (Value.bool true)), (2, 1, x24)])) fun x25 =>
  bnd (ld1 x27) fun x28 =>
  bnd (lift (lenSlc x28)) fun x29 =>
  bnd (flt (base + 1) (bslc 1 1 (rep 1 [Value.int .i64 0]) [(0, 1, x29)])) fun x30 =>
  bndH (A_code_numbers_int [x30]) fun ha x31 h1 =>
  need (freeIn ha [base + 0] && freeIn h1 [base + 0]) <|
  bnd (flt (base + 0) (bslc 3 1 (rep 1 [Value.bool false, Value.int .i64 0, Value.string ⟨#[]⟩]) [(0, 3, x25)])) fun x26 =>
  bndH (appV 3 32 x26 x31) fun ha_2 x32 h2 =>
  need (chk (ld1 x23) h1 x24) <|
  bnd (
    bnd (lift (faddr 1 (at_ vs 0))) fun x33 =>
    bnd (ld1 x33) fun x34 =>
    bnd (lift (lenSlc x34)) fun x35 =>
    bnd (
      loopM FUEL (code_Encode_l2 G_strings_IndexRune G_strings_Contains) [(at_ vs 0), x32, x34, x35, (Value.int .i64 0)]
      ) fun o => ret (unblk 0 o)
    ) fun o => nx o (code_Encode_k14 G_strings_IndexRune G_strings_Contains)
def F_code_Encode (G_strings_IndexRune : List V → M V) (G_strings_Contains : List V → M V) (x0 : V) : M V :=
  bnd (
    bnd (boxv x0) fun x1 =>
    bnd (
      bnd (ldn 6 x1) fun x16 =>
      bnd ((A_code_Check G_strings_IndexRune G_strings_Contains) [x16]) fun x17 =>
      bnd (lift (ext 0 x17)) fun x18 =>
      bnd (lift (ext 1 x17)) fun x19 =>
      bnd (lift (bin .neq x19 (Value.int .i64 0))) fun x21 =>
      condM x21 (
        ret (.ret [(Value.string ⟨#[]⟩), x19])
        ) (
        ret (.nxt [x1])
        )
      ) fun o => nx o (code_Encode_k15 G_strings_IndexRune G_strings_Contains)
    ) fun o => finM o fun vs => ret (outV [(at_ vs 0), (at_ vs 1)])
def h_code_Encode : Hint := (.seq [] .leaf (.seq [1] (.seq [] .leaf (.seq [] .leaf (.cond (.seq [] .leaf .leaf) .leaf))) (.seq [] (.reg [0, 4, 1, 2, 5, 6, 7, 8, 3, 9, 10] [3, 7]) (.seq [1, 6] (.seq [] .leaf (.blk (.loop [1, 6, 34, 35, 36] (.seq [] .leaf (.seq [1, 6, 34, 35, 36] (.cond .leaf .leaf) (.seq [1, 6, 34, 35, 36] (.blk (.seq [] .leaf .leaf)) .leaf)))))) (.seq [1, 6] (.seq [] .leaf (.blk (.loop [1, 6, 56, 57, 58] (.seq [] .leaf (.seq [1, 6, 56, 57, 58] (.cond .leaf .leaf) (.seq [1, 6, 56, 57, 58] (.blk (.seq [] .leaf .leaf)) .leaf)))))) (.seq [] .leaf (.seq [6, 11] (.seq [] .leaf (.blk (.loop [6, 11, 73, 74, 75] (.seq [] .leaf (.seq [6, 11, 73, 74, 75] (.cond .leaf .leaf) (.seq [6, 11, 73, 74, 75] (.blk (.seq [] .leaf (.seq [] .leaf (.seq [] .leaf (.blk (.loop [6, 11, 13, 14, 73, 74, 75] (.seq [6, 11, 13, 14, 73, 74, 75] (.seq [] .leaf (.cond .leaf .leaf)) (.seq [6, 11, 13, 14, 73, 74, 75] (.blk .leaf) .leaf)))))))) .leaf)))))) (.seq [] .leaf .leaf))))))))
def A_code_Encode (G_strings_IndexRune : List V → M V) (G_strings_Contains : List V → M V) (l : List V) : M V := match l with | [x0] => F_code_Encode G_strings_IndexRune G_strings_Contains x0 | _ => fail
theorem e_code_Encode (G_strings_IndexRune : List V → M V) (G_strings_Contains : List V → M V) (x0 : V) : funM Tryz.prog (ovr [(fid_code_Check, A_code_Check G_strings_IndexRune G_strings_Contains), (fid_code_numbers_int, A_code_numbers_int), (fid_code_numbers_int64, A_code_numbers_int64), (fid_wire_Encode, A_wire_Encode)] noC) fid_code_Encode h_code_Encode [x0] = F_code_Encode G_strings_IndexRune G_strings_Contains x0 := by kernel_rfl
theorem K_code_Encode {G_strings_IndexRune : List V → M V} {G_strings_Contains : List V → M V} (k_strings_IndexRune : Known Tryz.prog fid_strings_IndexRune G_strings_IndexRune) (k_strings_Contains : Known Tryz.prog fid_strings_Contains G_strings_Contains) : Known Tryz.prog fid_code_Encode (A_code_Encode G_strings_IndexRune G_strings_Contains) := known_of (σ := ovr [(fid_code_Check, A_code_Check G_strings_IndexRune G_strings_Contains), (fid_code_numbers_int, A_code_numbers_int), (fid_code_numbers_int64, A_code_numbers_int64), (fid_wire_Encode, A_wire_Encode)] noC) (hint := h_code_Encode) (by kernel_rfl) (simAll_ovr (K_code_Check k_strings_IndexRune k_strings_Contains) (simAll_ovr K_code_numbers_int (simAll_ovr K_code_numbers_int64 (simAll_ovr K_wire_Encode simAll_nil0)))) fun l H r H' h => by
  unfold A_code_Encode at h; split at h
  · rw [e_code_Encode]; exact h
  · exact (fail_ne h).elim

/-! ### capstan/wire.bad -/
def F_wire_bad (x0 x1 : V) : M V :=
  bnd (
    bnd (lift (build [Value.int .i64 0, Value.int .i64 0] [(0, 1, x0), (1, 1, x1)])) fun x7 =>
    bnd (lift (build [Value.int .i64 0, Value.int .i64 0] [(0, 2, x7)])) fun x8 =>
    bnd (lift (some (Value.iface tid_wire_broken x8))) fun x9 =>
    ret (.ret [x9])
    ) fun o => finM o fun vs => ret (outV [(at_ vs 0)])
def h_wire_bad : Hint := (.seq [] .leaf (.seq [] .leaf .leaf))
def A_wire_bad (l : List V) : M V := match l with | [x0, x1] => F_wire_bad x0 x1 | _ => fail
theorem e_wire_bad (x0 x1 : V) : funM Tryz.prog (ovr [] noC) fid_wire_bad h_wire_bad [x0, x1] = F_wire_bad x0 x1 := by kernel_rfl
theorem K_wire_bad : Known Tryz.prog fid_wire_bad (A_wire_bad) := known_of (σ := ovr [] noC) (hint := h_wire_bad) (by kernel_rfl) simAll_nil0 fun l H r H' h => by
  unfold A_wire_bad at h; split at h
  · rw [e_wire_bad]; exact h
  · exact (fail_ne h).elim

/-! ### capstan/wire.unsigned -/
def wire_unsigned_k0 (vs_3 : List V) : M Out :=
  bnd (lift (bin .add (at_ vs_3 3) (Value.int .i64 1))) fun x16 =>
  ret (.nxt [(at_ vs_3 0), (at_ vs_3 1), (at_ vs_3 2), x16])
def wire_unsigned_k1 (vs_2 : List V) : M Out :=
  bnd (
  bnd (
    bnd (lift (bin .shl (at_ vs_2 1) (Value.int .u64 8))) fun x10 =>
    bnd (lift (idxS (at_ vs_2 0) (at_ vs_2 3))) fun x13 =>
    bnd (lift (cvi .u64 x13)) fun x14 =>
    bnd (lift (bin .or x10 x14)) fun x15 =>
    ret (.nxt [(at_ vs_2 0), x15, (at_ vs_2 2), (at_ vs_2 3)])
    ) fun o => ret (unblk 1 o)
  ) fun o => nx o wire_unsigned_k0
def wire_unsigned_l2 (vs : List V) : M Out :=
  bnd (lift (bin .lss (at_ vs 3) (at_ vs 2))) fun x7 =>
  bnd (
  condM x7 (
    ret (.nxt [(at_ vs 0), (at_ vs 1), (at_ vs 2), (at_ vs 3)])
    ) (
    ret (.brk 0 [(at_ vs 1)])
    )
  ) fun o => nx o wire_unsigned_k1
def wire_unsigned_k3 (vs_4 : List V) : M Out :=
  ret (.ret [(at_ vs_4 0)])
def F_wire_unsigned (x0 : V) : M V :=
  bnd (
    bnd (
      bnd (lift (lenStr x0)) fun x5 =>
      bnd (
        loopM FUEL wire_unsigned_l2 [x0, (Value.int .u64 0), x5, (Value.int .i64 0)]
        ) fun o => ret (unblk 0 o)
      ) fun o => nx o wire_unsigned_k3
    ) fun o => finM o fun vs => ret (outV [(at_ vs 0)])
def h_wire_unsigned : Hint := (.seq [] .leaf (.seq [2] (.seq [] .leaf (.blk (.loop [0, 2, 5, 6] (.seq [] .leaf (.seq [0, 2, 5, 6] (.cond .leaf .leaf) (.seq [0, 2, 5, 6] (.blk (.seq [] .leaf .leaf)) .leaf)))))) (.seq [] .leaf .leaf)))
def A_wire_unsigned (l : List V) : M V := match l with | [x0] => F_wire_unsigned x0 | _ => fail
theorem e_wire_unsigned (x0 : V) : funM Tryz.prog (ovr [] noC) fid_wire_unsigned h_wire_unsigned [x0] = F_wire_unsigned x0 := by kernel_rfl
theorem K_wire_unsigned : Known Tryz.prog fid_wire_unsigned (A_wire_unsigned) := known_of (σ := ovr [] noC) (hint := h_wire_unsigned) (by kernel_rfl) simAll_nil0 fun l H r H' h => by
  unfold A_wire_unsigned at h; split at h
  · rw [e_wire_unsigned]; exact h
  · exact (fail_ne h).elim

/-! ### capstan/wire.item -/
def wire_item_k0 (vs : List V) : M Out :=
  withH fun h0_3 =>
  bnd (ldn 3 (at_ vs 1)) fun x73 =>
  bndH (A_wire_bad [(at_ vs 0), (Value.int .i64 30)]) fun ha_5 x75 h1_3 =>
  bndH (stn 3 (at_ vs 1) x73) fun ha_6 u_3 h2_3 =>
  need (chk (ldn 3 (at_ vs 1)) h1_3 x73) <|
  ret (.ret [(at_ vs 1), (Value.int .i64 0), x75])
def F_wire_item (x0 x1 : V) : M V :=
  bnd (
    bnd (newc [Value.bool false, Value.int .i64 0, Value.string ⟨#[]⟩]) fun x4 =>
    bnd (lift (subS x0 (some x1) none)) fun x11 =>
    bnd (
      bnd (
        bnd (lift (bin .eql x11 (Value.string ⟨#[]⟩))) fun x14 =>
        condM x14 (
          withH fun h0 =>
          bnd (ldn 3 x4) fun x15 =>
          bndH (A_wire_bad [x1, (Value.int .i64 30)]) fun ha x17 h1 =>
          bndH (stn 3 x4 x15) fun ha_2 u h2 =>
          need (chk (ldn 3 x4) h1 x15) <|
          ret (.ret [x4, (Value.int .i64 0), x17])
          ) (
          bnd (lift (idxS x11 (Value.int .i64 0))) fun x20 =>
          bnd (lift (bin .eql x20 (Value.int .u8 35))) fun x21 =>
          bnd (gd x21 true (lift (some x11))) fun x23 =>
          bnd (gd x21 true (lift (lenStr x23))) fun x24 =>
          bnd (gd x21 true (lift (bin .geq x24 (Value.int .i64 9)))) fun x25 =>
          bnd (lift (pickV x21 x25 (Value.bool false))) fun x26 =>
          condM x26 (
            bnd (lift (subS x11 (some (Value.int .i64 1)) (some (Value.int .i64 9)))) fun x28 =>
            bnd (A_wire_unsigned [x28]) fun x29 =>
            bnd (lift (cvi .i64 x29)) fun x30 =>
            bnd (lift (build [Value.bool false, Value.int .i64 0, Value.string ⟨#[]⟩] [(1, 1, x30)])) fun x31 =>
            bnd (lift (bin .add x1 (Value.int .i64 9))) fun x33 =>
            bnd (stn 3 x4 x31) fun _ =>
            ret (.ret [x4, x33, Value.nilIface])
            ) (
            bnd (lift (idxS x11 (Value.int .i64 0))) fun x36 =>
            bnd (lift (bin .eql x36 (Value.int .u8 36))) fun x37 =>
            bnd (gd x37 true (lift (some x11))) fun x39 =>
            bnd (gd x37 true (lift (lenStr x39))) fun x40 =>
            bnd (gd x37 true (lift (bin .geq x40 (Value.int .i64 3)))) fun x41 =>
            bnd (lift (pickV x37 x41 (Value.bool false))) fun x42 =>
            condM x42 (
              bnd (lift (subS x11 (some (Value.int .i64 1)) (some (Value.int .i64 3)))) fun x44 =>
              bnd (A_wire_unsigned [x44]) fun x45 =>
              bnd (lift (cvi .i64 x45)) fun x46 =>
              bnd (lift (lenStr x11)) fun x48 =>
              bnd (lift (bin .add (Value.int .i64 3) x46)) fun x50 =>
              bnd (lift (bin .geq x48 x50)) fun x51 =>
              condM x51 (
                bnd (lift (bin .add (Value.int .i64 3) x46)) fun x54 =>
                bnd (lift (subS x11 (some (Value.int .i64 3)) (some x54))) fun x55 =>
                bnd (lift (build [Value.bool false, Value.int .i64 0, Value.string ⟨#[]⟩] [(0, 1, (Value.bool true)), (2, 1, x55)])) fun x56 =>
                bnd (lift (bin .add x1 (Value.int .i64 3))) fun x58 =>
                bnd (lift (bin .add x58 x46)) fun x60 =>
                bnd (stn 3 x4 x56) fun _ =>
                ret (.ret [x4, x60, Value.nilIface])
                ) (
                ret (.nxt [x1, x4])
                )
              ) (
              bnd (lift (idxS x11 (Value.int .i64 0))) fun x63 =>
              bnd (lift (bin .neq x63 (Value.int .u8 35))) fun x64 =>
              bnd (gd x64 true (lift (some x11))) fun x66 =>
              bnd (gd x64 true (lift (idxS x66 (Value.int .i64 0)))) fun x67 =>
              bnd (gd x64 true (lift (bin .neq x67 (Value.int .u8 36)))) fun x68 =>
              bnd (lift (pickV x64 x68 (Value.bool false))) fun x69 =>
              condM x69 (
                withH fun h0_2 =>
                bnd (ldn 3 x4) fun x70 =>
                bndH (A_wire_bad [x1, (Value.int .i64 3)]) fun ha_3 x72 h1_2 =>
                bndH (stn 3 x4 x70) fun ha_4 u_2 h2_2 =>
                need (chk (ldn 3 x4) h1_2 x70) <|
                ret (.ret [x4, (Value.int .i64 0), x72])
                ) (
                ret (.nxt [x1, x4])
                )
              )
            )
          )
        ) fun o => ret (unblk 0 o)
      ) fun o => nx o wire_item_k0
    ) fun o => finM o fun vs => bnd (ldn 3 (at_ vs 0)) fun r0 => ret (outV [r0, (at_ vs 1), (at_ vs 2)])
def h_wire_item : Hint := (.seq [] .leaf (.seq [] .leaf (.seq [1, 4] (.blk (.seq [] .leaf (.cond (.seq [] (.reg [1, 0, 2, 3, 4, 5] []) .leaf) (.seq [] .leaf (.cond (.seq [] .leaf .leaf) (.seq [] .leaf (.cond (.seq [] .leaf (.seq [] .leaf (.cond (.seq [] .leaf .leaf) .leaf))) (.seq [] .leaf (.cond (.seq [] (.reg [1, 0, 2, 3, 4, 5] []) .leaf) .leaf))))))))) (.seq [] (.reg [1, 0, 2, 3, 4, 5] []) .leaf))))
def A_wire_item (l : List V) : M V := match l with | [x0, x1] => F_wire_item x0 x1 | _ => fail
def s_wire_item : Calls' := ovr [(fid_wire_bad, A_wire_bad), (fid_wire_unsigned, A_wire_unsigned)] noC
theorem e_wire_item (x0 x1 : V) : funM Tryz.prog (s_wire_item) fid_wire_item h_wire_item [x0, x1] = F_wire_item x0 x1 := by kernel_rfl
theorem K_wire_item : Known Tryz.prog fid_wire_item (A_wire_item) := known_of (σ := s_wire_item) (hint := h_wire_item) (by kernel_rfl) (simAll_ovr K_wire_bad (simAll_ovr K_wire_unsigned simAll_nil0)) fun l H r H' h => by
  unfold A_wire_item at h; split at h
  · rw [e_wire_item]; exact h
  · exact (fail_ne h).elim

/-! ### capstan/wire.list -/
def wire_list_k0 (vs_4 : List V) : M Out :=
    bnd (ldn 3 (at_ vs_4 2)) fun x40 =>
    bnd (bslc 3 1 (rep 1 [Value.bool false, Value.int .i64 0, Value.string ⟨#[]⟩]) [(0, 3, x40)]) fun x41 =>
    bnd (appV 3 32 (at_ vs_4 1) x41) fun x42 =>
    ret (.nxt [(at_ vs_4 0), x42, (at_ vs_4 3), (at_ vs_4 4), (at_ vs_4 5)])
def wire_list_k1 (vs_5 : List V) : M Out :=
  bnd (lift (bin .add (at_ vs_5 4) (Value.int .u64 1))) fun x44 =>
  ret (.nxt [(at_ vs_5 0), (at_ vs_5 1), (at_ vs_5 2), (at_ vs_5 3), x44])
def wire_list_k2 (vs_3 : List V) : M Out :=
  bnd (
  bnd (
    bnd (A_wire_item [(at_ vs_3 0), (at_ vs_3 2)]) fun x32 =>
    bnd (lift (ext 0 x32)) fun x33 =>
    bnd (lift (ext 1 x32)) fun x34 =>
    bnd (lift (ext 2 x32)) fun x35 =>
    bnd (newc [Value.bool false, Value.int .i64 0, Value.string ⟨#[]⟩]) fun x5 =>
    bnd (stn 3 x5 x33) fun _ =>
    bnd (
      bnd (lift (notIf true (isNil .i x35))) fun x37 =>
      condM x37 (
        ret (.ret [(Value.slice none 0 0), x35])
        ) (
        ret (.nxt [(at_ vs_3 0), (at_ vs_3 1), x5, x34, (at_ vs_3 3), (at_ vs_3 4)])
        )
      ) fun o => nx o wire_list_k0
    ) fun o => ret (unblk 2 o)
  ) fun o => nx o wire_list_k1
def wire_list_l3 (vs_2 : List V) : M Out :=
  bnd (lift (bin .lss (at_ vs_2 4) (at_ vs_2 3))) fun x28 =>
  bnd (
  condM x28 (
    ret (.nxt [(at_ vs_2 0), (at_ vs_2 1), (at_ vs_2 2), (at_ vs_2 3), (at_ vs_2 4)])
    ) (
    ret (.brk 1 [(at_ vs_2 0), (at_ vs_2 1), (at_ vs_2 2)])
    )
  ) fun o => nx o wire_list_k2
def wire_list_k4 (vs_7 : List V) : M Out :=
  ret (.ret [(at_ vs_7 0), Value.nilIface])
def wire_list_k5 (vs_6 : List V) : M Out :=
  bnd (
    bnd (lift (lenStr (at_ vs_6 0))) fun x47 =>
    bnd (lift (bin .lss (at_ vs_6 2) x47)) fun x48 =>
    condM x48 (
      bnd (A_wire_bad [(at_ vs_6 2), (Value.int .i64 31)]) fun x50 =>
      ret (.ret [(Value.slice none 0 0), x50])
      ) (
      ret (.nxt [(at_ vs_6 1)])
      )
    ) fun o => nx o wire_list_k4
def wire_list_k6 (vs : List V) : M Out :=
  bnd (
    bnd (lift (subS (at_ vs 0) none (some (Value.int .i64 2)))) fun x25 =>
    bnd (A_wire_unsigned [x25]) fun x26 =>
    bnd (
      loopM FUEL wire_list_l3 [(at_ vs 0), (at_ vs 1), (Value.int .i64 2), x26, (Value.int .u64 0)]
      ) fun o => ret (unblk 1 o)
    ) fun o => nx o wire_list_k5
def F_wire_list (x0 : V) : M V :=
  bnd (
    bnd (
      bnd (
        bnd (lift (lenStr x0)) fun x10 =>
        bnd (lift (bin .gtr x10 (Value.int .i64 65536))) fun x11 =>
        condM x11 (
          bnd (A_wire_bad [(Value.int .i64 0), (Value.int .i64 2)]) fun x12 =>
          ret (.ret [(Value.slice none 0 0), x12])
          ) (
          bnd (lift (lenStr x0)) fun x15 =>
          bnd (lift (bin .lss x15 (Value.int .i64 2))) fun x16 =>
          condM x16 (
            bnd (A_wire_bad [(Value.int .i64 0), (Value.int .i64 30)]) fun x17 =>
            ret (.ret [(Value.slice none 0 0), x17])
            ) (
            bnd (lift (subS x0 none (some (Value.int .i64 2)))) fun x20 =>
            bnd (A_wire_unsigned [x20]) fun x21 =>
            bnd (lift (bin .gtr x21 (Value.int .u64 1000))) fun x22 =>
            condM x22 (
              bnd (A_wire_bad [(Value.int .i64 0), (Value.int .i64 2)]) fun x23 =>
              ret (.ret [(Value.slice none 0 0), x23])
              ) (
              ret (.nxt [x0, (Value.slice none 0 0)])
              )
            )
          )
        ) fun o => ret (unblk 0 o)
      ) fun o => nx o wire_list_k6
    ) fun o => finM o fun vs => ret (outV [(at_ vs 0), (at_ vs 1)])
def h_wire_list : Hint := (.seq [] .leaf (.seq [0, 2] (.blk (.seq [] .leaf (.cond (.seq [] .leaf .leaf) (.seq [] .leaf (.cond (.seq [] .leaf .leaf) (.seq [] .leaf (.cond (.seq [] .leaf .leaf) .leaf))))))) (.seq [] .leaf (.seq [0, 2, 4] (.seq [] .leaf (.blk (.loop [0, 2, 4, 26, 27] (.seq [] .leaf (.seq [0, 2, 4, 26, 27] (.cond .leaf .leaf) (.seq [0, 2, 4, 26, 27] (.blk (.seq [] .leaf (.seq [0, 2, 5, 6, 26, 27] (.seq [] .leaf (.cond (.seq [] .leaf .leaf) .leaf)) .leaf))) .leaf)))))) (.seq [2] (.seq [] .leaf (.cond (.seq [] .leaf .leaf) .leaf)) (.seq [] .leaf .leaf))))))
def A_wire_list (l : List V) : M V := match l with | [x0] => F_wire_list x0 | _ => fail
def s_wire_list : Calls' := ovr [(fid_wire_bad, A_wire_bad), (fid_wire_unsigned, A_wire_unsigned), (fid_wire_item, A_wire_item)] noC
theorem e_wire_list (x0 : V) : funM Tryz.prog (s_wire_list) fid_wire_list h_wire_list [x0] = F_wire_list x0 := by kernel_rfl
theorem K_wire_list : Known Tryz.prog fid_wire_list (A_wire_list) := known_of (σ := s_wire_list) (hint := h_wire_list) (by kernel_rfl) (simAll_ovr K_wire_bad (simAll_ovr K_wire_unsigned (simAll_ovr K_wire_item simAll_nil0))) fun l H r H' h => by
  unfold A_wire_list at h; split at h
  · rw [e_wire_list]; exact h
  · exact (fail_ne h).elim

/-! ### capstan/wire.fault -/
def wire_fault_k0 (G_errors_As : List V → M V) (vs : List V) : M Out :=
  bnd (lift (build [Value.int .i64 0, Value.int .i64 0] [])) fun x9 =>
  bnd (stn 2 (at_ vs 0) x9) fun _ =>
  ret (.ret [(at_ vs 0)])
def F_wire_fault (G_errors_As : List V → M V) (x0 : V) : M V :=
  bnd (
    bnd (newc [Value.int .i64 0, Value.int .i64 0]) fun x2 =>
    bnd (newc [Value.int .i64 0, Value.int .i64 0]) fun x3 =>
    bnd (
      bnd (lift (some (Value.iface tid_p_wire_broken x3))) fun x5 =>
      bnd (G_errors_As [x0, x5]) fun x6 =>
      condM x6 (
        bnd (lift (faddr 0 x3)) fun x7 =>
        bnd (ldn 2 x7) fun x8 =>
        bnd (stn 2 x2 x8) fun _ =>
        ret (.ret [x2])
        ) (
        ret (.nxt [x2])
        )
      ) fun o => nx o (wire_fault_k0 G_errors_As)
    ) fun o => finM o fun vs => bnd (ldn 2 (at_ vs 0)) fun r0 => ret (outV [r0])
def h_wire_fault : Hint := (.seq [] .leaf (.seq [] .leaf (.seq [2] (.seq [] .leaf (.cond (.seq [] .leaf .leaf) .leaf)) (.seq [] .leaf .leaf))))
def A_wire_fault (G_errors_As : List V → M V) (l : List V) : M V := match l with | [x0] => F_wire_fault G_errors_As x0 | _ => fail
theorem e_wire_fault (G_errors_As : List V → M V) (x0 : V) : funM Tryz.prog (ovr [(fid_errors_As, G_errors_As)] noC) fid_wire_fault h_wire_fault [x0] = F_wire_fault G_errors_As x0 := by kernel_rfl
theorem K_wire_fault {G_errors_As : List V → M V} (k_errors_As : Known Tryz.prog fid_errors_As G_errors_As) : Known Tryz.prog fid_wire_fault (A_wire_fault G_errors_As) := known_of (σ := ovr [(fid_errors_As, G_errors_As)] noC) (hint := h_wire_fault) (by kernel_rfl) (simAll_ovr k_errors_As simAll_nil0) fun l H r H' h => by
  unfold A_wire_fault at h; split at h
  · rw [e_wire_fault]; exact h
  · exact (fail_ne h).elim

/-! ### capstan/wire.Decode -/
def F_wire_Decode (G_errors_As : List V → M V) (x0 : V) : M V :=
  bnd (
    bnd (newc [Value.int .i64 0, Value.int .i64 0]) fun x3 =>
    bnd (A_wire_list [x0]) fun x8 =>
    bnd (lift (ext 0 x8)) fun x9 =>
    bnd (lift (ext 1 x8)) fun x10 =>
    bnd ((A_wire_fault G_errors_As) [x10]) fun x13 =>
    bnd (stn 2 x3 x13) fun _ =>
    ret (.ret [x9, x3])
    ) fun o => finM o fun vs => bnd (ldn 2 (at_ vs 1)) fun r1 => ret (outV [(at_ vs 0), r1])
def h_wire_Decode : Hint := (.seq [] .leaf (.seq [] .leaf (.seq [] .leaf .leaf)))
def A_wire_Decode (G_errors_As : List V → M V) (l : List V) : M V := match l with | [x0] => F_wire_Decode G_errors_As x0 | _ => fail
theorem e_wire_Decode (G_errors_As : List V → M V) (x0 : V) : funM Tryz.prog (ovr [(fid_wire_list, A_wire_list), (fid_wire_fault, A_wire_fault G_errors_As)] noC) fid_wire_Decode h_wire_Decode [x0] = F_wire_Decode G_errors_As x0 := by kernel_rfl
theorem K_wire_Decode {G_errors_As : List V → M V} (k_errors_As : Known Tryz.prog fid_errors_As G_errors_As) : Known Tryz.prog fid_wire_Decode (A_wire_Decode G_errors_As) := known_of (σ := ovr [(fid_wire_list, A_wire_list), (fid_wire_fault, A_wire_fault G_errors_As)] noC) (hint := h_wire_Decode) (by kernel_rfl) (simAll_ovr K_wire_list (simAll_ovr (K_wire_fault k_errors_As) simAll_nil0)) fun l H r H' h => by
  unfold A_wire_Decode at h; split at h
  · rw [e_wire_Decode]; exact h
  · exact (fail_ne h).elim

/-! ### (*capstan/code.reader).take -/
def code_reader_take_k0 (vs : List V) : M Out :=
  bnd (lift (nilck (at_ vs 0))) fun x31 =>
  bnd (lift (faddr 0 x31)) fun x32 =>
  bnd (ld1 x32) fun x33 =>
  bnd (lift (iaddrS 3 x33 (Value.int .i64 0))) fun x34 =>
  bnd (ldn 3 x34) fun x35 =>
  bnd (newc [Value.bool false, Value.int .i64 0, Value.string ⟨#[]⟩]) fun x5 =>
  bnd (stn 3 x5 x35) fun _ =>
  bnd (lift (nilck (at_ vs 0))) fun x38 =>
  bnd (lift (faddr 0 x38)) fun x39 =>
  bnd (ld1 x39) fun x40 =>
  bnd (lift (subV 3 x40 (some (Value.int .i64 1)) none)) fun x41 =>
  bnd (lift (nilck (at_ vs 0))) fun x42 =>
  bnd (lift (faddr 0 x42)) fun x43 =>
  bnd (st1 x43 x41) fun _ =>
  bnd (ldn 3 x5) fun x44 =>
  bnd (stn 3 (at_ vs 1) x44) fun _ =>
  ret (.ret [(at_ vs 1)])
def F_code_reader_take (x0 x1 : V) : M V :=
  bnd (
    bnd (newc [Value.bool false, Value.int .i64 0, Value.string ⟨#[]⟩]) fun x4 =>
    bnd (
      bnd (lift (nilck x0)) fun x7 =>
      bnd (lift (faddr 0 x7)) fun x8 =>
      bnd (ld1 x8) fun x9 =>
      bnd (lift (lenSlc x9)) fun x10 =>
      bnd (lift (bin .eql x10 (Value.int .i64 0))) fun x11 =>
      bnd (gd x11 false (lift (some x0))) fun x13 =>
      bnd (gd x11 false (lift (nilck x13))) fun x14 =>
      bnd (gd x11 false (lift (faddr 0 x14))) fun x15 =>
      bnd (gd x11 false (ld1 x15)) fun x16 =>
      bnd (gd x11 false (lift (iaddrS 3 x16 (Value.int .i64 0)))) fun x17 =>
      bnd (gd x11 false (lift (faddr 0 x17))) fun x18 =>
      bnd (gd x11 false (ld1 x18)) fun x19 =>
      bnd (gd x11 false (lift (some x1))) fun x20 =>
      bnd (gd x11 false (lift (notIf true (eqK .b x19 x20)))) fun x21 =>
      bnd (lift (pickV x11 (Value.bool true) x21)) fun x22 =>
      condM x22 (
        bnd (lift (nilck x0)) fun x25 =>
        bnd (lift (faddr 1 x25)) fun x26 =>
        bnd (st1 x26 (Value.bool true)) fun _ =>
        bnd (lift (nilck x0)) fun x27 =>
        bnd (lift (faddr 0 x27)) fun x28 =>
        bnd (st1 x28 (Value.slice none 0 0)) fun _ =>
        bnd (lift (build [Value.bool false, Value.int .i64 0, Value.string ⟨#[]⟩] [])) fun x29 =>
        bnd (stn 3 x4 x29) fun _ =>
        ret (.ret [x4])
        ) (
        ret (.nxt [x0, x4])
        )
      ) fun o => nx o code_reader_take_k0
    ) fun o => finM o fun vs => bnd (ldn 3 (at_ vs 0)) fun r0 => ret (outV [r0])
def h_code_reader_take : Hint := (.seq [] .leaf (.seq [0, 4] (.seq [] .leaf (.cond (.seq [] .leaf (.seq [] .leaf .leaf)) .leaf)) (.seq [] .leaf (.seq [] .leaf (.seq [] .leaf .leaf)))))
def A_code_reader_take (l : List V) : M V := match l with | [x0, x1] => F_code_reader_take x0 x1 | _ => fail
theorem e_code_reader_take (x0 x1 : V) : funM Tryz.prog (ovr [] noC) fid_code_reader_take h_code_reader_take [x0, x1] = F_code_reader_take x0 x1 := by kernel_rfl
theorem K_code_reader_take : Known Tryz.prog fid_code_reader_take (A_code_reader_take) := known_of (σ := ovr [] noC) (hint := h_code_reader_take) (by kernel_rfl) simAll_nil0 fun l H r H' h => by
  unfold A_code_reader_take at h; split at h
  · rw [e_code_reader_take]; exact h
  · exact (fail_ne h).elim

/-! ### (*capstan/code.reader).many -/
def code_reader_many_k0 (vs : List V) : M Out :=
  ret (.ret [(at_ vs 0)])
def F_code_reader_many (x0 : V) : M V :=
  bnd (
    bnd (A_code_reader_take [x0, (Value.bool false)]) fun x5 =>
    bnd (lift (fld1 1 x5)) fun x6 =>
    bnd (
      bnd (lift (bin .lss x6 (Value.int .i64 0))) fun x8 =>
      bnd (gd x8 false (lift (some x6))) fun x10 =>
      bnd (gd x8 false (lift (bin .gtr x10 (Value.int .i64 1024)))) fun x11 =>
      bnd (lift (pickV x8 (Value.bool true) x11)) fun x12 =>
      condM x12 (
        bnd (lift (nilck x0)) fun x15 =>
        bnd (lift (faddr 1 x15)) fun x16 =>
        bnd (st1 x16 (Value.bool true)) fun _ =>
        bnd (lift (nilck x0)) fun x17 =>
        bnd (lift (faddr 0 x17)) fun x18 =>
        bnd (st1 x18 (Value.slice none 0 0)) fun _ =>
        ret (.ret [(Value.int .i64 0)])
        ) (
        ret (.nxt [x6])
        )
      ) fun o => nx o code_reader_many_k0
    ) fun o => finM o fun vs => ret (outV [(at_ vs 0)])
def h_code_reader_many : Hint := (.seq [] .leaf (.seq [] .leaf (.seq [3] (.seq [] .leaf (.cond (.seq [] .leaf (.seq [] .leaf .leaf)) .leaf)) (.seq [] .leaf .leaf))))
def A_code_reader_many (l : List V) : M V := match l with | [x0] => F_code_reader_many x0 | _ => fail
def s_code_reader_many : Calls' := ovr [(fid_code_reader_take, A_code_reader_take)] noC
theorem e_code_reader_many (x0 : V) : funM Tryz.prog (s_code_reader_many) fid_code_reader_many h_code_reader_many [x0] = F_code_reader_many x0 := by kernel_rfl
theorem K_code_reader_many : Known Tryz.prog fid_code_reader_many (A_code_reader_many) := known_of (σ := s_code_reader_many) (hint := h_code_reader_many) (by kernel_rfl) (simAll_ovr K_code_reader_take simAll_nil0) fun l H r H' h => by
  unfold A_code_reader_many at h; split at h
  · rw [e_code_reader_many]; exact h
  · exact (fail_ne h).elim

/-! ### (*capstan/code.reader).list -/
def code_reader_list_k0 (vs_3 : List V) : M Out :=
  bnd (lift (bin .add (at_ vs_3 3) (Value.int .i64 1))) fun x14 =>
  ret (.nxt [(at_ vs_3 0), (at_ vs_3 1), (at_ vs_3 2), x14])
def code_reader_list_k1 (vs_2 : List V) : M Out :=
  bnd (
  bnd (
    bnd (A_code_reader_take [(at_ vs_2 0), (Value.bool false)]) fun x10 =>
    bnd (lift (fld1 1 x10)) fun x11 =>
    bnd (bslc 1 1 (rep 1 [Value.int .i64 0]) [(0, 1, x11)]) fun x12 =>
    bnd (appV 1 8 (at_ vs_2 1) x12) fun x13 =>
    ret (.nxt [(at_ vs_2 0), x13, (at_ vs_2 2), (at_ vs_2 3)])
    ) fun o => ret (unblk 1 o)
  ) fun o => nx o code_reader_list_k0
def code_reader_list_l2 (vs : List V) : M Out :=
  bnd (lift (bin .lss (at_ vs 3) (at_ vs 2))) fun x7 =>
  bnd (
  condM x7 (
    ret (.nxt [(at_ vs 0), (at_ vs 1), (at_ vs 2), (at_ vs 3)])
    ) (
    ret (.brk 0 [(at_ vs 1)])
    )
  ) fun o => nx o code_reader_list_k1
def code_reader_list_k3 (vs_4 : List V) : M Out :=
  ret (.ret [(at_ vs_4 0)])
def F_code_reader_list (x0 : V) : M V :=
  bnd (
    bnd (
      bnd (A_code_reader_many [x0]) fun x5 =>
      bnd (
        loopM FUEL code_reader_list_l2 [x0, (Value.slice none 0 0), x5, (Value.int .i64 0)]
        ) fun o => ret (unblk 0 o)
      ) fun o => nx o code_reader_list_k3
    ) fun o => finM o fun vs => ret (outV [(at_ vs 0)])
def h_code_reader_list : Hint := (.seq [] .leaf (.seq [] .leaf (.seq [3] (.seq [] .leaf (.blk (.loop [0, 3, 5, 6] (.seq [] .leaf (.seq [0, 3, 5, 6] (.cond .leaf .leaf) (.seq [0, 3, 5, 6] (.blk .leaf) .leaf)))))) (.seq [] .leaf .leaf))))
def A_code_reader_list (l : List V) : M V := match l with | [x0] => F_code_reader_list x0 | _ => fail
def s_code_reader_list : Calls' := ovr [(fid_code_reader_many, A_code_reader_many), (fid_code_reader_take, A_code_reader_take)] noC
theorem e_code_reader_list (x0 : V) : funM Tryz.prog (s_code_reader_list) fid_code_reader_list h_code_reader_list [x0] = F_code_reader_list x0 := by kernel_rfl
theorem K_code_reader_list : Known Tryz.prog fid_code_reader_list (A_code_reader_list) := known_of (σ := s_code_reader_list) (hint := h_code_reader_list) (by kernel_rfl) (simAll_ovr K_code_reader_many (simAll_ovr K_code_reader_take simAll_nil0)) fun l H r H' h => by
  unfold A_code_reader_list at h; split at h
  · rw [e_code_reader_list]; exact h
  · exact (fail_ne h).elim

/-! ### capstan/code.unsigned -/
def code_unsigned_k0 (vs_3 : List V) : M Out :=
  bnd (lift (bin .add (at_ vs_3 3) (Value.int .i64 1))) fun x16 =>
  ret (.nxt [(at_ vs_3 0), (at_ vs_3 1), (at_ vs_3 2), x16])
def code_unsigned_k1 (vs_2 : List V) : M Out :=
  bnd (
  bnd (
    bnd (lift (bin .shl (at_ vs_2 1) (Value.int .u64 8))) fun x10 =>
    bnd (lift (idxS (at_ vs_2 0) (at_ vs_2 3))) fun x13 =>
    bnd (lift (cvi .i64 x13)) fun x14 =>
    bnd (lift (bin .or x10 x14)) fun x15 =>
    ret (.nxt [(at_ vs_2 0), x15, (at_ vs_2 2), (at_ vs_2 3)])
    ) fun o => ret (unblk 1 o)
  ) fun o => nx o code_unsigned_k0
def code_unsigned_l2 (vs : List V) : M Out :=
  bnd (lift (bin .lss (at_ vs 3) (at_ vs 2))) fun x7 =>
  bnd (
  condM x7 (
    ret (.nxt [(at_ vs 0), (at_ vs 1), (at_ vs 2), (at_ vs 3)])
    ) (
    ret (.brk 0 [(at_ vs 1)])
    )
  ) fun o => nx o code_unsigned_k1
def code_unsigned_k3 (vs_4 : List V) : M Out :=
  ret (.ret [(at_ vs_4 0)])
def F_code_unsigned (x0 : V) : M V :=
  bnd (
    bnd (
      bnd (lift (lenStr x0)) fun x5 =>
      bnd (
        loopM FUEL code_unsigned_l2 [x0, (Value.int .i64 0), x5, (Value.int .i64 0)]
        ) fun o => ret (unblk 0 o)
      ) fun o => nx o code_unsigned_k3
    ) fun o => finM o fun vs => ret (outV [(at_ vs 0)])
def h_code_unsigned : Hint := (.seq [] .leaf (.seq [2] (.seq [] .leaf (.blk (.loop [0, 2, 5, 6] (.seq [] .leaf (.seq [0, 2, 5, 6] (.cond .leaf .leaf) (.seq [0, 2, 5, 6] (.blk (.seq [] .leaf .leaf)) .leaf)))))) (.seq [] .leaf .leaf)))
def A_code_unsigned (l : List V) : M V := match l with | [x0] => F_code_unsigned x0 | _ => fail
theorem e_code_unsigned (x0 : V) : funM Tryz.prog (ovr [] noC) fid_code_unsigned h_code_unsigned [x0] = F_code_unsigned x0 := by kernel_rfl
theorem K_code_unsigned : Known Tryz.prog fid_code_unsigned (A_code_unsigned) := known_of (σ := ovr [] noC) (hint := h_code_unsigned) (by kernel_rfl) simAll_nil0 fun l H r H' h => by
  unfold A_code_unsigned at h; split at h
  · rw [e_code_unsigned]; exact h
  · exact (fail_ne h).elim

/-! ### capstan/code.Decode -/
def code_Decode_k0 (G_errors_As : List V → M V) (G_strings_IndexRune : List V → M V) (G_strings_Contains : List V → M V) (vs_3 : List V) : M Out :=
  bnd (lift (bin .add (at_ vs_3 5) (Value.int .i64 1))) fun x47 =>
  ret (.nxt [(at_ vs_3 0), (at_ vs_3 1), (at_ vs_3 2), (at_ vs_3 3), (at_ vs_3 4), x47])
def code_Decode_k1 (G_errors_As : List V → M V) (G_strings_IndexRune : List V → M V) (G_strings_Contains : List V → M V) (vs_2 : List V) : M Out :=
  bnd (
  bnd (
    withH fun h0 =>
    bnd (lift (faddr 1 (at_ vs_2 3))) fun x31 =>
    bnd (ld1 x31) fun x32 =>
    bndH (A_code_reader_take [(at_ vs_2 2), (Value.bool false)]) fun ha x34 h1 =>
    bnd (lift (fld1 1 x34)) fun x35 =>
    bndH (bslc 1 1 (rep 1 [Value.int .i64 0]) [(0, 1, x35)]) fun ha_2 x36 h2 =>
    bndH (appV 1 8 x32 x36) fun ha_3 x37 h3 =>
    bnd (lift (faddr 1 (at_ vs_2 3))) fun x38 =>
    bndH (st1 x38 x37) fun ha_4 u h4 =>
    need (chk (ld1 x31) h1 x32) <|
    need (chk (ld1 x31) h2 x32) <|
    withH fun h0_2 =>
    bnd (lift (faddr 2 (at_ vs_2 3))) fun x39 =>
    bnd (ld1 x39) fun x40 =>
    bndH (A_code_reader_take [(at_ vs_2 2), (Value.bool false)]) fun ha_5 x42 h1_2 =>
    bnd (lift (fld1 1 x42)) fun x43 =>
    bndH (bslc 1 1 (rep 1 [Value.int .i64 0]) [(0, 1, x43)]) fun ha_6 x44 h2_2 =>
    bndH (appV 1 8 x40 x44) fun ha_7 x45 h3_2 =>
    bnd (lift (faddr 2 (at_ vs_2 3))) fun x46 =>
    bndH (st1 x46 x45) fun ha_8 u_2 h4_2 =>
    need (chk (ld1 x39) h1_2 x40) <|
    need (chk (ld1 x39) h2_2 x40) <|
    ret (.nxt [(at_ vs_2 0), (at_ vs_2 1), (at_ vs_2 2), (at_ vs_2 3), (at_ vs_2 4), (at_ vs_2 5)])
    ) fun o => ret (unblk 1 o)
  ) fun o => nx o (code_Decode_k0 G_errors_As G_strings_IndexRune G_strings_Contains)
def code_Decode_l2 (G_errors_As : List V → M V) (G_strings_IndexRune : List V → M V) (G_strings_Contains : List V → M V) (vs : List V) : M Out :=
  bnd (lift (bin .lss (at_ vs 5) (at_ vs 4))) fun x30 =>
  bnd (
  condM x30 (
    ret (.nxt [(at_ vs 0), (at_ vs 1), (at_ vs 2), (at_ vs 3), (at_ vs 4), (at_ vs 5)])
    ) (
    ret (.brk 0 [(at_ vs 0), (at_ vs 1), (at_ vs 2), (at_ vs 3)])
    )
  ) fun o => nx o (code_Decode_k1 G_errors_As G_strings_IndexRune G_strings_Contains)
def code_Decode_k3 (G_errors_As : List V → M V) (G_strings_IndexRune : List V → M V) (G_strings_Contains : List V → M V) (vs_7 : List V) : M Out :=
  bnd (lift (subS (at_ vs_7 4) (some (Value.int .i64 11)) none)) fun x61 =>
  ret (.nxt [(at_ vs_7 0), (at_ vs_7 1), (at_ vs_7 2), (at_ vs_7 3), x61])
def code_Decode_k4 (G_errors_As : List V → M V) (G_strings_IndexRune : List V → M V) (G_strings_Contains : List V → M V) (vs_6 : List V) : M Out :=
  bnd (
  bnd (
    bnd (lift (subS (at_ vs_6 4) (some (Value.int .i64 5)) (some (Value.int .i64 11)))) fun x63 =>
    bnd (A_code_unsigned [x63]) fun x64 =>
    bnd (lift (bin .shl x64 (Value.int .u64 16))) fun x65 =>
    bnd (lift (bin .shr x65 (Value.int .u64 16))) fun x66 =>
    withH fun h0_3 =>
    bnd (lift (faddr 5 (at_ vs_6 3))) fun x67 =>
    bnd (lift (idxS (at_ vs_6 4) (Value.int .i64 0))) fun x70 =>
    bnd (lift (cvi .i64 x70)) fun x71 =>
    bnd (lift (subS (at_ vs_6 4) (some (Value.int .i64 1)) (some (Value.int .i64 3)))) fun x73 =>
    bnd (lift (subS (at_ vs_6 4) (some (Value.int .i64 3)) (some (Value.int .i64 5)))) fun x76 =>
    bnd (ld1 x67) fun x68 =>
    bndH (A_code_unsigned [x73]) fun ha_9 x74 h1_3 =>
    bndH (A_code_unsigned [x76]) fun ha_10 x77 h2_3 =>
    bnd (lift (build [Value.int .i64 0, Value.int .i64 0, Value.int .i64 0, Value.int .i64 0] [(0, 1, x71), (1, 1, x74), (2, 1, x77), (3, 1, x66)])) fun x79 =>
    bndH (bslc 4 1 (rep 1 [Value.int .i64 0, Value.int .i64 0, Value.int .i64 0, Value.int .i64 0]) [(0, 4, x79)]) fun ha_11 x80 h3_3 =>
    bndH (appV 4 32 x68 x80) fun ha_12 x81 h4_3 =>
    bnd (lift (faddr 5 (at_ vs_6 3))) fun x82 =>
    bndH (st1 x82 x81) fun ha_13 u_3 h5 =>
    need (chk (ld1 x67) h1_3 x68) <|
    need (chk (ld1 x67) h2_3 x68) <|
    need (chk (ld1 x67) h3_3 x68) <|
    ret (.nxt [(at_ vs_6 0), (at_ vs_6 1), (at_ vs_6 2), (at_ vs_6 3), (at_ vs_6 4)])
    ) fun o => ret (unblk 3 o)
  ) fun o => nx o (code_Decode_k3 G_errors_As G_strings_IndexRune G_strings_Contains)
def code_Decode_l5 (G_errors_As : List V → M V) (G_strings_IndexRune : List V → M V) (G_strings_Contains : List V → M V) (vs_5 : List V) : M Out :=
  bnd (
  bnd (lift (lenStr (at_ vs_5 4))) fun x58 =>
  bnd (lift (bin .geq x58 (Value.int .i64 11))) fun x59 =>
  condM x59 (
    ret (.nxt [(at_ vs_5 0), (at_ vs_5 1), (at_ vs_5 2), (at_ vs_5 3), (at_ vs_5 4)])
    ) (
    ret (.brk 2 [(at_ vs_5 0), (at_ vs_5 1), (at_ vs_5 2), (at_ vs_5 3)])
    )
  ) fun o => nx o (code_Decode_k4 G_errors_As G_strings_IndexRune G_strings_Contains)
def code_Decode_k6 (G_errors_As : List V → M V) (G_strings_IndexRune : List V → M V) (G_strings_Contains : List V → M V) (vs_9 : List V) : M Out :=
  bnd (ldn 6 (at_ vs_9 1)) fun x102 =>
  bnd (stn 6 (at_ vs_9 0) x102) fun _ =>
  ret (.ret [(at_ vs_9 0), (Value.int .i64 0)])
def code_Decode_k7 (G_errors_As : List V → M V) (G_strings_IndexRune : List V → M V) (G_strings_Contains : List V → M V) (vs_8 : List V) : M Out :=
  bnd (
    bnd (ldn 6 (at_ vs_8 3)) fun x84 =>
    bnd ((A_code_Encode G_strings_IndexRune G_strings_Contains) [x84]) fun x85 =>
    bnd (lift (ext 0 x85)) fun x86 =>
    bnd (lift (ext 1 x85)) fun x87 =>
    bnd (lift (nilck (at_ vs_8 2))) fun x89 =>
    bnd (lift (faddr 1 x89)) fun x90 =>
    bnd (ld1 x90) fun x91 =>
    bnd (gd x91 false (lift (some x87))) fun x93 =>
    bnd (gd x91 false (lift (bin .neq x93 (Value.int .i64 0)))) fun x94 =>
    bnd (lift (pickV x91 (Value.bool true) x94)) fun x95 =>
    bnd (gd x95 false (lift (some x86))) fun x97 =>
    bnd (gd x95 false (lift (some (at_ vs_8 0)))) fun x98 =>
    bnd (gd x95 false (lift (bin .neq x97 x98))) fun x99 =>
    bnd (lift (pickV x95 (Value.bool true) x99)) fun x100 =>
    condM x100 (
      bnd (lift (build [Value.string ⟨#[]⟩, Value.slice none 0 0, Value.slice none 0 0, Value.slice none 0 0, Value.slice none 0 0, Value.slice none 0 0] [])) fun x101 =>
      bnd (stn 6 (at_ vs_8 1) x101) fun _ =>
      ret (.ret [(at_ vs_8 1), (Value.int .i64 130)])
      ) (
      ret (.nxt [(at_ vs_8 1), (at_ vs_8 3)])
      )
    ) fun o => nx o (code_Decode_k6 G_errors_As G_strings_IndexRune G_strings_Contains)
def code_Decode_k8 (G_errors_As : List V → M V) (G_strings_IndexRune : List V → M V) (G_strings_Contains : List V → M V) (vs_4 : List V) : M Out :=
  bnd (A_code_reader_list [(at_ vs_4 2)]) fun x49 =>
  bnd (lift (faddr 3 (at_ vs_4 3))) fun x50 =>
  bnd (st1 x50 x49) fun _ =>
  bnd (A_code_reader_list [(at_ vs_4 2)]) fun x52 =>
  bnd (lift (faddr 4 (at_ vs_4 3))) fun x53 =>
  bnd (st1 x53 x52) fun _ =>
  bnd (
    bnd (A_code_reader_take [(at_ vs_4 2), (Value.bool true)]) fun x55 =>
    bnd (lift (fld1 2 x55)) fun x56 =>
    bnd (
      loopM FUEL (code_Decode_l5 G_errors_As G_strings_IndexRune G_strings_Contains) [(at_ vs_4 0), (at_ vs_4 1), (at_ vs_4 2), (at_ vs_4 3), x56]
      ) fun o => ret (unblk 2 o)
    ) fun o => nx o (code_Decode_k7 G_errors_As G_strings_IndexRune G_strings_Contains)
def F_code_Decode (G_errors_As : List V → M V) (G_strings_IndexRune : List V → M V) (G_strings_Contains : List V → M V) (x0 : V) : M V :=
  bnd (
    bnd (newc [Value.string ⟨#[]⟩, Value.slice none 0 0, Value.slice none 0 0, Value.slice none 0 0, Value.slice none 0 0, Value.slice none 0 0]) fun x2 =>
    bnd ((A_wire_Decode G_errors_As) [x0]) fun x14 =>
    bnd (lift (ext 0 x14)) fun x15 =>
    bnd (lift (ext 1 x14)) fun x16 =>
    bnd (newc [Value.int .i64 0, Value.int .i64 0]) fun x5 =>
    bnd (stn 2 x5 x16) fun _ =>
    bnd (ldn 2 x5) fun x18 =>
    bnd (lift (build [Value.int .i64 0, Value.int .i64 0] [])) fun x19 =>
    bnd (lift (notIf true (eqAgg [.i, .i] x18 x19))) fun x20 =>
    bnd (lift (build [Value.slice none 0 0, Value.bool false] [(0, 1, x15), (1, 1, x20)])) fun x21 =>
    bnd (boxv x21) fun x22 =>
    bnd (A_code_reader_take [x22, (Value.bool true)]) fun x24 =>
    bnd (lift (fld1 2 x24)) fun x25 =>
    bnd (lift (build [Value.string ⟨#[]⟩, Value.slice none 0 0, Value.slice none 0 0, Value.slice none 0 0, Value.slice none 0 0, Value.slice none 0 0] [(0, 1, x25)])) fun x26 =>
    bnd (newc [Value.string ⟨#[]⟩, Value.slice none 0 0, Value.slice none 0 0, Value.slice none 0 0, Value.slice none 0 0, Value.slice none 0 0]) fun x7 =>
    bnd (stn 6 x7 x26) fun _ =>
    bnd (
      bnd (A_code_reader_many [x22]) fun x28 =>
      bnd (
        loopM FUEL (code_Decode_l2 G_errors_As G_strings_IndexRune G_strings_Contains) [x0, x2, x22, x7, x28, (Value.int .i64 0)]
        ) fun o => ret (unblk 0 o)
      ) fun o => nx o (code_Decode_k8 G_errors_As G_strings_IndexRune G_strings_Contains)
    ) fun o => finM o fun vs => bnd (ldn 6 (at_ vs 0)) fun r0 => ret (outV [r0, (at_ vs 1)])
def h_code_Decode : Hint := (.seq [] .leaf (.seq [] .leaf (.seq [] .leaf (.seq [] .leaf (.seq [0, 2, 6, 7] (.seq [] .leaf (.blk (.loop [0, 2, 6, 7, 28, 29] (.seq [] .leaf (.seq [0, 2, 6, 7, 28, 29] (.cond .leaf .leaf) (.seq [0, 2, 6, 7, 28, 29] (.blk (.seq [] (.reg [0, 2, 1, 3, 4, 5, 6, 7, 8] []) (.reg [0, 2, 1, 3, 4, 5, 6, 7, 8] []))) .leaf)))))) (.seq [] .leaf (.seq [] .leaf (.seq [0, 2, 6, 7] (.seq [] .leaf (.blk (.loop [0, 2, 6, 7, 8] (.seq [0, 2, 6, 7, 8] (.seq [] .leaf (.cond .leaf .leaf)) (.seq [0, 2, 6, 7, 8] (.blk (.seq [] .leaf (.reg [0, 2, 3, 4, 5, 6, 8, 9, 11, 1, 7, 10, 12, 13, 14, 15, 16] []))) .leaf))))) (.seq [2, 7] (.seq [] .leaf (.seq [] .leaf (.cond (.seq [] .leaf .leaf) .leaf))) (.seq [] .leaf .leaf))))))))))
def A_code_Decode (G_errors_As : List V → M V) (G_strings_IndexRune : List V → M V) (G_strings_Contains : List V → M V) (l : List V) : M V := match l with | [x0] => F_code_Decode G_errors_As G_strings_IndexRune G_strings_Contains x0 | _ => fail
theorem e_code_Decode (G_errors_As : List V → M V) (G_strings_IndexRune : List V → M V) (G_strings_Contains : List V → M V) (x0 : V) : funM Tryz.prog (ovr [(fid_wire_Decode, A_wire_Decode G_errors_As), (fid_code_reader_take, A_code_reader_take), (fid_code_reader_many, A_code_reader_many), (fid_code_reader_list, A_code_reader_list), (fid_code_unsigned, A_code_unsigned), (fid_code_Encode, A_code_Encode G_strings_IndexRune G_strings_Contains)] noC) fid_code_Decode h_code_Decode [x0] = F_code_Decode G_errors_As G_strings_IndexRune G_strings_Contains x0 := by kernel_rfl
theorem K_code_Decode {G_errors_As : List V → M V} {G_strings_IndexRune : List V → M V} {G_strings_Contains : List V → M V} (k_errors_As : Known Tryz.prog fid_errors_As G_errors_As) (k_strings_IndexRune : Known Tryz.prog fid_strings_IndexRune G_strings_IndexRune) (k_strings_Contains : Known Tryz.prog fid_strings_Contains G_strings_Contains) : Known Tryz.prog fid_code_Decode (A_code_Decode G_errors_As G_strings_IndexRune G_strings_Contains) := known_of (σ := ovr [(fid_wire_Decode, A_wire_Decode G_errors_As), (fid_code_reader_take, A_code_reader_take), (fid_code_reader_many, A_code_reader_many), (fid_code_reader_list, A_code_reader_list), (fid_code_unsigned, A_code_unsigned), (fid_code_Encode, A_code_Encode G_strings_IndexRune G_strings_Contains)] noC) (hint := h_code_Decode) (by kernel_rfl) (simAll_ovr (K_wire_Decode k_errors_As) (simAll_ovr K_code_reader_take (simAll_ovr K_code_reader_many (simAll_ovr K_code_reader_list (simAll_ovr K_code_unsigned (simAll_ovr (K_code_Encode k_strings_IndexRune k_strings_Contains) simAll_nil0)))))) fun l H r H' h => by
  unfold A_code_Decode at h; split at h
  · rw [e_code_Decode]; exact h
  · exact (fail_ne h).elim

/-! ### capstan/capstanbook.SameInts -/
def book_SameInts_k0 (vs_4 : List V) : M Out :=
  bnd (lift (bin .add (at_ vs_4 2) (Value.int .i64 1))) fun x16 =>
  ret (.nxt [(at_ vs_4 0), (at_ vs_4 1), x16])
def book_SameInts_k1 (vs_3 : List V) : M Out :=
  bnd (
  bnd (
    bnd (lift (iaddrS 1 (at_ vs_3 0) (at_ vs_3 2))) fun x19 =>
    bnd (lift (iaddrS 1 (at_ vs_3 1) (at_ vs_3 2))) fun x23 =>
    bnd (ld1 x19) fun x20 =>
    bnd (ld1 x23) fun x24 =>
    bnd (lift (bin .neq x20 x24)) fun x25 =>
    condM x25 (
      ret (.ret [(Value.bool false)])
      ) (
      ret (.nxt [(at_ vs_3 0), (at_ vs_3 1), (at_ vs_3 2)])
      )
    ) fun o => ret (unblk 1 o)
  ) fun o => nx o book_SameInts_k0
def book_SameInts_l2 (vs_2 : List V) : M Out :=
  bnd (
  bnd (lift (lenSlc (at_ vs_2 0))) fun x13 =>
  bnd (lift (bin .lss (at_ vs_2 2) x13)) fun x14 =>
  condM x14 (
    ret (.nxt [(at_ vs_2 0), (at_ vs_2 1), (at_ vs_2 2)])
    ) (
    ret (.brk 0 [])
    )
  ) fun o => nx o book_SameInts_k1
def book_SameInts_k3 (vs_5 : List V) : M Out :=
  ret (.ret [(Value.bool true)])
def book_SameInts_k4 (vs : List V) : M Out :=
  bnd (
    bnd (
      loopM FUEL book_SameInts_l2 [(at_ vs 0), (at_ vs 1), (Value.int .i64 0)]
      ) fun o => ret (unblk 0 o)
    ) fun o => nx o book_SameInts_k3
def F_book_SameInts (x0 x1 : V) : M V :=
  bnd (
    bnd (
      bnd (lift (lenSlc x0)) fun x7 =>
      bnd (lift (lenSlc x1)) fun x9 =>
      bnd (lift (bin .neq x7 x9)) fun x10 =>
      condM x10 (
        ret (.ret [(Value.bool false)])
        ) (
        ret (.nxt [x0, x1])
        )
      ) fun o => nx o book_SameInts_k4
    ) fun o => finM o fun vs => ret (outV [(at_ vs 0)])
def h_book_SameInts : Hint := (.seq [] .leaf (.seq [0, 1] (.seq [] .leaf (.cond (.seq [] .leaf .leaf) .leaf)) (.seq [] (.seq [] .leaf (.blk (.loop [0, 1, 5] (.seq [0, 1, 5] (.seq [] .leaf (.cond .leaf .leaf)) (.seq [0, 1, 5] (.blk (.seq [] (.reg [0, 1, 2, 4, 5, 6, 3, 7, 8] []) (.cond (.seq [] .leaf .leaf) .leaf))) .leaf))))) (.seq [] .leaf .leaf))))
def A_book_SameInts (l : List V) : M V := match l with | [x0, x1] => F_book_SameInts x0 x1 | _ => fail
theorem e_book_SameInts (x0 x1 : V) : funM Tryz.prog (ovr [] noC) fid_book_SameInts h_book_SameInts [x0, x1] = F_book_SameInts x0 x1 := by kernel_rfl
theorem K_book_SameInts : Known Tryz.prog fid_book_SameInts (A_book_SameInts) := known_of (σ := ovr [] noC) (hint := h_book_SameInts) (by kernel_rfl) simAll_nil0 fun l H r H' h => by
  unfold A_book_SameInts at h; split at h
  · rw [e_book_SameInts]; exact h
  · exact (fail_ne h).elim

/-! ### capstan/capstanbook.SameNums -/
def book_SameNums_k0 (vs_4 : List V) : M Out :=
  bnd (lift (bin .add (at_ vs_4 2) (Value.int .i64 1))) fun x16 =>
  ret (.nxt [(at_ vs_4 0), (at_ vs_4 1), x16])
def book_SameNums_k1 (vs_3 : List V) : M Out :=
  bnd (
  bnd (
    bnd (lift (iaddrS 1 (at_ vs_3 0) (at_ vs_3 2))) fun x19 =>
    bnd (lift (iaddrS 1 (at_ vs_3 1) (at_ vs_3 2))) fun x23 =>
    bnd (ld1 x19) fun x20 =>
    bnd (ld1 x23) fun x24 =>
    bnd (lift (bin .neq x20 x24)) fun x25 =>
    condM x25 (
      ret (.ret [(Value.bool false)])
      ) (
      ret (.nxt [(at_ vs_3 0), (at_ vs_3 1), (at_ vs_3 2)])
      )
    ) fun o => ret (unblk 1 o)
  ) fun o => nx o book_SameNums_k0
def book_SameNums_l2 (vs_2 : List V) : M Out :=
  bnd (
  bnd (lift (lenSlc (at_ vs_2 0))) fun x13 =>
  bnd (lift (bin .lss (at_ vs_2 2) x13)) fun x14 =>
  condM x14 (
    ret (.nxt [(at_ vs_2 0), (at_ vs_2 1), (at_ vs_2 2)])
    ) (
    ret (.brk 0 [])
    )
  ) fun o => nx o book_SameNums_k1
def book_SameNums_k3 (vs_5 : List V) : M Out :=
  ret (.ret [(Value.bool true)])
def book_SameNums_k4 (vs : List V) : M Out :=
  bnd (
    bnd (
      loopM FUEL book_SameNums_l2 [(at_ vs 0), (at_ vs 1), (Value.int .i64 0)]
      ) fun o => ret (unblk 0 o)
    ) fun o => nx o book_SameNums_k3
def F_book_SameNums (x0 x1 : V) : M V :=
  bnd (
    bnd (
      bnd (lift (lenSlc x0)) fun x7 =>
      bnd (lift (lenSlc x1)) fun x9 =>
      bnd (lift (bin .neq x7 x9)) fun x10 =>
      condM x10 (
        ret (.ret [(Value.bool false)])
        ) (
        ret (.nxt [x0, x1])
        )
      ) fun o => nx o book_SameNums_k4
    ) fun o => finM o fun vs => ret (outV [(at_ vs 0)])
def h_book_SameNums : Hint := (.seq [] .leaf (.seq [0, 1] (.seq [] .leaf (.cond (.seq [] .leaf .leaf) .leaf)) (.seq [] (.seq [] .leaf (.blk (.loop [0, 1, 5] (.seq [0, 1, 5] (.seq [] .leaf (.cond .leaf .leaf)) (.seq [0, 1, 5] (.blk (.seq [] (.reg [0, 1, 2, 4, 5, 6, 3, 7, 8] []) (.cond (.seq [] .leaf .leaf) .leaf))) .leaf))))) (.seq [] .leaf .leaf))))
def A_book_SameNums (l : List V) : M V := match l with | [x0, x1] => F_book_SameNums x0 x1 | _ => fail
theorem e_book_SameNums (x0 x1 : V) : funM Tryz.prog (ovr [] noC) fid_book_SameNums h_book_SameNums [x0, x1] = F_book_SameNums x0 x1 := by kernel_rfl
theorem K_book_SameNums : Known Tryz.prog fid_book_SameNums (A_book_SameNums) := known_of (σ := ovr [] noC) (hint := h_book_SameNums) (by kernel_rfl) simAll_nil0 fun l H r H' h => by
  unfold A_book_SameNums at h; split at h
  · rw [e_book_SameNums]; exact h
  · exact (fail_ne h).elim

/-! ### capstan/capstanbook.SameImage -/
def book_SameImage_k0 (vs_4 : List V) : M Out :=
  bnd (lift (bin .add (at_ vs_4 2) (Value.int .i64 1))) fun x58 =>
  ret (.nxt [(at_ vs_4 0), (at_ vs_4 1), x58])
def book_SameImage_k1 (vs_3 : List V) : M Out :=
  bnd (
  bnd (
    bnd (lift (faddr 5 (at_ vs_3 0))) fun x59 =>
    bnd (lift (faddr 5 (at_ vs_3 1))) fun x64 =>
    bnd (ld1 x59) fun x60 =>
    bnd (lift (iaddrS 4 x60 (at_ vs_3 2))) fun x62 =>
    bnd (ldn 4 x62) fun x63 =>
    bnd (ld1 x64) fun x65 =>
    bnd (lift (iaddrS 4 x65 (at_ vs_3 2))) fun x67 =>
    bnd (ldn 4 x67) fun x68 =>
    bnd (lift (notIf true (eqAgg [.i, .i, .i, .i] x63 x68))) fun x69 =>
    condM x69 (
      ret (.ret [(Value.bool false)])
      ) (
      ret (.nxt [(at_ vs_3 0), (at_ vs_3 1), (at_ vs_3 2)])
      )
    ) fun o => ret (unblk 1 o)
  ) fun o => nx o book_SameImage_k0
def book_SameImage_l2 (vs_2 : List V) : M Out :=
  bnd (
  bnd (lift (faddr 5 (at_ vs_2 0))) fun x53 =>
  bnd (ld1 x53) fun x54 =>
  bnd (lift (lenSlc x54)) fun x55 =>
  bnd (lift (bin .lss (at_ vs_2 2) x55)) fun x56 =>
  condM x56 (
    ret (.nxt [(at_ vs_2 0), (at_ vs_2 1), (at_ vs_2 2)])
    ) (
    ret (.brk 0 [])
    )
  ) fun o => nx o book_SameImage_k1
def book_SameImage_k3 (vs_5 : List V) : M Out :=
  ret (.ret [(Value.bool true)])
def book_SameImage_k4 (vs : List V) : M Out :=
  bnd (
    bnd (
      loopM FUEL book_SameImage_l2 [(at_ vs 0), (at_ vs 1), (Value.int .i64 0)]
      ) fun o => ret (unblk 0 o)
    ) fun o => nx o book_SameImage_k3
def F_book_SameImage (x0 x1 : V) : M V :=
  bnd (
    bnd (boxv x0) fun x2 =>
    bnd (boxv x1) fun x3 =>
    bnd (
      bnd (lift (faddr 0 x2)) fun x6 =>
      bnd (ld1 x6) fun x7 =>
      bnd (lift (faddr 0 x3)) fun x8 =>
      bnd (ld1 x8) fun x9 =>
      bnd (lift (bin .neq x7 x9)) fun x10 =>
      bnd (gd x10 false (lift (faddr 1 x2))) fun x12 =>
      bnd (gd x10 false (ld1 x12)) fun x13 =>
      bnd (gd x10 false (lift (faddr 1 x3))) fun x14 =>
      bnd (gd x10 false (ld1 x14)) fun x15 =>
      bnd (gd x10 false (A_book_SameInts [x13, x15])) fun x16 =>
      bnd (gd x10 false (lift (un .not x16))) fun x17 =>
      bnd (lift (pickV x10 (Value.bool true) x17)) fun x18 =>
      bnd (gd x18 false (lift (faddr 2 x2))) fun x20 =>
      bnd (gd x18 false (ld1 x20)) fun x21 =>
      bnd (gd x18 false (lift (faddr 2 x3))) fun x22 =>
      bnd (gd x18 false (ld1 x22)) fun x23 =>
      bnd (gd x18 false (A_book_SameNums [x21, x23])) fun x24 =>
      bnd (gd x18 false (lift (un .not x24))) fun x25 =>
      bnd (lift (pickV x18 (Value.bool true) x25)) fun x26 =>
      bnd (gd x26 false (lift (faddr 3 x2))) fun x28 =>
      bnd (gd x26 false (ld1 x28)) fun x29 =>
      bnd (gd x26 false (lift (faddr 3 x3))) fun x30 =>
      bnd (gd x26 false (ld1 x30)) fun x31 =>
      bnd (gd x26 false (A_book_SameInts [x29, x31])) fun x32 =>
      bnd (gd x26 false (lift (un .not x32))) fun x33 =>
      bnd (lift (pickV x26 (Value.bool true) x33)) fun x34 =>
      bnd (gd x34 false (lift (faddr 4 x2))) fun x36 =>
      bnd (gd x34 false (ld1 x36)) fun x37 =>
      bnd (gd x34 false (lift (faddr 4 x3))) fun x38 =>
      bnd (gd x34 false (ld1 x38)) fun x39 =>
      bnd (gd x34 false (A_book_SameInts [x37, x39])) fun x40 =>
      bnd (gd x34 false (lift (un .not x40))) fun x41 =>
      bnd (lift (pickV x34 (Value.bool true) x41)) fun x42 =>
      bnd (gd x42 false (lift (faddr 5 x2))) fun x44 =>
      bnd (gd x42 false (ld1 x44)) fun x45 =>
      bnd (gd x42 false (lift (lenSlc x45))) fun x46 =>
      bnd (gd x42 false (lift (faddr 5 x3))) fun x47 =>
      bnd (gd x42 false (ld1 x47)) fun x48 =>
      bnd (gd x42 false (lift (lenSlc x48))) fun x49 =>
      bnd (gd x42 false (lift (bin .neq x46 x49))) fun x50 =>
      bnd (lift (pickV x42 (Value.bool true) x50)) fun x51 =>
      condM x51 (
        ret (.ret [(Value.bool false)])
        ) (
        ret (.nxt [x2, x3])
        )
      ) fun o => nx o book_SameImage_k4
    ) fun o => finM o fun vs => ret (outV [(at_ vs 0)])
def h_book_SameImage : Hint := (.seq [] .leaf (.seq [2, 3] (.seq [] .leaf (.cond (.seq [] .leaf .leaf) .leaf)) (.seq [] (.seq [] .leaf (.blk (.loop [2, 3, 5] (.seq [2, 3, 5] (.seq [] .leaf (.cond .leaf .leaf)) (.seq [2, 3, 5] (.blk (.seq [] (.reg [0, 2, 5, 7, 1, 3, 4, 6, 8, 9, 10] []) (.cond (.seq [] .leaf .leaf) .leaf))) .leaf))))) (.seq [] .leaf .leaf))))
def A_book_SameImage (l : List V) : M V := match l with | [x0, x1] => F_book_SameImage x0 x1 | _ => fail
def s_book_SameImage : Calls' := ovr [(fid_book_SameInts, A_book_SameInts), (fid_book_SameNums, A_book_SameNums)] noC
theorem e_book_SameImage (x0 x1 : V) : funM Tryz.prog (s_book_SameImage) fid_book_SameImage h_book_SameImage [x0, x1] = F_book_SameImage x0 x1 := by kernel_rfl
theorem K_book_SameImage : Known Tryz.prog fid_book_SameImage (A_book_SameImage) := known_of (σ := s_book_SameImage) (hint := h_book_SameImage) (by kernel_rfl) (simAll_ovr K_book_SameInts (simAll_ovr K_book_SameNums simAll_nil0)) fun l H r H' h => by
  unfold A_book_SameImage at h; split at h
  · rw [e_book_SameImage]; exact h
  · exact (fail_ne h).elim

end Go.AM.Cap
