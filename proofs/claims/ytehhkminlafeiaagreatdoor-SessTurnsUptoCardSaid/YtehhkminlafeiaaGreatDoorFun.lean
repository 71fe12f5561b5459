import Derived.Test.YtehhkminlafeiaaGreatDoorAmWp
import Derived.Test.YtehhkminlafeiaaGreatDoorProg
set_option linter.all false
/- Printed by amprint2.py: functions of YtehhkminlafeiaaGreatDoor on the abstract machine. -/
set_option linter.unusedVariables false
set_option maxRecDepth 100000
namespace Go.AM.Cap
open Go.AM Go.Proofs

def gid_sha_first : Nat := 0
def gid_sha_rounds : Nat := 2
def gid_unicode_utf8_first : Nat := 3
def gid_unicode_utf8_acceptRanges : Nat := 4
def fid_law25_SessTurns : Nat := 4
def fid_law25_desk : Nat := 9
def fid_law25_works : Nat := 10
def fid_law25_among : Nat := 11
def fid_sess_Message : Nat := 12
def fid_sess_Desk_Open : Nat := 13
def fid_mac_Tag : Nat := 15
def fid_sess_Prove : Nat := 20
def fid_sess_New : Nat := 25
def fid_sess_Desk_Hello : Nat := 30
def fid_sess_Desk_Login : Nat := 31
def fid_sess_sealed : Nat := 32
def fid_wire_Decode : Nat := 33
def fid_sess_numbers : Nat := 34
def fid_sess_shelf_sess_session_get : Nat := 35
def fid_mac_Open : Nat := 36
def fid_sess_shelf_sess_session_drop : Nat := 37
def fid_sha_Sum : Nat := 38
def fid_mac_Tag_1 : Nat := 39
def fid_sess_shelf_sess_challenge_keep : Nat := 40
def fid_sess_shelf_sess_session_keep : Nat := 42
def fid_sess_eight : Nat := 45
def fid_mac_Make : Nat := 46
def fid_roles_Check : Nat := 53
def fid_slices_Clone_S_api_User_api_User : Nat := 54
def fid_roles_Find : Nat := 65
def fid_sess_shelf_sess_challenge_put : Nat := 66
def fid_sess_shelf_sess_challenge_get : Nat := 67
def fid_sess_shelf_sess_challenge_drop : Nat := 68
def fid_mac_Equal : Nat := 69
def fid_sess_shelf_sess_session_put : Nat := 70
def fid_wire_Encode : Nat := 71
def fid_slices_Concat_S_api_Item_api_Item : Nat := 72
def fid_mac_Seal : Nat := 73
def fid_wire_list : Nat := 74
def fid_wire_fault : Nat := 75
def fid_slices_Index_S_int_int : Nat := 76
def fid_mac_Check : Nat := 77
def fid_sess_shelf_sess_session_drop_1 : Nat := 78
def fid_sha_New : Nat := 79
def fid_sha_Hash_Write : Nat := 80
def fid_sha_Hash_Sum : Nat := 81
def fid_roles_formed : Nat := 88
def fid_roles_wrong : Nat := 89
def fid_slices_IndexFunc_S_api_User_api_User : Nat := 95
def fid_roles_Find_1 : Nat := 96
def fid_sess_shelf_sess_challenge_drop_1 : Nat := 97
def fid_slices_Grow_S_api_Item_api_Item : Nat := 98
def fid_wire_bad : Nat := 99
def fid_wire_unsigned : Nat := 100
def fid_wire_item : Nat := 101
def fid_errors_As : Nat := 102
def fid_sha_state_take : Nat := 103
def fid_sha_Hash_Fork : Nat := 104
def fid_strings_Trim : Nat := 109
def fid_slices_Contains_S_int_int : Nat := 110
def fid_sha_rotr : Nat := 116
def fid_strings_trimLeftByte : Nat := 121
def fid_strings_trimRightByte : Nat := 122
def fid_strings_makeASCIISet : Nat := 123
def fid_strings_trimLeftASCII : Nat := 124
def fid_strings_trimRightASCII : Nat := 125
def fid_strings_trimLeftUnicode : Nat := 126
def fid_strings_trimRightUnicode : Nat := 127
def fid_strings_asciiSet_contains : Nat := 131
def fid_unicode_utf8_DecodeRuneInString : Nat := 132
def fid_strings_ContainsRune : Nat := 133
def fid_unicode_utf8_DecodeLastRuneInString : Nat := 134
def fid_unicode_utf8_decodeRuneInStringSlow : Nat := 135
def fid_strings_IndexRune : Nat := 136
def fid_unicode_utf8_RuneStart : Nat := 137
def tid_string : Nat := 9
def tid_wire_broken : Nat := 161
def tid_p_wire_broken : Nat := 163

/-! ### strings.trimRightByte -/
def strings_trimRightByte_k0 (vs_2 : List V) : M Out :=
  bnd (
  bnd (lift (lenStr (at_ vs_2 0))) fun x19 =>
  bnd (lift (bin .sub x19 (Value.int .i64 1))) fun x20 =>
  bnd (lift (subS (at_ vs_2 0) none (some x20))) fun x21 =>
  ret (.nxt [x21, (at_ vs_2 1)])
  ) fun o => ret (unblk 1 o)
def strings_trimRightByte_l1 (vs : List V) : M Out :=
  bnd (
  bnd (lift (lenStr (at_ vs 0))) fun x6 =>
  bnd (lift (bin .gtr x6 (Value.int .i64 0))) fun x7 =>
  bnd (gd x7 true (lift (some (at_ vs 0)))) fun x9 =>
  bnd (gd x7 true (lift (some (at_ vs 0)))) fun x10 =>
  bnd (gd x7 true (lift (lenStr x10))) fun x11 =>
  bnd (gd x7 true (lift (bin .sub x11 (Value.int .i64 1)))) fun x12 =>
  bnd (gd x7 true (lift (idxS x9 x12))) fun x13 =>
  bnd (gd x7 true (lift (some (at_ vs 1)))) fun x14 =>
  bnd (gd x7 true (lift (bin .eql x13 x14))) fun x15 =>
  bnd (lift (pickV x7 x15 (Value.bool false))) fun x16 =>
  condM x16 (
    ret (.nxt [(at_ vs 0), (at_ vs 1)])
    ) (
    ret (.brk 0 [(at_ vs 0)])
    )
  ) fun o => nx o strings_trimRightByte_k0
def strings_trimRightByte_k2 (vs_3 : List V) : M Out :=
  ret (.ret [(at_ vs_3 0)])
def F_strings_trimRightByte (x0 x1 : V) : M V :=
  bnd (
    bnd (
      bnd (
        loopM FUEL strings_trimRightByte_l1 [x0, x1]
        ) fun o => ret (unblk 0 o)
      ) fun o => nx o strings_trimRightByte_k2
    ) fun o => finM o fun vs => ret (outV [(at_ vs 0)])
def h_strings_trimRightByte : Hint := (.seq [] .leaf (.seq [0] (.blk (.loop [0, 1] (.seq [0, 1] (.seq [] .leaf (.cond .leaf .leaf)) (.blk .leaf)))) (.seq [] .leaf .leaf)))
def A_strings_trimRightByte (l : List V) : M V := match l with | [x0, x1] => F_strings_trimRightByte x0 x1 | _ => fail
theorem e_strings_trimRightByte (x0 x1 : V) : funM Tryz.prog (ovr [] noC) fid_strings_trimRightByte h_strings_trimRightByte [x0, x1] = F_strings_trimRightByte x0 x1 := by kernel_rfl
theorem K_strings_trimRightByte : Known Tryz.prog fid_strings_trimRightByte (A_strings_trimRightByte) := known_of (σ := ovr [] noC) (hint := h_strings_trimRightByte) (by kernel_rfl) simAll_nil0 fun l H r H' h => by
  unfold A_strings_trimRightByte at h; split at h
  · rw [e_strings_trimRightByte]; exact h
  · exact (fail_ne h).elim

/-! ### strings.trimLeftByte -/
def strings_trimLeftByte_k0 (vs_2 : List V) : M Out :=
  bnd (
  bnd (lift (subS (at_ vs_2 0) (some (Value.int .i64 1)) none)) fun x15 =>
  ret (.nxt [x15, (at_ vs_2 1)])
  ) fun o => ret (unblk 1 o)
def strings_trimLeftByte_l1 (vs : List V) : M Out :=
  bnd (
  bnd (lift (lenStr (at_ vs 0))) fun x6 =>
  bnd (lift (bin .gtr x6 (Value.int .i64 0))) fun x7 =>
  bnd (gd x7 true (lift (some (at_ vs 0)))) fun x9 =>
  bnd (gd x7 true (lift (idxS x9 (Value.int .i64 0)))) fun x10 =>
  bnd (gd x7 true (lift (some (at_ vs 1)))) fun x11 =>
  bnd (gd x7 true (lift (bin .eql x10 x11))) fun x12 =>
  bnd (lift (pickV x7 x12 (Value.bool false))) fun x13 =>
  condM x13 (
    ret (.nxt [(at_ vs 0), (at_ vs 1)])
    ) (
    ret (.brk 0 [(at_ vs 0)])
    )
  ) fun o => nx o strings_trimLeftByte_k0
def strings_trimLeftByte_k2 (vs_3 : List V) : M Out :=
  ret (.ret [(at_ vs_3 0)])
def F_strings_trimLeftByte (x0 x1 : V) : M V :=
  bnd (
    bnd (
      bnd (
        loopM FUEL strings_trimLeftByte_l1 [x0, x1]
        ) fun o => ret (unblk 0 o)
      ) fun o => nx o strings_trimLeftByte_k2
    ) fun o => finM o fun vs => ret (outV [(at_ vs 0)])
def h_strings_trimLeftByte : Hint := (.seq [] .leaf (.seq [0] (.blk (.loop [0, 1] (.seq [0, 1] (.seq [] .leaf (.cond .leaf .leaf)) (.blk .leaf)))) (.seq [] .leaf .leaf)))
def A_strings_trimLeftByte (l : List V) : M V := match l with | [x0, x1] => F_strings_trimLeftByte x0 x1 | _ => fail
theorem e_strings_trimLeftByte (x0 x1 : V) : funM Tryz.prog (ovr [] noC) fid_strings_trimLeftByte h_strings_trimLeftByte [x0, x1] = F_strings_trimLeftByte x0 x1 := by kernel_rfl
theorem K_strings_trimLeftByte : Known Tryz.prog fid_strings_trimLeftByte (A_strings_trimLeftByte) := known_of (σ := ovr [] noC) (hint := h_strings_trimLeftByte) (by kernel_rfl) simAll_nil0 fun l H r H' h => by
  unfold A_strings_trimLeftByte at h; split at h
  · rw [e_strings_trimLeftByte]; exact h
  · exact (fail_ne h).elim

/-! ### strings.makeASCIISet -/
def strings_makeASCIISet_k0 (vs_3 : List V) : M Out :=
    bnd (lift (iaddrA 256 1 (at_ vs_3 1) (at_ vs_3 3))) fun x19 =>
    bnd (st1 x19 (Value.bool true)) fun _ =>
    ret (.nxt [(at_ vs_3 0), (at_ vs_3 1), (at_ vs_3 2)])
def strings_makeASCIISet_k1 (vs_4 : List V) : M Out :=
  bnd (lift (bin .add (at_ vs_4 2) (Value.int .i64 1))) fun x11 =>
  ret (.nxt [(at_ vs_4 0), (at_ vs_4 1), x11])
def strings_makeASCIISet_k2 (vs_2 : List V) : M Out :=
  bnd (
  bnd (
    bnd (lift (idxS (at_ vs_2 0) (at_ vs_2 2))) fun x14 =>
    bnd (
      bnd (lift (bin .geq x14 (Value.int .u8 128))) fun x16 =>
      condM x16 (
        bnd (ldn 256 (at_ vs_2 1)) fun x17 =>
        bnd (stn 256 (at_ vs_2 1) x17) fun _ =>
        ret (.ret [(at_ vs_2 1), (Value.bool false)])
        ) (
        ret (.nxt [(at_ vs_2 0), (at_ vs_2 1), (at_ vs_2 2), x14])
        )
      ) fun o => nx o strings_makeASCIISet_k0
    ) fun o => ret (unblk 1 o)
  ) fun o => nx o strings_makeASCIISet_k1
def strings_makeASCIISet_l3 (vs : List V) : M Out :=
  bnd (
  bnd (lift (lenStr (at_ vs 0))) fun x8 =>
  bnd (lift (bin .lss (at_ vs 2) x8)) fun x9 =>
  condM x9 (
    ret (.nxt [(at_ vs 0), (at_ vs 1), (at_ vs 2)])
    ) (
    ret (.brk 0 [(at_ vs 1)])
    )
  ) fun o => nx o strings_makeASCIISet_k2
def strings_makeASCIISet_k4 (vs_5 : List V) : M Out :=
  bnd (ldn 256 (at_ vs_5 0)) fun x20 =>
  bnd (stn 256 (at_ vs_5 0) x20) fun _ =>
  ret (.ret [(at_ vs_5 0), (Value.bool true)])
def F_strings_makeASCIISet (x0 : V) : M V :=
  bnd (
    bnd (newc (List.replicate 256 (Value.bool false))) fun x2 =>
    bnd (
      bnd (
        loopM FUEL strings_makeASCIISet_l3 [x0, x2, (Value.int .i64 0)]
        ) fun o => ret (unblk 0 o)
      ) fun o => nx o strings_makeASCIISet_k4
    ) fun o => finM o fun vs => bnd (ldn 256 (at_ vs 0)) fun r0 => ret (outV [r0, (at_ vs 1)])
def h_strings_makeASCIISet : Hint := (.seq [] .leaf (.seq [2] (.seq [] .leaf (.blk (.loop [0, 2, 4] (.seq [0, 2, 4] (.seq [] .leaf (.cond .leaf .leaf)) (.seq [0, 2, 4] (.blk (.seq [] .leaf (.seq [0, 2, 4, 5] (.seq [] .leaf (.cond (.seq [] .leaf .leaf) .leaf)) .leaf))) .leaf))))) (.seq [] .leaf .leaf)))
def A_strings_makeASCIISet (l : List V) : M V := match l with | [x0] => F_strings_makeASCIISet x0 | _ => fail
theorem e_strings_makeASCIISet (x0 : V) : funM Tryz.prog (ovr [] noC) fid_strings_makeASCIISet h_strings_makeASCIISet [x0] = F_strings_makeASCIISet x0 := by kernel_rfl
theorem K_strings_makeASCIISet : Known Tryz.prog fid_strings_makeASCIISet (A_strings_makeASCIISet) := known_of (σ := ovr [] noC) (hint := h_strings_makeASCIISet) (by kernel_rfl) simAll_nil0 fun l H r H' h => by
  unfold A_strings_makeASCIISet at h; split at h
  · rw [e_strings_makeASCIISet]; exact h
  · exact (fail_ne h).elim

/-! ### (*strings.asciiSet).contains -/
def F_strings_asciiSet_contains (x0 x1 : V) : M V :=
  bnd (
    bnd (lift (nilck x0)) fun x7 =>
    bnd (lift (iaddrA 256 1 x7 x1)) fun x8 =>
    bnd (ld1 x8) fun x9 =>
    ret (.ret [x9])
    ) fun o => finM o fun vs => ret (outV [(at_ vs 0)])
def h_strings_asciiSet_contains : Hint := (.seq [] .leaf (.seq [] .leaf .leaf))
def A_strings_asciiSet_contains (l : List V) : M V := match l with | [x0, x1] => F_strings_asciiSet_contains x0 x1 | _ => fail
theorem e_strings_asciiSet_contains (x0 x1 : V) : funM Tryz.prog (ovr [] noC) fid_strings_asciiSet_contains h_strings_asciiSet_contains [x0, x1] = F_strings_asciiSet_contains x0 x1 := by kernel_rfl
theorem K_strings_asciiSet_contains : Known Tryz.prog fid_strings_asciiSet_contains (A_strings_asciiSet_contains) := known_of (σ := ovr [] noC) (hint := h_strings_asciiSet_contains) (by kernel_rfl) simAll_nil0 fun l H r H' h => by
  unfold A_strings_asciiSet_contains at h; split at h
  · rw [e_strings_asciiSet_contains]; exact h
  · exact (fail_ne h).elim

/-! ### strings.trimRightASCII -/
def strings_trimRightASCII_k0 (vs_3 : List V) : M Out :=
  bnd (lift (lenStr (at_ vs_3 0))) fun x18 =>
  bnd (lift (bin .sub x18 (Value.int .i64 1))) fun x19 =>
  bnd (lift (subS (at_ vs_3 0) none (some x19))) fun x20 =>
  ret (.nxt [x20, (at_ vs_3 1)])
def strings_trimRightASCII_k1 (vs_2 : List V) : M Out :=
  bnd (
  bnd (
    bnd (lift (lenStr (at_ vs_2 0))) fun x11 =>
    bnd (lift (bin .sub x11 (Value.int .i64 1))) fun x12 =>
    bnd (lift (idxS (at_ vs_2 0) x12)) fun x13 =>
    bnd (A_strings_asciiSet_contains [(at_ vs_2 1), x13]) fun x14 =>
    bnd (lift (un .not x14)) fun x15 =>
    condM x15 (
      ret (.brk 0 [(at_ vs_2 0)])
      ) (
      ret (.nxt [(at_ vs_2 0), (at_ vs_2 1)])
      )
    ) fun o => nx o strings_trimRightASCII_k0
  ) fun o => ret (unblk 1 o)
def strings_trimRightASCII_l2 (vs : List V) : M Out :=
  bnd (
  bnd (lift (lenStr (at_ vs 0))) fun x6 =>
  bnd (lift (bin .gtr x6 (Value.int .i64 0))) fun x7 =>
  condM x7 (
    ret (.nxt [(at_ vs 0), (at_ vs 1)])
    ) (
    ret (.brk 0 [(at_ vs 0)])
    )
  ) fun o => nx o strings_trimRightASCII_k1
def strings_trimRightASCII_k3 (vs_4 : List V) : M Out :=
  ret (.ret [(at_ vs_4 0)])
def F_strings_trimRightASCII (x0 x1 : V) : M V :=
  bnd (
    bnd (
      bnd (
        loopM FUEL strings_trimRightASCII_l2 [x0, x1]
        ) fun o => ret (unblk 0 o)
      ) fun o => nx o strings_trimRightASCII_k3
    ) fun o => finM o fun vs => ret (outV [(at_ vs 0)])
def h_strings_trimRightASCII : Hint := (.seq [] .leaf (.seq [0] (.blk (.loop [0, 1] (.seq [0, 1] (.seq [] .leaf (.cond .leaf .leaf)) (.blk (.seq [0, 1] (.seq [] .leaf (.cond .leaf .leaf)) .leaf))))) (.seq [] .leaf .leaf)))
def A_strings_trimRightASCII (l : List V) : M V := match l with | [x0, x1] => F_strings_trimRightASCII x0 x1 | _ => fail
def s_strings_trimRightASCII : Calls' := ovr [(fid_strings_asciiSet_contains, A_strings_asciiSet_contains)] noC
theorem e_strings_trimRightASCII (x0 x1 : V) : funM Tryz.prog (s_strings_trimRightASCII) fid_strings_trimRightASCII h_strings_trimRightASCII [x0, x1] = F_strings_trimRightASCII x0 x1 := by kernel_rfl
theorem K_strings_trimRightASCII : Known Tryz.prog fid_strings_trimRightASCII (A_strings_trimRightASCII) := known_of (σ := s_strings_trimRightASCII) (hint := h_strings_trimRightASCII) (by kernel_rfl) (simAll_ovr K_strings_asciiSet_contains simAll_nil0) fun l H r H' h => by
  unfold A_strings_trimRightASCII at h; split at h
  · rw [e_strings_trimRightASCII]; exact h
  · exact (fail_ne h).elim

/-! ### strings.trimLeftASCII -/
def strings_trimLeftASCII_k0 (vs_3 : List V) : M Out :=
  bnd (lift (subS (at_ vs_3 0) (some (Value.int .i64 1)) none)) fun x14 =>
  ret (.nxt [x14, (at_ vs_3 1)])
def strings_trimLeftASCII_k1 (vs_2 : List V) : M Out :=
  bnd (
  bnd (
    bnd (lift (idxS (at_ vs_2 0) (Value.int .i64 0))) fun x10 =>
    bnd (A_strings_asciiSet_contains [(at_ vs_2 1), x10]) fun x11 =>
    bnd (lift (un .not x11)) fun x12 =>
    condM x12 (
      ret (.brk 0 [(at_ vs_2 0)])
      ) (
      ret (.nxt [(at_ vs_2 0), (at_ vs_2 1)])
      )
    ) fun o => nx o strings_trimLeftASCII_k0
  ) fun o => ret (unblk 1 o)
def strings_trimLeftASCII_l2 (vs : List V) : M Out :=
  bnd (
  bnd (lift (lenStr (at_ vs 0))) fun x6 =>
  bnd (lift (bin .gtr x6 (Value.int .i64 0))) fun x7 =>
  condM x7 (
    ret (.nxt [(at_ vs 0), (at_ vs 1)])
    ) (
    ret (.brk 0 [(at_ vs 0)])
    )
  ) fun o => nx o strings_trimLeftASCII_k1
def strings_trimLeftASCII_k3 (vs_4 : List V) : M Out :=
  ret (.ret [(at_ vs_4 0)])
def F_strings_trimLeftASCII (x0 x1 : V) : M V :=
  bnd (
    bnd (
      bnd (
        loopM FUEL strings_trimLeftASCII_l2 [x0, x1]
        ) fun o => ret (unblk 0 o)
      ) fun o => nx o strings_trimLeftASCII_k3
    ) fun o => finM o fun vs => ret (outV [(at_ vs 0)])
def h_strings_trimLeftASCII : Hint := (.seq [] .leaf (.seq [0] (.blk (.loop [0, 1] (.seq [0, 1] (.seq [] .leaf (.cond .leaf .leaf)) (.blk (.seq [0, 1] (.seq [] .leaf (.cond .leaf .leaf)) .leaf))))) (.seq [] .leaf .leaf)))
def A_strings_trimLeftASCII (l : List V) : M V := match l with | [x0, x1] => F_strings_trimLeftASCII x0 x1 | _ => fail
def s_strings_trimLeftASCII : Calls' := ovr [(fid_strings_asciiSet_contains, A_strings_asciiSet_contains)] noC
theorem e_strings_trimLeftASCII (x0 x1 : V) : funM Tryz.prog (s_strings_trimLeftASCII) fid_strings_trimLeftASCII h_strings_trimLeftASCII [x0, x1] = F_strings_trimLeftASCII x0 x1 := by kernel_rfl
theorem K_strings_trimLeftASCII : Known Tryz.prog fid_strings_trimLeftASCII (A_strings_trimLeftASCII) := known_of (σ := s_strings_trimLeftASCII) (hint := h_strings_trimLeftASCII) (by kernel_rfl) (simAll_ovr K_strings_asciiSet_contains simAll_nil0) fun l H r H' h => by
  unfold A_strings_trimLeftASCII at h; split at h
  · rw [e_strings_trimLeftASCII]; exact h
  · exact (fail_ne h).elim

/-! ### unicode/utf8.RuneStart -/
def F_unicode_utf8_RuneStart (x0 : V) : M V :=
  bnd (
    bnd (lift (bin .and x0 (Value.int .u8 192))) fun x4 =>
    bnd (lift (bin .neq x4 (Value.int .u8 128))) fun x5 =>
    ret (.ret [x5])
    ) fun o => finM o fun vs => ret (outV [(at_ vs 0)])
def h_unicode_utf8_RuneStart : Hint := (.seq [] .leaf (.seq [] .leaf .leaf))
def A_unicode_utf8_RuneStart (l : List V) : M V := match l with | [x0] => F_unicode_utf8_RuneStart x0 | _ => fail
theorem e_unicode_utf8_RuneStart (x0 : V) : funM Tryz.prog (ovr [] noC) fid_unicode_utf8_RuneStart h_unicode_utf8_RuneStart [x0] = F_unicode_utf8_RuneStart x0 := by kernel_rfl
theorem K_unicode_utf8_RuneStart : Known Tryz.prog fid_unicode_utf8_RuneStart (A_unicode_utf8_RuneStart) := known_of (σ := ovr [] noC) (hint := h_unicode_utf8_RuneStart) (by kernel_rfl) simAll_nil0 fun l H r H' h => by
  unfold A_unicode_utf8_RuneStart at h; split at h
  · rw [e_unicode_utf8_RuneStart]; exact h
  · exact (fail_ne h).elim

/-! ### unicode/utf8.decodeRuneInStringSlow -/
def unicode_utf8_decodeRuneInStringSlow_k0 (vs_8 : List V) : M Out :=
  bnd (lift (bin .and (at_ vs_8 0) (Value.int .u8 7))) fun x100 =>
  bnd (lift (cvi .i32 x100)) fun x101 =>
  bnd (lift (bin .shl x101 (Value.int .u64 18))) fun x102 =>
  bnd (lift (bin .and (at_ vs_8 1) (Value.int .u8 63))) fun x104 =>
  bnd (lift (cvi .i32 x104)) fun x105 =>
  bnd (lift (bin .shl x105 (Value.int .u64 12))) fun x106 =>
  bnd (lift (bin .or x102 x106)) fun x107 =>
  bnd (lift (bin .and (at_ vs_8 2) (Value.int .u8 63))) fun x109 =>
  bnd (lift (cvi .i32 x109)) fun x110 =>
  bnd (lift (bin .shl x110 (Value.int .u64 6))) fun x111 =>
  bnd (lift (bin .or x107 x111)) fun x112 =>
  bnd (lift (bin .and (at_ vs_8 3) (Value.int .u8 63))) fun x114 =>
  bnd (lift (cvi .i32 x114)) fun x115 =>
  bnd (lift (bin .or x112 x115)) fun x116 =>
  ret (.ret [x116, (Value.int .i64 4)])
def unicode_utf8_decodeRuneInStringSlow_k1 (vs_7 : List V) : M Out :=
  bnd (lift (idxS (at_ vs_7 0) (Value.int .i64 3))) fun x92 =>
  bnd (
    bnd (lift (bin .lss x92 (Value.int .u8 128))) fun x94 =>
    bnd (gd x94 false (lift (some x92))) fun x96 =>
    bnd (gd x94 false (lift (bin .lss (Value.int .u8 191) x96))) fun x97 =>
    bnd (lift (pickV x94 (Value.bool true) x97)) fun x98 =>
    condM x98 (
      ret (.ret [(Value.int .i32 65533), (Value.int .i64 1)])
      ) (
      ret (.nxt [(at_ vs_7 1), (at_ vs_7 2), (at_ vs_7 3), x92])
      )
    ) fun o => nx o unicode_utf8_decodeRuneInStringSlow_k0
def unicode_utf8_decodeRuneInStringSlow_k2 (vs_6 : List V) : M Out :=
  bnd (
    bnd (lift (bin .leq (at_ vs_6 2) (Value.int .i64 3))) fun x77 =>
    condM x77 (
      bnd (lift (bin .and (at_ vs_6 1) (Value.int .u8 15))) fun x79 =>
      bnd (lift (cvi .i32 x79)) fun x80 =>
      bnd (lift (bin .shl x80 (Value.int .u64 12))) fun x81 =>
      bnd (lift (bin .and (at_ vs_6 3) (Value.int .u8 63))) fun x83 =>
      bnd (lift (cvi .i32 x83)) fun x84 =>
      bnd (lift (bin .shl x84 (Value.int .u64 6))) fun x85 =>
      bnd (lift (bin .or x81 x85)) fun x86 =>
      bnd (lift (bin .and (at_ vs_6 4) (Value.int .u8 63))) fun x88 =>
      bnd (lift (cvi .i32 x88)) fun x89 =>
      bnd (lift (bin .or x86 x89)) fun x90 =>
      ret (.ret [x90, (Value.int .i64 3)])
      ) (
      ret (.nxt [(at_ vs_6 0), (at_ vs_6 1), (at_ vs_6 3), (at_ vs_6 4)])
      )
    ) fun o => nx o unicode_utf8_decodeRuneInStringSlow_k1
def unicode_utf8_decodeRuneInStringSlow_k3 (vs_5 : List V) : M Out :=
  bnd (lift (idxS (at_ vs_5 0) (Value.int .i64 2))) fun x69 =>
  bnd (
    bnd (lift (bin .lss x69 (Value.int .u8 128))) fun x71 =>
    bnd (gd x71 false (lift (some x69))) fun x73 =>
    bnd (gd x71 false (lift (bin .lss (Value.int .u8 191) x73))) fun x74 =>
    bnd (lift (pickV x71 (Value.bool true) x74)) fun x75 =>
    condM x75 (
      ret (.ret [(Value.int .i32 65533), (Value.int .i64 1)])
      ) (
      ret (.nxt [(at_ vs_5 0), (at_ vs_5 1), (at_ vs_5 2), (at_ vs_5 3), x69])
      )
    ) fun o => nx o unicode_utf8_decodeRuneInStringSlow_k2
def unicode_utf8_decodeRuneInStringSlow_k4 (vs_4 : List V) : M Out :=
  bnd (
    bnd (lift (bin .leq (at_ vs_4 2) (Value.int .i64 2))) fun x59 =>
    condM x59 (
      bnd (lift (bin .and (at_ vs_4 1) (Value.int .u8 31))) fun x61 =>
      bnd (lift (cvi .i32 x61)) fun x62 =>
      bnd (lift (bin .shl x62 (Value.int .u64 6))) fun x63 =>
      bnd (lift (bin .and (at_ vs_4 3) (Value.int .u8 63))) fun x65 =>
      bnd (lift (cvi .i32 x65)) fun x66 =>
      bnd (lift (bin .or x63 x66)) fun x67 =>
      ret (.ret [x67, (Value.int .i64 2)])
      ) (
      ret (.nxt [(at_ vs_4 0), (at_ vs_4 1), (at_ vs_4 2), (at_ vs_4 3)])
      )
    ) fun o => nx o unicode_utf8_decodeRuneInStringSlow_k3
def unicode_utf8_decodeRuneInStringSlow_k5 (vs_3 : List V) : M Out :=
  bnd (lift (idxS (at_ vs_3 0) (Value.int .i64 1))) fun x47 =>
  bnd (
    bnd (lift (faddr 0 (at_ vs_3 3))) fun x49 =>
    bnd (ld1 x49) fun x50 =>
    bnd (lift (bin .lss x47 x50)) fun x51 =>
    bnd (gd x51 false (lift (faddr 1 (at_ vs_3 3)))) fun x53 =>
    bnd (gd x51 false (ld1 x53)) fun x54 =>
    bnd (gd x51 false (lift (some x47))) fun x55 =>
    bnd (gd x51 false (lift (bin .lss x54 x55))) fun x56 =>
    bnd (lift (pickV x51 (Value.bool true) x56)) fun x57 =>
    condM x57 (
      ret (.ret [(Value.int .i32 65533), (Value.int .i64 1)])
      ) (
      ret (.nxt [(at_ vs_3 0), (at_ vs_3 1), (at_ vs_3 2), x47])
      )
    ) fun o => nx o unicode_utf8_decodeRuneInStringSlow_k4
def unicode_utf8_decodeRuneInStringSlow_k6 (vs_2 : List V) : M Out :=
  bnd (lift (bin .and (at_ vs_2 3) (Value.int .u8 7))) fun x37 =>
  bnd (lift (cvi .i64 x37)) fun x38 =>
  bnd (lift (bin .shr (at_ vs_2 3) (Value.int .u64 4))) fun x40 =>
  bnd (lift (iaddrA 16 2 (ptr gid_unicode_utf8_acceptRanges 0) x40)) fun x41 =>
  bnd (ldn 2 x41) fun x42 =>
  bnd (newc [Value.int .u8 0, Value.int .u8 0]) fun x9 =>
  bnd (stn 2 x9 x42) fun _ =>
  bnd (
    bnd (lift (bin .lss (at_ vs_2 1) x38)) fun x45 =>
    condM x45 (
      ret (.ret [(Value.int .i32 65533), (Value.int .i64 1)])
      ) (
      ret (.nxt [(at_ vs_2 0), (at_ vs_2 2), x38, x9])
      )
    ) fun o => nx o unicode_utf8_decodeRuneInStringSlow_k5
def unicode_utf8_decodeRuneInStringSlow_k7 (vs : List V) : M Out :=
  bnd (lift (idxS (at_ vs 0) (Value.int .i64 0))) fun x18 =>
  bnd (lift (iaddrA 256 1 (ptr gid_unicode_utf8_first 0) x18)) fun x20 =>
  bnd (ld1 x20) fun x21 =>
  bnd (
    bnd (lift (bin .geq x21 (Value.int .u8 240))) fun x23 =>
    condM x23 (
      bnd (lift (cvi .i32 x21)) fun x25 =>
      bnd (lift (bin .shl x25 (Value.int .u64 31))) fun x26 =>
      bnd (lift (bin .shr x26 (Value.int .u64 31))) fun x27 =>
      bnd (lift (idxS (at_ vs 0) (Value.int .i64 0))) fun x29 =>
      bnd (lift (cvi .i32 x29)) fun x30 =>
      bnd (lift (bin .andNot x30 x27)) fun x32 =>
      bnd (lift (bin .and (Value.int .i32 65533) x27)) fun x34 =>
      bnd (lift (bin .or x32 x34)) fun x35 =>
      ret (.ret [x35, (Value.int .i64 1)])
      ) (
      ret (.nxt [(at_ vs 0), (at_ vs 1), x18, x21])
      )
    ) fun o => nx o unicode_utf8_decodeRuneInStringSlow_k6
def F_unicode_utf8_decodeRuneInStringSlow (x0 : V) : M V :=
  bnd (
    bnd (lift (lenStr x0)) fun x14 =>
    bnd (
      bnd (lift (bin .lss x14 (Value.int .i64 1))) fun x16 =>
      condM x16 (
        ret (.ret [(Value.int .i32 65533), (Value.int .i64 0)])
        ) (
        ret (.nxt [x0, x14])
        )
      ) fun o => nx o unicode_utf8_decodeRuneInStringSlow_k7
    ) fun o => finM o fun vs => ret (outV [(at_ vs 0), (at_ vs 1)])
def h_unicode_utf8_decodeRuneInStringSlow : Hint := (.seq [] .leaf (.seq [] .leaf (.seq [0, 4] (.seq [] .leaf (.cond (.seq [] .leaf .leaf) .leaf)) (.seq [] .leaf (.seq [] .leaf (.seq [0, 4, 5, 6] (.seq [] .leaf (.cond (.seq [] .leaf (.seq [] .leaf .leaf)) .leaf)) (.seq [] .leaf (.seq [] .leaf (.seq [0, 5, 8, 9] (.seq [] .leaf (.cond (.seq [] .leaf .leaf) .leaf)) (.seq [] .leaf (.seq [0, 5, 8, 10] (.seq [] .leaf (.cond (.seq [] .leaf .leaf) .leaf)) (.seq [0, 5, 8, 10] (.seq [] .leaf (.cond (.seq [] .leaf .leaf) .leaf)) (.seq [] .leaf (.seq [0, 5, 8, 10, 11] (.seq [] .leaf (.cond (.seq [] .leaf .leaf) .leaf)) (.seq [0, 5, 10, 11] (.seq [] .leaf (.cond (.seq [] .leaf .leaf) .leaf)) (.seq [] .leaf (.seq [5, 10, 11, 12] (.seq [] .leaf (.cond (.seq [] .leaf .leaf) .leaf)) (.seq [] .leaf .leaf))))))))))))))))))
def A_unicode_utf8_decodeRuneInStringSlow (l : List V) : M V := match l with | [x0] => F_unicode_utf8_decodeRuneInStringSlow x0 | _ => fail
theorem e_unicode_utf8_decodeRuneInStringSlow (x0 : V) : funM Tryz.prog (ovr [] noC) fid_unicode_utf8_decodeRuneInStringSlow h_unicode_utf8_decodeRuneInStringSlow [x0] = F_unicode_utf8_decodeRuneInStringSlow x0 := by kernel_rfl
theorem K_unicode_utf8_decodeRuneInStringSlow : Known Tryz.prog fid_unicode_utf8_decodeRuneInStringSlow (A_unicode_utf8_decodeRuneInStringSlow) := known_of (σ := ovr [] noC) (hint := h_unicode_utf8_decodeRuneInStringSlow) (by kernel_rfl) simAll_nil0 fun l H r H' h => by
  unfold A_unicode_utf8_decodeRuneInStringSlow at h; split at h
  · rw [e_unicode_utf8_decodeRuneInStringSlow]; exact h
  · exact (fail_ne h).elim

/-! ### unicode/utf8.DecodeRuneInString -/
def unicode_utf8_DecodeRuneInString_k0 (vs : List V) : M Out :=
  ret (.ret [(at_ vs 0), (at_ vs 1)])
def F_unicode_utf8_DecodeRuneInString (x0 : V) : M V :=
  bnd (
    bnd (
      bnd (lift (bin .neq x0 (Value.string ⟨#[]⟩))) fun x5 =>
      bnd (gd x5 true (lift (some x0))) fun x7 =>
      bnd (gd x5 true (lift (idxS x7 (Value.int .i64 0)))) fun x8 =>
      bnd (gd x5 true (lift (bin .lss x8 (Value.int .u8 128)))) fun x9 =>
      bnd (lift (pickV x5 x9 (Value.bool false))) fun x10 =>
      condM x10 (
        bnd (lift (idxS x0 (Value.int .i64 0))) fun x12 =>
        bnd (lift (cvi .i32 x12)) fun x13 =>
        ret (.ret [x13, (Value.int .i64 1)])
        ) (
        bnd (A_unicode_utf8_decodeRuneInStringSlow [x0]) fun x16 =>
        bnd (lift (ext 0 x16)) fun x17 =>
        bnd (lift (ext 1 x16)) fun x18 =>
        ret (.nxt [x17, x18])
        )
      ) fun o => nx o unicode_utf8_DecodeRuneInString_k0
    ) fun o => finM o fun vs => ret (outV [(at_ vs 0), (at_ vs 1)])
def h_unicode_utf8_DecodeRuneInString : Hint := (.seq [] .leaf (.seq [2, 3] (.seq [] .leaf (.cond (.seq [] .leaf .leaf) .leaf)) .leaf))
def A_unicode_utf8_DecodeRuneInString (l : List V) : M V := match l with | [x0] => F_unicode_utf8_DecodeRuneInString x0 | _ => fail
def s_unicode_utf8_DecodeRuneInString : Calls' := ovr [(fid_unicode_utf8_decodeRuneInStringSlow, A_unicode_utf8_decodeRuneInStringSlow)] noC
theorem e_unicode_utf8_DecodeRuneInString (x0 : V) : funM Tryz.prog (s_unicode_utf8_DecodeRuneInString) fid_unicode_utf8_DecodeRuneInString h_unicode_utf8_DecodeRuneInString [x0] = F_unicode_utf8_DecodeRuneInString x0 := by kernel_rfl
theorem K_unicode_utf8_DecodeRuneInString : Known Tryz.prog fid_unicode_utf8_DecodeRuneInString (A_unicode_utf8_DecodeRuneInString) := known_of (σ := s_unicode_utf8_DecodeRuneInString) (hint := h_unicode_utf8_DecodeRuneInString) (by kernel_rfl) (simAll_ovr K_unicode_utf8_decodeRuneInStringSlow simAll_nil0) fun l H r H' h => by
  unfold A_unicode_utf8_DecodeRuneInString at h; split at h
  · rw [e_unicode_utf8_DecodeRuneInString]; exact h
  · exact (fail_ne h).elim

/-! ### unicode/utf8.DecodeLastRuneInString -/
def unicode_utf8_DecodeLastRuneInString_k0 (vs_5 : List V) : M Out :=
  bnd (lift (bin .sub (at_ vs_5 2) (Value.int .i64 1))) fun x29 =>
  ret (.nxt [(at_ vs_5 0), (at_ vs_5 1), x29, (at_ vs_5 3)])
def unicode_utf8_DecodeLastRuneInString_k1 (vs_4 : List V) : M Out :=
  bnd (
  bnd (
    bnd (lift (idxS (at_ vs_4 0) (at_ vs_4 2))) fun x32 =>
    bnd (A_unicode_utf8_RuneStart [x32]) fun x33 =>
    condM x33 (
      ret (.brk 0 [(at_ vs_4 0), (at_ vs_4 1), (at_ vs_4 2)])
      ) (
      ret (.nxt [(at_ vs_4 0), (at_ vs_4 1), (at_ vs_4 2), (at_ vs_4 3)])
      )
    ) fun o => ret (unblk 1 o)
  ) fun o => nx o unicode_utf8_DecodeLastRuneInString_k0
def unicode_utf8_DecodeLastRuneInString_l2 (vs_3 : List V) : M Out :=
  bnd (
  bnd (lift (bin .geq (at_ vs_3 2) (at_ vs_3 3))) fun x27 =>
  condM x27 (
    ret (.nxt [(at_ vs_3 0), (at_ vs_3 1), (at_ vs_3 2), (at_ vs_3 3)])
    ) (
    ret (.brk 0 [(at_ vs_3 0), (at_ vs_3 1), (at_ vs_3 2)])
    )
  ) fun o => nx o unicode_utf8_DecodeLastRuneInString_k1
def unicode_utf8_DecodeLastRuneInString_k3 (vs_8 : List V) : M Out :=
  ret (.ret [(at_ vs_8 0), (at_ vs_8 1)])
def unicode_utf8_DecodeLastRuneInString_k4 (vs_7 : List V) : M Out :=
  bnd (lift (subS (at_ vs_7 0) (some (at_ vs_7 2)) (some (at_ vs_7 1)))) fun x40 =>
  bnd (A_unicode_utf8_DecodeRuneInString [x40]) fun x41 =>
  bnd (lift (ext 0 x41)) fun x42 =>
  bnd (lift (ext 1 x41)) fun x43 =>
  bnd (
    bnd (lift (bin .add (at_ vs_7 2) x43)) fun x46 =>
    bnd (lift (bin .neq x46 (at_ vs_7 1))) fun x48 =>
    condM x48 (
      ret (.ret [(Value.int .i32 65533), (Value.int .i64 1)])
      ) (
      ret (.nxt [x42, x43])
      )
    ) fun o => nx o unicode_utf8_DecodeLastRuneInString_k3
def unicode_utf8_DecodeLastRuneInString_k5 (vs_6 : List V) : M Out :=
  bnd (
    bnd (lift (bin .lss (at_ vs_6 2) (Value.int .i64 0))) fun x35 =>
    condM x35 (
      ret (.nxt [(at_ vs_6 0), (at_ vs_6 1), (Value.int .i64 0)])
      ) (
      ret (.nxt [(at_ vs_6 0), (at_ vs_6 1), (at_ vs_6 2)])
      )
    ) fun o => nx o unicode_utf8_DecodeLastRuneInString_k4
def unicode_utf8_DecodeLastRuneInString_k6 (vs_2 : List V) : M Out :=
  bnd (lift (bin .sub (at_ vs_2 1) (Value.int .i64 4))) fun x21 =>
  bnd (lift (maxV x21 (Value.int .i64 0))) fun x22 =>
  bnd (
    bnd (lift (bin .sub (at_ vs_2 2) (Value.int .i64 1))) fun x24 =>
    bnd (
      loopM FUEL unicode_utf8_DecodeLastRuneInString_l2 [(at_ vs_2 0), (at_ vs_2 1), x24, x22]
      ) fun o => ret (unblk 0 o)
    ) fun o => nx o unicode_utf8_DecodeLastRuneInString_k5
def unicode_utf8_DecodeLastRuneInString_k7 (vs : List V) : M Out :=
  bnd (lift (bin .sub (at_ vs 1) (Value.int .i64 1))) fun x12 =>
  bnd (lift (idxS (at_ vs 0) x12)) fun x15 =>
  bnd (lift (cvi .i32 x15)) fun x16 =>
  bnd (
    bnd (lift (bin .lss x16 (Value.int .i32 128))) fun x18 =>
    condM x18 (
      ret (.ret [x16, (Value.int .i64 1)])
      ) (
      ret (.nxt [(at_ vs 0), (at_ vs 1), x12])
      )
    ) fun o => nx o unicode_utf8_DecodeLastRuneInString_k6
def F_unicode_utf8_DecodeLastRuneInString (x0 : V) : M V :=
  bnd (
    bnd (lift (lenStr x0)) fun x8 =>
    bnd (
      bnd (lift (bin .eql x8 (Value.int .i64 0))) fun x10 =>
      condM x10 (
        ret (.ret [(Value.int .i32 65533), (Value.int .i64 0)])
        ) (
        ret (.nxt [x0, x8])
        )
      ) fun o => nx o unicode_utf8_DecodeLastRuneInString_k7
    ) fun o => finM o fun vs => ret (outV [(at_ vs 0), (at_ vs 1)])
def h_unicode_utf8_DecodeLastRuneInString : Hint := (.seq [] .leaf (.seq [] .leaf (.seq [0, 4] (.seq [] .leaf (.cond (.seq [] .leaf .leaf) .leaf)) (.seq [] .leaf (.seq [] .leaf (.seq [0, 4, 5] (.seq [] .leaf (.cond (.seq [] .leaf .leaf) .leaf)) (.seq [] .leaf (.seq [0, 4, 5] (.seq [] .leaf (.blk (.loop [0, 4, 5, 6] (.seq [0, 4, 5, 6] (.seq [] .leaf (.cond .leaf .leaf)) (.seq [0, 4, 5, 6] (.blk (.seq [] .leaf (.cond .leaf .leaf))) .leaf))))) (.seq [0, 4, 5] (.seq [] .leaf (.cond .leaf .leaf)) (.seq [] .leaf (.seq [2, 3] (.seq [] .leaf (.cond (.seq [] .leaf .leaf) .leaf)) (.seq [] .leaf .leaf))))))))))))
def A_unicode_utf8_DecodeLastRuneInString (l : List V) : M V := match l with | [x0] => F_unicode_utf8_DecodeLastRuneInString x0 | _ => fail
def s_unicode_utf8_DecodeLastRuneInString : Calls' := ovr [(fid_unicode_utf8_RuneStart, A_unicode_utf8_RuneStart), (fid_unicode_utf8_DecodeRuneInString, A_unicode_utf8_DecodeRuneInString)] noC
theorem e_unicode_utf8_DecodeLastRuneInString (x0 : V) : funM Tryz.prog (s_unicode_utf8_DecodeLastRuneInString) fid_unicode_utf8_DecodeLastRuneInString h_unicode_utf8_DecodeLastRuneInString [x0] = F_unicode_utf8_DecodeLastRuneInString x0 := by kernel_rfl
theorem K_unicode_utf8_DecodeLastRuneInString : Known Tryz.prog fid_unicode_utf8_DecodeLastRuneInString (A_unicode_utf8_DecodeLastRuneInString) := known_of (σ := s_unicode_utf8_DecodeLastRuneInString) (hint := h_unicode_utf8_DecodeLastRuneInString) (by kernel_rfl) (simAll_ovr K_unicode_utf8_RuneStart (simAll_ovr K_unicode_utf8_DecodeRuneInString simAll_nil0)) fun l H r H' h => by
  unfold A_unicode_utf8_DecodeLastRuneInString at h; split at h
  · rw [e_unicode_utf8_DecodeLastRuneInString]; exact h
  · exact (fail_ne h).elim

/-! ### strings.ContainsRune -/
def F_strings_ContainsRune (G_strings_IndexRune : List V → M V) (x0 x1 : V) : M V :=
  bnd (
    bnd (G_strings_IndexRune [x0, x1]) fun x7 =>
    bnd (lift (bin .geq x7 (Value.int .i64 0))) fun x8 =>
    ret (.ret [x8])
    ) fun o => finM o fun vs => ret (outV [(at_ vs 0)])
def h_strings_ContainsRune : Hint := (.seq [] .leaf (.seq [] .leaf .leaf))
def A_strings_ContainsRune (G_strings_IndexRune : List V → M V) (l : List V) : M V := match l with | [x0, x1] => F_strings_ContainsRune G_strings_IndexRune x0 x1 | _ => fail
theorem e_strings_ContainsRune (G_strings_IndexRune : List V → M V) (x0 x1 : V) : funM Tryz.prog (ovr [(fid_strings_IndexRune, G_strings_IndexRune)] noC) fid_strings_ContainsRune h_strings_ContainsRune [x0, x1] = F_strings_ContainsRune G_strings_IndexRune x0 x1 := by kernel_rfl
theorem K_strings_ContainsRune {G_strings_IndexRune : List V → M V} (k_strings_IndexRune : Known Tryz.prog fid_strings_IndexRune G_strings_IndexRune) : Known Tryz.prog fid_strings_ContainsRune (A_strings_ContainsRune G_strings_IndexRune) := known_of (σ := ovr [(fid_strings_IndexRune, G_strings_IndexRune)] noC) (hint := h_strings_ContainsRune) (by kernel_rfl) (simAll_ovr k_strings_IndexRune simAll_nil0) fun l H r H' h => by
  unfold A_strings_ContainsRune at h; split at h
  · rw [e_strings_ContainsRune]; exact h
  · exact (fail_ne h).elim

/-! ### strings.trimRightUnicode -/
def strings_trimRightUnicode_k0 (G_strings_IndexRune : List V → M V) (vs_4 : List V) : M Out :=
  bnd (lift (lenStr (at_ vs_4 0))) fun x29 =>
  bnd (lift (bin .sub x29 (at_ vs_4 2))) fun x31 =>
  bnd (lift (subS (at_ vs_4 0) none (some x31))) fun x32 =>
  ret (.nxt [x32, (at_ vs_4 1)])
def strings_trimRightUnicode_k1 (G_strings_IndexRune : List V → M V) (vs_3 : List V) : M Out :=
  bnd (
    bnd ((A_strings_ContainsRune G_strings_IndexRune) [(at_ vs_3 1), (at_ vs_3 2)]) fun x25 =>
    bnd (lift (un .not x25)) fun x26 =>
    condM x26 (
      ret (.brk 0 [(at_ vs_3 0)])
      ) (
      ret (.nxt [(at_ vs_3 0), (at_ vs_3 1), (at_ vs_3 3)])
      )
    ) fun o => nx o (strings_trimRightUnicode_k0 G_strings_IndexRune)
def strings_trimRightUnicode_k2 (G_strings_IndexRune : List V → M V) (vs_2 : List V) : M Out :=
  bnd (
  bnd (lift (lenStr (at_ vs_2 0))) fun x12 =>
  bnd (lift (bin .sub x12 (Value.int .i64 1))) fun x13 =>
  bnd (lift (idxS (at_ vs_2 0) x13)) fun x14 =>
  bnd (lift (cvi .i32 x14)) fun x15 =>
  bnd (
    bnd (lift (bin .geq x15 (Value.int .i32 128))) fun x17 =>
    condM x17 (
      bnd (A_unicode_utf8_DecodeLastRuneInString [(at_ vs_2 0)]) fun x20 =>
      bnd (lift (ext 0 x20)) fun x21 =>
      bnd (lift (ext 1 x20)) fun x22 =>
      ret (.nxt [(at_ vs_2 0), (at_ vs_2 1), x21, x22])
      ) (
      ret (.nxt [(at_ vs_2 0), (at_ vs_2 1), x15, (Value.int .i64 1)])
      )
    ) fun o => nx o (strings_trimRightUnicode_k1 G_strings_IndexRune)
  ) fun o => ret (unblk 1 o)
def strings_trimRightUnicode_l3 (G_strings_IndexRune : List V → M V) (vs : List V) : M Out :=
  bnd (
  bnd (lift (lenStr (at_ vs 0))) fun x8 =>
  bnd (lift (bin .gtr x8 (Value.int .i64 0))) fun x9 =>
  condM x9 (
    ret (.nxt [(at_ vs 0), (at_ vs 1)])
    ) (
    ret (.brk 0 [(at_ vs 0)])
    )
  ) fun o => nx o (strings_trimRightUnicode_k2 G_strings_IndexRune)
def strings_trimRightUnicode_k4 (G_strings_IndexRune : List V → M V) (vs_5 : List V) : M Out :=
  ret (.ret [(at_ vs_5 0)])
def F_strings_trimRightUnicode (G_strings_IndexRune : List V → M V) (x0 x1 : V) : M V :=
  bnd (
    bnd (
      bnd (
        loopM FUEL (strings_trimRightUnicode_l3 G_strings_IndexRune) [x0, x1]
        ) fun o => ret (unblk 0 o)
      ) fun o => nx o (strings_trimRightUnicode_k4 G_strings_IndexRune)
    ) fun o => finM o fun vs => ret (outV [(at_ vs 0)])
def h_strings_trimRightUnicode : Hint := (.seq [] .leaf (.seq [0] (.blk (.loop [0, 1] (.seq [0, 1] (.seq [] .leaf (.cond .leaf .leaf)) (.blk (.seq [] .leaf (.seq [0, 1, 5, 6] (.seq [] .leaf (.cond .leaf .leaf)) (.seq [0, 1, 6] (.seq [] .leaf (.cond .leaf .leaf)) .leaf))))))) (.seq [] .leaf .leaf)))
def A_strings_trimRightUnicode (G_strings_IndexRune : List V → M V) (l : List V) : M V := match l with | [x0, x1] => F_strings_trimRightUnicode G_strings_IndexRune x0 x1 | _ => fail
theorem e_strings_trimRightUnicode (G_strings_IndexRune : List V → M V) (x0 x1 : V) : funM Tryz.prog (ovr [(fid_unicode_utf8_DecodeLastRuneInString, A_unicode_utf8_DecodeLastRuneInString), (fid_strings_ContainsRune, A_strings_ContainsRune G_strings_IndexRune)] noC) fid_strings_trimRightUnicode h_strings_trimRightUnicode [x0, x1] = F_strings_trimRightUnicode G_strings_IndexRune x0 x1 := by kernel_rfl
theorem K_strings_trimRightUnicode {G_strings_IndexRune : List V → M V} (k_strings_IndexRune : Known Tryz.prog fid_strings_IndexRune G_strings_IndexRune) : Known Tryz.prog fid_strings_trimRightUnicode (A_strings_trimRightUnicode G_strings_IndexRune) := known_of (σ := ovr [(fid_unicode_utf8_DecodeLastRuneInString, A_unicode_utf8_DecodeLastRuneInString), (fid_strings_ContainsRune, A_strings_ContainsRune G_strings_IndexRune)] noC) (hint := h_strings_trimRightUnicode) (by kernel_rfl) (simAll_ovr K_unicode_utf8_DecodeLastRuneInString (simAll_ovr (K_strings_ContainsRune k_strings_IndexRune) simAll_nil0)) fun l H r H' h => by
  unfold A_strings_trimRightUnicode at h; split at h
  · rw [e_strings_trimRightUnicode]; exact h
  · exact (fail_ne h).elim

/-! ### strings.trimLeftUnicode -/
def strings_trimLeftUnicode_k0 (G_strings_IndexRune : List V → M V) (vs_3 : List V) : M Out :=
  bnd (lift (subS (at_ vs_3 0) (some (at_ vs_3 2)) none)) fun x21 =>
  ret (.nxt [x21, (at_ vs_3 1)])
def strings_trimLeftUnicode_k1 (G_strings_IndexRune : List V → M V) (vs_2 : List V) : M Out :=
  bnd (
  bnd (A_unicode_utf8_DecodeRuneInString [(at_ vs_2 0)]) fun x12 =>
  bnd (lift (ext 0 x12)) fun x13 =>
  bnd (lift (ext 1 x12)) fun x14 =>
  bnd (
    bnd ((A_strings_ContainsRune G_strings_IndexRune) [(at_ vs_2 1), x13]) fun x17 =>
    bnd (lift (un .not x17)) fun x18 =>
    condM x18 (
      ret (.brk 0 [(at_ vs_2 0)])
      ) (
      ret (.nxt [(at_ vs_2 0), (at_ vs_2 1), x14])
      )
    ) fun o => nx o (strings_trimLeftUnicode_k0 G_strings_IndexRune)
  ) fun o => ret (unblk 1 o)
def strings_trimLeftUnicode_l2 (G_strings_IndexRune : List V → M V) (vs : List V) : M Out :=
  bnd (
  bnd (lift (lenStr (at_ vs 0))) fun x8 =>
  bnd (lift (bin .gtr x8 (Value.int .i64 0))) fun x9 =>
  condM x9 (
    ret (.nxt [(at_ vs 0), (at_ vs 1)])
    ) (
    ret (.brk 0 [(at_ vs 0)])
    )
  ) fun o => nx o (strings_trimLeftUnicode_k1 G_strings_IndexRune)
def strings_trimLeftUnicode_k3 (G_strings_IndexRune : List V → M V) (vs_4 : List V) : M Out :=
  ret (.ret [(at_ vs_4 0)])
def F_strings_trimLeftUnicode (G_strings_IndexRune : List V → M V) (x0 x1 : V) : M V :=
  bnd (
    bnd (
      bnd (
        loopM FUEL (strings_trimLeftUnicode_l2 G_strings_IndexRune) [x0, x1]
        ) fun o => ret (unblk 0 o)
      ) fun o => nx o (strings_trimLeftUnicode_k3 G_strings_IndexRune)
    ) fun o => finM o fun vs => ret (outV [(at_ vs 0)])
def h_strings_trimLeftUnicode : Hint := (.seq [] .leaf (.seq [0] (.blk (.loop [0, 1] (.seq [0, 1] (.seq [] .leaf (.cond .leaf .leaf)) (.blk (.seq [] .leaf (.seq [0, 1, 6] (.seq [] .leaf (.cond .leaf .leaf)) .leaf)))))) (.seq [] .leaf .leaf)))
def A_strings_trimLeftUnicode (G_strings_IndexRune : List V → M V) (l : List V) : M V := match l with | [x0, x1] => F_strings_trimLeftUnicode G_strings_IndexRune x0 x1 | _ => fail
theorem e_strings_trimLeftUnicode (G_strings_IndexRune : List V → M V) (x0 x1 : V) : funM Tryz.prog (ovr [(fid_unicode_utf8_DecodeRuneInString, A_unicode_utf8_DecodeRuneInString), (fid_strings_ContainsRune, A_strings_ContainsRune G_strings_IndexRune)] noC) fid_strings_trimLeftUnicode h_strings_trimLeftUnicode [x0, x1] = F_strings_trimLeftUnicode G_strings_IndexRune x0 x1 := by kernel_rfl
theorem K_strings_trimLeftUnicode {G_strings_IndexRune : List V → M V} (k_strings_IndexRune : Known Tryz.prog fid_strings_IndexRune G_strings_IndexRune) : Known Tryz.prog fid_strings_trimLeftUnicode (A_strings_trimLeftUnicode G_strings_IndexRune) := known_of (σ := ovr [(fid_unicode_utf8_DecodeRuneInString, A_unicode_utf8_DecodeRuneInString), (fid_strings_ContainsRune, A_strings_ContainsRune G_strings_IndexRune)] noC) (hint := h_strings_trimLeftUnicode) (by kernel_rfl) (simAll_ovr K_unicode_utf8_DecodeRuneInString (simAll_ovr (K_strings_ContainsRune k_strings_IndexRune) simAll_nil0)) fun l H r H' h => by
  unfold A_strings_trimLeftUnicode at h; split at h
  · rw [e_strings_trimLeftUnicode]; exact h
  · exact (fail_ne h).elim

/-! ### strings.Trim -/
def strings_Trim_k0 (G_strings_IndexRune : List V → M V) (vs_3 : List V) : M Out :=
  bnd ((A_strings_trimRightUnicode G_strings_IndexRune) [(at_ vs_3 0), (at_ vs_3 1)]) fun x40 =>
  bnd ((A_strings_trimLeftUnicode G_strings_IndexRune) [x40, (at_ vs_3 1)]) fun x42 =>
  ret (.ret [x42])
def strings_Trim_k1 (G_strings_IndexRune : List V → M V) (vs_2 : List V) : M Out :=
  bnd (
    bnd (A_strings_makeASCIISet [(at_ vs_2 1)]) fun x31 =>
    bnd (lift (ext 0 x31)) fun x32 =>
    bnd (lift (ext 1 x31)) fun x33 =>
    bnd (newc (List.replicate 256 (Value.bool false))) fun x5 =>
    bnd (stn 256 x5 x32) fun _ =>
    condM x33 (
      bnd (A_strings_trimRightASCII [(at_ vs_2 0), x5]) fun x36 =>
      bnd (A_strings_trimLeftASCII [x36, x5]) fun x37 =>
      ret (.ret [x37])
      ) (
      ret (.nxt [(at_ vs_2 0), (at_ vs_2 1)])
      )
    ) fun o => nx o (strings_Trim_k0 G_strings_IndexRune)
def strings_Trim_k2 (G_strings_IndexRune : List V → M V) (vs : List V) : M Out :=
  bnd (
    bnd (lift (lenStr (at_ vs 1))) fun x15 =>
    bnd (lift (bin .eql x15 (Value.int .i64 1))) fun x16 =>
    bnd (gd x16 true (lift (some (at_ vs 1)))) fun x18 =>
    bnd (gd x16 true (lift (idxS x18 (Value.int .i64 0)))) fun x19 =>
    bnd (gd x16 true (lift (bin .lss x19 (Value.int .u8 128)))) fun x20 =>
    bnd (lift (pickV x16 x20 (Value.bool false))) fun x21 =>
    condM x21 (
      bnd (lift (idxS (at_ vs 1) (Value.int .i64 0))) fun x24 =>
      bnd (lift (idxS (at_ vs 1) (Value.int .i64 0))) fun x27 =>
      bnd (A_strings_trimRightByte [(at_ vs 0), x24]) fun x25 =>
      bnd (A_strings_trimLeftByte [x25, x27]) fun x28 =>
      ret (.ret [x28])
      ) (
      ret (.nxt [(at_ vs 0), (at_ vs 1)])
      )
    ) fun o => nx o (strings_Trim_k1 G_strings_IndexRune)
def F_strings_Trim (G_strings_IndexRune : List V → M V) (x0 x1 : V) : M V :=
  bnd (
    bnd (
      bnd (lift (bin .eql x0 (Value.string ⟨#[]⟩))) fun x8 =>
      bnd (gd x8 false (lift (some x1))) fun x10 =>
      bnd (gd x8 false (lift (bin .eql x10 (Value.string ⟨#[]⟩)))) fun x11 =>
      bnd (lift (pickV x8 (Value.bool true) x11)) fun x12 =>
      condM x12 (
        ret (.ret [x0])
        ) (
        ret (.nxt [x0, x1])
        )
      ) fun o => nx o (strings_Trim_k2 G_strings_IndexRune)
    ) fun o => finM o fun vs => ret (outV [(at_ vs 0)])
def h_strings_Trim : Hint := (.seq [] .leaf (.seq [0, 1] (.seq [] .leaf (.cond (.seq [] .leaf .leaf) .leaf)) (.seq [0, 1] (.seq [] .leaf (.cond (.seq [] (.reg [0, 1, 2, 4, 5, 3, 6, 7] []) .leaf) .leaf)) (.seq [0, 1] (.seq [] .leaf (.seq [] .leaf (.cond (.seq [] .leaf .leaf) .leaf))) (.seq [] .leaf .leaf)))))
def A_strings_Trim (G_strings_IndexRune : List V → M V) (l : List V) : M V := match l with | [x0, x1] => F_strings_Trim G_strings_IndexRune x0 x1 | _ => fail
theorem e_strings_Trim (G_strings_IndexRune : List V → M V) (x0 x1 : V) : funM Tryz.prog (ovr [(fid_strings_trimRightByte, A_strings_trimRightByte), (fid_strings_trimLeftByte, A_strings_trimLeftByte), (fid_strings_makeASCIISet, A_strings_makeASCIISet), (fid_strings_trimRightASCII, A_strings_trimRightASCII), (fid_strings_trimLeftASCII, A_strings_trimLeftASCII), (fid_strings_trimRightUnicode, A_strings_trimRightUnicode G_strings_IndexRune), (fid_strings_trimLeftUnicode, A_strings_trimLeftUnicode G_strings_IndexRune)] noC) fid_strings_Trim h_strings_Trim [x0, x1] = F_strings_Trim G_strings_IndexRune x0 x1 := by kernel_rfl
theorem K_strings_Trim {G_strings_IndexRune : List V → M V} (k_strings_IndexRune : Known Tryz.prog fid_strings_IndexRune G_strings_IndexRune) : Known Tryz.prog fid_strings_Trim (A_strings_Trim G_strings_IndexRune) := known_of (σ := ovr [(fid_strings_trimRightByte, A_strings_trimRightByte), (fid_strings_trimLeftByte, A_strings_trimLeftByte), (fid_strings_makeASCIISet, A_strings_makeASCIISet), (fid_strings_trimRightASCII, A_strings_trimRightASCII), (fid_strings_trimLeftASCII, A_strings_trimLeftASCII), (fid_strings_trimRightUnicode, A_strings_trimRightUnicode G_strings_IndexRune), (fid_strings_trimLeftUnicode, A_strings_trimLeftUnicode G_strings_IndexRune)] noC) (hint := h_strings_Trim) (by kernel_rfl) (simAll_ovr K_strings_trimRightByte (simAll_ovr K_strings_trimLeftByte (simAll_ovr K_strings_makeASCIISet (simAll_ovr K_strings_trimRightASCII (simAll_ovr K_strings_trimLeftASCII (simAll_ovr (K_strings_trimRightUnicode k_strings_IndexRune) (simAll_ovr (K_strings_trimLeftUnicode k_strings_IndexRune) simAll_nil0))))))) fun l H r H' h => by
  unfold A_strings_Trim at h; split at h
  · rw [e_strings_Trim]; exact h
  · exact (fail_ne h).elim

/-! ### capstan/roles.formed -/
def F_roles_formed (G_strings_IndexRune : List V → M V) (x0 : V) : M V :=
  bnd (
    bnd (boxv x0) fun x1 =>
    bnd (lift (faddr 0 x1)) fun x3 =>
    bnd (ld1 x3) fun x4 =>
    bnd (lift (bin .neq x4 (Value.string ⟨#[]⟩))) fun x5 =>
    bnd (gd x5 true (lift (faddr 0 x1))) fun x7 =>
    bnd (gd x5 true (ld1 x7)) fun x8 =>
    bnd (gd x5 true (lift (lenStr x8))) fun x9 =>
    bnd (gd x5 true (lift (bin .leq x9 (Value.int .i64 24)))) fun x10 =>
    bnd (lift (pickV x5 x10 (Value.bool false))) fun x11 =>
    bnd (gd x11 true (lift (faddr 0 x1))) fun x13 =>
    bnd (gd x11 true (ld1 x13)) fun x14 =>
    bnd (gd x11 true ((A_strings_Trim G_strings_IndexRune) [x14, (Value.string ⟨#[97, 98, 99, 100, 101, 102, 103, 104, 105, 106, 107, 108, 109, 110, 111, 112, 113, 114, 115, 116, 117, 118, 119, 120, 121, 122, 48, 49, 50, 51, 52, 53, 54, 55, 56, 57]⟩)])) fun x15 =>
    bnd (gd x11 true (lift (bin .eql x15 (Value.string ⟨#[]⟩)))) fun x16 =>
    bnd (lift (pickV x11 x16 (Value.bool false))) fun x17 =>
    bnd (gd x17 true (lift (faddr 1 x1))) fun x19 =>
    bnd (gd x17 true (ld1 x19)) fun x20 =>
    bnd (gd x17 true (lift (lenStr x20))) fun x21 =>
    bnd (gd x17 true (lift (bin .geq x21 (Value.int .i64 16)))) fun x22 =>
    bnd (lift (pickV x17 x22 (Value.bool false))) fun x23 =>
    bnd (gd x23 true (lift (faddr 1 x1))) fun x25 =>
    bnd (gd x23 true (ld1 x25)) fun x26 =>
    bnd (gd x23 true (lift (lenStr x26))) fun x27 =>
    bnd (gd x23 true (lift (bin .leq x27 (Value.int .i64 64)))) fun x28 =>
    bnd (lift (pickV x23 x28 (Value.bool false))) fun x29 =>
    ret (.ret [x29])
    ) fun o => finM o fun vs => ret (outV [(at_ vs 0)])
def h_roles_formed : Hint := (.seq [] .leaf (.seq [] .leaf .leaf))
def A_roles_formed (G_strings_IndexRune : List V → M V) (l : List V) : M V := match l with | [x0] => F_roles_formed G_strings_IndexRune x0 | _ => fail
theorem e_roles_formed (G_strings_IndexRune : List V → M V) (x0 : V) : funM Tryz.prog (ovr [(fid_strings_Trim, A_strings_Trim G_strings_IndexRune)] noC) fid_roles_formed h_roles_formed [x0] = F_roles_formed G_strings_IndexRune x0 := by kernel_rfl
theorem K_roles_formed {G_strings_IndexRune : List V → M V} (k_strings_IndexRune : Known Tryz.prog fid_strings_IndexRune G_strings_IndexRune) : Known Tryz.prog fid_roles_formed (A_roles_formed G_strings_IndexRune) := known_of (σ := ovr [(fid_strings_Trim, A_strings_Trim G_strings_IndexRune)] noC) (hint := h_roles_formed) (by kernel_rfl) (simAll_ovr (K_strings_Trim k_strings_IndexRune) simAll_nil0) fun l H r H' h => by
  unfold A_roles_formed at h; split at h
  · rw [e_roles_formed]; exact h
  · exact (fail_ne h).elim

/-! ### capstan/roles.Find$1 -/
def F_roles_Find_1 (x0 x1 : V) : M V :=
  bnd (
    bnd (boxv x0) fun x2 =>
    bnd (lift (faddr 0 x2)) fun x4 =>
    bnd (ld1 x4) fun x5 =>
    bnd (ld1 x1) fun x6 =>
    bnd (lift (bin .eql x5 x6)) fun x7 =>
    ret (.ret [x7])
    ) fun o => finM o fun vs => ret (outV [(at_ vs 0)])
def h_roles_Find_1 : Hint := (.seq [] .leaf (.seq [] .leaf .leaf))
def A_roles_Find_1 (l : List V) : M V := match l with | [x0, x1] => F_roles_Find_1 x0 x1 | _ => fail
theorem e_roles_Find_1 (x0 x1 : V) : funM Tryz.prog (ovr [] noC) fid_roles_Find_1 h_roles_Find_1 [x0, x1] = F_roles_Find_1 x0 x1 := by kernel_rfl
theorem K_roles_Find_1 : Known Tryz.prog fid_roles_Find_1 (A_roles_Find_1) := known_of (σ := ovr [] noC) (hint := h_roles_Find_1) (by kernel_rfl) simAll_nil0 fun l H r H' h => by
  unfold A_roles_Find_1 at h; split at h
  · rw [e_roles_Find_1]; exact h
  · exact (fail_ne h).elim

/-! ### slices.IndexFunc[[]capstan/api.User,capstan/api.User] -/
def slices_IndexFunc_S_api_User_api_User_k0 (S : Calls') (vs_3 : List V) : M Out :=
  bnd (lift (bin .add (at_ vs_3 3) (Value.int .i64 1))) fun x18 =>
  ret (.nxt [(at_ vs_3 0), (at_ vs_3 1), (at_ vs_3 2), x18])
def slices_IndexFunc_S_api_User_api_User_k1 (S : Calls') (vs_2 : List V) : M Out :=
  bnd (
  bnd (
    bnd (lift (iaddrS 3 (at_ vs_2 0) (at_ vs_2 3))) fun x14 =>
    bnd (ldn 3 x14) fun x15 =>
    bnd (callM (ovr [] S) (at_ vs_2 1) [x15]) fun x16 =>
    condM x16 (
      ret (.ret [(at_ vs_2 3)])
      ) (
      ret (.nxt [(at_ vs_2 0), (at_ vs_2 1), (at_ vs_2 2), (at_ vs_2 3)])
      )
    ) fun o => ret (unblk 1 o)
  ) fun o => nx o (slices_IndexFunc_S_api_User_api_User_k0 S)
def slices_IndexFunc_S_api_User_api_User_l2 (S : Calls') (vs : List V) : M Out :=
  bnd (lift (bin .lss (at_ vs 3) (at_ vs 2))) fun x9 =>
  bnd (
  condM x9 (
    ret (.nxt [(at_ vs 0), (at_ vs 1), (at_ vs 2), (at_ vs 3)])
    ) (
    ret (.brk 0 [])
    )
  ) fun o => nx o (slices_IndexFunc_S_api_User_api_User_k1 S)
def slices_IndexFunc_S_api_User_api_User_k3 (S : Calls') (vs_4 : List V) : M Out :=
  ret (.ret [(Value.int .i64 (-1))])
def F_slices_IndexFunc_S_api_User_api_User (S : Calls') (x0 x1 : V) : M V :=
  bnd (
    bnd (
      bnd (lift (lenSlc x0)) fun x7 =>
      bnd (
        loopM FUEL (slices_IndexFunc_S_api_User_api_User_l2 S) [x0, x1, x7, (Value.int .i64 0)]
        ) fun o => ret (unblk 0 o)
      ) fun o => nx o (slices_IndexFunc_S_api_User_api_User_k3 S)
    ) fun o => finM o fun vs => ret (outV [(at_ vs 0)])
def h_slices_IndexFunc_S_api_User_api_User : Hint := (.seq [] .leaf (.seq [] (.seq [] .leaf (.blk (.loop [0, 1, 7, 8] (.seq [] .leaf (.seq [0, 1, 7, 8] (.cond .leaf .leaf) (.seq [0, 1, 7, 8] (.blk (.seq [] .leaf (.seq [] .leaf (.cond (.seq [] .leaf .leaf) .leaf)))) .leaf)))))) (.seq [] .leaf .leaf)))
def A_slices_IndexFunc_S_api_User_api_User (S : Calls') (l : List V) : M V := match l with | [x0, x1] => F_slices_IndexFunc_S_api_User_api_User S x0 x1 | _ => fail
theorem e_slices_IndexFunc_S_api_User_api_User (S : Calls') (x0 x1 : V) : funM Tryz.prog (ovr [] S) fid_slices_IndexFunc_S_api_User_api_User h_slices_IndexFunc_S_api_User_api_User [x0, x1] = F_slices_IndexFunc_S_api_User_api_User S x0 x1 := by kernel_rfl
theorem K_slices_IndexFunc_S_api_User_api_User {S : Calls'} (hS : SimAll Tryz.prog S) : Known Tryz.prog fid_slices_IndexFunc_S_api_User_api_User (A_slices_IndexFunc_S_api_User_api_User S) := known_of (σ := ovr [] S) (hint := h_slices_IndexFunc_S_api_User_api_User) (by kernel_rfl) (simAll_base hS) fun l H r H' h => by
  unfold A_slices_IndexFunc_S_api_User_api_User at h; split at h
  · rw [e_slices_IndexFunc_S_api_User_api_User]; exact h
  · exact (fail_ne h).elim

/-! ### capstan/roles.Find -/
def roles_Find_k0 (vs : List V) : M Out :=
  ret (.ret [(at_ vs 0), (Value.int .i64 0)])
def F_roles_Find (x0 x1 : V) : M V :=
  bnd (
    bnd (boxv x1) fun x3 =>
    bnd (lift (some (Value.func (.func fid_roles_Find_1) #[] #[x3]))) fun x8 =>
    bnd ((A_slices_IndexFunc_S_api_User_api_User (ovr [(fid_roles_Find_1, A_roles_Find_1)] noC)) [x0, x8]) fun x9 =>
    bnd (
      bnd (lift (bin .lss x9 (Value.int .i64 0))) fun x11 =>
      condM x11 (
        ret (.ret [(Value.int .i64 0), (Value.int .i64 90)])
        ) (
        ret (.nxt [x9])
        )
      ) fun o => nx o roles_Find_k0
    ) fun o => finM o fun vs => ret (outV [(at_ vs 0), (at_ vs 1)])
def h_roles_Find : Hint := (.seq [] .leaf (.seq [] .leaf (.seq [6] (.seq [] .leaf (.cond (.seq [] .leaf .leaf) .leaf)) (.seq [] .leaf .leaf))))
def A_roles_Find (l : List V) : M V := match l with | [x0, x1] => F_roles_Find x0 x1 | _ => fail
def s_roles_Find : Calls' := ovr [(fid_slices_IndexFunc_S_api_User_api_User, A_slices_IndexFunc_S_api_User_api_User (ovr [(fid_roles_Find_1, A_roles_Find_1)] noC))] noC
theorem e_roles_Find (x0 x1 : V) : funM Tryz.prog (s_roles_Find) fid_roles_Find h_roles_Find [x0, x1] = F_roles_Find x0 x1 := by kernel_rfl
theorem K_roles_Find : Known Tryz.prog fid_roles_Find (A_roles_Find) := known_of (σ := s_roles_Find) (hint := h_roles_Find) (by kernel_rfl) (simAll_ovr (K_slices_IndexFunc_S_api_User_api_User (simAll_ovr K_roles_Find_1 simAll_nil0)) simAll_nil0) fun l H r H' h => by
  unfold A_roles_Find at h; split at h
  · rw [e_roles_Find]; exact h
  · exact (fail_ne h).elim

/-! ### slices.Index[[]int,int] -/
def slices_Index_S_int_int_k0 (vs_3 : List V) : M Out :=
  bnd (lift (bin .add (at_ vs_3 3) (Value.int .i64 1))) fun x18 =>
  ret (.nxt [(at_ vs_3 0), (at_ vs_3 1), (at_ vs_3 2), x18])
def slices_Index_S_int_int_k1 (vs_2 : List V) : M Out :=
  bnd (
  bnd (
    bnd (lift (iaddrS 1 (at_ vs_2 0) (at_ vs_2 3))) fun x14 =>
    bnd (ld1 x14) fun x15 =>
    bnd (lift (bin .eql (at_ vs_2 1) x15)) fun x16 =>
    condM x16 (
      ret (.ret [(at_ vs_2 3)])
      ) (
      ret (.nxt [(at_ vs_2 0), (at_ vs_2 1), (at_ vs_2 2), (at_ vs_2 3)])
      )
    ) fun o => ret (unblk 1 o)
  ) fun o => nx o slices_Index_S_int_int_k0
def slices_Index_S_int_int_l2 (vs : List V) : M Out :=
  bnd (lift (bin .lss (at_ vs 3) (at_ vs 2))) fun x9 =>
  bnd (
  condM x9 (
    ret (.nxt [(at_ vs 0), (at_ vs 1), (at_ vs 2), (at_ vs 3)])
    ) (
    ret (.brk 0 [])
    )
  ) fun o => nx o slices_Index_S_int_int_k1
def slices_Index_S_int_int_k3 (vs_4 : List V) : M Out :=
  ret (.ret [(Value.int .i64 (-1))])
def F_slices_Index_S_int_int (x0 x1 : V) : M V :=
  bnd (
    bnd (
      bnd (lift (lenSlc x0)) fun x7 =>
      bnd (
        loopM FUEL slices_Index_S_int_int_l2 [x0, x1, x7, (Value.int .i64 0)]
        ) fun o => ret (unblk 0 o)
      ) fun o => nx o slices_Index_S_int_int_k3
    ) fun o => finM o fun vs => ret (outV [(at_ vs 0)])
def h_slices_Index_S_int_int : Hint := (.seq [] .leaf (.seq [] (.seq [] .leaf (.blk (.loop [0, 1, 7, 8] (.seq [] .leaf (.seq [0, 1, 7, 8] (.cond .leaf .leaf) (.seq [0, 1, 7, 8] (.blk (.seq [] .leaf (.seq [] .leaf (.cond (.seq [] .leaf .leaf) .leaf)))) .leaf)))))) (.seq [] .leaf .leaf)))
def A_slices_Index_S_int_int (l : List V) : M V := match l with | [x0, x1] => F_slices_Index_S_int_int x0 x1 | _ => fail
theorem e_slices_Index_S_int_int (x0 x1 : V) : funM Tryz.prog (ovr [] noC) fid_slices_Index_S_int_int h_slices_Index_S_int_int [x0, x1] = F_slices_Index_S_int_int x0 x1 := by kernel_rfl
theorem K_slices_Index_S_int_int : Known Tryz.prog fid_slices_Index_S_int_int (A_slices_Index_S_int_int) := known_of (σ := ovr [] noC) (hint := h_slices_Index_S_int_int) (by kernel_rfl) simAll_nil0 fun l H r H' h => by
  unfold A_slices_Index_S_int_int at h; split at h
  · rw [e_slices_Index_S_int_int]; exact h
  · exact (fail_ne h).elim

/-! ### slices.Contains[[]int,int] -/
def F_slices_Contains_S_int_int (x0 x1 : V) : M V :=
  bnd (
    bnd (A_slices_Index_S_int_int [x0, x1]) fun x7 =>
    bnd (lift (bin .geq x7 (Value.int .i64 0))) fun x8 =>
    ret (.ret [x8])
    ) fun o => finM o fun vs => ret (outV [(at_ vs 0)])
def h_slices_Contains_S_int_int : Hint := (.seq [] .leaf (.seq [] .leaf .leaf))
def A_slices_Contains_S_int_int (l : List V) : M V := match l with | [x0, x1] => F_slices_Contains_S_int_int x0 x1 | _ => fail
def s_slices_Contains_S_int_int : Calls' := ovr [(fid_slices_Index_S_int_int, A_slices_Index_S_int_int)] noC
theorem e_slices_Contains_S_int_int (x0 x1 : V) : funM Tryz.prog (s_slices_Contains_S_int_int) fid_slices_Contains_S_int_int h_slices_Contains_S_int_int [x0, x1] = F_slices_Contains_S_int_int x0 x1 := by kernel_rfl
theorem K_slices_Contains_S_int_int : Known Tryz.prog fid_slices_Contains_S_int_int (A_slices_Contains_S_int_int) := known_of (σ := s_slices_Contains_S_int_int) (hint := h_slices_Contains_S_int_int) (by kernel_rfl) (simAll_ovr K_slices_Index_S_int_int simAll_nil0) fun l H r H' h => by
  unfold A_slices_Contains_S_int_int at h; split at h
  · rw [e_slices_Contains_S_int_int]; exact h
  · exact (fail_ne h).elim

/-! ### capstan/roles.wrong -/
def roles_wrong_k0 (vs_3 : List V) : M Out :=
    bnd (gd (at_ vs_3 2) false (lift (some (at_ vs_3 1)))) fun x37 =>
    bnd (gd (at_ vs_3 2) false (lift (faddr 0 (at_ vs_3 3)))) fun x38 =>
    bnd (gd (at_ vs_3 2) false (ld1 x38)) fun x39 =>
    bnd (gd (at_ vs_3 2) false (A_slices_Contains_S_int_int [x37, x39])) fun x40 =>
    bnd (lift (pickV (at_ vs_3 2) (Value.bool true) x40)) fun x41 =>
    bnd (lift (faddr 0 (at_ vs_3 3))) fun x43 =>
    bnd (ld1 x43) fun x44 =>
    bnd (bslc 1 1 (rep 1 [Value.int .i64 0]) [(0, 1, x44)]) fun x45 =>
    bnd (appV 1 8 (at_ vs_3 1) x45) fun x46 =>
    ret (.nxt [(at_ vs_3 0), x46, x41, (at_ vs_3 4), (at_ vs_3 5), (at_ vs_3 6)])
def roles_wrong_k1 (vs_4 : List V) : M Out :=
  bnd (lift (bin .add (at_ vs_4 5) (Value.int .i64 1))) fun x47 =>
  ret (.nxt [(at_ vs_4 0), (at_ vs_4 1), (at_ vs_4 2), (at_ vs_4 3), (at_ vs_4 4), x47])
def roles_wrong_k2 (vs_2 : List V) : M Out :=
  bnd (
  bnd (
    bnd (lift (iaddrS 2 (at_ vs_2 3) (at_ vs_2 5))) fun x14 =>
    bnd (ldn 2 x14) fun x15 =>
    bnd (newc [Value.int .i64 0, Value.int .i64 0]) fun x8 =>
    bnd (stn 2 x8 x15) fun _ =>
    bnd (
      bnd (lift (faddr 0 x8)) fun x16 =>
      bnd (ld1 x16) fun x17 =>
      bnd (lift (bin .lss x17 (Value.int .i64 0))) fun x18 =>
      bnd (gd x18 false (lift (faddr 0 x8))) fun x20 =>
      bnd (gd x18 false (ld1 x20)) fun x21 =>
      bnd (gd x18 false (lift (some (at_ vs_2 0)))) fun x22 =>
      bnd (gd x18 false (lift (bin .geq x21 x22))) fun x23 =>
      bnd (lift (pickV x18 (Value.bool true) x23)) fun x24 =>
      bnd (gd x24 false (lift (faddr 1 x8))) fun x26 =>
      bnd (gd x24 false (ld1 x26)) fun x27 =>
      bnd (gd x24 false (lift (bin .lss x27 (Value.int .i64 1)))) fun x28 =>
      bnd (lift (pickV x24 (Value.bool true) x28)) fun x29 =>
      bnd (gd x29 false (lift (faddr 1 x8))) fun x31 =>
      bnd (gd x29 false (ld1 x31)) fun x32 =>
      bnd (gd x29 false (lift (bin .gtr x32 (Value.int .i64 4)))) fun x33 =>
      bnd (lift (pickV x29 (Value.bool true) x33)) fun x34 =>
      condM x34 (
        ret (.ret [(Value.int .i64 1)])
        ) (
        ret (.nxt [(at_ vs_2 0), (at_ vs_2 1), (at_ vs_2 2), x8, (at_ vs_2 3), (at_ vs_2 4), (at_ vs_2 5)])
        )
      ) fun o => nx o roles_wrong_k0
    ) fun o => ret (unblk 1 o)
  ) fun o => nx o roles_wrong_k1
def roles_wrong_l3 (vs : List V) : M Out :=
  bnd (lift (bin .lss (at_ vs 5) (at_ vs 4))) fun x13 =>
  bnd (
  condM x13 (
    ret (.nxt [(at_ vs 0), (at_ vs 1), (at_ vs 2), (at_ vs 3), (at_ vs 4), (at_ vs 5)])
    ) (
    ret (.brk 0 [(at_ vs 2)])
    )
  ) fun o => nx o roles_wrong_k2
def roles_wrong_k4 (vs_6 : List V) : M Out :=
  ret (.ret [(Value.int .i64 0)])
def roles_wrong_k5 (vs_5 : List V) : M Out :=
  bnd (
    condM (at_ vs_5 0) (
      ret (.ret [(Value.int .i64 240)])
      ) (
      ret (.nxt [])
      )
    ) fun o => nx o roles_wrong_k4
def F_roles_wrong (x0 x1 : V) : M V :=
  bnd (
    bnd (boxv x0) fun x2 =>
    bnd (
      bnd (lift (faddr 2 x2)) fun x9 =>
      bnd (ld1 x9) fun x10 =>
      bnd (lift (lenSlc x10)) fun x11 =>
      bnd (
        loopM FUEL roles_wrong_l3 [x1, (Value.slice none 0 0), (Value.bool false), x10, x11, (Value.int .i64 0)]
        ) fun o => ret (unblk 0 o)
      ) fun o => nx o roles_wrong_k5
    ) fun o => finM o fun vs => ret (outV [(at_ vs 0)])
def h_roles_wrong : Hint := (.seq [] .leaf (.seq [] .leaf (.seq [] .leaf (.seq [6] (.seq [] .leaf (.blk (.loop [1, 5, 6, 10, 11, 12] (.seq [] .leaf (.seq [1, 5, 6, 10, 11, 12] (.cond .leaf .leaf) (.seq [1, 5, 6, 10, 11, 12] (.blk (.seq [] .leaf (.seq [1, 5, 6, 8, 10, 11, 12] (.seq [] .leaf (.cond (.seq [] .leaf .leaf) .leaf)) (.seq [] .leaf .leaf)))) .leaf)))))) (.seq [] (.seq [] .leaf (.cond (.seq [] .leaf .leaf) .leaf)) (.seq [] .leaf .leaf))))))
def A_roles_wrong (l : List V) : M V := match l with | [x0, x1] => F_roles_wrong x0 x1 | _ => fail
def s_roles_wrong : Calls' := ovr [(fid_slices_Contains_S_int_int, A_slices_Contains_S_int_int)] noC
theorem e_roles_wrong (x0 x1 : V) : funM Tryz.prog (s_roles_wrong) fid_roles_wrong h_roles_wrong [x0, x1] = F_roles_wrong x0 x1 := by kernel_rfl
theorem K_roles_wrong : Known Tryz.prog fid_roles_wrong (A_roles_wrong) := known_of (σ := s_roles_wrong) (hint := h_roles_wrong) (by kernel_rfl) (simAll_ovr K_slices_Contains_S_int_int simAll_nil0) fun l H r H' h => by
  unfold A_roles_wrong at h; split at h
  · rw [e_roles_wrong]; exact h
  · exact (fail_ne h).elim

/-! ### capstan/roles.Check -/
def roles_Check_k0 (G_strings_IndexRune : List V → M V) (vs_5 : List V) : M Out :=
    bnd (ldn 3 (at_ vs_5 3)) fun x45 =>
    bnd (A_roles_wrong [x45, (at_ vs_5 1)]) fun x47 =>
    bnd (lift (bin .neq x47 (Value.int .i64 0))) fun x49 =>
    condM x49 (
      ret (.ret [(at_ vs_5 2), x47])
      ) (
      ret (.nxt [(at_ vs_5 0), (at_ vs_5 1), (at_ vs_5 4), (at_ vs_5 5), (at_ vs_5 6)])
      )
def roles_Check_k1 (G_strings_IndexRune : List V → M V) (vs_4 : List V) : M Out :=
    bnd (
      bnd (lift (subV 3 (at_ vs_4 0) none (some (at_ vs_4 2)))) fun x36 =>
      bnd (lift (faddr 0 (at_ vs_4 3))) fun x37 =>
      bnd (ld1 x37) fun x38 =>
      bnd (A_roles_Find [x36, x38]) fun x39 =>
      bnd (lift (ext 0 x39)) fun x40 =>
      bnd (lift (ext 1 x39)) fun x41 =>
      bnd (lift (bin .eql x41 (Value.int .i64 0))) fun x43 =>
      condM x43 (
        ret (.ret [(at_ vs_4 2), (Value.int .i64 6)])
        ) (
        ret (.nxt [(at_ vs_4 0), (at_ vs_4 1), (at_ vs_4 2), (at_ vs_4 3), (at_ vs_4 4), (at_ vs_4 5), (at_ vs_4 6)])
        )
      ) fun o => nx o (roles_Check_k0 G_strings_IndexRune)
def roles_Check_k2 (G_strings_IndexRune : List V → M V) (vs_6 : List V) : M Out :=
  bnd (lift (bin .add (at_ vs_6 4) (Value.int .i64 1))) fun x52 =>
  ret (.nxt [(at_ vs_6 0), (at_ vs_6 1), (at_ vs_6 2), (at_ vs_6 3), x52])
def roles_Check_k3 (G_strings_IndexRune : List V → M V) (vs_3 : List V) : M Out :=
  bnd (
  bnd (
    bnd (lift (iaddrS 3 (at_ vs_3 2) (at_ vs_3 4))) fun x27 =>
    bnd (ldn 3 x27) fun x28 =>
    bnd (newc [Value.string ⟨#[]⟩, Value.string ⟨#[]⟩, Value.slice none 0 0]) fun x7 =>
    bnd (stn 3 x7 x28) fun _ =>
    bnd (
      bnd (ldn 3 x7) fun x29 =>
      bnd ((A_roles_formed G_strings_IndexRune) [x29]) fun x30 =>
      bnd (lift (un .not x30)) fun x31 =>
      condM x31 (
        ret (.ret [(at_ vs_3 4), (Value.int .i64 3)])
        ) (
        ret (.nxt [(at_ vs_3 0), (at_ vs_3 1), (at_ vs_3 4), x7, (at_ vs_3 2), (at_ vs_3 3), (at_ vs_3 4)])
        )
      ) fun o => nx o (roles_Check_k1 G_strings_IndexRune)
    ) fun o => ret (unblk 2 o)
  ) fun o => nx o (roles_Check_k2 G_strings_IndexRune)
def roles_Check_l4 (G_strings_IndexRune : List V → M V) (vs_2 : List V) : M Out :=
  bnd (lift (bin .lss (at_ vs_2 4) (at_ vs_2 3))) fun x25 =>
  bnd (
  condM x25 (
    ret (.nxt [(at_ vs_2 0), (at_ vs_2 1), (at_ vs_2 2), (at_ vs_2 3), (at_ vs_2 4)])
    ) (
    ret (.brk 1 [])
    )
  ) fun o => nx o (roles_Check_k3 G_strings_IndexRune)
def roles_Check_k5 (G_strings_IndexRune : List V → M V) (vs_7 : List V) : M Out :=
  ret (.ret [(Value.int .i64 0), (Value.int .i64 0)])
def roles_Check_k6 (G_strings_IndexRune : List V → M V) (vs : List V) : M Out :=
  bnd (
    bnd (lift (lenSlc (at_ vs 0))) fun x23 =>
    bnd (
      loopM FUEL (roles_Check_l4 G_strings_IndexRune) [(at_ vs 0), (at_ vs 1), (at_ vs 0), x23, (Value.int .i64 0)]
      ) fun o => ret (unblk 1 o)
    ) fun o => nx o (roles_Check_k5 G_strings_IndexRune)
def F_roles_Check (G_strings_IndexRune : List V → M V) (x0 x1 : V) : M V :=
  bnd (
    bnd (
      bnd (
        bnd (lift (bin .lss x1 (Value.int .i64 1))) fun x13 =>
        bnd (gd x13 false (lift (some x1))) fun x15 =>
        bnd (gd x13 false (lift (bin .gtr x15 (Value.int .i64 8)))) fun x16 =>
        bnd (lift (pickV x13 (Value.bool true) x16)) fun x17 =>
        condM x17 (
          ret (.ret [(Value.int .i64 (-1)), (Value.int .i64 1)])
          ) (
          bnd (lift (lenSlc x0)) fun x20 =>
          bnd (lift (bin .gtr x20 (Value.int .i64 8))) fun x21 =>
          condM x21 (
            ret (.ret [(Value.int .i64 (-1)), (Value.int .i64 2)])
            ) (
            ret (.nxt [x0, x1])
            )
          )
        ) fun o => ret (unblk 0 o)
      ) fun o => nx o (roles_Check_k6 G_strings_IndexRune)
    ) fun o => finM o fun vs => ret (outV [(at_ vs 0), (at_ vs 1)])
def h_roles_Check : Hint := (.seq [] .leaf (.seq [0, 1] (.blk (.seq [] .leaf (.cond (.seq [] .leaf .leaf) (.seq [] .leaf (.cond (.seq [] .leaf .leaf) .leaf))))) (.seq [] (.seq [] .leaf (.blk (.loop [0, 1, 22, 23, 24] (.seq [] .leaf (.seq [0, 1, 22, 23, 24] (.cond .leaf .leaf) (.seq [0, 1, 22, 23, 24] (.blk (.seq [] .leaf (.seq [0, 1, 6, 7, 22, 23, 24] (.seq [] .leaf (.cond (.seq [] .leaf .leaf) .leaf)) (.seq [0, 1, 6, 7, 22, 23, 24] (.seq [] (.reg [0, 1, 2, 3, 4, 5, 6, 7, 8, 9, 10] []) (.seq [] .leaf (.cond (.seq [] .leaf .leaf) .leaf))) (.seq [] .leaf (.seq [] .leaf (.cond (.seq [] .leaf .leaf) .leaf))))))) .leaf)))))) (.seq [] .leaf .leaf))))
def A_roles_Check (G_strings_IndexRune : List V → M V) (l : List V) : M V := match l with | [x0, x1] => F_roles_Check G_strings_IndexRune x0 x1 | _ => fail
theorem e_roles_Check (G_strings_IndexRune : List V → M V) (x0 x1 : V) : funM Tryz.prog (ovr [(fid_roles_formed, A_roles_formed G_strings_IndexRune), (fid_roles_Find, A_roles_Find), (fid_roles_wrong, A_roles_wrong)] noC) fid_roles_Check h_roles_Check [x0, x1] = F_roles_Check G_strings_IndexRune x0 x1 := by kernel_rfl
theorem K_roles_Check {G_strings_IndexRune : List V → M V} (k_strings_IndexRune : Known Tryz.prog fid_strings_IndexRune G_strings_IndexRune) : Known Tryz.prog fid_roles_Check (A_roles_Check G_strings_IndexRune) := known_of (σ := ovr [(fid_roles_formed, A_roles_formed G_strings_IndexRune), (fid_roles_Find, A_roles_Find), (fid_roles_wrong, A_roles_wrong)] noC) (hint := h_roles_Check) (by kernel_rfl) (simAll_ovr (K_roles_formed k_strings_IndexRune) (simAll_ovr K_roles_Find (simAll_ovr K_roles_wrong simAll_nil0))) fun l H r H' h => by
  unfold A_roles_Check at h; split at h
  · rw [e_roles_Check]; exact h
  · exact (fail_ne h).elim

/-! ### slices.Clone[[]capstan/api.User,capstan/api.User] -/
def slices_Clone_S_api_User_api_User_k0 (vs : List V) : M Out :=
  bnd (bslc 3 0 (rep 0 [Value.string ⟨#[]⟩, Value.string ⟨#[]⟩, Value.slice none 0 0]) []) fun x5 =>
  bnd (appV 3 56 x5 (at_ vs 0)) fun x7 =>
  ret (.ret [x7])
def F_slices_Clone_S_api_User_api_User (x0 : V) : M V :=
  bnd (
    bnd (
      bnd (lift (notIf false (isNil .s x0))) fun x4 =>
      condM x4 (
        ret (.ret [(Value.slice none 0 0)])
        ) (
        ret (.nxt [x0])
        )
      ) fun o => nx o slices_Clone_S_api_User_api_User_k0
    ) fun o => finM o fun vs => ret (outV [(at_ vs 0)])
def h_slices_Clone_S_api_User_api_User : Hint := (.seq [] .leaf (.seq [0] (.seq [] .leaf (.cond (.seq [] .leaf .leaf) .leaf)) (.seq [] .leaf .leaf)))
def A_slices_Clone_S_api_User_api_User (l : List V) : M V := match l with | [x0] => F_slices_Clone_S_api_User_api_User x0 | _ => fail
theorem e_slices_Clone_S_api_User_api_User (x0 : V) : funM Tryz.prog (ovr [] noC) fid_slices_Clone_S_api_User_api_User h_slices_Clone_S_api_User_api_User [x0] = F_slices_Clone_S_api_User_api_User x0 := by kernel_rfl
theorem K_slices_Clone_S_api_User_api_User : Known Tryz.prog fid_slices_Clone_S_api_User_api_User (A_slices_Clone_S_api_User_api_User) := known_of (σ := ovr [] noC) (hint := h_slices_Clone_S_api_User_api_User) (by kernel_rfl) simAll_nil0 fun l H r H' h => by
  unfold A_slices_Clone_S_api_User_api_User at h; split at h
  · rw [e_slices_Clone_S_api_User_api_User]; exact h
  · exact (fail_ne h).elim

/-! ### capstan/sess.New -/
def sess_New_k0 (G_strings_IndexRune : List V → M V) (vs_2 : List V) : M Out :=
  bnd (A_slices_Clone_S_api_User_api_User [(at_ vs_2 0)]) fun x26 =>
  bnd (lift (build [Value.slice none 0 0, Value.int .i64 0, Value.int .i64 0, Value.int .i64 0, Value.slice none 0 0, Value.slice none 0 0, Value.int .i64 0, Value.slice none 0 0, Value.slice none 0 0] [(0, 1, x26), (1, 1, (at_ vs_2 1))])) fun x28 =>
  bnd (boxv x28) fun x29 =>
  ret (.ret [x29, (Value.int .i64 0)])
def sess_New_k1 (G_strings_IndexRune : List V → M V) (vs : List V) : M Out :=
  bnd (
    bnd (lift (bin .lss (at_ vs 1) (Value.int .i64 1))) fun x20 =>
    bnd (gd x20 false (lift (some (at_ vs 1)))) fun x22 =>
    bnd (gd x20 false (lift (bin .gtr x22 (Value.int .i64 100000)))) fun x23 =>
    bnd (lift (pickV x20 (Value.bool true) x23)) fun x24 =>
    condM x24 (
      ret (.ret [(Value.pointer none), (Value.int .i64 1)])
      ) (
      ret (.nxt [(at_ vs 0), (at_ vs 1)])
      )
    ) fun o => nx o (sess_New_k0 G_strings_IndexRune)
def F_sess_New (G_strings_IndexRune : List V → M V) (x0 x1 x2 : V) : M V :=
  bnd (
    bnd (
      bnd ((A_roles_Check G_strings_IndexRune) [x0, x1]) fun x13 =>
      bnd (lift (ext 0 x13)) fun x14 =>
      bnd (lift (ext 1 x13)) fun x15 =>
      bnd (lift (bin .neq x15 (Value.int .i64 0))) fun x17 =>
      condM x17 (
        ret (.ret [(Value.pointer none), x15])
        ) (
        ret (.nxt [x0, x2])
        )
      ) fun o => nx o (sess_New_k1 G_strings_IndexRune)
    ) fun o => finM o fun vs => ret (outV [(at_ vs 0), (at_ vs 1)])
def h_sess_New : Hint := (.seq [] .leaf (.seq [0, 2] (.seq [] .leaf (.seq [] .leaf (.cond (.seq [] .leaf .leaf) .leaf))) (.seq [0, 2] (.seq [] .leaf (.cond (.seq [] .leaf .leaf) .leaf)) (.seq [] .leaf .leaf))))
def A_sess_New (G_strings_IndexRune : List V → M V) (l : List V) : M V := match l with | [x0, x1, x2] => F_sess_New G_strings_IndexRune x0 x1 x2 | _ => fail
theorem e_sess_New (G_strings_IndexRune : List V → M V) (x0 x1 x2 : V) : funM Tryz.prog (ovr [(fid_roles_Check, A_roles_Check G_strings_IndexRune), (fid_slices_Clone_S_api_User_api_User, A_slices_Clone_S_api_User_api_User)] noC) fid_sess_New h_sess_New [x0, x1, x2] = F_sess_New G_strings_IndexRune x0 x1 x2 := by kernel_rfl
theorem K_sess_New {G_strings_IndexRune : List V → M V} (k_strings_IndexRune : Known Tryz.prog fid_strings_IndexRune G_strings_IndexRune) : Known Tryz.prog fid_sess_New (A_sess_New G_strings_IndexRune) := known_of (σ := ovr [(fid_roles_Check, A_roles_Check G_strings_IndexRune), (fid_slices_Clone_S_api_User_api_User, A_slices_Clone_S_api_User_api_User)] noC) (hint := h_sess_New) (by kernel_rfl) (simAll_ovr (K_roles_Check k_strings_IndexRune) (simAll_ovr K_slices_Clone_S_api_User_api_User simAll_nil0)) fun l H r H' h => by
  unfold A_sess_New at h; split at h
  · rw [e_sess_New]; exact h
  · exact (fail_ne h).elim

/-! ### (*capstan/sess.shelf[capstan/sess.challenge]).put -/
def sess_shelf_sess_challenge_put_k0 (vs : List V) : M Out :=
  bnd (lift (nilck (at_ vs 0))) fun x13 =>
  bnd (lift (faddr 0 x13)) fun x14 =>
  bnd (ld1 x14) fun x15 =>
  bnd (lift (bin .add x15 (Value.int .i64 1))) fun x16 =>
  bnd (lift (nilck (at_ vs 0))) fun x17 =>
  bnd (lift (faddr 0 x17)) fun x18 =>
  bnd (st1 x18 x16) fun _ =>
  withResv 2 fun base h0 =>
  bnd (lift (nilck (at_ vs 0))) fun x22 =>
  bnd (lift (faddr 1 x22)) fun x23 =>
  bnd (lift (nilck (at_ vs 0))) fun x26 =>
  bnd (lift (faddr 0 x26)) fun x27 =>
  bnd (lift (nilck (at_ vs 0))) fun x32 =>
  bnd (lift (faddr 2 x32)) fun x33 =>
  bnd (ld1 x23) fun x24 =>
  bnd (ld1 x27) fun x28 =>
  bnd (ld1 x33) fun x34 =>
  bnd (ldn 5 (at_ vs 1)) fun x35 =>
  bnd (flt (base + 0) (bslc 1 1 (rep 1 [Value.int .i64 0]) [(0, 1, x28)])) fun x29 =>
  bndH (appV 1 8 x24 x29) fun ha x30 h1 =>
  need (freeIn ha [base + 1] && freeIn h1 [base + 1]) <|
  bnd (flt (base + 1) (bslc 5 1 (rep 1 [Value.string ⟨#[]⟩, Value.string ⟨#[]⟩, Value.slice none 0 0, Value.string ⟨#[]⟩, Value.int .i64 0]) [(0, 5, x35)])) fun x36 =>
  bndH (appV 5 80 x34 x36) fun ha_2 x37 h2 =>
  bnd (lift (nilck (at_ vs 0))) fun x38 =>
  bnd (lift (faddr 1 x38)) fun x39 =>
  bndH (st1 x39 x30) fun ha_3 u h3 =>
  bnd (lift (nilck (at_ vs 0))) fun x40 =>
  bnd (lift (faddr 2 x40)) fun x41 =>
  bndH (st1 x41 x37) fun ha_4 u_2 h4 =>
  need (chk (ld1 x33) h1 x34) <|
  need (chk (ldn 5 (at_ vs 1)) h1 x35) <|
  bnd (lift (nilck (at_ vs 0))) fun x43 =>
  bnd (lift (faddr 0 x43)) fun x44 =>
  bnd (ld1 x44) fun x45 =>
  ret (.ret [x45, (Value.bool true)])
def F_sess_shelf_sess_challenge_put (x0 x1 : V) : M V :=
  bnd (
    bnd (boxv x1) fun x3 =>
    bnd (
      bnd (lift (nilck x0)) fun x7 =>
      bnd (lift (faddr 2 x7)) fun x8 =>
      bnd (ld1 x8) fun x9 =>
      bnd (lift (lenSlc x9)) fun x10 =>
      bnd (lift (bin .eql x10 (Value.int .i64 8))) fun x11 =>
      condM x11 (
        ret (.ret [(Value.int .i64 0), (Value.bool false)])
        ) (
        ret (.nxt [x0, x3])
        )
      ) fun o => nx o sess_shelf_sess_challenge_put_k0
    ) fun o => finM o fun vs => ret (outV [(at_ vs 0), (at_ vs 1)])
def h_sess_shelf_sess_challenge_put : Hint := (.seq [] .leaf (.seq [0, 3] (.seq [] .leaf (.cond (.seq [] .leaf .leaf) .leaf)) (.seq [] .leaf (.seq [] (.reg [0, 1, 2, 3, 4, 6, 7, 8, 12, 13, 14, 5, 9, 15, 16, 10, 11, 17, 18, 19, 20, 21, 22, 23, 24] [10, 17]) (.seq [] .leaf .leaf)))))
def A_sess_shelf_sess_challenge_put (l : List V) : M V := match l with | [x0, x1] => F_sess_shelf_sess_challenge_put x0 x1 | _ => fail
theorem e_sess_shelf_sess_challenge_put (x0 x1 : V) : funM Tryz.prog (ovr [] noC) fid_sess_shelf_sess_challenge_put h_sess_shelf_sess_challenge_put [x0, x1] = F_sess_shelf_sess_challenge_put x0 x1 := by kernel_rfl
theorem K_sess_shelf_sess_challenge_put : Known Tryz.prog fid_sess_shelf_sess_challenge_put (A_sess_shelf_sess_challenge_put) := known_of (σ := ovr [] noC) (hint := h_sess_shelf_sess_challenge_put) (by kernel_rfl) simAll_nil0 fun l H r H' h => by
  unfold A_sess_shelf_sess_challenge_put at h; split at h
  · rw [e_sess_shelf_sess_challenge_put]; exact h
  · exact (fail_ne h).elim

/-! ### (*capstan/sess.Desk).Hello -/
def sess_Desk_Hello_k0 (vs_2 : List V) : M Out :=
  ret (.ret [(at_ vs_2 0), (Value.int .i64 0)])
def sess_Desk_Hello_k1 (vs : List V) : M Out :=
  bnd (lift (nilck (at_ vs 0))) fun x31 =>
  bnd (lift (faddr 3 x31)) fun x32 =>
  bnd (lift (nilck (at_ vs 0))) fun x34 =>
  bnd (lift (faddr 0 x34)) fun x35 =>
  bnd (lift (nilck (at_ vs 0))) fun x42 =>
  bnd (lift (faddr 2 x42)) fun x43 =>
  bnd (ld1 x35) fun x36 =>
  bnd (lift (iaddrS 3 x36 (at_ vs 2))) fun x38 =>
  bnd (ldn 3 x38) fun x39 =>
  bnd (ld1 x43) fun x44 =>
  bnd (lift (build [Value.string ⟨#[]⟩, Value.string ⟨#[]⟩, Value.slice none 0 0, Value.string ⟨#[]⟩, Value.int .i64 0] [(0, 3, x39), (3, 1, (at_ vs 1)), (4, 1, x44)])) fun x45 =>
  bnd (A_sess_shelf_sess_challenge_put [x32, x45]) fun x46 =>
  bnd (lift (ext 0 x46)) fun x47 =>
  bnd (lift (ext 1 x46)) fun x48 =>
  bnd (
    bnd (lift (un .not x48)) fun x50 =>
    condM x50 (
      ret (.ret [(Value.int .i64 0), (Value.int .i64 2)])
      ) (
      ret (.nxt [x47])
      )
    ) fun o => nx o sess_Desk_Hello_k0
def F_sess_Desk_Hello (x0 x1 x2 : V) : M V :=
  bnd (
    bnd (lift (nilck x0)) fun x14 =>
    bnd (lift (faddr 0 x14)) fun x15 =>
    bnd (ld1 x15) fun x16 =>
    bnd (A_roles_Find [x16, x1]) fun x18 =>
    bnd (lift (ext 0 x18)) fun x19 =>
    bnd (lift (ext 1 x18)) fun x20 =>
    bnd (
      bnd (
        bnd (lift (bin .neq x20 (Value.int .i64 0))) fun x23 =>
        condM x23 (
          ret (.ret [(Value.int .i64 0), x20])
          ) (
          bnd (lift (lenStr x2)) fun x27 =>
          bnd (lift (bin .neq x27 (Value.int .i64 16))) fun x28 =>
          condM x28 (
            ret (.ret [(Value.int .i64 0), (Value.int .i64 4)])
            ) (
            ret (.nxt [x0, x2, x19])
            )
          )
        ) fun o => ret (unblk 0 o)
      ) fun o => nx o sess_Desk_Hello_k1
    ) fun o => finM o fun vs => ret (outV [(at_ vs 0), (at_ vs 1)])
def h_sess_Desk_Hello : Hint := (.seq [] .leaf (.seq [] .leaf (.seq [0, 2, 8] (.blk (.seq [] .leaf (.cond (.seq [] .leaf .leaf) (.seq [] .leaf (.cond (.seq [] .leaf .leaf) .leaf))))) (.seq [] (.reg [0, 1, 2, 3, 4, 5, 7, 10, 11, 12, 13, 6, 8, 9, 14, 15, 16, 17, 18, 19, 20, 21] []) (.seq [10] (.seq [] .leaf (.cond (.seq [] .leaf .leaf) .leaf)) (.seq [] .leaf .leaf))))))
def A_sess_Desk_Hello (l : List V) : M V := match l with | [x0, x1, x2] => F_sess_Desk_Hello x0 x1 x2 | _ => fail
def s_sess_Desk_Hello : Calls' := ovr [(fid_roles_Find, A_roles_Find), (fid_sess_shelf_sess_challenge_put, A_sess_shelf_sess_challenge_put)] noC
theorem e_sess_Desk_Hello (x0 x1 x2 : V) : funM Tryz.prog (s_sess_Desk_Hello) fid_sess_Desk_Hello h_sess_Desk_Hello [x0, x1, x2] = F_sess_Desk_Hello x0 x1 x2 := by kernel_rfl
theorem K_sess_Desk_Hello : Known Tryz.prog fid_sess_Desk_Hello (A_sess_Desk_Hello) := known_of (σ := s_sess_Desk_Hello) (hint := h_sess_Desk_Hello) (by kernel_rfl) (simAll_ovr K_roles_Find (simAll_ovr K_sess_shelf_sess_challenge_put simAll_nil0)) fun l H r H' h => by
  unfold A_sess_Desk_Hello at h; split at h
  · rw [e_sess_Desk_Hello]; exact h
  · exact (fail_ne h).elim

/-! ### capstan/sess.eight -/
def sess_eight_k0 (vs_3 : List V) : M Out :=
  bnd (lift (bin .sub (at_ vs_3 2) (Value.int .i64 8))) fun x8 =>
  ret (.nxt [(at_ vs_3 0), (at_ vs_3 1), x8])
def sess_eight_k1 (vs_2 : List V) : M Out :=
  bnd (
  bnd (
    bnd (lift (cvi .u64 (at_ vs_2 0))) fun x11 =>
    bnd (lift (bin .shr x11 (at_ vs_2 2))) fun x13 =>
    bnd (lift (cvi .u8 x13)) fun x14 =>
    bnd (bslc 1 1 (rep 1 [Value.int .u8 0]) [(0, 1, x14)]) fun x15 =>
    bnd (appV 1 1 (at_ vs_2 1) x15) fun x16 =>
    ret (.nxt [(at_ vs_2 0), x16, (at_ vs_2 2)])
    ) fun o => ret (unblk 1 o)
  ) fun o => nx o sess_eight_k0
def sess_eight_l2 (vs : List V) : M Out :=
  bnd (
  bnd (lift (bin .geq (at_ vs 2) (Value.int .i64 0))) fun x6 =>
  condM x6 (
    ret (.nxt [(at_ vs 0), (at_ vs 1), (at_ vs 2)])
    ) (
    ret (.brk 0 [(at_ vs 1)])
    )
  ) fun o => nx o sess_eight_k1
def sess_eight_k3 (vs_4 : List V) : M Out :=
  bnd (b2s (at_ vs_4 0)) fun x18 =>
  ret (.ret [x18])
def F_sess_eight (x0 : V) : M V :=
  bnd (
    bnd (
      bnd (
        loopM FUEL sess_eight_l2 [x0, (Value.slice none 0 0), (Value.int .i64 56)]
        ) fun o => ret (unblk 0 o)
      ) fun o => nx o sess_eight_k3
    ) fun o => finM o fun vs => ret (outV [(at_ vs 0)])
def h_sess_eight : Hint := (.seq [] .leaf (.seq [] .leaf (.seq [3] (.seq [] .leaf (.blk (.loop [0, 3, 4] (.seq [0, 3, 4] (.seq [] .leaf (.cond .leaf .leaf)) (.seq [0, 3, 4] (.blk .leaf) .leaf))))) (.seq [] .leaf .leaf))))
def A_sess_eight (l : List V) : M V := match l with | [x0] => F_sess_eight x0 | _ => fail
theorem e_sess_eight (x0 : V) : funM Tryz.prog (ovr [] noC) fid_sess_eight h_sess_eight [x0] = F_sess_eight x0 := by kernel_rfl
theorem K_sess_eight : Known Tryz.prog fid_sess_eight (A_sess_eight) := known_of (σ := ovr [] noC) (hint := h_sess_eight) (by kernel_rfl) simAll_nil0 fun l H r H' h => by
  unfold A_sess_eight at h; split at h
  · rw [e_sess_eight]; exact h
  · exact (fail_ne h).elim

/-! ### capstan/sha.New -/
def F_sha_New : M V :=
  bnd (
    bnd (ldn 8 (ptr gid_sha_first 0)) fun x1 =>
    bnd (lift (build [Value.int .u32 0, Value.int .u32 0, Value.int .u32 0, Value.int .u32 0, Value.int .u32 0, Value.int .u32 0, Value.int .u32 0, Value.int .u32 0, Value.slice none 0 0, Value.int .i64 0] [(0, 8, x1)])) fun x2 =>
    bnd (boxv x2) fun x3 =>
    ret (.ret [x3])
    ) fun o => finM o fun vs => ret (outV [(at_ vs 0)])
def h_sha_New : Hint := (.seq [] .leaf (.seq [] .leaf .leaf))
def A_sha_New (l : List V) : M V := match l with | [] => F_sha_New  | _ => fail
theorem e_sha_New : funM Tryz.prog (ovr [] noC) fid_sha_New h_sha_New [] = F_sha_New  := by kernel_rfl
theorem K_sha_New : Known Tryz.prog fid_sha_New (A_sha_New) := known_of (σ := ovr [] noC) (hint := h_sha_New) (by kernel_rfl) simAll_nil0 fun l H r H' h => by
  unfold A_sha_New at h; split at h
  · rw [e_sha_New]; exact h
  · exact (fail_ne h).elim

/-! ### capstan/sha.rotr -/
def F_sha_rotr (x0 x1 : V) : M V :=
  bnd (
    bnd (lift (bin .shr x0 x1)) fun x7 =>
    bnd (lift (bin .sub (Value.int .i64 32) x1)) fun x10 =>
    bnd (lift (bin .shl x0 x10)) fun x11 =>
    bnd (lift (bin .or x7 x11)) fun x12 =>
    ret (.ret [x12])
    ) fun o => finM o fun vs => ret (outV [(at_ vs 0)])
def h_sha_rotr : Hint := (.seq [] .leaf (.seq [] (.reg [0, 1, 2, 3, 4, 5, 6, 7, 8] []) .leaf))
def A_sha_rotr (l : List V) : M V := match l with | [x0, x1] => F_sha_rotr x0 x1 | _ => fail
theorem e_sha_rotr (x0 x1 : V) : funM Tryz.prog (ovr [] noC) fid_sha_rotr h_sha_rotr [x0, x1] = F_sha_rotr x0 x1 := by kernel_rfl
theorem K_sha_rotr : Known Tryz.prog fid_sha_rotr (A_sha_rotr) := known_of (σ := ovr [] noC) (hint := h_sha_rotr) (by kernel_rfl) simAll_nil0 fun l H r H' h => by
  unfold A_sha_rotr at h; split at h
  · rw [e_sha_rotr]; exact h
  · exact (fail_ne h).elim

/-! ### (*capstan/sha.state).take -/
def sha_state_take_k0 (vs_3 : List V) : M Out :=
  bnd (lift (bin .add (at_ vs_3 3) (Value.int .i64 1))) fun x54 =>
  ret (.nxt [(at_ vs_3 0), (at_ vs_3 1), (at_ vs_3 2), x54])
def sha_state_take_k1 (vs_2 : List V) : M Out :=
  bnd (
  bnd (
    bnd (lift (bin .mul (Value.int .i64 4) (at_ vs_2 3))) fun x22 =>
    bnd (lift (iaddrS 1 (at_ vs_2 1) x22)) fun x23 =>
    bnd (lift (bin .mul (Value.int .i64 4) (at_ vs_2 3))) fun x29 =>
    bnd (lift (bin .add x29 (Value.int .i64 1))) fun x30 =>
    bnd (lift (iaddrS 1 (at_ vs_2 1) x30)) fun x31 =>
    bnd (lift (bin .mul (Value.int .i64 4) (at_ vs_2 3))) fun x38 =>
    bnd (lift (bin .add x38 (Value.int .i64 2))) fun x39 =>
    bnd (lift (iaddrS 1 (at_ vs_2 1) x39)) fun x40 =>
    bnd (lift (bin .mul (Value.int .i64 4) (at_ vs_2 3))) fun x47 =>
    bnd (lift (bin .add x47 (Value.int .i64 3))) fun x48 =>
    bnd (lift (iaddrS 1 (at_ vs_2 1) x48)) fun x49 =>
    bnd (ld1 x23) fun x24 =>
    bnd (lift (cvi .u32 x24)) fun x25 =>
    bnd (lift (bin .shl x25 (Value.int .u64 24))) fun x26 =>
    bnd (ld1 x31) fun x32 =>
    bnd (lift (cvi .u32 x32)) fun x33 =>
    bnd (lift (bin .shl x33 (Value.int .u64 16))) fun x34 =>
    bnd (lift (bin .or x26 x34)) fun x35 =>
    bnd (ld1 x40) fun x41 =>
    bnd (lift (cvi .u32 x41)) fun x42 =>
    bnd (lift (bin .shl x42 (Value.int .u64 8))) fun x43 =>
    bnd (lift (bin .or x35 x43)) fun x44 =>
    bnd (ld1 x49) fun x50 =>
    bnd (lift (cvi .u32 x50)) fun x51 =>
    bnd (lift (bin .or x44 x51)) fun x52 =>
    bnd (lift (iaddrA 64 1 (at_ vs_2 2) (at_ vs_2 3))) fun x53 =>
    bnd (st1 x53 x52) fun _ =>
    ret (.nxt [(at_ vs_2 0), (at_ vs_2 1), (at_ vs_2 2), (at_ vs_2 3)])
    ) fun o => ret (unblk 1 o)
  ) fun o => nx o sha_state_take_k0
def sha_state_take_l2 (vs : List V) : M Out :=
  bnd (lift (bin .lss (at_ vs 3) (Value.int .i64 16))) fun x17 =>
  bnd (
  condM x17 (
    ret (.nxt [(at_ vs 0), (at_ vs 1), (at_ vs 2), (at_ vs 3)])
    ) (
    ret (.brk 0 [(at_ vs 0), (at_ vs 2)])
    )
  ) fun o => nx o sha_state_take_k1
def sha_state_take_k3 (vs_7 : List V) : M Out :=
  bnd (lift (bin .add (at_ vs_7 2) (Value.int .i64 1))) fun x58 =>
  ret (.nxt [(at_ vs_7 0), (at_ vs_7 1), x58])
def sha_state_take_k4 (vs_6 : List V) : M Out :=
  bnd (
  bnd (
    bnd (lift (bin .sub (at_ vs_6 2) (Value.int .i64 15))) fun x60 =>
    bnd (lift (iaddrA 64 1 (at_ vs_6 1) x60)) fun x61 =>
    bnd (lift (bin .sub (at_ vs_6 2) (Value.int .i64 2))) fun x64 =>
    bnd (lift (iaddrA 64 1 (at_ vs_6 1) x64)) fun x65 =>
    bnd (ld1 x61) fun x62 =>
    bnd (ld1 x65) fun x66 =>
    withH fun h0 =>
    bnd (lift (bin .sub (at_ vs_6 2) (Value.int .i64 16))) fun x69 =>
    bnd (lift (iaddrA 64 1 (at_ vs_6 1) x69)) fun x70 =>
    bnd (lift (bin .shr x62 (Value.int .u64 3))) fun x78 =>
    bnd (lift (bin .sub (at_ vs_6 2) (Value.int .i64 7))) fun x82 =>
    bnd (lift (iaddrA 64 1 (at_ vs_6 1) x82)) fun x83 =>
    bnd (lift (bin .shr x66 (Value.int .u64 10))) fun x92 =>
    bnd (ld1 x70) fun x71 =>
    bnd (ld1 x83) fun x84 =>
    bndH (A_sha_rotr [x62, (Value.int .i64 7)]) fun ha x73 h1 =>
    bndH (A_sha_rotr [x62, (Value.int .i64 18)]) fun ha_2 x75 h2 =>
    bnd (lift (bin .xor x73 x75)) fun x76 =>
    bnd (lift (bin .xor x76 x78)) fun x79 =>
    bnd (lift (bin .add x71 x79)) fun x80 =>
    bnd (lift (bin .add x80 x84)) fun x85 =>
    bndH (A_sha_rotr [x66, (Value.int .i64 17)]) fun ha_3 x87 h3 =>
    bndH (A_sha_rotr [x66, (Value.int .i64 19)]) fun ha_4 x89 h4 =>
    bnd (lift (bin .xor x87 x89)) fun x90 =>
    bnd (lift (bin .xor x90 x92)) fun x93 =>
    bnd (lift (bin .add x85 x93)) fun x94 =>
    bnd (lift (iaddrA 64 1 (at_ vs_6 1) (at_ vs_6 2))) fun x95 =>
    bndH (st1 x95 x94) fun ha_5 u_2 h5 =>
    need (chk (ld1 x70) h1 x71) <|
    need (chk (ld1 x70) h2 x71) <|
    need (chk (ld1 x70) h3 x71) <|
    need (chk (ld1 x70) h4 x71) <|
    need (chk (ld1 x83) h1 x84) <|
    need (chk (ld1 x83) h2 x84) <|
    need (chk (ld1 x83) h3 x84) <|
    need (chk (ld1 x83) h4 x84) <|
    ret (.nxt [(at_ vs_6 0), (at_ vs_6 1), (at_ vs_6 2)])
    ) fun o => ret (unblk 3 o)
  ) fun o => nx o sha_state_take_k3
def sha_state_take_l5 (vs_5 : List V) : M Out :=
  bnd (
  bnd (lift (bin .lss (at_ vs_5 2) (Value.int .i64 64))) fun x56 =>
  condM x56 (
    ret (.nxt [(at_ vs_5 0), (at_ vs_5 1), (at_ vs_5 2)])
    ) (
    ret (.brk 2 [(at_ vs_5 0), (at_ vs_5 1)])
    )
  ) fun o => nx o sha_state_take_k4
def sha_state_take_k6 (vs_11 : List V) : M Out :=
  bnd (lift (bin .add (at_ vs_11 3) (Value.int .i64 1))) fun x178 =>
  ret (.nxt [(at_ vs_11 0), (at_ vs_11 1), (at_ vs_11 2), x178])
def sha_state_take_k7 (vs_10 : List V) : M Out :=
  bnd (
  bnd (
    bnd (lift (iaddrA 8 1 (at_ vs_10 2) (Value.int .i64 0))) fun x102 =>
    bnd (lift (iaddrA 8 1 (at_ vs_10 2) (Value.int .i64 4))) fun x104 =>
    bnd (ld1 x102) fun x103 =>
    bnd (ld1 x104) fun x105 =>
    withH fun h0_2 =>
    bnd (lift (iaddrA 8 1 (at_ vs_10 2) (Value.int .i64 7))) fun x106 =>
    bnd (lift (iaddrA 8 1 (at_ vs_10 2) (Value.int .i64 5))) fun x118 =>
    bnd (lift (un .xor x105)) fun x122 =>
    bnd (lift (iaddrA 8 1 (at_ vs_10 2) (Value.int .i64 6))) fun x123 =>
    bnd (lift (iaddrA 64 1 (ptr gid_sha_rounds 0) (at_ vs_10 3))) fun x129 =>
    bnd (lift (iaddrA 64 1 (at_ vs_10 1) (at_ vs_10 3))) fun x133 =>
    bnd (ld1 x106) fun x107 =>
    bnd (ld1 x118) fun x119 =>
    bnd (lift (bin .and x105 x119)) fun x120 =>
    bnd (ld1 x123) fun x124 =>
    bnd (lift (bin .and x122 x124)) fun x125 =>
    bnd (lift (bin .xor x120 x125)) fun x126 =>
    bnd (ld1 x129) fun x130 =>
    bnd (ld1 x133) fun x134 =>
    bndH (A_sha_rotr [x105, (Value.int .i64 6)]) fun ha_6 x109 h1_2 =>
    bndH (A_sha_rotr [x105, (Value.int .i64 11)]) fun ha_7 x111 h2_2 =>
    bnd (lift (bin .xor x109 x111)) fun x112 =>
    bndH (A_sha_rotr [x105, (Value.int .i64 25)]) fun ha_8 x114 h3_2 =>
    bnd (lift (bin .xor x112 x114)) fun x115 =>
    bnd (lift (bin .add x107 x115)) fun x116 =>
    bnd (lift (bin .add x116 x126)) fun x127 =>
    bnd (lift (bin .add x127 x130)) fun x131 =>
    bnd (lift (bin .add x131 x134)) fun x135 =>
    need (chk (ld1 x106) h1_2 x107) <|
    need (chk (ld1 x106) h2_2 x107) <|
    need (chk (ld1 x106) h3_2 x107) <|
    need (chk (ld1 x118) h1_2 x119) <|
    need (chk (ld1 x118) h2_2 x119) <|
    need (chk (ld1 x118) h3_2 x119) <|
    need (chk (ld1 x123) h1_2 x124) <|
    need (chk (ld1 x123) h2_2 x124) <|
    need (chk (ld1 x123) h3_2 x124) <|
    need (chk (ld1 x129) h1_2 x130) <|
    need (chk (ld1 x129) h2_2 x130) <|
    need (chk (ld1 x129) h3_2 x130) <|
    need (chk (ld1 x133) h1_2 x134) <|
    need (chk (ld1 x133) h2_2 x134) <|
    need (chk (ld1 x133) h3_2 x134) <|
    withH fun h0_3 =>
    bnd (lift (iaddrA 8 1 (at_ vs_10 2) (Value.int .i64 1))) fun x145 =>
    bnd (lift (iaddrA 8 1 (at_ vs_10 2) (Value.int .i64 2))) fun x149 =>
    bnd (lift (iaddrA 8 1 (at_ vs_10 2) (Value.int .i64 1))) fun x153 =>
    bnd (lift (iaddrA 8 1 (at_ vs_10 2) (Value.int .i64 2))) fun x155 =>
    bnd (ld1 x145) fun x146 =>
    bnd (lift (bin .and x103 x146)) fun x147 =>
    bnd (ld1 x149) fun x150 =>
    bnd (lift (bin .and x103 x150)) fun x151 =>
    bnd (lift (bin .xor x147 x151)) fun x152 =>
    bnd (ld1 x153) fun x154 =>
    bnd (ld1 x155) fun x156 =>
    bnd (lift (bin .and x154 x156)) fun x157 =>
    bnd (lift (bin .xor x152 x157)) fun x158 =>
    bndH (A_sha_rotr [x103, (Value.int .i64 2)]) fun ha_9 x137 h1_3 =>
    bndH (A_sha_rotr [x103, (Value.int .i64 13)]) fun ha_10 x139 h2_3 =>
    bnd (lift (bin .xor x137 x139)) fun x140 =>
    bndH (A_sha_rotr [x103, (Value.int .i64 22)]) fun ha_11 x142 h3_3 =>
    bnd (lift (bin .xor x140 x142)) fun x143 =>
    bnd (lift (bin .add x143 x158)) fun x159 =>
    need (chk (ld1 x145) h1_3 x146) <|
    need (chk (ld1 x145) h2_3 x146) <|
    need (chk (ld1 x145) h3_3 x146) <|
    need (chk (ld1 x149) h1_3 x150) <|
    need (chk (ld1 x149) h2_3 x150) <|
    need (chk (ld1 x149) h3_3 x150) <|
    need (chk (ld1 x153) h1_3 x154) <|
    need (chk (ld1 x153) h2_3 x154) <|
    need (chk (ld1 x153) h3_3 x154) <|
    need (chk (ld1 x155) h1_3 x156) <|
    need (chk (ld1 x155) h2_3 x156) <|
    need (chk (ld1 x155) h3_3 x156) <|
    bnd (lift (bin .add x135 x159)) fun x162 =>
    bnd (lift (iaddrA 8 1 (at_ vs_10 2) (Value.int .i64 1))) fun x164 =>
    bnd (ld1 x164) fun x165 =>
    bnd (lift (iaddrA 8 1 (at_ vs_10 2) (Value.int .i64 2))) fun x166 =>
    bnd (ld1 x166) fun x167 =>
    bnd (lift (iaddrA 8 1 (at_ vs_10 2) (Value.int .i64 3))) fun x168 =>
    bnd (ld1 x168) fun x169 =>
    bnd (lift (bin .add x169 x135)) fun x171 =>
    bnd (lift (iaddrA 8 1 (at_ vs_10 2) (Value.int .i64 5))) fun x173 =>
    bnd (ld1 x173) fun x174 =>
    bnd (lift (iaddrA 8 1 (at_ vs_10 2) (Value.int .i64 6))) fun x175 =>
    bnd (ld1 x175) fun x176 =>
    bnd (lift (build [Value.int .u32 0, Value.int .u32 0, Value.int .u32 0, Value.int .u32 0, Value.int .u32 0, Value.int .u32 0, Value.int .u32 0, Value.int .u32 0] [(0, 1, x162), (1, 1, x103), (2, 1, x165), (3, 1, x167), (4, 1, x171), (5, 1, x105), (6, 1, x174), (7, 1, x176)])) fun x177 =>
    bnd (stn 8 (at_ vs_10 2) x177) fun _ =>
    ret (.nxt [(at_ vs_10 0), (at_ vs_10 1), (at_ vs_10 2), (at_ vs_10 3)])
    ) fun o => ret (unblk 5 o)
  ) fun o => nx o sha_state_take_k6
def sha_state_take_l8 (vs_9 : List V) : M Out :=
  bnd (lift (bin .lss (at_ vs_9 3) (Value.int .i64 64))) fun x100 =>
  bnd (
  condM x100 (
    ret (.nxt [(at_ vs_9 0), (at_ vs_9 1), (at_ vs_9 2), (at_ vs_9 3)])
    ) (
    ret (.brk 4 [(at_ vs_9 0), (at_ vs_9 2)])
    )
  ) fun o => nx o sha_state_take_k7
def sha_state_take_k9 (vs_15 : List V) : M Out :=
  bnd (lift (bin .add (at_ vs_15 2) (Value.int .i64 1))) fun x193 =>
  ret (.nxt [(at_ vs_15 0), (at_ vs_15 1), x193])
def sha_state_take_k10 (vs_14 : List V) : M Out :=
  bnd (
  bnd (
    bnd (lift (nilck (at_ vs_14 0))) fun x184 =>
    bnd (lift (iaddrA 8 1 x184 (at_ vs_14 2))) fun x185 =>
    bnd (lift (iaddrA 8 1 (at_ vs_14 1) (at_ vs_14 2))) fun x188 =>
    bnd (lift (nilck (at_ vs_14 0))) fun x191 =>
    bnd (ld1 x185) fun x186 =>
    bnd (ld1 x188) fun x189 =>
    bnd (lift (bin .add x186 x189)) fun x190 =>
    bnd (lift (iaddrA 8 1 x191 (at_ vs_14 2))) fun x192 =>
    bnd (st1 x192 x190) fun _ =>
    ret (.nxt [(at_ vs_14 0), (at_ vs_14 1), (at_ vs_14 2)])
    ) fun o => ret (unblk 7 o)
  ) fun o => nx o sha_state_take_k9
def sha_state_take_l11 (vs_13 : List V) : M Out :=
  bnd (lift (bin .lss (at_ vs_13 2) (Value.int .i64 8))) fun x180 =>
  bnd (
  condM x180 (
    ret (.nxt [(at_ vs_13 0), (at_ vs_13 1), (at_ vs_13 2)])
    ) (
    ret (.brk 6 [])
    )
  ) fun o => nx o sha_state_take_k10
def sha_state_take_k12 (vs_12 : List V) : M Out :=
  bnd (
    loopM FUEL sha_state_take_l11 [(at_ vs_12 0), (at_ vs_12 1), (Value.int .i64 0)]
    ) fun o => ret (unblk 6 o)
def sha_state_take_k13 (vs_8 : List V) : M Out :=
  bnd (lift (nilck (at_ vs_8 0))) fun x97 =>
  bnd (ldn 8 x97) fun x98 =>
  bnd (newc [Value.int .u32 0, Value.int .u32 0, Value.int .u32 0, Value.int .u32 0, Value.int .u32 0, Value.int .u32 0, Value.int .u32 0, Value.int .u32 0]) fun x9 =>
  bnd (stn 8 x9 x98) fun _ =>
  bnd (
    bnd (
      loopM FUEL sha_state_take_l8 [(at_ vs_8 0), (at_ vs_8 1), x9, (Value.int .i64 0)]
      ) fun o => ret (unblk 4 o)
    ) fun o => nx o sha_state_take_k12
def sha_state_take_k14 (vs_4 : List V) : M Out :=
  bnd (
    bnd (
      loopM FUEL sha_state_take_l5 [(at_ vs_4 0), (at_ vs_4 1), (Value.int .i64 16)]
      ) fun o => ret (unblk 2 o)
    ) fun o => nx o sha_state_take_k13
def F_sha_state_take (x0 x1 : V) : M V :=
  bnd (
    bnd (newc (List.replicate 64 (Value.int .u32 0))) fun x4 =>
    bnd (
      bnd (
        loopM FUEL sha_state_take_l2 [x0, x1, x4, (Value.int .i64 0)]
        ) fun o => ret (unblk 0 o)
      ) fun o => nx o sha_state_take_k14
    ) fun o => finM o fun vs => ret (outV [])
def h_sha_state_take : Hint := (.seq [] .leaf (.seq [0, 4] (.seq [] .leaf (.blk (.loop [0, 1, 4, 16] (.seq [] .leaf (.seq [0, 1, 4, 16] (.cond .leaf .leaf) (.seq [0, 1, 4, 16] (.blk (.seq [] .leaf (.reg [0, 1, 2, 3, 4, 8, 9, 10, 11, 12, 17, 18, 19, 20, 21, 26, 27, 28, 29, 30, 5, 6, 7, 13, 14, 15, 16, 22, 23, 24, 25, 31, 32, 33, 34, 35] []))) .leaf)))))) (.seq [0, 4] (.seq [] .leaf (.blk (.loop [0, 4, 6] (.seq [0, 4, 6] (.seq [] .leaf (.cond .leaf .leaf)) (.seq [0, 4, 6] (.blk (.seq [] (.reg [0, 1, 2, 4, 5, 6, 3, 8, 7, 9] []) (.reg [0, 1, 2, 3, 5, 7, 10, 11, 14, 15, 16, 19, 21, 24, 25, 4, 17, 6, 8, 9, 12, 13, 18, 20, 22, 23, 26, 27, 28, 29] []))) .leaf))))) (.seq [] .leaf (.seq [0, 9] (.seq [] .leaf (.blk (.loop [0, 4, 9, 99] (.seq [] .leaf (.seq [0, 4, 9, 99] (.cond .leaf .leaf) (.seq [0, 4, 9, 99] (.blk (.seq [] .leaf (.seq [] (.reg [0, 2, 1, 4, 3, 5] []) (.seq [] (.reg [0, 2, 4, 7, 11, 12, 15, 16, 17, 22, 23, 26, 27, 1, 13, 14, 18, 19, 20, 24, 28, 3, 5, 6, 8, 9, 10, 21, 25, 29, 30] []) (.seq [] (.reg [0, 2, 5, 8, 9, 12, 13, 17, 19, 10, 11, 14, 15, 16, 18, 20, 21, 22, 1, 3, 4, 6, 7, 23, 24] []) .leaf))))) .leaf)))))) (.seq [] .leaf (.blk (.loop [0, 9, 179] (.seq [] .leaf (.seq [0, 9, 179] (.cond .leaf .leaf) (.seq [0, 9, 179] (.blk (.seq [] .leaf (.reg [0, 1, 2, 3, 5, 6, 9, 4, 7, 8, 10, 11] []))) .leaf)))))))))))
def A_sha_state_take (l : List V) : M V := match l with | [x0, x1] => F_sha_state_take x0 x1 | _ => fail
def s_sha_state_take : Calls' := ovr [(fid_sha_rotr, A_sha_rotr)] noC
theorem e_sha_state_take (x0 x1 : V) : funM Tryz.prog (s_sha_state_take) fid_sha_state_take h_sha_state_take [x0, x1] = F_sha_state_take x0 x1 := by kernel_rfl
theorem K_sha_state_take : Known Tryz.prog fid_sha_state_take (A_sha_state_take) := known_of (σ := s_sha_state_take) (hint := h_sha_state_take) (by kernel_rfl) (simAll_ovr K_sha_rotr simAll_nil0) fun l H r H' h => by
  unfold A_sha_state_take at h; split at h
  · rw [e_sha_state_take]; exact h
  · exact (fail_ne h).elim

/-! ### (*capstan/sha.Hash).Write -/
def sha_Hash_Write_k0 (vs_3 : List V) : M Out :=
  bnd (
  bnd (lift (nilck (at_ vs_3 0))) fun x38 =>
  bnd (lift (faddr 0 x38)) fun x39 =>
  bnd (lift (nilck (at_ vs_3 0))) fun x41 =>
  bnd (lift (faddr 8 x41)) fun x42 =>
  bnd (ld1 x42) fun x43 =>
  bnd (lift (subV 1 x43 none (some (Value.int .i64 64)))) fun x44 =>
  bnd (A_sha_state_take [x39, x44]) fun x45 =>
  bnd (lift (nilck (at_ vs_3 0))) fun x48 =>
  bnd (lift (faddr 8 x48)) fun x49 =>
  bnd (ld1 x49) fun x50 =>
  bnd (lift (subV 1 x50 (some (Value.int .i64 64)) none)) fun x51 =>
  bnd (lift (nilck (at_ vs_3 0))) fun x52 =>
  bnd (lift (faddr 8 x52)) fun x53 =>
  bnd (st1 x53 x51) fun _ =>
  ret (.nxt [(at_ vs_3 0)])
  ) fun o => ret (unblk 1 o)
def sha_Hash_Write_l1 (vs_2 : List V) : M Out :=
  bnd (
  bnd (lift (nilck (at_ vs_2 0))) fun x32 =>
  bnd (lift (faddr 8 x32)) fun x33 =>
  bnd (ld1 x33) fun x34 =>
  bnd (lift (lenSlc x34)) fun x35 =>
  bnd (lift (bin .geq x35 (Value.int .i64 64))) fun x36 =>
  condM x36 (
    ret (.nxt [(at_ vs_2 0)])
    ) (
    ret (.brk 0 [])
    )
  ) fun o => nx o sha_Hash_Write_k0
def sha_Hash_Write_k2 (vs_4 : List V) : M Out :=
  ret (.ret [(Value.int .i64 0)])
def sha_Hash_Write_k3 (vs : List V) : M Out :=
  bnd (lift (nilck (at_ vs 0))) fun x14 =>
  bnd (lift (faddr 9 x14)) fun x15 =>
  bnd (ld1 x15) fun x16 =>
  bnd (lift (lenStr (at_ vs 1))) fun x18 =>
  bnd (lift (bin .add x16 x18)) fun x19 =>
  bnd (lift (nilck (at_ vs 0))) fun x20 =>
  bnd (lift (faddr 9 x20)) fun x21 =>
  bnd (st1 x21 x19) fun _ =>
  bnd (lift (nilck (at_ vs 0))) fun x24 =>
  bnd (lift (faddr 8 x24)) fun x25 =>
  bnd (ld1 x25) fun x26 =>
  bnd (appS x26 (at_ vs 1)) fun x28 =>
  bnd (lift (nilck (at_ vs 0))) fun x29 =>
  bnd (lift (faddr 8 x29)) fun x30 =>
  bnd (st1 x30 x28) fun _ =>
  bnd (
    bnd (
      loopM FUEL sha_Hash_Write_l1 [(at_ vs 0)]
      ) fun o => ret (unblk 0 o)
    ) fun o => nx o sha_Hash_Write_k2
def F_sha_Hash_Write (x0 x1 : V) : M V :=
  bnd (
    bnd (
      bnd (lift (lenStr x1)) fun x6 =>
      bnd (lift (nilck x0)) fun x8 =>
      bnd (lift (faddr 9 x8)) fun x9 =>
      bnd (ld1 x9) fun x10 =>
      bnd (lift (bin .sub (Value.int .i64 1099511627776) x10)) fun x11 =>
      bnd (lift (bin .gtr x6 x11)) fun x12 =>
      condM x12 (
        ret (.ret [(Value.int .i64 2)])
        ) (
        ret (.nxt [x0, x1])
        )
      ) fun o => nx o sha_Hash_Write_k3
    ) fun o => finM o fun vs => ret (outV [(at_ vs 0)])
def h_sha_Hash_Write : Hint := (.seq [] .leaf (.seq [0, 1] (.seq [] .leaf (.cond (.seq [] .leaf .leaf) .leaf)) (.seq [] .leaf (.seq [] .leaf (.seq [] (.blk (.loop [0] (.seq [0] (.seq [] .leaf (.cond .leaf .leaf)) (.blk (.seq [] (.reg [0, 1, 2, 3, 4, 5, 6, 7, 8] []) .leaf))))) (.seq [] .leaf .leaf))))))
def A_sha_Hash_Write (l : List V) : M V := match l with | [x0, x1] => F_sha_Hash_Write x0 x1 | _ => fail
def s_sha_Hash_Write : Calls' := ovr [(fid_sha_state_take, A_sha_state_take)] noC
theorem e_sha_Hash_Write (x0 x1 : V) : funM Tryz.prog (s_sha_Hash_Write) fid_sha_Hash_Write h_sha_Hash_Write [x0, x1] = F_sha_Hash_Write x0 x1 := by kernel_rfl
theorem K_sha_Hash_Write : Known Tryz.prog fid_sha_Hash_Write (A_sha_Hash_Write) := known_of (σ := s_sha_Hash_Write) (hint := h_sha_Hash_Write) (by kernel_rfl) (simAll_ovr K_sha_state_take simAll_nil0) fun l H r H' h => by
  unfold A_sha_Hash_Write at h; split at h
  · rw [e_sha_Hash_Write]; exact h
  · exact (fail_ne h).elim

/-! ### (*capstan/sha.Hash).Fork -/
def F_sha_Hash_Fork (x0 : V) : M V :=
  bnd (
    withH fun h0 =>
    bnd (lift (nilck x0)) fun x4 =>
    bnd (lift (faddr 0 x4)) fun x5 =>
    bnd (lift (nilck x0)) fun x9 =>
    bnd (lift (faddr 8 x9)) fun x10 =>
    bnd (lift (nilck x0)) fun x14 =>
    bnd (lift (faddr 9 x14)) fun x15 =>
    bnd (ldn 8 x5) fun x6 =>
    bnd (ld1 x10) fun x11 =>
    bnd (ld1 x15) fun x16 =>
    bndH (bslc 1 0 (rep 0 [Value.int .u8 0]) []) fun ha x7 h1 =>
    bndH (appV 1 1 x7 x11) fun ha_2 x12 h2 =>
    bnd (lift (build [Value.int .u32 0, Value.int .u32 0, Value.int .u32 0, Value.int .u32 0, Value.int .u32 0, Value.int .u32 0, Value.int .u32 0, Value.int .u32 0, Value.slice none 0 0, Value.int .i64 0] [(0, 8, x6), (8, 1, x12), (9, 1, x16)])) fun x17 =>
    bndH (boxv x17) fun ha_3 x18 h3 =>
    need (chk (ldn 8 x5) h1 x6) <|
    need (chk (ldn 8 x5) h2 x6) <|
    need (chk (ld1 x10) h1 x11) <|
    need (chk (ld1 x15) h1 x16) <|
    need (chk (ld1 x15) h2 x16) <|
    ret (.ret [x18])
    ) fun o => finM o fun vs => ret (outV [(at_ vs 0)])
def h_sha_Hash_Fork : Hint := (.seq [] .leaf (.seq [] (.reg [0, 1, 2, 5, 6, 7, 10, 11, 12, 3, 8, 13, 4, 9, 14, 15, 16] []) .leaf))
def A_sha_Hash_Fork (l : List V) : M V := match l with | [x0] => F_sha_Hash_Fork x0 | _ => fail
theorem e_sha_Hash_Fork (x0 : V) : funM Tryz.prog (ovr [] noC) fid_sha_Hash_Fork h_sha_Hash_Fork [x0] = F_sha_Hash_Fork x0 := by kernel_rfl
theorem K_sha_Hash_Fork : Known Tryz.prog fid_sha_Hash_Fork (A_sha_Hash_Fork) := known_of (σ := ovr [] noC) (hint := h_sha_Hash_Fork) (by kernel_rfl) simAll_nil0 fun l H r H' h => by
  unfold A_sha_Hash_Fork at h; split at h
  · rw [e_sha_Hash_Fork]; exact h
  · exact (fail_ne h).elim

/-! ### (*capstan/sha.Hash).Sum -/
def sha_Hash_Sum_k0 (vs_3 : List V) : M Out :=
  bnd (lift (bin .sub (at_ vs_3 3) (Value.int .i64 1))) fun x30 =>
  ret (.nxt [(at_ vs_3 0), (at_ vs_3 1), (at_ vs_3 2), x30])
def sha_Hash_Sum_k1 (vs_2 : List V) : M Out :=
  bnd (
  bnd (
    bnd (lift (bin .mul (Value.int .i64 8) (at_ vs_2 3))) fun x34 =>
    bnd (lift (bin .shr (at_ vs_2 1) x34)) fun x35 =>
    bnd (lift (cvi .u8 x35)) fun x36 =>
    bnd (bslc 1 1 (rep 1 [Value.int .u8 0]) [(0, 1, x36)]) fun x37 =>
    bnd (appV 1 1 (at_ vs_2 2) x37) fun x38 =>
    ret (.nxt [(at_ vs_2 0), (at_ vs_2 1), x38, (at_ vs_2 3)])
    ) fun o => ret (unblk 1 o)
  ) fun o => nx o sha_Hash_Sum_k0
def sha_Hash_Sum_l2 (vs : List V) : M Out :=
  bnd (
  bnd (lift (bin .geq (at_ vs 3) (Value.int .i64 0))) fun x28 =>
  condM x28 (
    ret (.nxt [(at_ vs 0), (at_ vs 1), (at_ vs 2), (at_ vs 3)])
    ) (
    ret (.brk 0 [(at_ vs 0), (at_ vs 2)])
    )
  ) fun o => nx o sha_Hash_Sum_k1
def sha_Hash_Sum_k3 (vs_7 : List V) : M Out :=
  bnd (lift (nilck (at_ vs_7 0))) fun x56 =>
  bnd (lift (faddr 8 x56)) fun x57 =>
  bnd (ld1 x57) fun x58 =>
  bnd (lift (subV 1 x58 (some (Value.int .i64 64)) none)) fun x59 =>
  bnd (lift (nilck (at_ vs_7 0))) fun x60 =>
  bnd (lift (faddr 8 x60)) fun x61 =>
  bnd (st1 x61 x59) fun _ =>
  ret (.nxt [(at_ vs_7 0)])
def sha_Hash_Sum_k4 (vs_6 : List V) : M Out :=
  bnd (
  bnd (
    bnd (lift (nilck (at_ vs_6 0))) fun x63 =>
    bnd (lift (faddr 0 x63)) fun x64 =>
    bnd (lift (nilck (at_ vs_6 0))) fun x66 =>
    bnd (lift (faddr 8 x66)) fun x67 =>
    bnd (ld1 x67) fun x68 =>
    bnd (lift (subV 1 x68 none (some (Value.int .i64 64)))) fun x69 =>
    bnd (A_sha_state_take [x64, x69]) fun x70 =>
    ret (.nxt [(at_ vs_6 0)])
    ) fun o => ret (unblk 3 o)
  ) fun o => nx o sha_Hash_Sum_k3
def sha_Hash_Sum_l5 (vs_5 : List V) : M Out :=
  bnd (
  bnd (lift (nilck (at_ vs_5 0))) fun x49 =>
  bnd (lift (faddr 8 x49)) fun x50 =>
  bnd (ld1 x50) fun x51 =>
  bnd (lift (lenSlc x51)) fun x52 =>
  bnd (lift (bin .gtr x52 (Value.int .i64 0))) fun x53 =>
  condM x53 (
    ret (.nxt [(at_ vs_5 0)])
    ) (
    ret (.brk 2 [(at_ vs_5 0)])
    )
  ) fun o => nx o sha_Hash_Sum_k4
def sha_Hash_Sum_k6 (vs_11 : List V) : M Out :=
  bnd (lift (bin .add (at_ vs_11 2) (Value.int .i64 1))) fun x92 =>
  ret (.nxt [(at_ vs_11 0), (at_ vs_11 1), x92])
def sha_Hash_Sum_k7 (vs_10 : List V) : M Out :=
  bnd (
  bnd (
    bnd (lift (idxA1 8 (at_ vs_10 1) (at_ vs_10 2))) fun x77 =>
    bnd (lift (bin .shr x77 (Value.int .u64 24))) fun x80 =>
    bnd (lift (cvi .u8 x80)) fun x81 =>
    bnd (lift (bin .shr x77 (Value.int .u64 16))) fun x83 =>
    bnd (lift (cvi .u8 x83)) fun x84 =>
    bnd (lift (bin .shr x77 (Value.int .u64 8))) fun x86 =>
    bnd (lift (cvi .u8 x86)) fun x87 =>
    bnd (lift (cvi .u8 x77)) fun x89 =>
    bnd (bslc 1 4 (rep 4 [Value.int .u8 0]) [(0, 1, x81), (1, 1, x84), (2, 1, x87), (3, 1, x89)]) fun x90 =>
    bnd (appV 1 1 (at_ vs_10 0) x90) fun x91 =>
    ret (.nxt [x91, (at_ vs_10 1), (at_ vs_10 2)])
    ) fun o => ret (unblk 5 o)
  ) fun o => nx o sha_Hash_Sum_k6
def sha_Hash_Sum_l8 (vs_9 : List V) : M Out :=
  bnd (lift (bin .lss (at_ vs_9 2) (Value.int .i64 8))) fun x76 =>
  bnd (
  condM x76 (
    ret (.nxt [(at_ vs_9 0), (at_ vs_9 1), (at_ vs_9 2)])
    ) (
    ret (.brk 4 [(at_ vs_9 0)])
    )
  ) fun o => nx o sha_Hash_Sum_k7
def sha_Hash_Sum_k9 (vs_12 : List V) : M Out :=
  bnd (b2s (at_ vs_12 0)) fun x94 =>
  ret (.ret [x94])
def sha_Hash_Sum_k10 (vs_8 : List V) : M Out :=
  bnd (
    bnd (lift (nilck (at_ vs_8 0))) fun x72 =>
    bnd (lift (faddr 0 x72)) fun x73 =>
    bnd (ldn 8 x73) fun x74 =>
    bnd (
      loopM FUEL sha_Hash_Sum_l8 [(Value.slice none 0 0), x74, (Value.int .i64 0)]
      ) fun o => ret (unblk 4 o)
    ) fun o => nx o sha_Hash_Sum_k9
def sha_Hash_Sum_k11 (vs_4 : List V) : M Out :=
  bnd (lift (nilck (at_ vs_4 0))) fun x41 =>
  bnd (lift (faddr 8 x41)) fun x42 =>
  bnd (ld1 x42) fun x43 =>
  bnd (appV 1 1 x43 (at_ vs_4 1)) fun x45 =>
  bnd (lift (nilck (at_ vs_4 0))) fun x46 =>
  bnd (lift (faddr 8 x46)) fun x47 =>
  bnd (st1 x47 x45) fun _ =>
  bnd (
    bnd (
      loopM FUEL sha_Hash_Sum_l5 [(at_ vs_4 0)]
      ) fun o => ret (unblk 2 o)
    ) fun o => nx o sha_Hash_Sum_k10
def F_sha_Hash_Sum (x0 : V) : M V :=
  bnd (
    bnd (A_sha_Hash_Fork [x0]) fun x11 =>
    bnd (lift (nilck x0)) fun x13 =>
    bnd (lift (faddr 9 x13)) fun x14 =>
    bnd (ld1 x14) fun x15 =>
    bnd (lift (cvi .u64 x15)) fun x16 =>
    bnd (lift (bin .mul x16 (Value.int .u64 8))) fun x17 =>
    bnd (bslc 1 1 (rep 1 [Value.int .u8 0]) [(0, 1, (Value.int .u8 128))]) fun x18 =>
    bnd (lift (nilck x0)) fun x20 =>
    bnd (lift (faddr 9 x20)) fun x21 =>
    bnd (ld1 x21) fun x22 =>
    bnd (lift (bin .rem x22 (Value.int .i64 64))) fun x23 =>
    bnd (lift (bin .sub (Value.int .i64 119) x23)) fun x24 =>
    bnd (lift (bin .rem x24 (Value.int .i64 64))) fun x25 =>
    bnd (appZ 1 1 [Value.int .u8 0] x18 x25) fun x26 =>
    bnd (
      bnd (
        loopM FUEL sha_Hash_Sum_l2 [x11, x17, x26, (Value.int .i64 7)]
        ) fun o => ret (unblk 0 o)
      ) fun o => nx o sha_Hash_Sum_k11
    ) fun o => finM o fun vs => ret (outV [(at_ vs 0)])
def h_sha_Hash_Sum : Hint := (.seq [] .leaf (.seq [] .leaf (.seq [] .leaf (.seq [] .leaf (.seq [3, 5] (.seq [] .leaf (.blk (.loop [3, 4, 5, 6] (.seq [3, 4, 5, 6] (.seq [] .leaf (.cond .leaf .leaf)) (.seq [3, 4, 5, 6] (.blk .leaf) .leaf))))) (.seq [] .leaf (.seq [3] (.blk (.loop [3] (.seq [3] (.seq [] .leaf (.cond .leaf .leaf)) (.seq [3] (.blk (.reg [0, 1, 2, 3, 4, 5, 6, 7, 8] [])) .leaf)))) (.seq [] .leaf (.seq [7] (.seq [] .leaf (.blk (.loop [7, 74, 75] (.seq [] .leaf (.seq [7, 74, 75] (.cond .leaf .leaf) (.seq [7, 74, 75] (.blk (.seq [] .leaf .leaf)) .leaf)))))) (.seq [] .leaf .leaf))))))))))
def A_sha_Hash_Sum (l : List V) : M V := match l with | [x0] => F_sha_Hash_Sum x0 | _ => fail
def s_sha_Hash_Sum : Calls' := ovr [(fid_sha_Hash_Fork, A_sha_Hash_Fork), (fid_sha_state_take, A_sha_state_take)] noC
theorem e_sha_Hash_Sum (x0 : V) : funM Tryz.prog (s_sha_Hash_Sum) fid_sha_Hash_Sum h_sha_Hash_Sum [x0] = F_sha_Hash_Sum x0 := by kernel_rfl
theorem K_sha_Hash_Sum : Known Tryz.prog fid_sha_Hash_Sum (A_sha_Hash_Sum) := known_of (σ := s_sha_Hash_Sum) (hint := h_sha_Hash_Sum) (by kernel_rfl) (simAll_ovr K_sha_Hash_Fork (simAll_ovr K_sha_state_take simAll_nil0)) fun l H r H' h => by
  unfold A_sha_Hash_Sum at h; split at h
  · rw [e_sha_Hash_Sum]; exact h
  · exact (fail_ne h).elim

/-! ### capstan/sha.Sum -/
def F_sha_Sum (x0 : V) : M V :=
  bnd (
    bnd (A_sha_New []) fun x4 =>
    bnd (A_sha_Hash_Write [x4, x0]) fun x7 =>
    bnd (A_sha_Hash_Sum [x4]) fun x9 =>
    ret (.ret [x9])
    ) fun o => finM o fun vs => ret (outV [(at_ vs 0)])
def h_sha_Sum : Hint := (.seq [] .leaf (.seq [] .leaf (.seq [] .leaf (.seq [] .leaf .leaf))))
def A_sha_Sum (l : List V) : M V := match l with | [x0] => F_sha_Sum x0 | _ => fail
def s_sha_Sum : Calls' := ovr [(fid_sha_New, A_sha_New), (fid_sha_Hash_Write, A_sha_Hash_Write), (fid_sha_Hash_Sum, A_sha_Hash_Sum)] noC
theorem e_sha_Sum (x0 : V) : funM Tryz.prog (s_sha_Sum) fid_sha_Sum h_sha_Sum [x0] = F_sha_Sum x0 := by kernel_rfl
theorem K_sha_Sum : Known Tryz.prog fid_sha_Sum (A_sha_Sum) := known_of (σ := s_sha_Sum) (hint := h_sha_Sum) (by kernel_rfl) (simAll_ovr K_sha_New (simAll_ovr K_sha_Hash_Write (simAll_ovr K_sha_Hash_Sum simAll_nil0))) fun l H r H' h => by
  unfold A_sha_Sum at h; split at h
  · rw [e_sha_Sum]; exact h
  · exact (fail_ne h).elim

/-! ### capstan/mac.Tag$1 -/
def mac_Tag_1_k0 (vs_3 : List V) : M Out :=
  bnd (lift (bin .add (at_ vs_3 2) (Value.int .i64 1))) fun x16 =>
  ret (.nxt [(at_ vs_3 0), (at_ vs_3 1), x16])
def mac_Tag_1_k1 (vs_2 : List V) : M Out :=
  bnd (
  bnd (
    bnd (lift (iaddrA 64 1 (at_ vs_2 1) (at_ vs_2 2))) fun x11 =>
    bnd (ld1 x11) fun x12 =>
    bnd (lift (bin .xor x12 (at_ vs_2 0))) fun x14 =>
    bnd (lift (iaddrA 64 1 (at_ vs_2 1) (at_ vs_2 2))) fun x15 =>
    bnd (st1 x15 x14) fun _ =>
    ret (.nxt [(at_ vs_2 0), (at_ vs_2 1), (at_ vs_2 2)])
    ) fun o => ret (unblk 1 o)
  ) fun o => nx o mac_Tag_1_k0
def mac_Tag_1_l2 (vs : List V) : M Out :=
  bnd (lift (bin .lss (at_ vs 2) (Value.int .i64 64))) fun x8 =>
  bnd (
  condM x8 (
    ret (.nxt [(at_ vs 0), (at_ vs 1), (at_ vs 2)])
    ) (
    ret (.brk 0 [(at_ vs 1)])
    )
  ) fun o => nx o mac_Tag_1_k1
def mac_Tag_1_k3 (vs_4 : List V) : M Out :=
  bnd (lift (subA 64 1 (at_ vs_4 0) none none)) fun x17 =>
  bnd (b2s x17) fun x18 =>
  ret (.ret [x18])
def F_mac_Tag_1 (x0 x1 : V) : M V :=
  bnd (
    bnd (ldn 64 x1) fun x6 =>
    bnd (newc (List.replicate 64 (Value.int .u8 0))) fun x4 =>
    bnd (stn 64 x4 x6) fun _ =>
    bnd (
      bnd (
        loopM FUEL mac_Tag_1_l2 [x0, x4, (Value.int .i64 0)]
        ) fun o => ret (unblk 0 o)
      ) fun o => nx o mac_Tag_1_k3
    ) fun o => finM o fun vs => ret (outV [(at_ vs 0)])
def h_mac_Tag_1 : Hint := (.seq [] .leaf (.seq [] .leaf (.seq [4] (.seq [] .leaf (.blk (.loop [0, 4, 7] (.seq [] .leaf (.seq [0, 4, 7] (.cond .leaf .leaf) (.seq [0, 4, 7] (.blk (.seq [] .leaf .leaf)) .leaf)))))) (.seq [] .leaf .leaf))))
def A_mac_Tag_1 (l : List V) : M V := match l with | [x0, x1] => F_mac_Tag_1 x0 x1 | _ => fail
theorem e_mac_Tag_1 (x0 x1 : V) : funM Tryz.prog (ovr [] noC) fid_mac_Tag_1 h_mac_Tag_1 [x0, x1] = F_mac_Tag_1 x0 x1 := by kernel_rfl
theorem K_mac_Tag_1 : Known Tryz.prog fid_mac_Tag_1 (A_mac_Tag_1) := known_of (σ := ovr [] noC) (hint := h_mac_Tag_1) (by kernel_rfl) simAll_nil0 fun l H r H' h => by
  unfold A_mac_Tag_1 at h; split at h
  · rw [e_mac_Tag_1]; exact h
  · exact (fail_ne h).elim

/-! ### capstan/mac.Tag -/
def mac_Tag_k0 (vs : List V) : M Out :=
  bnd (newc (List.replicate 64 (Value.int .u8 0))) fun x5 =>
  bnd (lift (subA 64 1 x5 none none)) fun x12 =>
  bnd (cpy 1 x12 (at_ vs 0)) fun x14 =>
  bnd (lift (some (Value.func (.func fid_mac_Tag_1) #[] #[x5]))) fun x15 =>
  bnd (callM (ovr [(fid_mac_Tag_1, A_mac_Tag_1), (fid_sha_Sum, A_sha_Sum)] noC) x15 [(Value.int .u8 92)]) fun x17 =>
  bnd (callM (ovr [(fid_mac_Tag_1, A_mac_Tag_1), (fid_sha_Sum, A_sha_Sum)] noC) x15 [(Value.int .u8 54)]) fun x19 =>
  bnd (lift (bin .add x19 (at_ vs 1))) fun x21 =>
  bnd (A_sha_Sum [x21]) fun x22 =>
  bnd (lift (bin .add x17 x22)) fun x23 =>
  bnd (A_sha_Sum [x23]) fun x24 =>
  ret (.ret [x24])
def F_mac_Tag (x0 x1 : V) : M V :=
  bnd (
    bnd (
      bnd (lift (lenStr x0)) fun x8 =>
      bnd (lift (bin .gtr x8 (Value.int .i64 64))) fun x9 =>
      condM x9 (
        bnd (A_sha_Sum [x0]) fun x11 =>
        ret (.nxt [x11, x1])
        ) (
        ret (.nxt [x0, x1])
        )
      ) fun o => nx o mac_Tag_k0
    ) fun o => finM o fun vs => ret (outV [(at_ vs 0)])
def h_mac_Tag : Hint := (.seq [] .leaf (.seq [0, 1] (.seq [] .leaf (.cond .leaf .leaf)) (.seq [] .leaf (.seq [] .leaf (.seq [] .leaf (.seq [] .leaf .leaf))))))
def A_mac_Tag (l : List V) : M V := match l with | [x0, x1] => F_mac_Tag x0 x1 | _ => fail
def s_mac_Tag : Calls' := ovr [(fid_mac_Tag_1, A_mac_Tag_1), (fid_sha_Sum, A_sha_Sum)] noC
theorem e_mac_Tag (x0 x1 : V) : funM Tryz.prog (s_mac_Tag) fid_mac_Tag h_mac_Tag [x0, x1] = F_mac_Tag x0 x1 := by kernel_rfl
theorem K_mac_Tag : Known Tryz.prog fid_mac_Tag (A_mac_Tag) := known_of (σ := s_mac_Tag) (hint := h_mac_Tag) (by kernel_rfl) (simAll_ovr K_mac_Tag_1 (simAll_ovr K_sha_Sum simAll_nil0)) fun l H r H' h => by
  unfold A_mac_Tag at h; split at h
  · rw [e_mac_Tag]; exact h
  · exact (fail_ne h).elim

/-! ### capstan/mac.Make -/
def F_mac_Make (x0 x1 : V) : M V :=
  bnd (
    bnd (A_mac_Tag [x0, x1]) fun x7 =>
    ret (.ret [x7])
    ) fun o => finM o fun vs => ret (outV [(at_ vs 0)])
def h_mac_Make : Hint := (.seq [] .leaf (.seq [] .leaf .leaf))
def A_mac_Make (l : List V) : M V := match l with | [x0, x1] => F_mac_Make x0 x1 | _ => fail
def s_mac_Make : Calls' := ovr [(fid_mac_Tag, A_mac_Tag)] noC
theorem e_mac_Make (x0 x1 : V) : funM Tryz.prog (s_mac_Make) fid_mac_Make h_mac_Make [x0, x1] = F_mac_Make x0 x1 := by kernel_rfl
theorem K_mac_Make : Known Tryz.prog fid_mac_Make (A_mac_Make) := known_of (σ := s_mac_Make) (hint := h_mac_Make) (by kernel_rfl) (simAll_ovr K_mac_Tag simAll_nil0) fun l H r H' h => by
  unfold A_mac_Make at h; split at h
  · rw [e_mac_Make]; exact h
  · exact (fail_ne h).elim

/-! ### capstan/sess.Prove -/
def F_sess_Prove (x0 x1 x2 : V) : M V :=
  bnd (
    bnd (A_sess_eight [x2]) fun x11 =>
    bnd (lift (bin .add x1 x11)) fun x12 =>
    bnd (lift (bin .add (Value.string ⟨#[108, 111, 103, 105, 110]⟩) x12)) fun x15 =>
    bnd (A_mac_Tag [x0, x15]) fun x16 =>
    bnd (lift (bin .add (Value.string ⟨#[115, 101, 115, 115, 105, 111, 110]⟩) x12)) fun x19 =>
    bnd (A_mac_Make [x0, x19]) fun x20 =>
    ret (.ret [x16, x20])
    ) fun o => finM o fun vs => ret (outV [(at_ vs 0), (at_ vs 1)])
def h_sess_Prove : Hint := (.seq [] .leaf (.seq [] .leaf (.seq [] .leaf .leaf)))
def A_sess_Prove (l : List V) : M V := match l with | [x0, x1, x2] => F_sess_Prove x0 x1 x2 | _ => fail
def s_sess_Prove : Calls' := ovr [(fid_sess_eight, A_sess_eight), (fid_mac_Tag, A_mac_Tag), (fid_mac_Make, A_mac_Make)] noC
theorem e_sess_Prove (x0 x1 x2 : V) : funM Tryz.prog (s_sess_Prove) fid_sess_Prove h_sess_Prove [x0, x1, x2] = F_sess_Prove x0 x1 x2 := by kernel_rfl
theorem K_sess_Prove : Known Tryz.prog fid_sess_Prove (A_sess_Prove) := known_of (σ := s_sess_Prove) (hint := h_sess_Prove) (by kernel_rfl) (simAll_ovr K_sess_eight (simAll_ovr K_mac_Tag (simAll_ovr K_mac_Make simAll_nil0))) fun l H r H' h => by
  unfold A_sess_Prove at h; split at h
  · rw [e_sess_Prove]; exact h
  · exact (fail_ne h).elim

/-! ### (*capstan/sess.shelf[capstan/sess.challenge]).get -/
def sess_shelf_sess_challenge_get_k0 (vs : List V) : M Out :=
  bnd (lift (nilck (at_ vs 0))) fun x15 =>
  bnd (lift (faddr 2 x15)) fun x16 =>
  bnd (ld1 x16) fun x17 =>
  bnd (lift (iaddrS 5 x17 (at_ vs 1))) fun x19 =>
  ret (.ret [x19])
def F_sess_shelf_sess_challenge_get (x0 x1 : V) : M V :=
  bnd (
    bnd (lift (nilck x0)) fun x7 =>
    bnd (lift (faddr 1 x7)) fun x8 =>
    bnd (ld1 x8) fun x9 =>
    bnd (A_slices_Index_S_int_int [x9, x1]) fun x11 =>
    bnd (
      bnd (lift (bin .lss x11 (Value.int .i64 0))) fun x13 =>
      condM x13 (
        ret (.ret [(Value.pointer none)])
        ) (
        ret (.nxt [x0, x11])
        )
      ) fun o => nx o sess_shelf_sess_challenge_get_k0
    ) fun o => finM o fun vs => ret (outV [(at_ vs 0)])
def h_sess_shelf_sess_challenge_get : Hint := (.seq [] .leaf (.seq [] .leaf (.seq [0, 5] (.seq [] .leaf (.cond (.seq [] .leaf .leaf) .leaf)) (.seq [] .leaf .leaf))))
def A_sess_shelf_sess_challenge_get (l : List V) : M V := match l with | [x0, x1] => F_sess_shelf_sess_challenge_get x0 x1 | _ => fail
def s_sess_shelf_sess_challenge_get : Calls' := ovr [(fid_slices_Index_S_int_int, A_slices_Index_S_int_int)] noC
theorem e_sess_shelf_sess_challenge_get (x0 x1 : V) : funM Tryz.prog (s_sess_shelf_sess_challenge_get) fid_sess_shelf_sess_challenge_get h_sess_shelf_sess_challenge_get [x0, x1] = F_sess_shelf_sess_challenge_get x0 x1 := by kernel_rfl
theorem K_sess_shelf_sess_challenge_get : Known Tryz.prog fid_sess_shelf_sess_challenge_get (A_sess_shelf_sess_challenge_get) := known_of (σ := s_sess_shelf_sess_challenge_get) (hint := h_sess_shelf_sess_challenge_get) (by kernel_rfl) (simAll_ovr K_slices_Index_S_int_int simAll_nil0) fun l H r H' h => by
  unfold A_sess_shelf_sess_challenge_get at h; split at h
  · rw [e_sess_shelf_sess_challenge_get]; exact h
  · exact (fail_ne h).elim

/-! ### (*capstan/sess.shelf[capstan/sess.challenge]).drop$1 -/
def F_sess_shelf_sess_challenge_drop_1 (x0 x1 x2 : V) : M V :=
  bnd (
    bnd (boxv x1) fun x4 =>
    bnd (ld1 x2) fun x7 =>
    bnd (lift (bin .neq x0 x7)) fun x8 =>
    ret (.ret [x8])
    ) fun o => finM o fun vs => ret (outV [(at_ vs 0)])
def h_sess_shelf_sess_challenge_drop_1 : Hint := (.seq [] .leaf (.seq [] .leaf .leaf))
def A_sess_shelf_sess_challenge_drop_1 (l : List V) : M V := match l with | [x0, x1, x2] => F_sess_shelf_sess_challenge_drop_1 x0 x1 x2 | _ => fail
theorem e_sess_shelf_sess_challenge_drop_1 (x0 x1 x2 : V) : funM Tryz.prog (ovr [] noC) fid_sess_shelf_sess_challenge_drop_1 h_sess_shelf_sess_challenge_drop_1 [x0, x1, x2] = F_sess_shelf_sess_challenge_drop_1 x0 x1 x2 := by kernel_rfl
theorem K_sess_shelf_sess_challenge_drop_1 : Known Tryz.prog fid_sess_shelf_sess_challenge_drop_1 (A_sess_shelf_sess_challenge_drop_1) := known_of (σ := ovr [] noC) (hint := h_sess_shelf_sess_challenge_drop_1) (by kernel_rfl) simAll_nil0 fun l H r H' h => by
  unfold A_sess_shelf_sess_challenge_drop_1 at h; split at h
  · rw [e_sess_shelf_sess_challenge_drop_1]; exact h
  · exact (fail_ne h).elim

/-! ### (*capstan/sess.shelf[capstan/sess.challenge]).keep -/
def sess_shelf_sess_challenge_keep_k0 (S : Calls') (vs_3 : List V) : M Out :=
  bnd (lift (bin .add (at_ vs_3 6) (Value.int .i64 1))) fun x42 =>
  ret (.nxt [(at_ vs_3 0), (at_ vs_3 1), (at_ vs_3 2), (at_ vs_3 3), (at_ vs_3 4), (at_ vs_3 5), x42])
def sess_shelf_sess_challenge_keep_k1 (S : Calls') (vs_2 : List V) : M Out :=
  bnd (
  bnd (
    bnd (lift (iaddrS 5 (at_ vs_2 4) (at_ vs_2 6))) fun x16 =>
    bnd (ldn 5 x16) fun x17 =>
    bnd (newc [Value.string ⟨#[]⟩, Value.string ⟨#[]⟩, Value.slice none 0 0, Value.string ⟨#[]⟩, Value.int .i64 0]) fun x7 =>
    bnd (stn 5 x7 x17) fun _ =>
    bnd (lift (nilck (at_ vs_2 0))) fun x20 =>
    bnd (lift (faddr 1 x20)) fun x21 =>
    bnd (ld1 x21) fun x22 =>
    bnd (lift (iaddrS 1 x22 (at_ vs_2 6))) fun x24 =>
    bnd (ld1 x24) fun x25 =>
    bnd (ldn 5 x7) fun x26 =>
    bnd (callM (ovr [] S) (at_ vs_2 1) [x25, x26]) fun x27 =>
    condM x27 (
      withResv 2 fun base h0 =>
      bnd (lift (nilck (at_ vs_2 0))) fun x30 =>
      bnd (lift (faddr 1 x30)) fun x31 =>
      bnd (ld1 x31) fun x32 =>
      bnd (lift (iaddrS 1 x32 (at_ vs_2 6))) fun x34 =>
      bnd (ld1 x34) fun x35 =>
      bnd (ldn 5 x7) fun x39 =>
      bnd (flt (base + 0) (bslc 1 1 (rep 1 [Value.int .i64 0]) [(0, 1, x35)])) fun x36 =>
      bndH (appV 1 8 (at_ vs_2 2) x36) fun ha x37 h1 =>
      need (freeIn ha [base + 1] && freeIn h1 [base + 1]) <|
      bnd (flt (base + 1) (bslc 5 1 (rep 1 [Value.string ⟨#[]⟩, Value.string ⟨#[]⟩, Value.slice none 0 0, Value.string ⟨#[]⟩, Value.int .i64 0]) [(0, 5, x39)])) fun x40 =>
      bndH (appV 5 80 (at_ vs_2 3) x40) fun ha_2 x41 h2 =>
      need (chk (ldn 5 x7) h1 x39) <|
      ret (.nxt [(at_ vs_2 0), (at_ vs_2 1), x37, x41, (at_ vs_2 4), (at_ vs_2 5), (at_ vs_2 6)])
      ) (
      ret (.nxt [(at_ vs_2 0), (at_ vs_2 1), (at_ vs_2 2), (at_ vs_2 3), (at_ vs_2 4), (at_ vs_2 5), (at_ vs_2 6)])
      )
    ) fun o => ret (unblk 1 o)
  ) fun o => nx o (sess_shelf_sess_challenge_keep_k0 S)
def sess_shelf_sess_challenge_keep_l2 (S : Calls') (vs : List V) : M Out :=
  bnd (lift (bin .lss (at_ vs 6) (at_ vs 5))) fun x14 =>
  bnd (
  condM x14 (
    ret (.nxt [(at_ vs 0), (at_ vs 1), (at_ vs 2), (at_ vs 3), (at_ vs 4), (at_ vs 5), (at_ vs 6)])
    ) (
    ret (.brk 0 [(at_ vs 0), (at_ vs 2), (at_ vs 3)])
    )
  ) fun o => nx o (sess_shelf_sess_challenge_keep_k1 S)
def sess_shelf_sess_challenge_keep_k3 (S : Calls') (vs_4 : List V) : M Out :=
  bnd (lift (nilck (at_ vs_4 0))) fun x47 =>
  bnd (lift (faddr 1 x47)) fun x48 =>
  bnd (st1 x48 (at_ vs_4 1)) fun _ =>
  bnd (lift (nilck (at_ vs_4 0))) fun x49 =>
  bnd (lift (faddr 2 x49)) fun x50 =>
  bnd (st1 x50 (at_ vs_4 2)) fun _ =>
  ret (.nxt [])
def F_sess_shelf_sess_challenge_keep (S : Calls') (x0 x1 : V) : M V :=
  bnd (
    bnd (
      bnd (lift (nilck x0)) fun x9 =>
      bnd (lift (faddr 2 x9)) fun x10 =>
      bnd (ld1 x10) fun x11 =>
      bnd (lift (lenSlc x11)) fun x12 =>
      bnd (
        loopM FUEL (sess_shelf_sess_challenge_keep_l2 S) [x0, x1, (Value.slice none 0 0), (Value.slice none 0 0), x11, x12, (Value.int .i64 0)]
        ) fun o => ret (unblk 0 o)
      ) fun o => nx o (sess_shelf_sess_challenge_keep_k3 S)
    ) fun o => finM o fun vs => ret (outV [])
def h_sess_shelf_sess_challenge_keep : Hint := (.seq [] .leaf (.seq [] .leaf (.seq [0, 4, 5] (.seq [] .leaf (.blk (.loop [0, 1, 4, 5, 11, 12, 13] (.seq [] .leaf (.seq [0, 1, 4, 5, 11, 12, 13] (.cond .leaf .leaf) (.seq [0, 1, 4, 5, 11, 12, 13] (.blk (.seq [] .leaf (.seq [] (.reg [0, 1, 2, 3, 5, 4, 6, 7, 8, 9] []) (.cond (.reg [0, 1, 2, 3, 5, 10, 4, 6, 7, 11, 8, 9, 12, 13, 14, 15] [8, 12]) .leaf)))) .leaf)))))) .leaf)))
def A_sess_shelf_sess_challenge_keep (S : Calls') (l : List V) : M V := match l with | [x0, x1] => F_sess_shelf_sess_challenge_keep S x0 x1 | _ => fail
theorem e_sess_shelf_sess_challenge_keep (S : Calls') (x0 x1 : V) : funM Tryz.prog (ovr [] S) fid_sess_shelf_sess_challenge_keep h_sess_shelf_sess_challenge_keep [x0, x1] = F_sess_shelf_sess_challenge_keep S x0 x1 := by kernel_rfl
theorem K_sess_shelf_sess_challenge_keep {S : Calls'} (hS : SimAll Tryz.prog S) : Known Tryz.prog fid_sess_shelf_sess_challenge_keep (A_sess_shelf_sess_challenge_keep S) := known_of (σ := ovr [] S) (hint := h_sess_shelf_sess_challenge_keep) (by kernel_rfl) (simAll_base hS) fun l H r H' h => by
  unfold A_sess_shelf_sess_challenge_keep at h; split at h
  · rw [e_sess_shelf_sess_challenge_keep]; exact h
  · exact (fail_ne h).elim

/-! ### (*capstan/sess.shelf[capstan/sess.challenge]).drop -/
def F_sess_shelf_sess_challenge_drop (x0 x1 : V) : M V :=
  bnd (
    bnd (boxv x1) fun x3 =>
    bnd (lift (some (Value.func (.func fid_sess_shelf_sess_challenge_drop_1) #[] #[x3]))) fun x5 =>
    bnd ((A_sess_shelf_sess_challenge_keep (ovr [(fid_sess_shelf_sess_challenge_drop_1, A_sess_shelf_sess_challenge_drop_1)] noC)) [x0, x5]) fun x6 =>
    ret (.nxt [])
    ) fun o => finM o fun vs => ret (outV [])
def h_sess_shelf_sess_challenge_drop : Hint := (.seq [] .leaf .leaf)
def A_sess_shelf_sess_challenge_drop (l : List V) : M V := match l with | [x0, x1] => F_sess_shelf_sess_challenge_drop x0 x1 | _ => fail
def s_sess_shelf_sess_challenge_drop : Calls' := ovr [(fid_sess_shelf_sess_challenge_keep, A_sess_shelf_sess_challenge_keep (ovr [(fid_sess_shelf_sess_challenge_drop_1, A_sess_shelf_sess_challenge_drop_1)] noC))] noC
theorem e_sess_shelf_sess_challenge_drop (x0 x1 : V) : funM Tryz.prog (s_sess_shelf_sess_challenge_drop) fid_sess_shelf_sess_challenge_drop h_sess_shelf_sess_challenge_drop [x0, x1] = F_sess_shelf_sess_challenge_drop x0 x1 := by kernel_rfl
theorem K_sess_shelf_sess_challenge_drop : Known Tryz.prog fid_sess_shelf_sess_challenge_drop (A_sess_shelf_sess_challenge_drop) := known_of (σ := s_sess_shelf_sess_challenge_drop) (hint := h_sess_shelf_sess_challenge_drop) (by kernel_rfl) (simAll_ovr (K_sess_shelf_sess_challenge_keep (simAll_ovr K_sess_shelf_sess_challenge_drop_1 simAll_nil0)) simAll_nil0) fun l H r H' h => by
  unfold A_sess_shelf_sess_challenge_drop at h; split at h
  · rw [e_sess_shelf_sess_challenge_drop]; exact h
  · exact (fail_ne h).elim

/-! ### capstan/mac.Equal -/
def mac_Equal_k0 (vs_4 : List V) : M Out :=
  bnd (lift (bin .add (at_ vs_4 4) (Value.int .i64 1))) fun x26 =>
  ret (.nxt [(at_ vs_4 0), (at_ vs_4 1), (at_ vs_4 2), (at_ vs_4 3), x26])
def mac_Equal_k1 (vs_3 : List V) : M Out :=
  bnd (
  bnd (
    bnd (lift (idxS (at_ vs_3 0) (at_ vs_3 4))) fun x20 =>
    bnd (lift (idxS (at_ vs_3 1) (at_ vs_3 4))) fun x23 =>
    bnd (lift (bin .xor x20 x23)) fun x24 =>
    bnd (lift (bin .or (at_ vs_3 2) x24)) fun x25 =>
    ret (.nxt [(at_ vs_3 0), (at_ vs_3 1), x25, (at_ vs_3 3), (at_ vs_3 4)])
    ) fun o => ret (unblk 1 o)
  ) fun o => nx o mac_Equal_k0
def mac_Equal_l2 (vs_2 : List V) : M Out :=
  bnd (lift (bin .lss (at_ vs_2 4) (at_ vs_2 3))) fun x15 =>
  bnd (
  condM x15 (
    ret (.nxt [(at_ vs_2 0), (at_ vs_2 1), (at_ vs_2 2), (at_ vs_2 3), (at_ vs_2 4)])
    ) (
    ret (.brk 0 [(at_ vs_2 2)])
    )
  ) fun o => nx o mac_Equal_k1
def mac_Equal_k3 (vs_5 : List V) : M Out :=
  bnd (lift (bin .eql (at_ vs_5 0) (Value.int .u8 0))) fun x28 =>
  ret (.ret [x28])
def mac_Equal_k4 (vs : List V) : M Out :=
  bnd (
    bnd (lift (lenStr (at_ vs 0))) fun x13 =>
    bnd (
      loopM FUEL mac_Equal_l2 [(at_ vs 0), (at_ vs 1), (Value.int .u8 0), x13, (Value.int .i64 0)]
      ) fun o => ret (unblk 0 o)
    ) fun o => nx o mac_Equal_k3
def F_mac_Equal (x0 x1 : V) : M V :=
  bnd (
    bnd (
      bnd (lift (lenStr x0)) fun x8 =>
      bnd (lift (lenStr x1)) fun x10 =>
      bnd (lift (bin .neq x8 x10)) fun x11 =>
      condM x11 (
        ret (.ret [(Value.bool false)])
        ) (
        ret (.nxt [x0, x1])
        )
      ) fun o => nx o mac_Equal_k4
    ) fun o => finM o fun vs => ret (outV [(at_ vs 0)])
def h_mac_Equal : Hint := (.seq [] .leaf (.seq [0, 1] (.seq [] .leaf (.cond (.seq [] .leaf .leaf) .leaf)) (.seq [] .leaf (.seq [5] (.seq [] .leaf (.blk (.loop [0, 1, 5, 13, 14] (.seq [] .leaf (.seq [0, 1, 5, 13, 14] (.cond .leaf .leaf) (.seq [0, 1, 5, 13, 14] (.blk (.seq [] .leaf (.reg [0, 1, 2, 3, 4, 5, 6, 7, 8, 9] []))) .leaf)))))) (.seq [] .leaf .leaf)))))
def A_mac_Equal (l : List V) : M V := match l with | [x0, x1] => F_mac_Equal x0 x1 | _ => fail
theorem e_mac_Equal (x0 x1 : V) : funM Tryz.prog (ovr [] noC) fid_mac_Equal h_mac_Equal [x0, x1] = F_mac_Equal x0 x1 := by kernel_rfl
theorem K_mac_Equal : Known Tryz.prog fid_mac_Equal (A_mac_Equal) := known_of (σ := ovr [] noC) (hint := h_mac_Equal) (by kernel_rfl) simAll_nil0 fun l H r H' h => by
  unfold A_mac_Equal at h; split at h
  · rw [e_mac_Equal]; exact h
  · exact (fail_ne h).elim

/-! ### (*capstan/sess.shelf[capstan/sess.session]).put -/
def sess_shelf_sess_session_put_k0 (vs : List V) : M Out :=
  bnd (lift (nilck (at_ vs 0))) fun x13 =>
  bnd (lift (faddr 0 x13)) fun x14 =>
  bnd (ld1 x14) fun x15 =>
  bnd (lift (bin .add x15 (Value.int .i64 1))) fun x16 =>
  bnd (lift (nilck (at_ vs 0))) fun x17 =>
  bnd (lift (faddr 0 x17)) fun x18 =>
  bnd (st1 x18 x16) fun _ =>
  withResv 2 fun base h0 =>
  bnd (lift (nilck (at_ vs 0))) fun x22 =>
  bnd (lift (faddr 1 x22)) fun x23 =>
  bnd (lift (nilck (at_ vs 0))) fun x26 =>
  bnd (lift (faddr 0 x26)) fun x27 =>
  bnd (lift (nilck (at_ vs 0))) fun x32 =>
  bnd (lift (faddr 2 x32)) fun x33 =>
  bnd (ld1 x23) fun x24 =>
  bnd (ld1 x27) fun x28 =>
  bnd (ld1 x33) fun x34 =>
  bnd (ldn 6 (at_ vs 1)) fun x35 =>
  bnd (flt (base + 0) (bslc 1 1 (rep 1 [Value.int .i64 0]) [(0, 1, x28)])) fun x29 =>
  bndH (appV 1 8 x24 x29) fun ha x30 h1 =>
  need (freeIn ha [base + 1] && freeIn h1 [base + 1]) <|
  bnd (flt (base + 1) (bslc 6 1 (rep 1 [Value.string ⟨#[]⟩, Value.string ⟨#[]⟩, Value.slice none 0 0, Value.string ⟨#[]⟩, Value.int .i64 0, Value.int .i64 0]) [(0, 6, x35)])) fun x36 =>
  bndH (appV 6 88 x34 x36) fun ha_2 x37 h2 =>
  bnd (lift (nilck (at_ vs 0))) fun x38 =>
  bnd (lift (faddr 1 x38)) fun x39 =>
  bndH (st1 x39 x30) fun ha_3 u h3 =>
  bnd (lift (nilck (at_ vs 0))) fun x40 =>
  bnd (lift (faddr 2 x40)) fun x41 =>
  bndH (st1 x41 x37) fun ha_4 u_2 h4 =>
  need (chk (ld1 x33) h1 x34) <|
  need (chk (ldn 6 (at_ vs 1)) h1 x35) <|
  bnd (lift (nilck (at_ vs 0))) fun x43 =>
  bnd (lift (faddr 0 x43)) fun x44 =>
  bnd (ld1 x44) fun x45 =>
  ret (.ret [x45, (Value.bool true)])
def F_sess_shelf_sess_session_put (x0 x1 : V) : M V :=
  bnd (
    bnd (boxv x1) fun x3 =>
    bnd (
      bnd (lift (nilck x0)) fun x7 =>
      bnd (lift (faddr 2 x7)) fun x8 =>
      bnd (ld1 x8) fun x9 =>
      bnd (lift (lenSlc x9)) fun x10 =>
      bnd (lift (bin .eql x10 (Value.int .i64 8))) fun x11 =>
      condM x11 (
        ret (.ret [(Value.int .i64 0), (Value.bool false)])
        ) (
        ret (.nxt [x0, x3])
        )
      ) fun o => nx o sess_shelf_sess_session_put_k0
    ) fun o => finM o fun vs => ret (outV [(at_ vs 0), (at_ vs 1)])
def h_sess_shelf_sess_session_put : Hint := (.seq [] .leaf (.seq [0, 3] (.seq [] .leaf (.cond (.seq [] .leaf .leaf) .leaf)) (.seq [] .leaf (.seq [] (.reg [0, 1, 2, 3, 4, 6, 7, 8, 12, 13, 14, 5, 9, 15, 16, 10, 11, 17, 18, 19, 20, 21, 22, 23, 24] [10, 17]) (.seq [] .leaf .leaf)))))
def A_sess_shelf_sess_session_put (l : List V) : M V := match l with | [x0, x1] => F_sess_shelf_sess_session_put x0 x1 | _ => fail
theorem e_sess_shelf_sess_session_put (x0 x1 : V) : funM Tryz.prog (ovr [] noC) fid_sess_shelf_sess_session_put h_sess_shelf_sess_session_put [x0, x1] = F_sess_shelf_sess_session_put x0 x1 := by kernel_rfl
theorem K_sess_shelf_sess_session_put : Known Tryz.prog fid_sess_shelf_sess_session_put (A_sess_shelf_sess_session_put) := known_of (σ := ovr [] noC) (hint := h_sess_shelf_sess_session_put) (by kernel_rfl) simAll_nil0 fun l H r H' h => by
  unfold A_sess_shelf_sess_session_put at h; split at h
  · rw [e_sess_shelf_sess_session_put]; exact h
  · exact (fail_ne h).elim

/-! ### (*capstan/sess.Desk).Login -/
def sess_Desk_Login_k0 (vs_3 : List V) : M Out :=
  ret (.ret [(at_ vs_3 0), (Value.int .i64 0)])
def sess_Desk_Login_k1 (vs_2 : List V) : M Out :=
  bnd (lift (nilck (at_ vs_2 0))) fun x45 =>
  bnd (lift (faddr 6 x45)) fun x46 =>
  bnd (lift (faddr 0 (at_ vs_2 1))) fun x47 =>
  bnd (lift (nilck (at_ vs_2 0))) fun x51 =>
  bnd (lift (faddr 2 x51)) fun x52 =>
  bnd (ldn 3 x47) fun x48 =>
  bnd (ld1 x52) fun x53 =>
  bnd (lift (build [Value.string ⟨#[]⟩, Value.string ⟨#[]⟩, Value.slice none 0 0, Value.string ⟨#[]⟩, Value.int .i64 0, Value.int .i64 0] [(0, 3, x48), (3, 1, (at_ vs_2 2)), (4, 1, (Value.int .i64 1)), (5, 1, x53)])) fun x54 =>
  bnd (A_sess_shelf_sess_session_put [x46, x54]) fun x55 =>
  bnd (lift (ext 0 x55)) fun x56 =>
  bnd (lift (ext 1 x55)) fun x57 =>
  bnd (
    bnd (lift (un .not x57)) fun x59 =>
    condM x59 (
      ret (.ret [(Value.int .i64 0), (Value.int .i64 2)])
      ) (
      ret (.nxt [x56])
      )
    ) fun o => nx o sess_Desk_Login_k0
def sess_Desk_Login_k2 (vs : List V) : M Out :=
  bnd (lift (nilck (at_ vs 3))) fun x22 =>
  bnd (ldn 5 x22) fun x23 =>
  bnd (newc [Value.string ⟨#[]⟩, Value.string ⟨#[]⟩, Value.slice none 0 0, Value.string ⟨#[]⟩, Value.int .i64 0]) fun x9 =>
  bnd (stn 5 x9 x23) fun _ =>
  bnd (lift (nilck (at_ vs 0))) fun x25 =>
  bnd (lift (faddr 3 x25)) fun x26 =>
  bnd (A_sess_shelf_sess_challenge_drop [x26, (at_ vs 1)]) fun x28 =>
  bnd (lift (faddr 0 x9)) fun x30 =>
  bnd (lift (faddr 1 x30)) fun x31 =>
  bnd (ld1 x31) fun x32 =>
  bnd (lift (faddr 3 x9)) fun x33 =>
  bnd (ld1 x33) fun x34 =>
  bnd (A_sess_Prove [x32, x34, (at_ vs 1)]) fun x36 =>
  bnd (lift (ext 0 x36)) fun x37 =>
  bnd (lift (ext 1 x36)) fun x38 =>
  bnd (
    bnd (A_mac_Equal [x37, (at_ vs 2)]) fun x41 =>
    bnd (lift (un .not x41)) fun x42 =>
    condM x42 (
      ret (.ret [(Value.int .i64 0), (Value.int .i64 20)])
      ) (
      ret (.nxt [(at_ vs 0), x9, x38])
      )
    ) fun o => nx o sess_Desk_Login_k1
def F_sess_Desk_Login (x0 x1 x2 : V) : M V :=
  bnd (
    bnd (lift (nilck x0)) fun x15 =>
    bnd (lift (faddr 3 x15)) fun x16 =>
    bnd (A_sess_shelf_sess_challenge_get [x16, x1]) fun x18 =>
    bnd (
      bnd (lift (notIf false (isNil .p x18))) fun x20 =>
      condM x20 (
        ret (.ret [(Value.int .i64 0), (Value.int .i64 5)])
        ) (
        ret (.nxt [x0, x1, x2, x18])
        )
      ) fun o => nx o sess_Desk_Login_k2
    ) fun o => finM o fun vs => ret (outV [(at_ vs 0), (at_ vs 1)])
def h_sess_Desk_Login : Hint := (.seq [] .leaf (.seq [] .leaf (.seq [0, 1, 2, 8] (.seq [] .leaf (.cond (.seq [] .leaf .leaf) .leaf)) (.seq [] .leaf (.seq [] .leaf (.seq [] .leaf (.seq [0, 9, 11] (.seq [] .leaf (.cond (.seq [] .leaf .leaf) .leaf)) (.seq [] (.reg [0, 1, 2, 3, 5, 6, 7, 8, 4, 9, 10, 11, 12, 13, 14, 15, 16] []) (.seq [12] (.seq [] .leaf (.cond (.seq [] .leaf .leaf) .leaf)) (.seq [] .leaf .leaf))))))))))
def A_sess_Desk_Login (l : List V) : M V := match l with | [x0, x1, x2] => F_sess_Desk_Login x0 x1 x2 | _ => fail
def s_sess_Desk_Login : Calls' := ovr [(fid_sess_shelf_sess_challenge_get, A_sess_shelf_sess_challenge_get), (fid_sess_shelf_sess_challenge_drop, A_sess_shelf_sess_challenge_drop), (fid_sess_Prove, A_sess_Prove), (fid_mac_Equal, A_mac_Equal), (fid_sess_shelf_sess_session_put, A_sess_shelf_sess_session_put)] noC
theorem e_sess_Desk_Login (x0 x1 x2 : V) : funM Tryz.prog (s_sess_Desk_Login) fid_sess_Desk_Login h_sess_Desk_Login [x0, x1, x2] = F_sess_Desk_Login x0 x1 x2 := by kernel_rfl
theorem K_sess_Desk_Login : Known Tryz.prog fid_sess_Desk_Login (A_sess_Desk_Login) := known_of (σ := s_sess_Desk_Login) (hint := h_sess_Desk_Login) (by kernel_rfl) (simAll_ovr K_sess_shelf_sess_challenge_get (simAll_ovr K_sess_shelf_sess_challenge_drop (simAll_ovr K_sess_Prove (simAll_ovr K_mac_Equal (simAll_ovr K_sess_shelf_sess_session_put simAll_nil0))))) fun l H r H' h => by
  unfold A_sess_Desk_Login at h; split at h
  · rw [e_sess_Desk_Login]; exact h
  · exact (fail_ne h).elim

/-! ### capstan/capstanlaw25.desk -/
def law25_desk_k0 (G_strings_IndexRune : List V → M V) (vs : List V) : M Out :=
  bnd (A_sess_Desk_Hello [(at_ vs 0), (Value.string ⟨#[97, 110, 110]⟩), (Value.string ⟨#[115, 105, 120, 116, 101, 101, 110, 32, 98, 121, 116, 101, 115, 32, 33, 33]⟩)]) fun x28 =>
  bnd (lift (ext 0 x28)) fun x29 =>
  bnd (lift (ext 1 x28)) fun x30 =>
  bnd (A_sess_Prove [(Value.string ⟨#[48, 49, 50, 51, 52, 53, 54, 55, 56, 57, 97, 98, 99, 100, 101, 102]⟩), (Value.string ⟨#[115, 105, 120, 116, 101, 101, 110, 32, 98, 121, 116, 101, 115, 32, 33, 33]⟩), x29]) fun x33 =>
  bnd (lift (ext 0 x33)) fun x34 =>
  bnd (lift (ext 1 x33)) fun x35 =>
  bnd (A_sess_Desk_Login [(at_ vs 0), x29, x34]) fun x40 =>
  bnd (lift (ext 0 x40)) fun x41 =>
  bnd (lift (ext 1 x40)) fun x42 =>
  bnd (lift (bin .eql x29 (Value.int .i64 1))) fun x46 =>
  bnd (gd x46 true (lift (some x30))) fun x48 =>
  bnd (gd x46 true (lift (bin .eql x48 (Value.int .i64 0)))) fun x49 =>
  bnd (lift (pickV x46 x49 (Value.bool false))) fun x50 =>
  bnd (gd x50 true (lift (some x41))) fun x52 =>
  bnd (gd x50 true (lift (bin .eql x52 (Value.int .i64 1)))) fun x53 =>
  bnd (lift (pickV x50 x53 (Value.bool false))) fun x54 =>
  bnd (gd x54 true (lift (some x42))) fun x56 =>
  bnd (gd x54 true (lift (bin .eql x56 (Value.int .i64 0)))) fun x57 =>
  bnd (lift (pickV x54 x57 (Value.bool false))) fun x58 =>
  ret (.ret [(at_ vs 0), x35, x58])
def F_law25_desk (G_strings_IndexRune : List V → M V) (x0 : V) : M V :=
  bnd (
    bnd (lift (build [Value.string ⟨#[]⟩, Value.string ⟨#[]⟩, Value.slice none 0 0] [(0, 1, (Value.string ⟨#[97, 110, 110]⟩)), (1, 1, (Value.string ⟨#[48, 49, 50, 51, 52, 53, 54, 55, 56, 57, 97, 98, 99, 100, 101, 102]⟩))])) fun x13 =>
    bnd (lift (build [Value.string ⟨#[]⟩, Value.string ⟨#[]⟩, Value.slice none 0 0] [(0, 1, (Value.string ⟨#[98, 111, 98]⟩)), (1, 1, (Value.string ⟨#[48, 49, 50, 51, 52, 53, 54, 55, 56, 57, 97, 98, 99, 100, 101, 102, 48, 49, 50, 51, 52, 53, 54, 55, 56, 57, 97, 98, 99, 100, 101, 102]⟩))])) fun x14 =>
    bnd (bslc 3 2 (rep 2 [Value.string ⟨#[]⟩, Value.string ⟨#[]⟩, Value.slice none 0 0]) [(0, 3, x13), (3, 3, x14)]) fun x15 =>
    bnd ((A_sess_New G_strings_IndexRune) [x15, (Value.int .i64 1), x0]) fun x17 =>
    bnd (lift (ext 0 x17)) fun x18 =>
    bnd (lift (ext 1 x17)) fun x19 =>
    bnd (
      bnd (lift (notIf false (isNil .p x18))) fun x21 =>
      bnd (gd x21 false (lift (some x19))) fun x23 =>
      bnd (gd x21 false (lift (bin .neq x23 (Value.int .i64 0)))) fun x24 =>
      bnd (lift (pickV x21 (Value.bool true) x24)) fun x25 =>
      condM x25 (
        ret (.ret [(Value.pointer none), (Value.string ⟨#[]⟩), (Value.bool false)])
        ) (
        ret (.nxt [x18])
        )
      ) fun o => nx o (law25_desk_k0 G_strings_IndexRune)
    ) fun o => finM o fun vs => ret (outV [(at_ vs 0), (at_ vs 1), (at_ vs 2)])
def h_law25_desk : Hint := (.seq [] .leaf (.seq [] .leaf (.seq [5] (.seq [] .leaf (.cond (.seq [] .leaf .leaf) .leaf)) (.seq [] .leaf (.seq [] .leaf (.seq [] .leaf (.seq [] .leaf .leaf)))))))
def A_law25_desk (G_strings_IndexRune : List V → M V) (l : List V) : M V := match l with | [x0] => F_law25_desk G_strings_IndexRune x0 | _ => fail
theorem e_law25_desk (G_strings_IndexRune : List V → M V) (x0 : V) : funM Tryz.prog (ovr [(fid_sess_New, A_sess_New G_strings_IndexRune), (fid_sess_Desk_Hello, A_sess_Desk_Hello), (fid_sess_Prove, A_sess_Prove), (fid_sess_Desk_Login, A_sess_Desk_Login)] noC) fid_law25_desk h_law25_desk [x0] = F_law25_desk G_strings_IndexRune x0 := by kernel_rfl
theorem K_law25_desk {G_strings_IndexRune : List V → M V} (k_strings_IndexRune : Known Tryz.prog fid_strings_IndexRune G_strings_IndexRune) : Known Tryz.prog fid_law25_desk (A_law25_desk G_strings_IndexRune) := known_of (σ := ovr [(fid_sess_New, A_sess_New G_strings_IndexRune), (fid_sess_Desk_Hello, A_sess_Desk_Hello), (fid_sess_Prove, A_sess_Prove), (fid_sess_Desk_Login, A_sess_Desk_Login)] noC) (hint := h_law25_desk) (by kernel_rfl) (simAll_ovr (K_sess_New k_strings_IndexRune) (simAll_ovr K_sess_Desk_Hello (simAll_ovr K_sess_Prove (simAll_ovr K_sess_Desk_Login simAll_nil0)))) fun l H r H' h => by
  unfold A_law25_desk at h; split at h
  · rw [e_law25_desk]; exact h
  · exact (fail_ne h).elim

/-! ### slices.Grow[[]capstan/api.Item,capstan/api.Item] -/
def slices_Grow_S_api_Item_api_Item_k0 (vs_2 : List V) : M Out :=
  ret (.ret [(at_ vs_2 0)])
def slices_Grow_S_api_Item_api_Item_k1 (vs : List V) : M Out :=
  bnd (
    bnd (lift (capV (at_ vs 0))) fun x10 =>
    bnd (lift (lenSlc (at_ vs 0))) fun x12 =>
    bnd (lift (bin .sub x10 x12)) fun x13 =>
    bnd (lift (bin .sub (at_ vs 1) x13)) fun x14 =>
    bnd (lift (bin .gtr x14 (Value.int .i64 0))) fun x16 =>
    condM x16 (
      bnd (lift (capV (at_ vs 0))) fun x19 =>
      bnd (lift (subV 3 (at_ vs 0) none (some x19))) fun x20 =>
      bnd (appZ 3 32 [Value.bool false, Value.int .i64 0, Value.string ⟨#[]⟩] x20 x14) fun x22 =>
      bnd (lift (lenSlc (at_ vs 0))) fun x24 =>
      bnd (lift (subV 3 x22 none (some x24))) fun x25 =>
      ret (.nxt [x25])
      ) (
      ret (.nxt [(at_ vs 0)])
      )
    ) fun o => nx o slices_Grow_S_api_Item_api_Item_k0
def F_slices_Grow_S_api_Item_api_Item (x0 x1 : V) : M V :=
  bnd (
    bnd (
      bnd (lift (bin .lss x1 (Value.int .i64 0))) fun x6 =>
      condM x6 (
        bnd (lift (some (Value.iface tid_string (Value.string ⟨#[99, 97, 110, 110, 111, 116, 32, 98, 101, 32, 110, 101, 103, 97, 116, 105, 118, 101]⟩)))) fun x7 =>
        bnd (lift ((none : Option V))) fun _ =>
        ret (.nxt [x0, x1])
        ) (
        ret (.nxt [x0, x1])
        )
      ) fun o => nx o slices_Grow_S_api_Item_api_Item_k1
    ) fun o => finM o fun vs => ret (outV [(at_ vs 0)])
def h_slices_Grow_S_api_Item_api_Item : Hint := (.seq [] .leaf (.seq [0, 1] (.seq [] .leaf (.cond .leaf .leaf)) (.seq [0] (.seq [] .leaf (.seq [] .leaf (.cond .leaf .leaf))) (.seq [] .leaf .leaf))))
def A_slices_Grow_S_api_Item_api_Item (l : List V) : M V := match l with | [x0, x1] => F_slices_Grow_S_api_Item_api_Item x0 x1 | _ => fail
theorem e_slices_Grow_S_api_Item_api_Item (x0 x1 : V) : funM Tryz.prog (ovr [] noC) fid_slices_Grow_S_api_Item_api_Item h_slices_Grow_S_api_Item_api_Item [x0, x1] = F_slices_Grow_S_api_Item_api_Item x0 x1 := by kernel_rfl
theorem K_slices_Grow_S_api_Item_api_Item : Known Tryz.prog fid_slices_Grow_S_api_Item_api_Item (A_slices_Grow_S_api_Item_api_Item) := known_of (σ := ovr [] noC) (hint := h_slices_Grow_S_api_Item_api_Item) (by kernel_rfl) simAll_nil0 fun l H r H' h => by
  unfold A_slices_Grow_S_api_Item_api_Item at h; split at h
  · rw [e_slices_Grow_S_api_Item_api_Item]; exact h
  · exact (fail_ne h).elim

/-! ### slices.Concat[[]capstan/api.Item,capstan/api.Item] -/
def slices_Concat_S_api_Item_api_Item_k0 (vs_3 : List V) : M Out :=
  bnd (lift (bin .add (at_ vs_3 4) (Value.int .i64 1))) fun x22 =>
  ret (.nxt [(at_ vs_3 0), (at_ vs_3 1), (at_ vs_3 2), (at_ vs_3 3), x22])
def slices_Concat_S_api_Item_api_Item_k1 (vs_2 : List V) : M Out :=
  bnd (
  bnd (
    bnd (lift (iaddrS 1 (at_ vs_2 2) (at_ vs_2 4))) fun x13 =>
    bnd (ld1 x13) fun x14 =>
    bnd (lift (lenSlc x14)) fun x17 =>
    bnd (lift (bin .add (at_ vs_2 1) x17)) fun x18 =>
    bnd (lift (bin .lss x18 (Value.int .i64 0))) fun x20 =>
    condM x20 (
      bnd (lift (some (Value.iface tid_string (Value.string ⟨#[108, 101, 110, 32, 111, 117, 116, 32, 111, 102, 32, 114, 97, 110, 103, 101]⟩)))) fun x21 =>
      bnd (lift ((none : Option V))) fun _ =>
      ret (.nxt [(at_ vs_2 0), x18, (at_ vs_2 2), (at_ vs_2 3), (at_ vs_2 4)])
      ) (
      ret (.nxt [(at_ vs_2 0), x18, (at_ vs_2 2), (at_ vs_2 3), (at_ vs_2 4)])
      )
    ) fun o => ret (unblk 1 o)
  ) fun o => nx o slices_Concat_S_api_Item_api_Item_k0
def slices_Concat_S_api_Item_api_Item_l2 (vs : List V) : M Out :=
  bnd (lift (bin .lss (at_ vs 4) (at_ vs 3))) fun x12 =>
  bnd (
  condM x12 (
    ret (.nxt [(at_ vs 0), (at_ vs 1), (at_ vs 2), (at_ vs 3), (at_ vs 4)])
    ) (
    ret (.brk 0 [(at_ vs 0), (at_ vs 1)])
    )
  ) fun o => nx o slices_Concat_S_api_Item_api_Item_k1
def slices_Concat_S_api_Item_api_Item_k3 (vs_7 : List V) : M Out :=
  bnd (lift (bin .add (at_ vs_7 3) (Value.int .i64 1))) fun x34 =>
  ret (.nxt [(at_ vs_7 0), (at_ vs_7 1), (at_ vs_7 2), x34])
def slices_Concat_S_api_Item_api_Item_k4 (vs_6 : List V) : M Out :=
  bnd (
  bnd (
    bnd (lift (iaddrS 1 (at_ vs_6 1) (at_ vs_6 3))) fun x29 =>
    bnd (ld1 x29) fun x30 =>
    bnd (appV 3 32 (at_ vs_6 0) x30) fun x33 =>
    ret (.nxt [x33, (at_ vs_6 1), (at_ vs_6 2), (at_ vs_6 3)])
    ) fun o => ret (unblk 3 o)
  ) fun o => nx o slices_Concat_S_api_Item_api_Item_k3
def slices_Concat_S_api_Item_api_Item_l5 (vs_5 : List V) : M Out :=
  bnd (lift (bin .lss (at_ vs_5 3) (at_ vs_5 2))) fun x28 =>
  bnd (
  condM x28 (
    ret (.nxt [(at_ vs_5 0), (at_ vs_5 1), (at_ vs_5 2), (at_ vs_5 3)])
    ) (
    ret (.brk 2 [(at_ vs_5 0)])
    )
  ) fun o => nx o slices_Concat_S_api_Item_api_Item_k4
def slices_Concat_S_api_Item_api_Item_k6 (vs_8 : List V) : M Out :=
  ret (.ret [(at_ vs_8 0)])
def slices_Concat_S_api_Item_api_Item_k7 (vs_4 : List V) : M Out :=
  bnd (A_slices_Grow_S_api_Item_api_Item [(Value.slice none 0 0), (at_ vs_4 1)]) fun x24 =>
  bnd (
    bnd (lift (lenSlc (at_ vs_4 0))) fun x26 =>
    bnd (
      loopM FUEL slices_Concat_S_api_Item_api_Item_l5 [x24, (at_ vs_4 0), x26, (Value.int .i64 0)]
      ) fun o => ret (unblk 2 o)
    ) fun o => nx o slices_Concat_S_api_Item_api_Item_k6
def F_slices_Concat_S_api_Item_api_Item (x0 : V) : M V :=
  bnd (
    bnd (
      bnd (lift (lenSlc x0)) fun x10 =>
      bnd (
        loopM FUEL slices_Concat_S_api_Item_api_Item_l2 [x0, (Value.int .i64 0), x0, x10, (Value.int .i64 0)]
        ) fun o => ret (unblk 0 o)
      ) fun o => nx o slices_Concat_S_api_Item_api_Item_k7
    ) fun o => finM o fun vs => ret (outV [(at_ vs 0)])
def h_slices_Concat_S_api_Item_api_Item : Hint := (.seq [] .leaf (.seq [] .leaf (.seq [0, 3] (.seq [] .leaf (.blk (.loop [0, 3, 9, 10, 11] (.seq [] .leaf (.seq [0, 3, 9, 10, 11] (.cond .leaf .leaf) (.seq [0, 3, 9, 10, 11] (.blk (.seq [] .leaf (.seq [] .leaf (.seq [] .leaf (.cond .leaf .leaf))))) .leaf)))))) (.seq [] .leaf (.seq [6] (.seq [] .leaf (.blk (.loop [6, 25, 26, 27] (.seq [] .leaf (.seq [6, 25, 26, 27] (.cond .leaf .leaf) (.seq [6, 25, 26, 27] (.blk (.seq [] .leaf .leaf)) .leaf)))))) (.seq [] .leaf .leaf))))))
def A_slices_Concat_S_api_Item_api_Item (l : List V) : M V := match l with | [x0] => F_slices_Concat_S_api_Item_api_Item x0 | _ => fail
def s_slices_Concat_S_api_Item_api_Item : Calls' := ovr [(fid_slices_Grow_S_api_Item_api_Item, A_slices_Grow_S_api_Item_api_Item)] noC
theorem e_slices_Concat_S_api_Item_api_Item (x0 : V) : funM Tryz.prog (s_slices_Concat_S_api_Item_api_Item) fid_slices_Concat_S_api_Item_api_Item h_slices_Concat_S_api_Item_api_Item [x0] = F_slices_Concat_S_api_Item_api_Item x0 := by kernel_rfl
theorem K_slices_Concat_S_api_Item_api_Item : Known Tryz.prog fid_slices_Concat_S_api_Item_api_Item (A_slices_Concat_S_api_Item_api_Item) := known_of (σ := s_slices_Concat_S_api_Item_api_Item) (hint := h_slices_Concat_S_api_Item_api_Item) (by kernel_rfl) (simAll_ovr K_slices_Grow_S_api_Item_api_Item simAll_nil0) fun l H r H' h => by
  unfold A_slices_Concat_S_api_Item_api_Item at h; split at h
  · rw [e_slices_Concat_S_api_Item_api_Item]; exact h
  · exact (fail_ne h).elim

/-! ### capstan/wire.Encode -/
def wire_Encode_k0 (vs_7 : List V) : M Out :=
  bnd (lift (bin .sub (at_ vs_7 3) (Value.int .i64 8))) fun x32 =>
  ret (.nxt [(at_ vs_7 0), (at_ vs_7 1), (at_ vs_7 2), x32, (at_ vs_7 4), (at_ vs_7 5), (at_ vs_7 6)])
def wire_Encode_k1 (vs_6 : List V) : M Out :=
  bnd (
  bnd (
    bnd (lift (faddr 1 (at_ vs_6 2))) fun x34 =>
    bnd (ld1 x34) fun x35 =>
    bnd (lift (cvi .u64 x35)) fun x36 =>
    bnd (lift (bin .shr x36 (at_ vs_6 3))) fun x38 =>
    bnd (lift (cvi .u8 x38)) fun x39 =>
    bnd (bslc 1 1 (rep 1 [Value.int .u8 0]) [(0, 1, x39)]) fun x40 =>
    bnd (appV 1 1 (at_ vs_6 0) x40) fun x41 =>
    ret (.nxt [x41, (at_ vs_6 1), (at_ vs_6 2), (at_ vs_6 3), (at_ vs_6 4), (at_ vs_6 5), (at_ vs_6 6)])
    ) fun o => ret (unblk 4 o)
  ) fun o => nx o wire_Encode_k0
def wire_Encode_l2 (vs_5 : List V) : M Out :=
  bnd (
  bnd (lift (bin .geq (at_ vs_5 3) (Value.int .i64 0))) fun x30 =>
  condM x30 (
    ret (.nxt [(at_ vs_5 0), (at_ vs_5 1), (at_ vs_5 2), (at_ vs_5 3), (at_ vs_5 4), (at_ vs_5 5), (at_ vs_5 6)])
    ) (
    ret (.brk 3 [(at_ vs_5 0), (at_ vs_5 1), (at_ vs_5 4), (at_ vs_5 5), (at_ vs_5 6)])
    )
  ) fun o => nx o wire_Encode_k1
def wire_Encode_k3 (vs_4 : List V) : M Out :=
      condM (at_ vs_4 6) (
        ret (.ret [(Value.string ⟨#[]⟩), (Value.int .i64 4)])
        ) (
        bnd (lift (lenSlc (at_ vs_4 0))) fun x66 =>
        bnd (lift (bin .gtr x66 (Value.int .i64 65536))) fun x67 =>
        condM x67 (
          ret (.nxt [(at_ vs_4 0), (Value.bool true), (at_ vs_4 3), (at_ vs_4 4), (at_ vs_4 5)])
          ) (
          bnd (lift (faddr 0 (at_ vs_4 2))) fun x69 =>
          bnd (ld1 x69) fun x70 =>
          condM x70 (
            withH fun h0 =>
            bnd (lift (faddr 2 (at_ vs_4 2))) fun x72 =>
            bnd (lift (faddr 2 (at_ vs_4 2))) fun x77 =>
            bnd (lift (faddr 2 (at_ vs_4 2))) fun x83 =>
            bnd (ld1 x72) fun x73 =>
            bnd (lift (lenStr x73)) fun x74 =>
            bnd (lift (bin .shr x74 (Value.int .u64 8))) fun x75 =>
            bnd (lift (cvi .u8 x75)) fun x76 =>
            bnd (ld1 x77) fun x78 =>
            bnd (lift (lenStr x78)) fun x79 =>
            bnd (lift (cvi .u8 x79)) fun x80 =>
            bnd (ld1 x83) fun x84 =>
            bndH (bslc 1 3 (rep 3 [Value.int .u8 0]) [(0, 1, (Value.int .u8 36)), (1, 1, x76), (2, 1, x80)]) fun ha x81 h1 =>
            bndH (appV 1 1 (at_ vs_4 0) x81) fun ha_2 x82 h2 =>
            bndH (appS x82 x84) fun ha_3 x85 h3 =>
            need (chk (ld1 x83) h1 x84) <|
            need (chk (ld1 x83) h2 x84) <|
            ret (.nxt [x85, (at_ vs_4 1), (at_ vs_4 3), (at_ vs_4 4), (at_ vs_4 5)])
            ) (
            bnd (bslc 1 1 (rep 1 [Value.int .u8 0]) [(0, 1, (Value.int .u8 35))]) fun x27 =>
            bnd (appV 1 1 (at_ vs_4 0) x27) fun x28 =>
            bnd (
              loopM FUEL wire_Encode_l2 [x28, (at_ vs_4 1), (at_ vs_4 2), (Value.int .i64 56), (at_ vs_4 3), (at_ vs_4 4), (at_ vs_4 5)]
              ) fun o => ret (unblk 3 o)
            )
          )
        )
def wire_Encode_k4 (vs_8 : List V) : M Out :=
  bnd (lift (bin .add (at_ vs_8 4) (Value.int .i64 1))) fun x86 =>
  ret (.nxt [(at_ vs_8 0), (at_ vs_8 1), (at_ vs_8 2), (at_ vs_8 3), x86])
def wire_Encode_k5 (vs_3 : List V) : M Out :=
  bnd (
  bnd (
    bnd (lift (iaddrS 3 (at_ vs_3 2) (at_ vs_3 4))) fun x24 =>
    bnd (ldn 3 x24) fun x25 =>
    bnd (newc [Value.bool false, Value.int .i64 0, Value.string ⟨#[]⟩]) fun x7 =>
    bnd (stn 3 x7 x25) fun _ =>
    bnd (
      bnd (
        bnd (lift (faddr 0 x7)) fun x43 =>
        bnd (ld1 x43) fun x44 =>
        bnd (gd x44 true (lift (faddr 1 x7))) fun x46 =>
        bnd (gd x44 true (ld1 x46)) fun x47 =>
        bnd (gd x44 true (lift (bin .neq x47 (Value.int .i64 0)))) fun x48 =>
        bnd (gd x44 true (lift (some x48))) fun x49 =>
        bnd (gd x49 false (lift (faddr 2 x7))) fun x50 =>
        bnd (gd x49 false (ld1 x50)) fun x51 =>
        bnd (gd x49 false (lift (lenStr x51))) fun x52 =>
        bnd (gd x49 false (lift (bin .gtr x52 (Value.int .i64 65535)))) fun x53 =>
        bnd (gd x44 true (lift (pickV x49 (Value.bool true) x53))) fun x54 =>
        bnd (lift (pickV x44 x54 (Value.bool false))) fun x55 =>
        condM x55 (
          ret (.nxt [(at_ vs_3 0), (at_ vs_3 1), x7, (at_ vs_3 2), (at_ vs_3 3), (at_ vs_3 4), x55])
          ) (
          bnd (lift (faddr 0 x7)) fun x56 =>
          bnd (ld1 x56) fun x57 =>
          bnd (lift (un .not x57)) fun x58 =>
          bnd (gd x58 true (lift (faddr 2 x7))) fun x60 =>
          bnd (gd x58 true (ld1 x60)) fun x61 =>
          bnd (gd x58 true (lift (bin .neq x61 (Value.string ⟨#[]⟩)))) fun x62 =>
          bnd (lift (pickV x58 x62 (Value.bool false))) fun x63 =>
          ret (.nxt [(at_ vs_3 0), (at_ vs_3 1), x7, (at_ vs_3 2), (at_ vs_3 3), (at_ vs_3 4), x63])
          )
        ) fun o => nx o wire_Encode_k3
      ) fun o => ret (unblk 2 o)
    ) fun o => ret (unblk 1 o)
  ) fun o => nx o wire_Encode_k4
def wire_Encode_l6 (vs_2 : List V) : M Out :=
  bnd (lift (bin .lss (at_ vs_2 4) (at_ vs_2 3))) fun x23 =>
  bnd (
  condM x23 (
    ret (.nxt [(at_ vs_2 0), (at_ vs_2 1), (at_ vs_2 2), (at_ vs_2 3), (at_ vs_2 4)])
    ) (
    ret (.brk 0 [(at_ vs_2 0), (at_ vs_2 1)])
    )
  ) fun o => nx o wire_Encode_k5
def wire_Encode_k7 (vs_10 : List V) : M Out :=
  bnd (b2s (at_ vs_10 0)) fun x94 =>
  ret (.ret [x94, (Value.int .i64 0)])
def wire_Encode_k8 (vs_9 : List V) : M Out :=
  bnd (
    bnd (gd (at_ vs_9 1) false (lift (some (at_ vs_9 0)))) fun x89 =>
    bnd (gd (at_ vs_9 1) false (lift (lenSlc x89))) fun x90 =>
    bnd (gd (at_ vs_9 1) false (lift (bin .gtr x90 (Value.int .i64 65536)))) fun x91 =>
    bnd (lift (pickV (at_ vs_9 1) (Value.bool true) x91)) fun x92 =>
    condM x92 (
      ret (.ret [(Value.string ⟨#[]⟩), (Value.int .i64 2)])
      ) (
      ret (.nxt [(at_ vs_9 0)])
      )
    ) fun o => nx o wire_Encode_k7
def wire_Encode_k9 (vs : List V) : M Out :=
  bnd (lift (lenSlc (at_ vs 0))) fun x13 =>
  bnd (lift (bin .shr x13 (Value.int .u64 8))) fun x14 =>
  bnd (lift (cvi .u8 x14)) fun x15 =>
  bnd (lift (lenSlc (at_ vs 0))) fun x17 =>
  bnd (lift (cvi .u8 x17)) fun x18 =>
  bnd (bslc 1 2 (rep 2 [Value.int .u8 0]) [(0, 1, x15), (1, 1, x18)]) fun x19 =>
  bnd (
    bnd (lift (lenSlc (at_ vs 0))) fun x21 =>
    bnd (
      loopM FUEL wire_Encode_l6 [x19, (Value.bool false), (at_ vs 0), x21, (Value.int .i64 0)]
      ) fun o => ret (unblk 0 o)
    ) fun o => nx o wire_Encode_k8
def F_wire_Encode (x0 : V) : M V :=
  bnd (
    bnd (
      bnd (lift (lenSlc x0)) fun x10 =>
      bnd (lift (bin .gtr x10 (Value.int .i64 1000))) fun x11 =>
      condM x11 (
        ret (.ret [(Value.string ⟨#[]⟩), (Value.int .i64 2)])
        ) (
        ret (.nxt [x0])
        )
      ) fun o => nx o wire_Encode_k9
    ) fun o => finM o fun vs => ret (outV [(at_ vs 0), (at_ vs 1)])
def h_wire_Encode : Hint := (.seq [] .leaf (.seq [0] (.seq [] .leaf (.cond (.seq [] .leaf .leaf) .leaf)) (.seq [] .leaf (.seq [] .leaf (.seq [4, 5] (.seq [] .leaf (.blk (.loop [4, 5, 20, 21, 22] (.seq [] .leaf (.seq [4, 5, 20, 21, 22] (.cond .leaf .leaf) (.seq [4, 5, 20, 21, 22] (.blk (.seq [] .leaf (.blk (.seq [4, 5, 7, 20, 21, 22, 42] (.seq [] .leaf (.cond .leaf .leaf)) (.cond (.seq [] .leaf .leaf) (.seq [] .leaf (.cond .leaf (.seq [] .leaf (.cond (.reg [0, 1, 6, 12, 2, 3, 4, 5, 7, 8, 9, 13, 10, 11, 14, 15] []) (.seq [] .leaf (.seq [] .leaf (.blk (.loop [4, 5, 7, 8, 20, 21, 22] (.seq [4, 5, 7, 8, 20, 21, 22] (.seq [] .leaf (.cond .leaf .leaf)) (.seq [4, 5, 7, 8, 20, 21, 22] (.blk .leaf) .leaf))))))))))))))) .leaf)))))) (.seq [4] (.seq [] .leaf (.cond (.seq [] .leaf .leaf) .leaf)) (.seq [] .leaf .leaf)))))))
def A_wire_Encode (l : List V) : M V := match l with | [x0] => F_wire_Encode x0 | _ => fail
theorem e_wire_Encode (x0 : V) : funM Tryz.prog (ovr [] noC) fid_wire_Encode h_wire_Encode [x0] = F_wire_Encode x0 := by kernel_rfl
theorem K_wire_Encode : Known Tryz.prog fid_wire_Encode (A_wire_Encode) := known_of (σ := ovr [] noC) (hint := h_wire_Encode) (by kernel_rfl) simAll_nil0 fun l H r H' h => by
  unfold A_wire_Encode at h; split at h
  · rw [e_wire_Encode]; exact h
  · exact (fail_ne h).elim

/-! ### capstan/mac.Seal -/
def F_mac_Seal (x0 x1 : V) : M V :=
  bnd (
    bnd (A_mac_Tag [x0, x1]) fun x8 =>
    bnd (lift (bin .add x1 x8)) fun x9 =>
    ret (.ret [x9])
    ) fun o => finM o fun vs => ret (outV [(at_ vs 0)])
def h_mac_Seal : Hint := (.seq [] .leaf (.seq [] .leaf .leaf))
def A_mac_Seal (l : List V) : M V := match l with | [x0, x1] => F_mac_Seal x0 x1 | _ => fail
def s_mac_Seal : Calls' := ovr [(fid_mac_Tag, A_mac_Tag)] noC
theorem e_mac_Seal (x0 x1 : V) : funM Tryz.prog (s_mac_Seal) fid_mac_Seal h_mac_Seal [x0, x1] = F_mac_Seal x0 x1 := by kernel_rfl
theorem K_mac_Seal : Known Tryz.prog fid_mac_Seal (A_mac_Seal) := known_of (σ := s_mac_Seal) (hint := h_mac_Seal) (by kernel_rfl) (simAll_ovr K_mac_Tag simAll_nil0) fun l H r H' h => by
  unfold A_mac_Seal at h; split at h
  · rw [e_mac_Seal]; exact h
  · exact (fail_ne h).elim

/-! ### capstan/sess.sealed -/
def sess_sealed_k0 (vs : List V) : M Out :=
  bnd (A_mac_Seal [(at_ vs 0), (at_ vs 1)]) fun x32 =>
  ret (.ret [x32, (Value.int .i64 0)])
def F_sess_sealed (x0 x1 x2 x3 x4 : V) : M V :=
  bnd (
    bnd (lift (build [Value.bool false, Value.int .i64 0, Value.string ⟨#[]⟩] [(1, 1, x2)])) fun x17 =>
    bnd (lift (build [Value.bool false, Value.int .i64 0, Value.string ⟨#[]⟩] [(1, 1, x3)])) fun x19 =>
    bnd (bslc 3 2 (rep 2 [Value.bool false, Value.int .i64 0, Value.string ⟨#[]⟩]) [(0, 3, x17), (3, 3, x19)]) fun x20 =>
    bnd (bslc 1 3 (rep 3 [Value.slice none 0 0]) [(0, 1, x1), (1, 1, x20), (2, 1, x4)]) fun x22 =>
    bnd (A_slices_Concat_S_api_Item_api_Item [x22]) fun x23 =>
    bnd (A_wire_Encode [x23]) fun x24 =>
    bnd (lift (ext 0 x24)) fun x25 =>
    bnd (lift (ext 1 x24)) fun x26 =>
    bnd (
      bnd (lift (bin .neq x26 (Value.int .i64 0))) fun x28 =>
      condM x28 (
        ret (.ret [(Value.string ⟨#[]⟩), x26])
        ) (
        ret (.nxt [x0, x25])
        )
      ) fun o => nx o sess_sealed_k0
    ) fun o => finM o fun vs => ret (outV [(at_ vs 0), (at_ vs 1)])
def h_sess_sealed : Hint := (.seq [] .leaf (.seq [] .leaf (.seq [0, 12] (.seq [] .leaf (.cond (.seq [] .leaf .leaf) .leaf)) (.seq [] .leaf .leaf))))
def A_sess_sealed (l : List V) : M V := match l with | [x0, x1, x2, x3, x4] => F_sess_sealed x0 x1 x2 x3 x4 | _ => fail
def s_sess_sealed : Calls' := ovr [(fid_slices_Concat_S_api_Item_api_Item, A_slices_Concat_S_api_Item_api_Item), (fid_wire_Encode, A_wire_Encode), (fid_mac_Seal, A_mac_Seal)] noC
theorem e_sess_sealed (x0 x1 x2 x3 x4 : V) : funM Tryz.prog (s_sess_sealed) fid_sess_sealed h_sess_sealed [x0, x1, x2, x3, x4] = F_sess_sealed x0 x1 x2 x3 x4 := by kernel_rfl
theorem K_sess_sealed : Known Tryz.prog fid_sess_sealed (A_sess_sealed) := known_of (σ := s_sess_sealed) (hint := h_sess_sealed) (by kernel_rfl) (simAll_ovr K_slices_Concat_S_api_Item_api_Item (simAll_ovr K_wire_Encode (simAll_ovr K_mac_Seal simAll_nil0))) fun l H r H' h => by
  unfold A_sess_sealed at h; split at h
  · rw [e_sess_sealed]; exact h
  · exact (fail_ne h).elim

/-! ### capstan/sess.Message -/
def F_sess_Message (x0 x1 x2 x3 : V) : M V :=
  bnd (
    bnd (A_sess_sealed [x0, (Value.slice none 0 0), x1, x2, x3]) fun x14 =>
    bnd (lift (ext 0 x14)) fun x15 =>
    bnd (lift (ext 1 x14)) fun x16 =>
    ret (.ret [x15, x16])
    ) fun o => finM o fun vs => ret (outV [(at_ vs 0), (at_ vs 1)])
def h_sess_Message : Hint := (.seq [] .leaf (.seq [] .leaf .leaf))
def A_sess_Message (l : List V) : M V := match l with | [x0, x1, x2, x3] => F_sess_Message x0 x1 x2 x3 | _ => fail
def s_sess_Message : Calls' := ovr [(fid_sess_sealed, A_sess_sealed)] noC
theorem e_sess_Message (x0 x1 x2 x3 : V) : funM Tryz.prog (s_sess_Message) fid_sess_Message h_sess_Message [x0, x1, x2, x3] = F_sess_Message x0 x1 x2 x3 := by kernel_rfl
theorem K_sess_Message : Known Tryz.prog fid_sess_Message (A_sess_Message) := known_of (σ := s_sess_Message) (hint := h_sess_Message) (by kernel_rfl) (simAll_ovr K_sess_sealed simAll_nil0) fun l H r H' h => by
  unfold A_sess_Message at h; split at h
  · rw [e_sess_Message]; exact h
  · exact (fail_ne h).elim

/-! ### capstan/wire.bad -/
def F_wire_bad (x0 x1 : V) : M V :=
  bnd (
    bnd (lift (build [Value.int .i64 0, Value.int .i64 0] [(0, 1, x0), (1, 1, x1)])) fun x7 =>
    bnd (lift (build [Value.int .i64 0, Value.int .i64 0] [(0, 2, x7)])) fun x8 =>
    bnd (lift (some (Value.iface tid_wire_broken x8))) fun x9 =>
    ret (.ret [x9])
    ) fun o => finM o fun vs => ret (outV [(at_ vs 0)])
def h_wire_bad : Hint := (.seq [] .leaf (.seq [] .leaf .leaf))
def A_wire_bad (l : List V) : M V := match l with | [x0, x1] => F_wire_bad x0 x1 | _ => fail
theorem e_wire_bad (x0 x1 : V) : funM Tryz.prog (ovr [] noC) fid_wire_bad h_wire_bad [x0, x1] = F_wire_bad x0 x1 := by kernel_rfl
theorem K_wire_bad : Known Tryz.prog fid_wire_bad (A_wire_bad) := known_of (σ := ovr [] noC) (hint := h_wire_bad) (by kernel_rfl) simAll_nil0 fun l H r H' h => by
  unfold A_wire_bad at h; split at h
  · rw [e_wire_bad]; exact h
  · exact (fail_ne h).elim

/-! ### capstan/wire.unsigned -/
def wire_unsigned_k0 (vs_3 : List V) : M Out :=
  bnd (lift (bin .add (at_ vs_3 3) (Value.int .i64 1))) fun x16 =>
  ret (.nxt [(at_ vs_3 0), (at_ vs_3 1), (at_ vs_3 2), x16])
def wire_unsigned_k1 (vs_2 : List V) : M Out :=
  bnd (
  bnd (
    bnd (lift (bin .shl (at_ vs_2 1) (Value.int .u64 8))) fun x10 =>
    bnd (lift (idxS (at_ vs_2 0) (at_ vs_2 3))) fun x13 =>
    bnd (lift (cvi .u64 x13)) fun x14 =>
    bnd (lift (bin .or x10 x14)) fun x15 =>
    ret (.nxt [(at_ vs_2 0), x15, (at_ vs_2 2), (at_ vs_2 3)])
    ) fun o => ret (unblk 1 o)
  ) fun o => nx o wire_unsigned_k0
def wire_unsigned_l2 (vs : List V) : M Out :=
  bnd (lift (bin .lss (at_ vs 3) (at_ vs 2))) fun x7 =>
  bnd (
  condM x7 (
    ret (.nxt [(at_ vs 0), (at_ vs 1), (at_ vs 2), (at_ vs 3)])
    ) (
    ret (.brk 0 [(at_ vs 1)])
    )
  ) fun o => nx o wire_unsigned_k1
def wire_unsigned_k3 (vs_4 : List V) : M Out :=
  ret (.ret [(at_ vs_4 0)])
def F_wire_unsigned (x0 : V) : M V :=
  bnd (
    bnd (
      bnd (lift (lenStr x0)) fun x5 =>
      bnd (
        loopM FUEL wire_unsigned_l2 [x0, (Value.int .u64 0), x5, (Value.int .i64 0)]
        ) fun o => ret (unblk 0 o)
      ) fun o => nx o wire_unsigned_k3
    ) fun o => finM o fun vs => ret (outV [(at_ vs 0)])
def h_wire_unsigned : Hint := (.seq [] .leaf (.seq [2] (.seq [] .leaf (.blk (.loop [0, 2, 5, 6] (.seq [] .leaf (.seq [0, 2, 5, 6] (.cond .leaf .leaf) (.seq [0, 2, 5, 6] (.blk (.seq [] .leaf .leaf)) .leaf)))))) (.seq [] .leaf .leaf)))
def A_wire_unsigned (l : List V) : M V := match l with | [x0] => F_wire_unsigned x0 | _ => fail
theorem e_wire_unsigned (x0 : V) : funM Tryz.prog (ovr [] noC) fid_wire_unsigned h_wire_unsigned [x0] = F_wire_unsigned x0 := by kernel_rfl
theorem K_wire_unsigned : Known Tryz.prog fid_wire_unsigned (A_wire_unsigned) := known_of (σ := ovr [] noC) (hint := h_wire_unsigned) (by kernel_rfl) simAll_nil0 fun l H r H' h => by
  unfold A_wire_unsigned at h; split at h
  · rw [e_wire_unsigned]; exact h
  · exact (fail_ne h).elim

/-! ### capstan/wire.item -/
def wire_item_k0 (vs : List V) : M Out :=
  withH fun h0_3 =>
  bnd (ldn 3 (at_ vs 1)) fun x73 =>
  bndH (A_wire_bad [(at_ vs 0), (Value.int .i64 30)]) fun ha_5 x75 h1_3 =>
  bndH (stn 3 (at_ vs 1) x73) fun ha_6 u_3 h2_3 =>
  need (chk (ldn 3 (at_ vs 1)) h1_3 x73) <|
  ret (.ret [(at_ vs 1), (Value.int .i64 0), x75])
def F_wire_item (x0 x1 : V) : M V :=
  bnd (
    bnd (newc [Value.bool false, Value.int .i64 0, Value.string ⟨#[]⟩]) fun x4 =>
    bnd (lift (subS x0 (some x1) none)) fun x11 =>
    bnd (
      bnd (
        bnd (lift (bin .eql x11 (Value.string ⟨#[]⟩))) fun x14 =>
        condM x14 (
          withH fun h0 =>
          bnd (ldn 3 x4) fun x15 =>
          bndH (A_wire_bad [x1, (Value.int .i64 30)]) fun ha x17 h1 =>
          bndH (stn 3 x4 x15) fun ha_2 u h2 =>
          need (chk (ldn 3 x4) h1 x15) <|
          ret (.ret [x4, (Value.int .i64 0), x17])
          ) (
          bnd (lift (idxS x11 (Value.int .i64 0))) fun x20 =>
          bnd (lift (bin .eql x20 (Value.int .u8 35))) fun x21 =>
          bnd (gd x21 true (lift (some x11))) fun x23 =>
          bnd (gd x21 true (lift (lenStr x23))) fun x24 =>
          bnd (gd x21 true (lift (bin .geq x24 (Value.int .i64 9)))) fun x25 =>
          bnd (lift (pickV x21 x25 (Value.bool false))) fun x26 =>
          condM x26 (
            bnd (lift (subS x11 (some (Value.int .i64 1)) (some (Value.int .i64 9)))) fun x28 =>
            bnd (A_wire_unsigned [x28]) fun x29 =>
            bnd (lift (cvi .i64 x29)) fun x30 =>
            bnd (lift (build [Value.bool false, Value.int .i64 0, Value.string ⟨#[]⟩] [(1, 1, x30)])) fun x31 =>
            bnd (lift (bin .add x1 (Value.int .i64 9))) fun x33 =>
            bnd (stn 3 x4 x31) fun _ =>
            ret (.ret [x4, x33, Value.nilIface])
            ) (
            bnd (lift (idxS x11 (Value.int .i64 0))) fun x36 =>
            bnd (lift (bin .eql x36 (Value.int .u8 36))) fun x37 =>
            bnd (gd x37 true (lift (some x11))) fun x39 =>
            bnd (gd x37 true (lift (lenStr x39))) fun x40 =>
            bnd (gd x37 true (lift (bin .geq x40 (Value.int .i64 3)))) fun x41 =>
            bnd (lift (pickV x37 x41 (Value.bool false))) fun x42 =>
            condM x42 (
              bnd (lift (subS x11 (some (Value.int .i64 1)) (some (Value.int .i64 3)))) fun x44 =>
              bnd (A_wire_unsigned [x44]) fun x45 =>
              bnd (lift (cvi .i64 x45)) fun x46 =>
              bnd (lift (lenStr x11)) fun x48 =>
              bnd (lift (bin .add (Value.int .i64 3) x46)) fun x50 =>
              bnd (lift (bin .geq x48 x50)) fun x51 =>
              condM x51 (
                bnd (lift (bin .add (Value.int .i64 3) x46)) fun x54 =>
                bnd (lift (subS x11 (some (Value.int .i64 3)) (some x54))) fun x55 =>
                bnd (lift (build [Value.bool false, Value.int .i64 0, Value.string ⟨#[]⟩] [(0, 1, (Value.bool true)), (2, 1, x55)])) fun x56 =>
                bnd (lift (bin .add x1 (Value.int .i64 3))) fun x58 =>
                bnd (lift (bin .add x58 x46)) fun x60 =>
                bnd (stn 3 x4 x56) fun _ =>
                ret (.ret [x4, x60, Value.nilIface])
                ) (
                ret (.nxt [x1, x4])
                )
              ) (
              bnd (lift (idxS x11 (Value.int .i64 0))) fun x63 =>
              bnd (lift (bin .neq x63 (Value.int .u8 35))) fun x64 =>
              bnd (gd x64 true (lift (some x11))) fun x66 =>
              bnd (gd x64 true (lift (idxS x66 (Value.int .i64 0)))) fun x67 =>
              bnd (gd x64 true (lift (bin .neq x67 (Value.int .u8 36)))) fun x68 =>
              bnd (lift (pickV x64 x68 (Value.bool false))) fun x69 =>
              condM x69 (
                withH fun h0_2 =>
                bnd (ldn 3 x4) fun x70 =>
                bndH (A_wire_bad [x1, (Value.int .i64 3)]) fun ha_3 x72 h1_2 =>
                bndH (stn 3 x4 x70) fun ha_4 u_2 h2_2 =>
                need (chk (ldn 3 x4) h1_2 x70) <|
                ret (.ret [x4, (Value.int .i64 0), x72])
                ) (
                ret (.nxt [x1, x4])
                )
              )
            )
          )
        ) fun o => ret (unblk 0 o)
      ) fun o => nx o wire_item_k0
    ) fun o => finM o fun vs => bnd (ldn 3 (at_ vs 0)) fun r0 => ret (outV [r0, (at_ vs 1), (at_ vs 2)])
def h_wire_item : Hint := (.seq [] .leaf (.seq [] .leaf (.seq [1, 4] (.blk (.seq [] .leaf (.cond (.seq [] (.reg [1, 0, 2, 3, 4, 5] []) .leaf) (.seq [] .leaf (.cond (.seq [] .leaf .leaf) (.seq [] .leaf (.cond (.seq [] .leaf (.seq [] .leaf (.cond (.seq [] .leaf .leaf) .leaf))) (.seq [] .leaf (.cond (.seq [] (.reg [1, 0, 2, 3, 4, 5] []) .leaf) .leaf))))))))) (.seq [] (.reg [1, 0, 2, 3, 4, 5] []) .leaf))))
def A_wire_item (l : List V) : M V := match l with | [x0, x1] => F_wire_item x0 x1 | _ => fail
def s_wire_item : Calls' := ovr [(fid_wire_bad, A_wire_bad), (fid_wire_unsigned, A_wire_unsigned)] noC
theorem e_wire_item (x0 x1 : V) : funM Tryz.prog (s_wire_item) fid_wire_item h_wire_item [x0, x1] = F_wire_item x0 x1 := by kernel_rfl
theorem K_wire_item : Known Tryz.prog fid_wire_item (A_wire_item) := known_of (σ := s_wire_item) (hint := h_wire_item) (by kernel_rfl) (simAll_ovr K_wire_bad (simAll_ovr K_wire_unsigned simAll_nil0)) fun l H r H' h => by
  unfold A_wire_item at h; split at h
  · rw [e_wire_item]; exact h
  · exact (fail_ne h).elim

/-! ### capstan/wire.list -/
def wire_list_k0 (vs_4 : List V) : M Out :=
    bnd (ldn 3 (at_ vs_4 2)) fun x40 =>
    bnd (bslc 3 1 (rep 1 [Value.bool false, Value.int .i64 0, Value.string ⟨#[]⟩]) [(0, 3, x40)]) fun x41 =>
    bnd (appV 3 32 (at_ vs_4 1) x41) fun x42 =>
    ret (.nxt [(at_ vs_4 0), x42, (at_ vs_4 3), (at_ vs_4 4), (at_ vs_4 5)])
def wire_list_k1 (vs_5 : List V) : M Out :=
  bnd (lift (bin .add (at_ vs_5 4) (Value.int .u64 1))) fun x44 =>
  ret (.nxt [(at_ vs_5 0), (at_ vs_5 1), (at_ vs_5 2), (at_ vs_5 3), x44])
def wire_list_k2 (vs_3 : List V) : M Out :=
  bnd (
  bnd (
    bnd (A_wire_item [(at_ vs_3 0), (at_ vs_3 2)]) fun x32 =>
    bnd (lift (ext 0 x32)) fun x33 =>
    bnd (lift (ext 1 x32)) fun x34 =>
    bnd (lift (ext 2 x32)) fun x35 =>
    bnd (newc [Value.bool false, Value.int .i64 0, Value.string ⟨#[]⟩]) fun x5 =>
    bnd (stn 3 x5 x33) fun _ =>
    bnd (
      bnd (lift (notIf true (isNil .i x35))) fun x37 =>
      condM x37 (
        ret (.ret [(Value.slice none 0 0), x35])
        ) (
        ret (.nxt [(at_ vs_3 0), (at_ vs_3 1), x5, x34, (at_ vs_3 3), (at_ vs_3 4)])
        )
      ) fun o => nx o wire_list_k0
    ) fun o => ret (unblk 2 o)
  ) fun o => nx o wire_list_k1
def wire_list_l3 (vs_2 : List V) : M Out :=
  bnd (lift (bin .lss (at_ vs_2 4) (at_ vs_2 3))) fun x28 =>
  bnd (
  condM x28 (
    ret (.nxt [(at_ vs_2 0), (at_ vs_2 1), (at_ vs_2 2), (at_ vs_2 3), (at_ vs_2 4)])
    ) (
    ret (.brk 1 [(at_ vs_2 0), (at_ vs_2 1), (at_ vs_2 2)])
    )
  ) fun o => nx o wire_list_k2
def wire_list_k4 (vs_7 : List V) : M Out :=
  ret (.ret [(at_ vs_7 0), Value.nilIface])
def wire_list_k5 (vs_6 : List V) : M Out :=
  bnd (
    bnd (lift (lenStr (at_ vs_6 0))) fun x47 =>
    bnd (lift (bin .lss (at_ vs_6 2) x47)) fun x48 =>
    condM x48 (
      bnd (A_wire_bad [(at_ vs_6 2), (Value.int .i64 31)]) fun x50 =>
      ret (.ret [(Value.slice none 0 0), x50])
      ) (
      ret (.nxt [(at_ vs_6 1)])
      )
    ) fun o => nx o wire_list_k4
def wire_list_k6 (vs : List V) : M Out :=
  bnd (
    bnd (lift (subS (at_ vs 0) none (some (Value.int .i64 2)))) fun x25 =>
    bnd (A_wire_unsigned [x25]) fun x26 =>
    bnd (
      loopM FUEL wire_list_l3 [(at_ vs 0), (at_ vs 1), (Value.int .i64 2), x26, (Value.int .u64 0)]
      ) fun o => ret (unblk 1 o)
    ) fun o => nx o wire_list_k5
def F_wire_list (x0 : V) : M V :=
  bnd (
    bnd (
      bnd (
        bnd (lift (lenStr x0)) fun x10 =>
        bnd (lift (bin .gtr x10 (Value.int .i64 65536))) fun x11 =>
        condM x11 (
          bnd (A_wire_bad [(Value.int .i64 0), (Value.int .i64 2)]) fun x12 =>
          ret (.ret [(Value.slice none 0 0), x12])
          ) (
          bnd (lift (lenStr x0)) fun x15 =>
          bnd (lift (bin .lss x15 (Value.int .i64 2))) fun x16 =>
          condM x16 (
            bnd (A_wire_bad [(Value.int .i64 0), (Value.int .i64 30)]) fun x17 =>
            ret (.ret [(Value.slice none 0 0), x17])
            ) (
            bnd (lift (subS x0 none (some (Value.int .i64 2)))) fun x20 =>
            bnd (A_wire_unsigned [x20]) fun x21 =>
            bnd (lift (bin .gtr x21 (Value.int .u64 1000))) fun x22 =>
            condM x22 (
              bnd (A_wire_bad [(Value.int .i64 0), (Value.int .i64 2)]) fun x23 =>
              ret (.ret [(Value.slice none 0 0), x23])
              ) (
              ret (.nxt [x0, (Value.slice none 0 0)])
              )
            )
          )
        ) fun o => ret (unblk 0 o)
      ) fun o => nx o wire_list_k6
    ) fun o => finM o fun vs => ret (outV [(at_ vs 0), (at_ vs 1)])
def h_wire_list : Hint := (.seq [] .leaf (.seq [0, 2] (.blk (.seq [] .leaf (.cond (.seq [] .leaf .leaf) (.seq [] .leaf (.cond (.seq [] .leaf .leaf) (.seq [] .leaf (.cond (.seq [] .leaf .leaf) .leaf))))))) (.seq [] .leaf (.seq [0, 2, 4] (.seq [] .leaf (.blk (.loop [0, 2, 4, 26, 27] (.seq [] .leaf (.seq [0, 2, 4, 26, 27] (.cond .leaf .leaf) (.seq [0, 2, 4, 26, 27] (.blk (.seq [] .leaf (.seq [0, 2, 5, 6, 26, 27] (.seq [] .leaf (.cond (.seq [] .leaf .leaf) .leaf)) .leaf))) .leaf)))))) (.seq [2] (.seq [] .leaf (.cond (.seq [] .leaf .leaf) .leaf)) (.seq [] .leaf .leaf))))))
def A_wire_list (l : List V) : M V := match l with | [x0] => F_wire_list x0 | _ => fail
def s_wire_list : Calls' := ovr [(fid_wire_bad, A_wire_bad), (fid_wire_unsigned, A_wire_unsigned), (fid_wire_item, A_wire_item)] noC
theorem e_wire_list (x0 : V) : funM Tryz.prog (s_wire_list) fid_wire_list h_wire_list [x0] = F_wire_list x0 := by kernel_rfl
theorem K_wire_list : Known Tryz.prog fid_wire_list (A_wire_list) := known_of (σ := s_wire_list) (hint := h_wire_list) (by kernel_rfl) (simAll_ovr K_wire_bad (simAll_ovr K_wire_unsigned (simAll_ovr K_wire_item simAll_nil0))) fun l H r H' h => by
  unfold A_wire_list at h; split at h
  · rw [e_wire_list]; exact h
  · exact (fail_ne h).elim

/-! ### capstan/wire.fault -/
def wire_fault_k0 (G_errors_As : List V → M V) (vs : List V) : M Out :=
  bnd (lift (build [Value.int .i64 0, Value.int .i64 0] [])) fun x9 =>
  bnd (stn 2 (at_ vs 0) x9) fun _ =>
  ret (.ret [(at_ vs 0)])
def F_wire_fault (G_errors_As : List V → M V) (x0 : V) : M V :=
  bnd (
    bnd (newc [Value.int .i64 0, Value.int .i64 0]) fun x2 =>
    bnd (newc [Value.int .i64 0, Value.int .i64 0]) fun x3 =>
    bnd (
      bnd (lift (some (Value.iface tid_p_wire_broken x3))) fun x5 =>
      bnd (G_errors_As [x0, x5]) fun x6 =>
      condM x6 (
        bnd (lift (faddr 0 x3)) fun x7 =>
        bnd (ldn 2 x7) fun x8 =>
        bnd (stn 2 x2 x8) fun _ =>
        ret (.ret [x2])
        ) (
        ret (.nxt [x2])
        )
      ) fun o => nx o (wire_fault_k0 G_errors_As)
    ) fun o => finM o fun vs => bnd (ldn 2 (at_ vs 0)) fun r0 => ret (outV [r0])
def h_wire_fault : Hint := (.seq [] .leaf (.seq [] .leaf (.seq [2] (.seq [] .leaf (.cond (.seq [] .leaf .leaf) .leaf)) (.seq [] .leaf .leaf))))
def A_wire_fault (G_errors_As : List V → M V) (l : List V) : M V := match l with | [x0] => F_wire_fault G_errors_As x0 | _ => fail
theorem e_wire_fault (G_errors_As : List V → M V) (x0 : V) : funM Tryz.prog (ovr [(fid_errors_As, G_errors_As)] noC) fid_wire_fault h_wire_fault [x0] = F_wire_fault G_errors_As x0 := by kernel_rfl
theorem K_wire_fault {G_errors_As : List V → M V} (k_errors_As : Known Tryz.prog fid_errors_As G_errors_As) : Known Tryz.prog fid_wire_fault (A_wire_fault G_errors_As) := known_of (σ := ovr [(fid_errors_As, G_errors_As)] noC) (hint := h_wire_fault) (by kernel_rfl) (simAll_ovr k_errors_As simAll_nil0) fun l H r H' h => by
  unfold A_wire_fault at h; split at h
  · rw [e_wire_fault]; exact h
  · exact (fail_ne h).elim

/-! ### capstan/wire.Decode -/
def F_wire_Decode (G_errors_As : List V → M V) (x0 : V) : M V :=
  bnd (
    bnd (newc [Value.int .i64 0, Value.int .i64 0]) fun x3 =>
    bnd (A_wire_list [x0]) fun x8 =>
    bnd (lift (ext 0 x8)) fun x9 =>
    bnd (lift (ext 1 x8)) fun x10 =>
    bnd ((A_wire_fault G_errors_As) [x10]) fun x13 =>
    bnd (stn 2 x3 x13) fun _ =>
    ret (.ret [x9, x3])
    ) fun o => finM o fun vs => bnd (ldn 2 (at_ vs 1)) fun r1 => ret (outV [(at_ vs 0), r1])
def h_wire_Decode : Hint := (.seq [] .leaf (.seq [] .leaf (.seq [] .leaf .leaf)))
def A_wire_Decode (G_errors_As : List V → M V) (l : List V) : M V := match l with | [x0] => F_wire_Decode G_errors_As x0 | _ => fail
theorem e_wire_Decode (G_errors_As : List V → M V) (x0 : V) : funM Tryz.prog (ovr [(fid_wire_list, A_wire_list), (fid_wire_fault, A_wire_fault G_errors_As)] noC) fid_wire_Decode h_wire_Decode [x0] = F_wire_Decode G_errors_As x0 := by kernel_rfl
theorem K_wire_Decode {G_errors_As : List V → M V} (k_errors_As : Known Tryz.prog fid_errors_As G_errors_As) : Known Tryz.prog fid_wire_Decode (A_wire_Decode G_errors_As) := known_of (σ := ovr [(fid_wire_list, A_wire_list), (fid_wire_fault, A_wire_fault G_errors_As)] noC) (hint := h_wire_Decode) (by kernel_rfl) (simAll_ovr K_wire_list (simAll_ovr (K_wire_fault k_errors_As) simAll_nil0)) fun l H r H' h => by
  unfold A_wire_Decode at h; split at h
  · rw [e_wire_Decode]; exact h
  · exact (fail_ne h).elim

/-! ### capstan/sess.numbers -/
def sess_numbers_k0 (vs_4 : List V) : M Out :=
  bnd (lift (bin .add (at_ vs_4 3) (Value.int .i64 1))) fun x30 =>
  ret (.nxt [(at_ vs_4 0), (at_ vs_4 1), (at_ vs_4 2), x30])
def sess_numbers_k1 (vs_3 : List V) : M Out :=
  bnd (
  bnd (
    bnd (lift (iaddrS 3 (at_ vs_3 1) (at_ vs_3 3))) fun x16 =>
    bnd (ldn 3 x16) fun x17 =>
    bnd (newc [Value.bool false, Value.int .i64 0, Value.string ⟨#[]⟩]) fun x7 =>
    bnd (stn 3 x7 x17) fun _ =>
    bnd (lift (faddr 0 x7)) fun x18 =>
    bnd (ld1 x18) fun x19 =>
    bnd (gd x19 false (lift (faddr 1 x7))) fun x21 =>
    bnd (gd x19 false (ld1 x21)) fun x22 =>
    bnd (gd x19 false (lift (bin .lss x22 (Value.int .i64 1)))) fun x23 =>
    bnd (lift (pickV x19 (Value.bool true) x23)) fun x24 =>
    bnd (gd x24 false (lift (faddr 1 x7))) fun x26 =>
    bnd (gd x24 false (ld1 x26)) fun x27 =>
    bnd (gd x24 false (lift (bin .gtr x27 (Value.int .i64 1073741824)))) fun x28 =>
    bnd (lift (pickV x24 (Value.bool true) x28)) fun x29 =>
    condM x29 (
      ret (.ret [(Value.int .i64 0), (Value.int .i64 0), (Value.slice none 0 0), (Value.bool false)])
      ) (
      ret (.nxt [(at_ vs_3 0), (at_ vs_3 1), (at_ vs_3 2), (at_ vs_3 3)])
      )
    ) fun o => ret (unblk 1 o)
  ) fun o => nx o sess_numbers_k0
def sess_numbers_l2 (vs_2 : List V) : M Out :=
  bnd (lift (bin .lss (at_ vs_2 3) (at_ vs_2 2))) fun x15 =>
  bnd (
  condM x15 (
    ret (.nxt [(at_ vs_2 0), (at_ vs_2 1), (at_ vs_2 2), (at_ vs_2 3)])
    ) (
    ret (.brk 0 [(at_ vs_2 0)])
    )
  ) fun o => nx o sess_numbers_k1
def sess_numbers_k3 (vs_5 : List V) : M Out :=
  bnd (lift (iaddrS 3 (at_ vs_5 0) (Value.int .i64 0))) fun x32 =>
  bnd (lift (faddr 1 x32)) fun x33 =>
  bnd (lift (iaddrS 3 (at_ vs_5 0) (Value.int .i64 1))) fun x36 =>
  bnd (lift (faddr 1 x36)) fun x37 =>
  bnd (lift (subV 3 (at_ vs_5 0) (some (Value.int .i64 2)) none)) fun x40 =>
  bnd (ld1 x33) fun x34 =>
  bnd (ld1 x37) fun x38 =>
  ret (.ret [x34, x38, x40, (Value.bool true)])
def sess_numbers_k4 (vs : List V) : M Out :=
  bnd (
    bnd (lift (subV 3 (at_ vs 0) none (some (Value.int .i64 2)))) fun x12 =>
    bnd (lift (lenSlc x12)) fun x13 =>
    bnd (
      loopM FUEL sess_numbers_l2 [(at_ vs 0), x12, x13, (Value.int .i64 0)]
      ) fun o => ret (unblk 0 o)
    ) fun o => nx o sess_numbers_k3
def F_sess_numbers (x0 : V) : M V :=
  bnd (
    bnd (
      bnd (lift (lenSlc x0)) fun x9 =>
      bnd (lift (bin .lss x9 (Value.int .i64 2))) fun x10 =>
      condM x10 (
        ret (.ret [(Value.int .i64 0), (Value.int .i64 0), (Value.slice none 0 0), (Value.bool false)])
        ) (
        ret (.nxt [x0])
        )
      ) fun o => nx o sess_numbers_k4
    ) fun o => finM o fun vs => ret (outV [(at_ vs 0), (at_ vs 1), (at_ vs 2), (at_ vs 3)])
def h_sess_numbers : Hint := (.seq [] .leaf (.seq [0] (.seq [] .leaf (.cond (.seq [] .leaf .leaf) .leaf)) (.seq [0] (.seq [] .leaf (.blk (.loop [0, 12, 13, 14] (.seq [] .leaf (.seq [0, 12, 13, 14] (.cond .leaf .leaf) (.seq [0, 12, 13, 14] (.blk (.seq [] .leaf (.seq [] .leaf (.cond (.seq [] .leaf .leaf) .leaf)))) .leaf)))))) (.seq [] (.reg [0, 1, 2, 4, 5, 6, 8, 9, 3, 10, 7, 11, 12, 13] []) .leaf))))
def A_sess_numbers (l : List V) : M V := match l with | [x0] => F_sess_numbers x0 | _ => fail
theorem e_sess_numbers (x0 : V) : funM Tryz.prog (ovr [] noC) fid_sess_numbers h_sess_numbers [x0] = F_sess_numbers x0 := by kernel_rfl
theorem K_sess_numbers : Known Tryz.prog fid_sess_numbers (A_sess_numbers) := known_of (σ := ovr [] noC) (hint := h_sess_numbers) (by kernel_rfl) simAll_nil0 fun l H r H' h => by
  unfold A_sess_numbers at h; split at h
  · rw [e_sess_numbers]; exact h
  · exact (fail_ne h).elim

/-! ### (*capstan/sess.shelf[capstan/sess.session]).get -/
def sess_shelf_sess_session_get_k0 (vs : List V) : M Out :=
  bnd (lift (nilck (at_ vs 0))) fun x15 =>
  bnd (lift (faddr 2 x15)) fun x16 =>
  bnd (ld1 x16) fun x17 =>
  bnd (lift (iaddrS 6 x17 (at_ vs 1))) fun x19 =>
  ret (.ret [x19])
def F_sess_shelf_sess_session_get (x0 x1 : V) : M V :=
  bnd (
    bnd (lift (nilck x0)) fun x7 =>
    bnd (lift (faddr 1 x7)) fun x8 =>
    bnd (ld1 x8) fun x9 =>
    bnd (A_slices_Index_S_int_int [x9, x1]) fun x11 =>
    bnd (
      bnd (lift (bin .lss x11 (Value.int .i64 0))) fun x13 =>
      condM x13 (
        ret (.ret [(Value.pointer none)])
        ) (
        ret (.nxt [x0, x11])
        )
      ) fun o => nx o sess_shelf_sess_session_get_k0
    ) fun o => finM o fun vs => ret (outV [(at_ vs 0)])
def h_sess_shelf_sess_session_get : Hint := (.seq [] .leaf (.seq [] .leaf (.seq [0, 5] (.seq [] .leaf (.cond (.seq [] .leaf .leaf) .leaf)) (.seq [] .leaf .leaf))))
def A_sess_shelf_sess_session_get (l : List V) : M V := match l with | [x0, x1] => F_sess_shelf_sess_session_get x0 x1 | _ => fail
def s_sess_shelf_sess_session_get : Calls' := ovr [(fid_slices_Index_S_int_int, A_slices_Index_S_int_int)] noC
theorem e_sess_shelf_sess_session_get (x0 x1 : V) : funM Tryz.prog (s_sess_shelf_sess_session_get) fid_sess_shelf_sess_session_get h_sess_shelf_sess_session_get [x0, x1] = F_sess_shelf_sess_session_get x0 x1 := by kernel_rfl
theorem K_sess_shelf_sess_session_get : Known Tryz.prog fid_sess_shelf_sess_session_get (A_sess_shelf_sess_session_get) := known_of (σ := s_sess_shelf_sess_session_get) (hint := h_sess_shelf_sess_session_get) (by kernel_rfl) (simAll_ovr K_slices_Index_S_int_int simAll_nil0) fun l H r H' h => by
  unfold A_sess_shelf_sess_session_get at h; split at h
  · rw [e_sess_shelf_sess_session_get]; exact h
  · exact (fail_ne h).elim

/-! ### capstan/mac.Check -/
def mac_Check_k0 (vs : List V) : M Out :=
  ret (.ret [(Value.int .i64 0)])
def F_mac_Check (x0 x1 x2 : V) : M V :=
  bnd (
    bnd (
      bnd (A_mac_Tag [x0, x1]) fun x9 =>
      bnd (A_mac_Equal [x9, x2]) fun x11 =>
      bnd (lift (un .not x11)) fun x12 =>
      condM x12 (
        ret (.ret [(Value.int .i64 20)])
        ) (
        ret (.nxt [])
        )
      ) fun o => nx o mac_Check_k0
    ) fun o => finM o fun vs => ret (outV [(at_ vs 0)])
def h_mac_Check : Hint := (.seq [] .leaf (.seq [] (.seq [] .leaf (.cond (.seq [] .leaf .leaf) .leaf)) (.seq [] .leaf .leaf)))
def A_mac_Check (l : List V) : M V := match l with | [x0, x1, x2] => F_mac_Check x0 x1 x2 | _ => fail
def s_mac_Check : Calls' := ovr [(fid_mac_Tag, A_mac_Tag), (fid_mac_Equal, A_mac_Equal)] noC
theorem e_mac_Check (x0 x1 x2 : V) : funM Tryz.prog (s_mac_Check) fid_mac_Check h_mac_Check [x0, x1, x2] = F_mac_Check x0 x1 x2 := by kernel_rfl
theorem K_mac_Check : Known Tryz.prog fid_mac_Check (A_mac_Check) := known_of (σ := s_mac_Check) (hint := h_mac_Check) (by kernel_rfl) (simAll_ovr K_mac_Tag (simAll_ovr K_mac_Equal simAll_nil0)) fun l H r H' h => by
  unfold A_mac_Check at h; split at h
  · rw [e_mac_Check]; exact h
  · exact (fail_ne h).elim

/-! ### capstan/mac.Open -/
def mac_Open_k0 (vs_2 : List V) : M Out :=
  bnd (lift (subS (at_ vs_2 0) none (some (at_ vs_2 1)))) fun x27 =>
  ret (.ret [x27, (Value.int .i64 0)])
def mac_Open_k1 (vs : List V) : M Out :=
  bnd (lift (lenStr (at_ vs 1))) fun x12 =>
  bnd (lift (bin .sub x12 (Value.int .i64 32))) fun x13 =>
  bnd (
    bnd (lift (subS (at_ vs 1) none (some x13))) fun x17 =>
    bnd (lift (subS (at_ vs 1) (some x13) none)) fun x20 =>
    bnd (A_mac_Check [(at_ vs 0), x17, x20]) fun x21 =>
    bnd (lift (bin .neq x21 (Value.int .i64 0))) fun x23 =>
    condM x23 (
      ret (.ret [(Value.string ⟨#[]⟩), x21])
      ) (
      ret (.nxt [(at_ vs 1), x13])
      )
    ) fun o => nx o mac_Open_k0
def F_mac_Open (x0 x1 : V) : M V :=
  bnd (
    bnd (
      bnd (lift (lenStr x1)) fun x9 =>
      bnd (lift (bin .lss x9 (Value.int .i64 32))) fun x10 =>
      condM x10 (
        ret (.ret [(Value.string ⟨#[]⟩), (Value.int .i64 20)])
        ) (
        ret (.nxt [x0, x1])
        )
      ) fun o => nx o mac_Open_k1
    ) fun o => finM o fun vs => ret (outV [(at_ vs 0), (at_ vs 1)])
def h_mac_Open : Hint := (.seq [] .leaf (.seq [0, 1] (.seq [] .leaf (.cond (.seq [] .leaf .leaf) .leaf)) (.seq [] .leaf (.seq [1, 6] (.seq [] (.reg [0, 1, 2, 3, 4, 5, 6, 7, 8] []) (.seq [] .leaf (.cond (.seq [] .leaf .leaf) .leaf))) (.seq [] .leaf .leaf)))))
def A_mac_Open (l : List V) : M V := match l with | [x0, x1] => F_mac_Open x0 x1 | _ => fail
def s_mac_Open : Calls' := ovr [(fid_mac_Check, A_mac_Check)] noC
theorem e_mac_Open (x0 x1 : V) : funM Tryz.prog (s_mac_Open) fid_mac_Open h_mac_Open [x0, x1] = F_mac_Open x0 x1 := by kernel_rfl
theorem K_mac_Open : Known Tryz.prog fid_mac_Open (A_mac_Open) := known_of (σ := s_mac_Open) (hint := h_mac_Open) (by kernel_rfl) (simAll_ovr K_mac_Check simAll_nil0) fun l H r H' h => by
  unfold A_mac_Open at h; split at h
  · rw [e_mac_Open]; exact h
  · exact (fail_ne h).elim

/-! ### (*capstan/sess.shelf[capstan/sess.session]).drop$1 -/
def F_sess_shelf_sess_session_drop_1 (x0 x1 x2 : V) : M V :=
  bnd (
    bnd (boxv x1) fun x4 =>
    bnd (ld1 x2) fun x7 =>
    bnd (lift (bin .neq x0 x7)) fun x8 =>
    ret (.ret [x8])
    ) fun o => finM o fun vs => ret (outV [(at_ vs 0)])
def h_sess_shelf_sess_session_drop_1 : Hint := (.seq [] .leaf (.seq [] .leaf .leaf))
def A_sess_shelf_sess_session_drop_1 (l : List V) : M V := match l with | [x0, x1, x2] => F_sess_shelf_sess_session_drop_1 x0 x1 x2 | _ => fail
theorem e_sess_shelf_sess_session_drop_1 (x0 x1 x2 : V) : funM Tryz.prog (ovr [] noC) fid_sess_shelf_sess_session_drop_1 h_sess_shelf_sess_session_drop_1 [x0, x1, x2] = F_sess_shelf_sess_session_drop_1 x0 x1 x2 := by kernel_rfl
theorem K_sess_shelf_sess_session_drop_1 : Known Tryz.prog fid_sess_shelf_sess_session_drop_1 (A_sess_shelf_sess_session_drop_1) := known_of (σ := ovr [] noC) (hint := h_sess_shelf_sess_session_drop_1) (by kernel_rfl) simAll_nil0 fun l H r H' h => by
  unfold A_sess_shelf_sess_session_drop_1 at h; split at h
  · rw [e_sess_shelf_sess_session_drop_1]; exact h
  · exact (fail_ne h).elim

/-! ### (*capstan/sess.shelf[capstan/sess.session]).keep -/
def sess_shelf_sess_session_keep_k0 (S : Calls') (vs_3 : List V) : M Out :=
  bnd (lift (bin .add (at_ vs_3 6) (Value.int .i64 1))) fun x42 =>
  ret (.nxt [(at_ vs_3 0), (at_ vs_3 1), (at_ vs_3 2), (at_ vs_3 3), (at_ vs_3 4), (at_ vs_3 5), x42])
def sess_shelf_sess_session_keep_k1 (S : Calls') (vs_2 : List V) : M Out :=
  bnd (
  bnd (
    bnd (lift (iaddrS 6 (at_ vs_2 4) (at_ vs_2 6))) fun x16 =>
    bnd (ldn 6 x16) fun x17 =>
    bnd (newc [Value.string ⟨#[]⟩, Value.string ⟨#[]⟩, Value.slice none 0 0, Value.string ⟨#[]⟩, Value.int .i64 0, Value.int .i64 0]) fun x7 =>
    bnd (stn 6 x7 x17) fun _ =>
    bnd (lift (nilck (at_ vs_2 0))) fun x20 =>
    bnd (lift (faddr 1 x20)) fun x21 =>
    bnd (ld1 x21) fun x22 =>
    bnd (lift (iaddrS 1 x22 (at_ vs_2 6))) fun x24 =>
    bnd (ld1 x24) fun x25 =>
    bnd (ldn 6 x7) fun x26 =>
    bnd (callM (ovr [] S) (at_ vs_2 1) [x25, x26]) fun x27 =>
    condM x27 (
      withResv 2 fun base h0 =>
      bnd (lift (nilck (at_ vs_2 0))) fun x30 =>
      bnd (lift (faddr 1 x30)) fun x31 =>
      bnd (ld1 x31) fun x32 =>
      bnd (lift (iaddrS 1 x32 (at_ vs_2 6))) fun x34 =>
      bnd (ld1 x34) fun x35 =>
      bnd (ldn 6 x7) fun x39 =>
      bnd (flt (base + 0) (bslc 1 1 (rep 1 [Value.int .i64 0]) [(0, 1, x35)])) fun x36 =>
      bndH (appV 1 8 (at_ vs_2 2) x36) fun ha x37 h1 =>
      need (freeIn ha [base + 1] && freeIn h1 [base + 1]) <|
      bnd (flt (base + 1) (bslc 6 1 (rep 1 [Value.string ⟨#[]⟩, Value.string ⟨#[]⟩, Value.slice none 0 0, Value.string ⟨#[]⟩, Value.int .i64 0, Value.int .i64 0]) [(0, 6, x39)])) fun x40 =>
      bndH (appV 6 88 (at_ vs_2 3) x40) fun ha_2 x41 h2 =>
      need (chk (ldn 6 x7) h1 x39) <|
      ret (.nxt [(at_ vs_2 0), (at_ vs_2 1), x37, x41, (at_ vs_2 4), (at_ vs_2 5), (at_ vs_2 6)])
      ) (
      ret (.nxt [(at_ vs_2 0), (at_ vs_2 1), (at_ vs_2 2), (at_ vs_2 3), (at_ vs_2 4), (at_ vs_2 5), (at_ vs_2 6)])
      )
    ) fun o => ret (unblk 1 o)
  ) fun o => nx o (sess_shelf_sess_session_keep_k0 S)
def sess_shelf_sess_session_keep_l2 (S : Calls') (vs : List V) : M Out :=
  bnd (lift (bin .lss (at_ vs 6) (at_ vs 5))) fun x14 =>
  bnd (
  condM x14 (
    ret (.nxt [(at_ vs 0), (at_ vs 1), (at_ vs 2), (at_ vs 3), (at_ vs 4), (at_ vs 5), (at_ vs 6)])
    ) (
    ret (.brk 0 [(at_ vs 0), (at_ vs 2), (at_ vs 3)])
    )
  ) fun o => nx o (sess_shelf_sess_session_keep_k1 S)
def sess_shelf_sess_session_keep_k3 (S : Calls') (vs_4 : List V) : M Out :=
  bnd (lift (nilck (at_ vs_4 0))) fun x47 =>
  bnd (lift (faddr 1 x47)) fun x48 =>
  bnd (st1 x48 (at_ vs_4 1)) fun _ =>
  bnd (lift (nilck (at_ vs_4 0))) fun x49 =>
  bnd (lift (faddr 2 x49)) fun x50 =>
  bnd (st1 x50 (at_ vs_4 2)) fun _ =>
  ret (.nxt [])
def F_sess_shelf_sess_session_keep (S : Calls') (x0 x1 : V) : M V :=
  bnd (
    bnd (
      bnd (lift (nilck x0)) fun x9 =>
      bnd (lift (faddr 2 x9)) fun x10 =>
      bnd (ld1 x10) fun x11 =>
      bnd (lift (lenSlc x11)) fun x12 =>
      bnd (
        loopM FUEL (sess_shelf_sess_session_keep_l2 S) [x0, x1, (Value.slice none 0 0), (Value.slice none 0 0), x11, x12, (Value.int .i64 0)]
        ) fun o => ret (unblk 0 o)
      ) fun o => nx o (sess_shelf_sess_session_keep_k3 S)
    ) fun o => finM o fun vs => ret (outV [])
def h_sess_shelf_sess_session_keep : Hint := (.seq [] .leaf (.seq [] .leaf (.seq [0, 4, 5] (.seq [] .leaf (.blk (.loop [0, 1, 4, 5, 11, 12, 13] (.seq [] .leaf (.seq [0, 1, 4, 5, 11, 12, 13] (.cond .leaf .leaf) (.seq [0, 1, 4, 5, 11, 12, 13] (.blk (.seq [] .leaf (.seq [] (.reg [0, 1, 2, 3, 5, 4, 6, 7, 8, 9] []) (.cond (.reg [0, 1, 2, 3, 5, 10, 4, 6, 7, 11, 8, 9, 12, 13, 14, 15] [8, 12]) .leaf)))) .leaf)))))) .leaf)))
def A_sess_shelf_sess_session_keep (S : Calls') (l : List V) : M V := match l with | [x0, x1] => F_sess_shelf_sess_session_keep S x0 x1 | _ => fail
theorem e_sess_shelf_sess_session_keep (S : Calls') (x0 x1 : V) : funM Tryz.prog (ovr [] S) fid_sess_shelf_sess_session_keep h_sess_shelf_sess_session_keep [x0, x1] = F_sess_shelf_sess_session_keep S x0 x1 := by kernel_rfl
theorem K_sess_shelf_sess_session_keep {S : Calls'} (hS : SimAll Tryz.prog S) : Known Tryz.prog fid_sess_shelf_sess_session_keep (A_sess_shelf_sess_session_keep S) := known_of (σ := ovr [] S) (hint := h_sess_shelf_sess_session_keep) (by kernel_rfl) (simAll_base hS) fun l H r H' h => by
  unfold A_sess_shelf_sess_session_keep at h; split at h
  · rw [e_sess_shelf_sess_session_keep]; exact h
  · exact (fail_ne h).elim

/-! ### (*capstan/sess.shelf[capstan/sess.session]).drop -/
def F_sess_shelf_sess_session_drop (x0 x1 : V) : M V :=
  bnd (
    bnd (boxv x1) fun x3 =>
    bnd (lift (some (Value.func (.func fid_sess_shelf_sess_session_drop_1) #[] #[x3]))) fun x5 =>
    bnd ((A_sess_shelf_sess_session_keep (ovr [(fid_sess_shelf_sess_session_drop_1, A_sess_shelf_sess_session_drop_1)] noC)) [x0, x5]) fun x6 =>
    ret (.nxt [])
    ) fun o => finM o fun vs => ret (outV [])
def h_sess_shelf_sess_session_drop : Hint := (.seq [] .leaf .leaf)
def A_sess_shelf_sess_session_drop (l : List V) : M V := match l with | [x0, x1] => F_sess_shelf_sess_session_drop x0 x1 | _ => fail
def s_sess_shelf_sess_session_drop : Calls' := ovr [(fid_sess_shelf_sess_session_keep, A_sess_shelf_sess_session_keep (ovr [(fid_sess_shelf_sess_session_drop_1, A_sess_shelf_sess_session_drop_1)] noC))] noC
theorem e_sess_shelf_sess_session_drop (x0 x1 : V) : funM Tryz.prog (s_sess_shelf_sess_session_drop) fid_sess_shelf_sess_session_drop h_sess_shelf_sess_session_drop [x0, x1] = F_sess_shelf_sess_session_drop x0 x1 := by kernel_rfl
theorem K_sess_shelf_sess_session_drop : Known Tryz.prog fid_sess_shelf_sess_session_drop (A_sess_shelf_sess_session_drop) := known_of (σ := s_sess_shelf_sess_session_drop) (hint := h_sess_shelf_sess_session_drop) (by kernel_rfl) (simAll_ovr (K_sess_shelf_sess_session_keep (simAll_ovr K_sess_shelf_sess_session_drop_1 simAll_nil0)) simAll_nil0) fun l H r H' h => by
  unfold A_sess_shelf_sess_session_drop at h; split at h
  · rw [e_sess_shelf_sess_session_drop]; exact h
  · exact (fail_ne h).elim

/-! ### (*capstan/sess.Desk).Open -/
def sess_Desk_Open_k0 (G_errors_As : List V → M V) (vs_6 : List V) : M Out :=
  ret (.ret [(at_ vs_6 0), (at_ vs_6 1), (at_ vs_6 2), (Value.int .i64 0)])
def sess_Desk_Open_k1 (G_errors_As : List V → M V) (vs_5 : List V) : M Out :=
  bnd (lift (nilck (at_ vs_5 3))) fun x68 =>
  bnd (lift (faddr 4 x68)) fun x69 =>
  bnd (ld1 x69) fun x70 =>
  bnd (lift (bin .add x70 (Value.int .i64 1))) fun x71 =>
  bnd (lift (nilck (at_ vs_5 3))) fun x72 =>
  bnd (lift (faddr 4 x72)) fun x73 =>
  bnd (st1 x73 x71) fun _ =>
  bnd (lift (nilck (at_ vs_5 0))) fun x76 =>
  bnd (lift (faddr 2 x76)) fun x77 =>
  bnd (ld1 x77) fun x78 =>
  bnd (lift (nilck (at_ vs_5 3))) fun x79 =>
  bnd (lift (faddr 5 x79)) fun x80 =>
  bnd (st1 x80 x78) fun _ =>
  bnd (lift (nilck (at_ vs_5 3))) fun x82 =>
  bnd (lift (faddr 0 x82)) fun x83 =>
  bnd (lift (faddr 0 x83)) fun x84 =>
  bnd (ld1 x84) fun x85 =>
  bnd (
    bnd (lift (nilck (at_ vs_5 3))) fun x87 =>
    bnd (lift (faddr 4 x87)) fun x88 =>
    bnd (ld1 x88) fun x89 =>
    bnd (lift (bin .gtr x89 (Value.int .i64 1073741824))) fun x90 =>
    condM x90 (
      bnd (lift (nilck (at_ vs_5 0))) fun x92 =>
      bnd (lift (faddr 6 x92)) fun x93 =>
      bnd (A_sess_shelf_sess_session_drop [x93, (at_ vs_5 1)]) fun x95 =>
      ret (.nxt [(at_ vs_5 1), x85, (at_ vs_5 2)])
      ) (
      ret (.nxt [(at_ vs_5 1), x85, (at_ vs_5 2)])
      )
    ) fun o => nx o (sess_Desk_Open_k0 G_errors_As)
def sess_Desk_Open_k2 (G_errors_As : List V → M V) (vs_4 : List V) : M Out :=
  bnd (
    bnd (lift (nilck (at_ vs_4 4))) fun x63 =>
    bnd (lift (faddr 4 x63)) fun x64 =>
    bnd (ld1 x64) fun x65 =>
    bnd (lift (bin .neq (at_ vs_4 2) x65)) fun x66 =>
    condM x66 (
      ret (.ret [(Value.int .i64 0), (Value.string ⟨#[]⟩), (Value.slice none 0 0), (Value.int .i64 250)])
      ) (
      ret (.nxt [(at_ vs_4 0), (at_ vs_4 1), (at_ vs_4 3), (at_ vs_4 4)])
      )
    ) fun o => nx o (sess_Desk_Open_k1 G_errors_As)
def sess_Desk_Open_k3 (G_errors_As : List V → M V) (vs_3 : List V) : M Out :=
  bnd (
    bnd (lift (nilck (at_ vs_3 5))) fun x51 =>
    bnd (lift (faddr 3 x51)) fun x52 =>
    bnd (ld1 x52) fun x53 =>
    bnd (A_mac_Open [x53, (at_ vs_3 1)]) fun x55 =>
    bnd (lift (ext 0 x55)) fun x56 =>
    bnd (lift (ext 1 x55)) fun x57 =>
    bnd (lift (bin .neq x57 (Value.int .i64 0))) fun x59 =>
    condM x59 (
      ret (.ret [(Value.int .i64 0), (Value.string ⟨#[]⟩), (Value.slice none 0 0), x57])
      ) (
      ret (.nxt [(at_ vs_3 0), (at_ vs_3 2), (at_ vs_3 3), (at_ vs_3 4), (at_ vs_3 5)])
      )
    ) fun o => nx o (sess_Desk_Open_k2 G_errors_As)
def sess_Desk_Open_k4 (G_errors_As : List V → M V) (vs_2 : List V) : M Out :=
  bnd (lift (nilck (at_ vs_2 0))) fun x43 =>
  bnd (lift (faddr 6 x43)) fun x44 =>
  bnd (A_sess_shelf_sess_session_get [x44, (at_ vs_2 2)]) fun x46 =>
  bnd (
    bnd (lift (notIf false (isNil .p x46))) fun x48 =>
    condM x48 (
      ret (.ret [(Value.int .i64 0), (Value.string ⟨#[]⟩), (Value.slice none 0 0), (Value.int .i64 251)])
      ) (
      ret (.nxt [(at_ vs_2 0), (at_ vs_2 1), (at_ vs_2 2), (at_ vs_2 3), (at_ vs_2 4), x46])
      )
    ) fun o => nx o (sess_Desk_Open_k3 G_errors_As)
def sess_Desk_Open_k5 (G_errors_As : List V → M V) (vs : List V) : M Out :=
  bnd (lift (lenStr (at_ vs 1))) fun x22 =>
  bnd (lift (bin .sub x22 (Value.int .i64 32))) fun x23 =>
  bnd (lift (subS (at_ vs 1) none (some x23))) fun x24 =>
  bnd ((A_wire_Decode G_errors_As) [x24]) fun x25 =>
  bnd (lift (ext 0 x25)) fun x26 =>
  bnd (lift (ext 1 x25)) fun x27 =>
  bnd (newc [Value.int .i64 0, Value.int .i64 0]) fun x9 =>
  bnd (stn 2 x9 x27) fun _ =>
  bnd (A_sess_numbers [x26]) fun x30 =>
  bnd (lift (ext 0 x30)) fun x31 =>
  bnd (lift (ext 1 x30)) fun x32 =>
  bnd (lift (ext 2 x30)) fun x33 =>
  bnd (lift (ext 3 x30)) fun x34 =>
  bnd (
    bnd (ldn 2 x9) fun x35 =>
    bnd (lift (build [Value.int .i64 0, Value.int .i64 0] [])) fun x36 =>
    bnd (lift (notIf true (eqAgg [.i, .i] x35 x36))) fun x37 =>
    bnd (gd x37 false (lift (some x34))) fun x39 =>
    bnd (gd x37 false (lift (un .not x39))) fun x40 =>
    bnd (lift (pickV x37 (Value.bool true) x40)) fun x41 =>
    condM x41 (
      ret (.ret [(Value.int .i64 0), (Value.string ⟨#[]⟩), (Value.slice none 0 0), (Value.int .i64 3)])
      ) (
      ret (.nxt [(at_ vs 0), (at_ vs 1), x31, x32, x33])
      )
    ) fun o => nx o (sess_Desk_Open_k4 G_errors_As)
def F_sess_Desk_Open (G_errors_As : List V → M V) (x0 x1 : V) : M V :=
  bnd (
    bnd (
      bnd (lift (lenStr x1)) fun x17 =>
      bnd (lift (bin .lss x17 (Value.int .i64 32))) fun x18 =>
      condM x18 (
        ret (.ret [(Value.int .i64 0), (Value.string ⟨#[]⟩), (Value.slice none 0 0), (Value.int .i64 3)])
        ) (
        ret (.nxt [x0, x1])
        )
      ) fun o => nx o (sess_Desk_Open_k5 G_errors_As)
    ) fun o => finM o fun vs => ret (outV [(at_ vs 0), (at_ vs 1), (at_ vs 2), (at_ vs 3)])
def h_sess_Desk_Open : Hint := (.seq [] .leaf (.seq [0, 1] (.seq [] .leaf (.cond (.seq [] .leaf .leaf) .leaf)) (.seq [] .leaf (.seq [] .leaf (.seq [0, 1, 4, 10, 11] (.seq [] .leaf (.cond (.seq [] .leaf .leaf) .leaf)) (.seq [] .leaf (.seq [0, 1, 4, 10, 11, 13] (.seq [] .leaf (.cond (.seq [] .leaf .leaf) .leaf)) (.seq [0, 4, 10, 11, 13] (.seq [] .leaf (.seq [] .leaf (.cond (.seq [] .leaf .leaf) .leaf))) (.seq [0, 4, 11, 13] (.seq [] .leaf (.cond (.seq [] .leaf .leaf) .leaf)) (.seq [] .leaf (.seq [] .leaf (.seq [] .leaf (.seq [4, 5, 11] (.seq [] .leaf (.cond .leaf .leaf)) (.seq [] .leaf .leaf))))))))))))))
def A_sess_Desk_Open (G_errors_As : List V → M V) (l : List V) : M V := match l with | [x0, x1] => F_sess_Desk_Open G_errors_As x0 x1 | _ => fail
theorem e_sess_Desk_Open (G_errors_As : List V → M V) (x0 x1 : V) : funM Tryz.prog (ovr [(fid_wire_Decode, A_wire_Decode G_errors_As), (fid_sess_numbers, A_sess_numbers), (fid_sess_shelf_sess_session_get, A_sess_shelf_sess_session_get), (fid_mac_Open, A_mac_Open), (fid_sess_shelf_sess_session_drop, A_sess_shelf_sess_session_drop)] noC) fid_sess_Desk_Open h_sess_Desk_Open [x0, x1] = F_sess_Desk_Open G_errors_As x0 x1 := by kernel_rfl
theorem K_sess_Desk_Open {G_errors_As : List V → M V} (k_errors_As : Known Tryz.prog fid_errors_As G_errors_As) : Known Tryz.prog fid_sess_Desk_Open (A_sess_Desk_Open G_errors_As) := known_of (σ := ovr [(fid_wire_Decode, A_wire_Decode G_errors_As), (fid_sess_numbers, A_sess_numbers), (fid_sess_shelf_sess_session_get, A_sess_shelf_sess_session_get), (fid_mac_Open, A_mac_Open), (fid_sess_shelf_sess_session_drop, A_sess_shelf_sess_session_drop)] noC) (hint := h_sess_Desk_Open) (by kernel_rfl) (simAll_ovr (K_wire_Decode k_errors_As) (simAll_ovr K_sess_numbers (simAll_ovr K_sess_shelf_sess_session_get (simAll_ovr K_mac_Open (simAll_ovr K_sess_shelf_sess_session_drop simAll_nil0))))) fun l H r H' h => by
  unfold A_sess_Desk_Open at h; split at h
  · rw [e_sess_Desk_Open]; exact h
  · exact (fail_ne h).elim

/-! ### capstan/capstanlaw25.works -/
def law25_works_k0 (G_strings_IndexRune : List V → M V) (G_errors_As : List V → M V) (vs : List V) : M Out :=
  bnd (lift (build [Value.bool false, Value.int .i64 0, Value.string ⟨#[]⟩] [(1, 1, (Value.int .i64 7))])) fun x23 =>
  bnd (bslc 3 1 (rep 1 [Value.bool false, Value.int .i64 0, Value.string ⟨#[]⟩]) [(0, 3, x23)]) fun x24 =>
  bnd (A_sess_Message [(at_ vs 1), (Value.int .i64 1), (Value.int .i64 1), x24]) fun x25 =>
  bnd (lift (ext 0 x25)) fun x26 =>
  bnd (lift (ext 1 x25)) fun x27 =>
  bnd ((A_sess_Desk_Open G_errors_As) [(at_ vs 0), x26]) fun x31 =>
  bnd (lift (ext 0 x31)) fun x32 =>
  bnd (lift (ext 1 x31)) fun x33 =>
  bnd (lift (ext 2 x31)) fun x34 =>
  bnd (lift (ext 3 x31)) fun x35 =>
  bnd ((A_sess_Desk_Open G_errors_As) [(at_ vs 0), x26]) fun x39 =>
  bnd (lift (ext 0 x39)) fun x40 =>
  bnd (lift (ext 1 x39)) fun x41 =>
  bnd (lift (ext 2 x39)) fun x42 =>
  bnd (lift (ext 3 x39)) fun x43 =>
  bnd (lift (bin .eql x27 (Value.int .i64 0))) fun x45 =>
  bnd (gd x45 true (lift (some x32))) fun x47 =>
  bnd (gd x45 true (lift (bin .eql x47 (Value.int .i64 1)))) fun x48 =>
  bnd (lift (pickV x45 x48 (Value.bool false))) fun x49 =>
  bnd (gd x49 true (lift (some x33))) fun x51 =>
  bnd (gd x49 true (lift (bin .eql x51 (Value.string ⟨#[97, 110, 110]⟩)))) fun x52 =>
  bnd (lift (pickV x49 x52 (Value.bool false))) fun x53 =>
  bnd (gd x53 true (lift (some x34))) fun x55 =>
  bnd (gd x53 true (lift (lenSlc x55))) fun x56 =>
  bnd (gd x53 true (lift (bin .eql x56 (Value.int .i64 1)))) fun x57 =>
  bnd (lift (pickV x53 x57 (Value.bool false))) fun x58 =>
  bnd (gd x58 true (lift (some x34))) fun x60 =>
  bnd (gd x58 true (lift (iaddrS 3 x60 (Value.int .i64 0)))) fun x61 =>
  bnd (gd x58 true (lift (faddr 1 x61))) fun x62 =>
  bnd (gd x58 true (ld1 x62)) fun x63 =>
  bnd (gd x58 true (lift (bin .eql x63 (Value.int .i64 7)))) fun x64 =>
  bnd (lift (pickV x58 x64 (Value.bool false))) fun x65 =>
  bnd (gd x65 true (lift (some x35))) fun x67 =>
  bnd (gd x65 true (lift (bin .eql x67 (Value.int .i64 0)))) fun x68 =>
  bnd (lift (pickV x65 x68 (Value.bool false))) fun x69 =>
  bnd (gd x69 true (lift (some x43))) fun x71 =>
  bnd (gd x69 true (lift (bin .eql x71 (Value.int .i64 250)))) fun x72 =>
  bnd (lift (pickV x69 x72 (Value.bool false))) fun x73 =>
  ret (.ret [x73])
def F_law25_works (G_strings_IndexRune : List V → M V) (G_errors_As : List V → M V) : M V :=
  bnd (
    bnd ((A_law25_desk G_strings_IndexRune) [(Value.int .i64 5)]) fun x15 =>
    bnd (lift (ext 0 x15)) fun x16 =>
    bnd (lift (ext 1 x15)) fun x17 =>
    bnd (lift (ext 2 x15)) fun x18 =>
    bnd (
      bnd (lift (un .not x18)) fun x20 =>
      condM x20 (
        ret (.ret [(Value.bool false)])
        ) (
        ret (.nxt [x16, x17])
        )
      ) fun o => nx o (law25_works_k0 G_strings_IndexRune G_errors_As)
    ) fun o => finM o fun vs => ret (outV [(at_ vs 0)])
def h_law25_works : Hint := (.seq [] .leaf (.seq [] .leaf (.seq [1, 2] (.seq [] .leaf (.cond (.seq [] .leaf .leaf) .leaf)) (.seq [] .leaf (.seq [] .leaf (.seq [] .leaf (.seq [] .leaf .leaf)))))))
def A_law25_works (G_strings_IndexRune : List V → M V) (G_errors_As : List V → M V) (l : List V) : M V := match l with | [] => F_law25_works G_strings_IndexRune G_errors_As  | _ => fail
theorem e_law25_works (G_strings_IndexRune : List V → M V) (G_errors_As : List V → M V) : funM Tryz.prog (ovr [(fid_law25_desk, A_law25_desk G_strings_IndexRune), (fid_sess_Message, A_sess_Message), (fid_sess_Desk_Open, A_sess_Desk_Open G_errors_As)] noC) fid_law25_works h_law25_works [] = F_law25_works G_strings_IndexRune G_errors_As  := by kernel_rfl
theorem K_law25_works {G_strings_IndexRune : List V → M V} {G_errors_As : List V → M V} (k_strings_IndexRune : Known Tryz.prog fid_strings_IndexRune G_strings_IndexRune) (k_errors_As : Known Tryz.prog fid_errors_As G_errors_As) : Known Tryz.prog fid_law25_works (A_law25_works G_strings_IndexRune G_errors_As) := known_of (σ := ovr [(fid_law25_desk, A_law25_desk G_strings_IndexRune), (fid_sess_Message, A_sess_Message), (fid_sess_Desk_Open, A_sess_Desk_Open G_errors_As)] noC) (hint := h_law25_works) (by kernel_rfl) (simAll_ovr (K_law25_desk k_strings_IndexRune) (simAll_ovr K_sess_Message (simAll_ovr (K_sess_Desk_Open k_errors_As) simAll_nil0))) fun l H r H' h => by
  unfold A_law25_works at h; split at h
  · rw [e_law25_works]; exact h
  · exact (fail_ne h).elim

/-! ### capstan/capstanlaw25.among -/
def F_law25_among (x0 x1 : V) : M V :=
  bnd (
    bnd (lift (bin .rem x0 x1)) fun x7 =>
    bnd (lift (bin .add x7 x1)) fun x9 =>
    bnd (lift (bin .rem x9 x1)) fun x11 =>
    ret (.ret [x11])
    ) fun o => finM o fun vs => ret (outV [(at_ vs 0)])
def h_law25_among : Hint := (.seq [] .leaf (.seq [] .leaf .leaf))
def A_law25_among (l : List V) : M V := match l with | [x0, x1] => F_law25_among x0 x1 | _ => fail
theorem e_law25_among (x0 x1 : V) : funM Tryz.prog (ovr [] noC) fid_law25_among h_law25_among [x0, x1] = F_law25_among x0 x1 := by kernel_rfl
theorem K_law25_among : Known Tryz.prog fid_law25_among (A_law25_among) := known_of (σ := ovr [] noC) (hint := h_law25_among) (by kernel_rfl) simAll_nil0 fun l H r H' h => by
  unfold A_law25_among at h; split at h
  · rw [e_law25_among]; exact h
  · exact (fail_ne h).elim

/-! ### capstan/capstanlaw25.SessTurns -/
def law25_SessTurns_k0 (G_strings_IndexRune : List V → M V) (G_errors_As : List V → M V) (vs_7 : List V) : M Out :=
  bnd ((A_sess_Desk_Open G_errors_As) [(at_ vs_7 0), (at_ vs_7 1)]) fun x154 =>
  bnd (lift (ext 0 x154)) fun x155 =>
  bnd (lift (ext 1 x154)) fun x156 =>
  bnd (lift (ext 2 x154)) fun x157 =>
  bnd (lift (ext 3 x154)) fun x158 =>
  bnd (lift (bin .eql x156 (Value.string ⟨#[97, 110, 110]⟩))) fun x160 =>
  bnd (gd x160 true (lift (some x158))) fun x162 =>
  bnd (gd x160 true (lift (bin .eql x162 (Value.int .i64 0)))) fun x163 =>
  bnd (lift (pickV x160 x163 (Value.bool false))) fun x164 =>
  ret (.ret [x164])
def law25_SessTurns_k1 (G_strings_IndexRune : List V → M V) (G_errors_As : List V → M V) (vs_6 : List V) : M Out :=
  bnd (
    bnd (lift (bin .neq (at_ vs_6 2) (at_ vs_6 1))) fun x140 =>
    condM x140 (
      bnd ((A_sess_Desk_Open G_errors_As) [(at_ vs_6 0), (at_ vs_6 2)]) fun x144 =>
      bnd (lift (ext 0 x144)) fun x145 =>
      bnd (lift (ext 1 x144)) fun x146 =>
      bnd (lift (ext 2 x144)) fun x147 =>
      bnd (lift (ext 3 x144)) fun x148 =>
      bnd (lift (bin .neq x148 (Value.int .i64 20))) fun x150 =>
      condM x150 (
        ret (.ret [(Value.bool false)])
        ) (
        ret (.nxt [(at_ vs_6 0), (at_ vs_6 1)])
        )
      ) (
      ret (.nxt [(at_ vs_6 0), (at_ vs_6 1)])
      )
    ) fun o => nx o (law25_SessTurns_k0 G_strings_IndexRune G_errors_As)
def law25_SessTurns_k2 (G_strings_IndexRune : List V → M V) (G_errors_As : List V → M V) (vs_5 : List V) : M Out :=
  bnd (lift (build [Value.bool false, Value.int .i64 0, Value.string ⟨#[]⟩] [(1, 1, (Value.int .i64 42))])) fun x131 =>
  bnd (bslc 3 1 (rep 1 [Value.bool false, Value.int .i64 0, Value.string ⟨#[]⟩]) [(0, 3, x131)]) fun x132 =>
  bnd (A_sess_Message [(at_ vs_5 0), (Value.int .i64 1), (Value.int .i64 1), x132]) fun x133 =>
  bnd (lift (ext 0 x133)) fun x134 =>
  bnd (lift (ext 1 x133)) fun x135 =>
  bnd (
    bnd (lift (bin .neq x135 (Value.int .i64 0))) fun x137 =>
    condM x137 (
      ret (.ret [(Value.bool false)])
      ) (
      ret (.nxt [(at_ vs_5 1), (at_ vs_5 2), x134])
      )
    ) fun o => nx o (law25_SessTurns_k1 G_strings_IndexRune G_errors_As)
def law25_SessTurns_k3 (G_strings_IndexRune : List V → M V) (G_errors_As : List V → M V) (vs_4 : List V) : M Out :=
  bnd (lift (subS (at_ vs_4 3) none (some (at_ vs_4 4)))) fun x100 =>
  bnd (
    bnd (lift (lenStr x100)) fun x102 =>
    bnd (lift (bin .lss x102 (Value.int .i64 32))) fun x103 =>
    bnd (gd x103 false (lift (some (at_ vs_4 2)))) fun x105 =>
    bnd (gd x103 false (lift (some x100))) fun x106 =>
    bnd (gd x103 false (lift (some x100))) fun x107 =>
    bnd (gd x103 false (lift (lenStr x107))) fun x108 =>
    bnd (gd x103 false (lift (bin .sub x108 (Value.int .i64 32)))) fun x109 =>
    bnd (gd x103 false (lift (subS x106 none (some x109)))) fun x110 =>
    bnd (gd x103 false (lift (some x100))) fun x112 =>
    bnd (gd x103 false (lift (some x100))) fun x113 =>
    bnd (gd x103 false (lift (lenStr x113))) fun x114 =>
    bnd (gd x103 false (lift (bin .sub x114 (Value.int .i64 32)))) fun x115 =>
    bnd (gd x103 false (lift (subS x112 (some x115) none))) fun x116 =>
    bnd (gd x103 false (A_mac_Tag [x105, x110])) fun x111 =>
    bnd (gd x103 false (lift (bin .neq x111 x116))) fun x117 =>
    bnd (lift (pickV x103 (Value.bool true) x117)) fun x118 =>
    condM x118 (
      bnd ((A_sess_Desk_Open G_errors_As) [(at_ vs_4 1), x100]) fun x122 =>
      bnd (lift (ext 0 x122)) fun x123 =>
      bnd (lift (ext 1 x122)) fun x124 =>
      bnd (lift (ext 2 x122)) fun x125 =>
      bnd (lift (ext 3 x122)) fun x126 =>
      bnd (lift (bin .eql x126 (Value.int .i64 0))) fun x128 =>
      condM x128 (
        ret (.ret [(Value.bool false)])
        ) (
        ret (.nxt [(at_ vs_4 0), (at_ vs_4 1), (at_ vs_4 3)])
        )
      ) (
      ret (.nxt [(at_ vs_4 0), (at_ vs_4 1), (at_ vs_4 3)])
      )
    ) fun o => nx o (law25_SessTurns_k2 G_strings_IndexRune G_errors_As)
def law25_SessTurns_k4 (G_strings_IndexRune : List V → M V) (G_errors_As : List V → M V) (vs_3 : List V) : M Out :=
  bnd (lift (iaddrS 1 (at_ vs_3 5) (at_ vs_3 6))) fun x68 =>
  bnd (ld1 x68) fun x69 =>
  bnd (lift (bin .xor x69 (at_ vs_3 0))) fun x71 =>
  bnd (lift (iaddrS 1 (at_ vs_3 5) (at_ vs_3 6))) fun x72 =>
  bnd (st1 x72 x71) fun _ =>
  bnd (lift (lenSlc (at_ vs_3 5))) fun x74 =>
  bnd (lift (bin .sub x74 (Value.int .i64 32))) fun x75 =>
  bnd (
    withH fun h0 =>
    bnd (lift (subV 1 (at_ vs_3 5) none (some x75))) fun x79 =>
    bnd (lift (subV 1 (at_ vs_3 5) (some x75) none)) fun x84 =>
    bnd (b2s x79) fun x80 =>
    bnd (b2s x84) fun x85 =>
    bndH (A_mac_Tag [(at_ vs_3 3), x80]) fun ha x81 h1 =>
    bnd (lift (bin .neq x81 x85)) fun x86 =>
    need (chk (b2s x84) h1 x85) <|
    condM x86 (
      bnd (b2s (at_ vs_3 5)) fun x90 =>
      bnd ((A_sess_Desk_Open G_errors_As) [(at_ vs_3 2), x90]) fun x91 =>
      bnd (lift (ext 0 x91)) fun x92 =>
      bnd (lift (ext 1 x91)) fun x93 =>
      bnd (lift (ext 2 x91)) fun x94 =>
      bnd (lift (ext 3 x91)) fun x95 =>
      bnd (lift (bin .eql x95 (Value.int .i64 0))) fun x97 =>
      condM x97 (
        ret (.ret [(Value.bool false)])
        ) (
        ret (.nxt [(at_ vs_3 1), (at_ vs_3 2), (at_ vs_3 3), (at_ vs_3 4), (at_ vs_3 6)])
        )
      ) (
      ret (.nxt [(at_ vs_3 1), (at_ vs_3 2), (at_ vs_3 3), (at_ vs_3 4), (at_ vs_3 6)])
      )
    ) fun o => nx o (law25_SessTurns_k3 G_strings_IndexRune G_errors_As)
def law25_SessTurns_k5 (G_strings_IndexRune : List V → M V) (G_errors_As : List V → M V) (vs_2 : List V) : M Out :=
  bnd (s2b (at_ vs_2 5)) fun x59 =>
  bnd (lift (lenSlc x59)) fun x62 =>
  bnd (A_law25_among [(at_ vs_2 0), x62]) fun x63 =>
  bnd (
    bnd (lift (bin .eql (at_ vs_2 1) (Value.int .u8 0))) fun x65 =>
    condM x65 (
      ret (.nxt [(Value.int .u8 1), (at_ vs_2 2), (at_ vs_2 3), (at_ vs_2 4), (at_ vs_2 5), x59, x63])
      ) (
      ret (.nxt [(at_ vs_2 1), (at_ vs_2 2), (at_ vs_2 3), (at_ vs_2 4), (at_ vs_2 5), x59, x63])
      )
    ) fun o => nx o (law25_SessTurns_k4 G_strings_IndexRune G_errors_As)
def law25_SessTurns_k6 (G_strings_IndexRune : List V → M V) (G_errors_As : List V → M V) (vs : List V) : M Out :=
  bnd (lift (build [Value.bool false, Value.int .i64 0, Value.string ⟨#[]⟩] [(1, 1, (Value.int .i64 42))])) fun x46 =>
  bnd (bslc 3 1 (rep 1 [Value.bool false, Value.int .i64 0, Value.string ⟨#[]⟩]) [(0, 3, x46)]) fun x47 =>
  bnd (A_sess_Message [(at_ vs 4), (Value.int .i64 1), (Value.int .i64 1), x47]) fun x48 =>
  bnd (lift (ext 0 x48)) fun x49 =>
  bnd (lift (ext 1 x48)) fun x50 =>
  bnd (
    bnd (lift (bin .neq x50 (Value.int .i64 0))) fun x52 =>
    bnd (gd x52 false (lift (some x49))) fun x54 =>
    bnd (gd x52 false (lift (lenStr x54))) fun x55 =>
    bnd (gd x52 false (lift (bin .lss x55 (Value.int .i64 33)))) fun x56 =>
    bnd (lift (pickV x52 (Value.bool true) x56)) fun x57 =>
    condM x57 (
      ret (.ret [(Value.bool false)])
      ) (
      ret (.nxt [(at_ vs 0), (at_ vs 1), (at_ vs 2), (at_ vs 3), (at_ vs 4), x49])
      )
    ) fun o => nx o (law25_SessTurns_k5 G_strings_IndexRune G_errors_As)
def F_law25_SessTurns (G_strings_IndexRune : List V → M V) (G_errors_As : List V → M V) (x0 x1 x2 : V) : M V :=
  bnd (
    bnd ((A_law25_desk G_strings_IndexRune) [(Value.int .i64 1000)]) fun x34 =>
    bnd (lift (ext 0 x34)) fun x35 =>
    bnd (lift (ext 1 x34)) fun x36 =>
    bnd (lift (ext 2 x34)) fun x37 =>
    bnd (
      bnd (lift (un .not x37)) fun x39 =>
      bnd (gd x39 false ((A_law25_works G_strings_IndexRune G_errors_As) [])) fun x41 =>
      bnd (gd x39 false (lift (un .not x41))) fun x42 =>
      bnd (lift (pickV x39 (Value.bool true) x42)) fun x43 =>
      condM x43 (
        ret (.ret [(Value.bool false)])
        ) (
        ret (.nxt [x0, x1, x2, x35, x36])
        )
      ) fun o => nx o (law25_SessTurns_k6 G_strings_IndexRune G_errors_As)
    ) fun o => finM o fun vs => ret (outV [(at_ vs 0)])
def h_law25_SessTurns : Hint := (.seq [] .leaf (.seq [] .leaf (.seq [0, 1, 2, 7, 8] (.seq [] .leaf (.cond (.seq [] .leaf .leaf) .leaf)) (.seq [] .leaf (.seq [0, 1, 2, 7, 8, 10] (.seq [] .leaf (.cond (.seq [] .leaf .leaf) .leaf)) (.seq [] .leaf (.seq [] .leaf (.seq [1, 2, 7, 8, 10, 12, 13] (.seq [] .leaf (.cond .leaf .leaf)) (.seq [] .leaf (.seq [] .leaf (.seq [2, 7, 8, 10, 13] (.seq [] (.reg [0, 1, 2, 3, 6, 7, 8, 4, 9, 5, 10] []) (.cond (.seq [] .leaf (.seq [] .leaf (.cond (.seq [] .leaf .leaf) .leaf))) .leaf)) (.seq [] .leaf (.seq [2, 7, 10] (.seq [] (.reg [0, 1, 2, 3, 4, 5, 6, 7, 8, 9, 11, 12, 13, 14, 15, 10, 16, 17] []) (.cond (.seq [] .leaf (.seq [] .leaf (.cond (.seq [] .leaf .leaf) .leaf))) .leaf)) (.seq [] .leaf (.seq [7, 10, 24] (.seq [] .leaf (.cond (.seq [] .leaf .leaf) .leaf)) (.seq [7, 10] (.seq [] .leaf (.cond (.seq [] .leaf (.seq [] .leaf (.cond (.seq [] .leaf .leaf) .leaf))) .leaf)) (.seq [] .leaf (.seq [] .leaf .leaf))))))))))))))))))
def A_law25_SessTurns (G_strings_IndexRune : List V → M V) (G_errors_As : List V → M V) (l : List V) : M V := match l with | [x0, x1, x2] => F_law25_SessTurns G_strings_IndexRune G_errors_As x0 x1 x2 | _ => fail
theorem e_law25_SessTurns (G_strings_IndexRune : List V → M V) (G_errors_As : List V → M V) (x0 x1 x2 : V) : funM Tryz.prog (ovr [(fid_law25_desk, A_law25_desk G_strings_IndexRune), (fid_law25_works, A_law25_works G_strings_IndexRune G_errors_As), (fid_sess_Message, A_sess_Message), (fid_law25_among, A_law25_among), (fid_mac_Tag, A_mac_Tag), (fid_sess_Desk_Open, A_sess_Desk_Open G_errors_As)] noC) fid_law25_SessTurns h_law25_SessTurns [x0, x1, x2] = F_law25_SessTurns G_strings_IndexRune G_errors_As x0 x1 x2 := by kernel_rfl
theorem K_law25_SessTurns {G_strings_IndexRune : List V → M V} {G_errors_As : List V → M V} (k_strings_IndexRune : Known Tryz.prog fid_strings_IndexRune G_strings_IndexRune) (k_errors_As : Known Tryz.prog fid_errors_As G_errors_As) : Known Tryz.prog fid_law25_SessTurns (A_law25_SessTurns G_strings_IndexRune G_errors_As) := known_of (σ := ovr [(fid_law25_desk, A_law25_desk G_strings_IndexRune), (fid_law25_works, A_law25_works G_strings_IndexRune G_errors_As), (fid_sess_Message, A_sess_Message), (fid_law25_among, A_law25_among), (fid_mac_Tag, A_mac_Tag), (fid_sess_Desk_Open, A_sess_Desk_Open G_errors_As)] noC) (hint := h_law25_SessTurns) (by kernel_rfl) (simAll_ovr (K_law25_desk k_strings_IndexRune) (simAll_ovr (K_law25_works k_strings_IndexRune k_errors_As) (simAll_ovr K_sess_Message (simAll_ovr K_law25_among (simAll_ovr K_mac_Tag (simAll_ovr (K_sess_Desk_Open k_errors_As) simAll_nil0)))))) fun l H r H' h => by
  unfold A_law25_SessTurns at h; split at h
  · rw [e_law25_SessTurns]; exact h
  · exact (fail_ne h).elim

end Go.AM.Cap
