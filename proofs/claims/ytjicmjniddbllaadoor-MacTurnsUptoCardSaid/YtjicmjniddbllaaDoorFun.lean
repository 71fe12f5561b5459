/- Printed by amprint2.py: functions of YtjicmjniddbllaaDoor on the abstract machine. -/
import Derived.Test.YtjicmjniddbllaaDoorAmWp
import Derived.Test.YtjicmjniddbllaaDoorProg
set_option linter.all false
set_option linter.unusedVariables false
set_option maxRecDepth 100000
namespace Go.AM.Cap
open Go.AM Go.Proofs

def gid_sha_first : Nat := 0
def gid_sha_rounds : Nat := 1
def fid_law01_ShaSums : Nat := 3
def fid_law01_ShaLong : Nat := 4
def fid_law01_ShaPieces : Nat := 5
def fid_law01_ShaBytes : Nat := 6
def fid_law02_MacKeys : Nat := 7
def fid_law02_MacTags : Nat := 8
def fid_law02_MacSeals : Nat := 9
def fid_law02_MacBack : Nat := 10
def fid_law02_MacTurns : Nat := 11
def fid_law01_names : Nat := 12
def fid_sha_Sum : Nat := 13
def fid_ref01_Sum : Nat := 14
def fid_sha_Hex : Nat := 15
def fid_ref01_Hex : Nat := 16
def fid_law01_works : Nat := 17
def fid_law01_value : Nat := 18
def fid_sha_New : Nat := 19
def fid_sha_Hash_Write : Nat := 20
def fid_sha_Hash_Len : Nat := 21
def fid_sha_Hash_Sum : Nat := 22
def fid_sha_Hash_Fork : Nat := 23
def fid_law02_works : Nat := 24
def fid_mac_Tag : Nat := 25
def fid_ref02_Tag : Nat := 26
def fid_mac_Make : Nat := 27
def fid_mac_Equal : Nat := 28
def fid_mac_Check : Nat := 29
def fid_ref02_Check : Nat := 30
def fid_mac_Open : Nat := 31
def fid_ref02_Open : Nat := 32
def fid_mac_Seal : Nat := 33
def fid_ref01_padded : Nat := 34
def fid_ref01_take : Nat := 35
def fid_sha_state_take : Nat := 36
def fid_mac_Tag_1 : Nat := 37
def fid_ref02_fitted : Nat := 38
def fid_ref02_with : Nat := 39
def fid_ref01_words : Nat := 40
def fid_ref01_constants : Nat := 41
def fid_ref01_rotr : Nat := 42
def fid_sha_rotr : Nat := 43

/-! ### capstan/capstanlaw01.names -/
def F_law01_names : M V :=
  bnd (
    bnd (gd (Value.bool true) true (lift (some (Value.bool true)))) fun x6 =>
    bnd (lift (pickV (Value.bool true) x6 (Value.bool false))) fun x7 =>
    bnd (gd x7 true (lift (some (Value.bool true)))) fun x9 =>
    bnd (lift (pickV x7 x9 (Value.bool false))) fun x10 =>
    bnd (lift (pickV x10 (Value.bool true) (Value.bool false))) fun x12 =>
    bnd (lift (pickV x12 (Value.bool true) (Value.bool false))) fun x14 =>
    bnd (lift (pickV x14 (Value.bool true) (Value.bool false))) fun x16 =>
    ret (.ret [x16])
    ) fun o => finM o fun vs => ret (outV [(at_ vs 0)])
def h_law01_names : Hint := (.seq [] .leaf (.seq [] .leaf (.seq [] .leaf (.seq [] .leaf (.seq [] .leaf .leaf)))))
def A_law01_names (l : List V) : M V := match l with | [] => F_law01_names  | _ => fail
theorem e_law01_names : funM Tryd.prog (ovr [] noC) fid_law01_names h_law01_names [] = F_law01_names  := by kernel_rfl
theorem K_law01_names : Known Tryd.prog fid_law01_names (A_law01_names) := known_of (σ := ovr [] noC) (hint := h_law01_names) (by kernel_rfl) simAll_nil0 fun l H r H' h => by
  unfold A_law01_names at h; split at h
  · rw [e_law01_names]; exact h
  · exact (fail_ne h).elim

/-! ### capstan/sha.New -/
def F_sha_New : M V :=
  bnd (
    bnd (ldn 8 (ptr gid_sha_first 0)) fun x1 =>
    bnd (lift (build [Value.int .u32 0, Value.int .u32 0, Value.int .u32 0, Value.int .u32 0, Value.int .u32 0, Value.int .u32 0, Value.int .u32 0, Value.int .u32 0, Value.slice none 0 0, Value.int .i64 0] [(0, 8, x1)])) fun x2 =>
    bnd (boxv x2) fun x3 =>
    ret (.ret [x3])
    ) fun o => finM o fun vs => ret (outV [(at_ vs 0)])
def h_sha_New : Hint := (.seq [] .leaf (.seq [] .leaf .leaf))
def A_sha_New (l : List V) : M V := match l with | [] => F_sha_New  | _ => fail
theorem e_sha_New : funM Tryd.prog (ovr [] noC) fid_sha_New h_sha_New [] = F_sha_New  := by kernel_rfl
theorem K_sha_New : Known Tryd.prog fid_sha_New (A_sha_New) := known_of (σ := ovr [] noC) (hint := h_sha_New) (by kernel_rfl) simAll_nil0 fun l H r H' h => by
  unfold A_sha_New at h; split at h
  · rw [e_sha_New]; exact h
  · exact (fail_ne h).elim

/-! ### capstan/sha.rotr -/
def F_sha_rotr (x0 x1 : V) : M V :=
  bnd (
    bnd (lift (bin .shr x0 x1)) fun x7 =>
    bnd (lift (bin .sub (Value.int .i64 32) x1)) fun x10 =>
    bnd (lift (bin .shl x0 x10)) fun x11 =>
    bnd (lift (bin .or x7 x11)) fun x12 =>
    ret (.ret [x12])
    ) fun o => finM o fun vs => ret (outV [(at_ vs 0)])
def h_sha_rotr : Hint := (.seq [] .leaf (.seq [] (.reg [0, 1, 2, 3, 4, 5, 6, 7, 8] []) .leaf))
def A_sha_rotr (l : List V) : M V := match l with | [x0, x1] => F_sha_rotr x0 x1 | _ => fail
theorem e_sha_rotr (x0 x1 : V) : funM Tryd.prog (ovr [] noC) fid_sha_rotr h_sha_rotr [x0, x1] = F_sha_rotr x0 x1 := by kernel_rfl
theorem K_sha_rotr : Known Tryd.prog fid_sha_rotr (A_sha_rotr) := known_of (σ := ovr [] noC) (hint := h_sha_rotr) (by kernel_rfl) simAll_nil0 fun l H r H' h => by
  unfold A_sha_rotr at h; split at h
  · rw [e_sha_rotr]; exact h
  · exact (fail_ne h).elim

/-! ### (*capstan/sha.state).take -/
def sha_state_take_k0 (vs_3 : List V) : M Out :=
  bnd (lift (bin .add (at_ vs_3 3) (Value.int .i64 1))) fun x54 =>
  ret (.nxt [(at_ vs_3 0), (at_ vs_3 1), (at_ vs_3 2), x54])
def sha_state_take_k1 (vs_2 : List V) : M Out :=
  bnd (
  bnd (
    bnd (lift (bin .mul (Value.int .i64 4) (at_ vs_2 3))) fun x22 =>
    bnd (lift (iaddrS 1 (at_ vs_2 1) x22)) fun x23 =>
    bnd (lift (bin .mul (Value.int .i64 4) (at_ vs_2 3))) fun x29 =>
    bnd (lift (bin .add x29 (Value.int .i64 1))) fun x30 =>
    bnd (lift (iaddrS 1 (at_ vs_2 1) x30)) fun x31 =>
    bnd (lift (bin .mul (Value.int .i64 4) (at_ vs_2 3))) fun x38 =>
    bnd (lift (bin .add x38 (Value.int .i64 2))) fun x39 =>
    bnd (lift (iaddrS 1 (at_ vs_2 1) x39)) fun x40 =>
    bnd (lift (bin .mul (Value.int .i64 4) (at_ vs_2 3))) fun x47 =>
    bnd (lift (bin .add x47 (Value.int .i64 3))) fun x48 =>
    bnd (lift (iaddrS 1 (at_ vs_2 1) x48)) fun x49 =>
    bnd (ld1 x23) fun x24 =>
    bnd (lift (cvi .u32 x24)) fun x25 =>
    bnd (lift (bin .shl x25 (Value.int .u64 24))) fun x26 =>
    bnd (ld1 x31) fun x32 =>
    bnd (lift (cvi .u32 x32)) fun x33 =>
    bnd (lift (bin .shl x33 (Value.int .u64 16))) fun x34 =>
    bnd (lift (bin .or x26 x34)) fun x35 =>
    bnd (ld1 x40) fun x41 =>
    bnd (lift (cvi .u32 x41)) fun x42 =>
    bnd (lift (bin .shl x42 (Value.int .u64 8))) fun x43 =>
    bnd (lift (bin .or x35 x43)) fun x44 =>
    bnd (ld1 x49) fun x50 =>
    bnd (lift (cvi .u32 x50)) fun x51 =>
    bnd (lift (bin .or x44 x51)) fun x52 =>
    bnd (lift (iaddrA 64 1 (at_ vs_2 2) (at_ vs_2 3))) fun x53 =>
    bnd (st1 x53 x52) fun _ =>
    ret (.nxt [(at_ vs_2 0), (at_ vs_2 1), (at_ vs_2 2), (at_ vs_2 3)])
    ) fun o => ret (unblk 1 o)
  ) fun o => nx o sha_state_take_k0
def sha_state_take_l2 (vs : List V) : M Out :=
  bnd (lift (bin .lss (at_ vs 3) (Value.int .i64 16))) fun x17 =>
  bnd (
  condM x17 (
    ret (.nxt [(at_ vs 0), (at_ vs 1), (at_ vs 2), (at_ vs 3)])
    ) (
    ret (.brk 0 [(at_ vs 0), (at_ vs 2)])
    )
  ) fun o => nx o sha_state_take_k1
def sha_state_take_k3 (vs_7 : List V) : M Out :=
  bnd (lift (bin .add (at_ vs_7 2) (Value.int .i64 1))) fun x58 =>
  ret (.nxt [(at_ vs_7 0), (at_ vs_7 1), x58])
def sha_state_take_k4 (vs_6 : List V) : M Out :=
  bnd (
  bnd (
    bnd (lift (bin .sub (at_ vs_6 2) (Value.int .i64 15))) fun x60 =>
    bnd (lift (iaddrA 64 1 (at_ vs_6 1) x60)) fun x61 =>
    bnd (lift (bin .sub (at_ vs_6 2) (Value.int .i64 2))) fun x64 =>
    bnd (lift (iaddrA 64 1 (at_ vs_6 1) x64)) fun x65 =>
    bnd (ld1 x61) fun x62 =>
    bnd (ld1 x65) fun x66 =>
    withH fun h0 =>
    bnd (lift (bin .sub (at_ vs_6 2) (Value.int .i64 16))) fun x69 =>
    bnd (lift (iaddrA 64 1 (at_ vs_6 1) x69)) fun x70 =>
    bnd (lift (bin .shr x62 (Value.int .u64 3))) fun x78 =>
    bnd (lift (bin .sub (at_ vs_6 2) (Value.int .i64 7))) fun x82 =>
    bnd (lift (iaddrA 64 1 (at_ vs_6 1) x82)) fun x83 =>
    bnd (lift (bin .shr x66 (Value.int .u64 10))) fun x92 =>
    bnd (ld1 x70) fun x71 =>
    bnd (ld1 x83) fun x84 =>
    bndH (A_sha_rotr [x62, (Value.int .i64 7)]) fun ha x73 h1 =>
    bndH (A_sha_rotr [x62, (Value.int .i64 18)]) fun ha_2 x75 h2 =>
    bnd (lift (bin .xor x73 x75)) fun x76 =>
    bnd (lift (bin .xor x76 x78)) fun x79 =>
    bnd (lift (bin .add x71 x79)) fun x80 =>
    bnd (lift (bin .add x80 x84)) fun x85 =>
    bndH (A_sha_rotr [x66, (Value.int .i64 17)]) fun ha_3 x87 h3 =>
    bndH (A_sha_rotr [x66, (Value.int .i64 19)]) fun ha_4 x89 h4 =>
    bnd (lift (bin .xor x87 x89)) fun x90 =>
    bnd (lift (bin .xor x90 x92)) fun x93 =>
    bnd (lift (bin .add x85 x93)) fun x94 =>
    bnd (lift (iaddrA 64 1 (at_ vs_6 1) (at_ vs_6 2))) fun x95 =>
    bndH (st1 x95 x94) fun ha_5 u_2 h5 =>
    need (chk (ld1 x70) h1 x71) <|
    need (chk (ld1 x70) h2 x71) <|
    need (chk (ld1 x70) h3 x71) <|
    need (chk (ld1 x70) h4 x71) <|
    need (chk (ld1 x83) h1 x84) <|
    need (chk (ld1 x83) h2 x84) <|
    need (chk (ld1 x83) h3 x84) <|
    need (chk (ld1 x83) h4 x84) <|
    ret (.nxt [(at_ vs_6 0), (at_ vs_6 1), (at_ vs_6 2)])
    ) fun o => ret (unblk 3 o)
  ) fun o => nx o sha_state_take_k3
def sha_state_take_l5 (vs_5 : List V) : M Out :=
  bnd (
  bnd (lift (bin .lss (at_ vs_5 2) (Value.int .i64 64))) fun x56 =>
  condM x56 (
    ret (.nxt [(at_ vs_5 0), (at_ vs_5 1), (at_ vs_5 2)])
    ) (
    ret (.brk 2 [(at_ vs_5 0), (at_ vs_5 1)])
    )
  ) fun o => nx o sha_state_take_k4
def sha_state_take_k6 (vs_11 : List V) : M Out :=
  bnd (lift (bin .add (at_ vs_11 3) (Value.int .i64 1))) fun x178 =>
  ret (.nxt [(at_ vs_11 0), (at_ vs_11 1), (at_ vs_11 2), x178])
def sha_state_take_k7 (vs_10 : List V) : M Out :=
  bnd (
  bnd (
    bnd (lift (iaddrA 8 1 (at_ vs_10 2) (Value.int .i64 0))) fun x102 =>
    bnd (lift (iaddrA 8 1 (at_ vs_10 2) (Value.int .i64 4))) fun x104 =>
    bnd (ld1 x102) fun x103 =>
    bnd (ld1 x104) fun x105 =>
    withH fun h0_2 =>
    bnd (lift (iaddrA 8 1 (at_ vs_10 2) (Value.int .i64 7))) fun x106 =>
    bnd (lift (iaddrA 8 1 (at_ vs_10 2) (Value.int .i64 5))) fun x118 =>
    bnd (lift (un .xor x105)) fun x122 =>
    bnd (lift (iaddrA 8 1 (at_ vs_10 2) (Value.int .i64 6))) fun x123 =>
    bnd (lift (iaddrA 64 1 (ptr gid_sha_rounds 0) (at_ vs_10 3))) fun x129 =>
    bnd (lift (iaddrA 64 1 (at_ vs_10 1) (at_ vs_10 3))) fun x133 =>
    bnd (ld1 x106) fun x107 =>
    bnd (ld1 x118) fun x119 =>
    bnd (lift (bin .and x105 x119)) fun x120 =>
    bnd (ld1 x123) fun x124 =>
    bnd (lift (bin .and x122 x124)) fun x125 =>
    bnd (lift (bin .xor x120 x125)) fun x126 =>
    bnd (ld1 x129) fun x130 =>
    bnd (ld1 x133) fun x134 =>
    bndH (A_sha_rotr [x105, (Value.int .i64 6)]) fun ha_6 x109 h1_2 =>
    bndH (A_sha_rotr [x105, (Value.int .i64 11)]) fun ha_7 x111 h2_2 =>
    bnd (lift (bin .xor x109 x111)) fun x112 =>
    bndH (A_sha_rotr [x105, (Value.int .i64 25)]) fun ha_8 x114 h3_2 =>
    bnd (lift (bin .xor x112 x114)) fun x115 =>
    bnd (lift (bin .add x107 x115)) fun x116 =>
    bnd (lift (bin .add x116 x126)) fun x127 =>
    bnd (lift (bin .add x127 x130)) fun x131 =>
    bnd (lift (bin .add x131 x134)) fun x135 =>
    need (chk (ld1 x106) h1_2 x107) <|
    need (chk (ld1 x106) h2_2 x107) <|
    need (chk (ld1 x106) h3_2 x107) <|
    need (chk (ld1 x118) h1_2 x119) <|
    need (chk (ld1 x118) h2_2 x119) <|
    need (chk (ld1 x118) h3_2 x119) <|
    need (chk (ld1 x123) h1_2 x124) <|
    need (chk (ld1 x123) h2_2 x124) <|
    need (chk (ld1 x123) h3_2 x124) <|
    need (chk (ld1 x129) h1_2 x130) <|
    need (chk (ld1 x129) h2_2 x130) <|
    need (chk (ld1 x129) h3_2 x130) <|
    need (chk (ld1 x133) h1_2 x134) <|
    need (chk (ld1 x133) h2_2 x134) <|
    need (chk (ld1 x133) h3_2 x134) <|
    withH fun h0_3 =>
    bnd (lift (iaddrA 8 1 (at_ vs_10 2) (Value.int .i64 1))) fun x145 =>
    bnd (lift (iaddrA 8 1 (at_ vs_10 2) (Value.int .i64 2))) fun x149 =>
    bnd (lift (iaddrA 8 1 (at_ vs_10 2) (Value.int .i64 1))) fun x153 =>
    bnd (lift (iaddrA 8 1 (at_ vs_10 2) (Value.int .i64 2))) fun x155 =>
    bnd (ld1 x145) fun x146 =>
    bnd (lift (bin .and x103 x146)) fun x147 =>
    bnd (ld1 x149) fun x150 =>
    bnd (lift (bin .and x103 x150)) fun x151 =>
    bnd (lift (bin .xor x147 x151)) fun x152 =>
    bnd (ld1 x153) fun x154 =>
    bnd (ld1 x155) fun x156 =>
    bnd (lift (bin .and x154 x156)) fun x157 =>
    bnd (lift (bin .xor x152 x157)) fun x158 =>
    bndH (A_sha_rotr [x103, (Value.int .i64 2)]) fun ha_9 x137 h1_3 =>
    bndH (A_sha_rotr [x103, (Value.int .i64 13)]) fun ha_10 x139 h2_3 =>
    bnd (lift (bin .xor x137 x139)) fun x140 =>
    bndH (A_sha_rotr [x103, (Value.int .i64 22)]) fun ha_11 x142 h3_3 =>
    bnd (lift (bin .xor x140 x142)) fun x143 =>
    bnd (lift (bin .add x143 x158)) fun x159 =>
    need (chk (ld1 x145) h1_3 x146) <|
    need (chk (ld1 x145) h2_3 x146) <|
    need (chk (ld1 x145) h3_3 x146) <|
    need (chk (ld1 x149) h1_3 x150) <|
    need (chk (ld1 x149) h2_3 x150) <|
    need (chk (ld1 x149) h3_3 x150) <|
    need (chk (ld1 x153) h1_3 x154) <|
    need (chk (ld1 x153) h2_3 x154) <|
    need (chk (ld1 x153) h3_3 x154) <|
    need (chk (ld1 x155) h1_3 x156) <|
    need (chk (ld1 x155) h2_3 x156) <|
    need (chk (ld1 x155) h3_3 x156) <|
    bnd (lift (bin .add x135 x159)) fun x162 =>
    bnd (lift (iaddrA 8 1 (at_ vs_10 2) (Value.int .i64 1))) fun x164 =>
    bnd (ld1 x164) fun x165 =>
    bnd (lift (iaddrA 8 1 (at_ vs_10 2) (Value.int .i64 2))) fun x166 =>
    bnd (ld1 x166) fun x167 =>
    bnd (lift (iaddrA 8 1 (at_ vs_10 2) (Value.int .i64 3))) fun x168 =>
    bnd (ld1 x168) fun x169 =>
    bnd (lift (bin .add x169 x135)) fun x171 =>
    bnd (lift (iaddrA 8 1 (at_ vs_10 2) (Value.int .i64 5))) fun x173 =>
    bnd (ld1 x173) fun x174 =>
    bnd (lift (iaddrA 8 1 (at_ vs_10 2) (Value.int .i64 6))) fun x175 =>
    bnd (ld1 x175) fun x176 =>
    bnd (lift (build [Value.int .u32 0, Value.int .u32 0, Value.int .u32 0, Value.int .u32 0, Value.int .u32 0, Value.int .u32 0, Value.int .u32 0, Value.int .u32 0] [(0, 1, x162), (1, 1, x103), (2, 1, x165), (3, 1, x167), (4, 1, x171), (5, 1, x105), (6, 1, x174), (7, 1, x176)])) fun x177 =>
    bnd (stn 8 (at_ vs_10 2) x177) fun _ =>
    ret (.nxt [(at_ vs_10 0), (at_ vs_10 1), (at_ vs_10 2), (at_ vs_10 3)])
    ) fun o => ret (unblk 5 o)
  ) fun o => nx o sha_state_take_k6
def sha_state_take_l8 (vs_9 : List V) : M Out :=
  bnd (lift (bin .lss (at_ vs_9 3) (Value.int .i64 64))) fun x100 =>
  bnd (
  condM x100 (
    ret (.nxt [(at_ vs_9 0), (at_ vs_9 1), (at_ vs_9 2), (at_ vs_9 3)])
    ) (
    ret (.brk 4 [(at_ vs_9 0), (at_ vs_9 2)])
    )
  ) fun o => nx o sha_state_take_k7
def sha_state_take_k9 (vs_15 : List V) : M Out :=
  bnd (lift (bin .add (at_ vs_15 2) (Value.int .i64 1))) fun x193 =>
  ret (.nxt [(at_ vs_15 0), (at_ vs_15 1), x193])
def sha_state_take_k10 (vs_14 : List V) : M Out :=
  bnd (
  bnd (
    bnd (lift (nilck (at_ vs_14 0))) fun x184 =>
    bnd (lift (iaddrA 8 1 x184 (at_ vs_14 2))) fun x185 =>
    bnd (lift (iaddrA 8 1 (at_ vs_14 1) (at_ vs_14 2))) fun x188 =>
    bnd (lift (nilck (at_ vs_14 0))) fun x191 =>
    bnd (ld1 x185) fun x186 =>
    bnd (ld1 x188) fun x189 =>
    bnd (lift (bin .add x186 x189)) fun x190 =>
    bnd (lift (iaddrA 8 1 x191 (at_ vs_14 2))) fun x192 =>
    bnd (st1 x192 x190) fun _ =>
    ret (.nxt [(at_ vs_14 0), (at_ vs_14 1), (at_ vs_14 2)])
    ) fun o => ret (unblk 7 o)
  ) fun o => nx o sha_state_take_k9
def sha_state_take_l11 (vs_13 : List V) : M Out :=
  bnd (lift (bin .lss (at_ vs_13 2) (Value.int .i64 8))) fun x180 =>
  bnd (
  condM x180 (
    ret (.nxt [(at_ vs_13 0), (at_ vs_13 1), (at_ vs_13 2)])
    ) (
    ret (.brk 6 [])
    )
  ) fun o => nx o sha_state_take_k10
def sha_state_take_k12 (vs_12 : List V) : M Out :=
  bnd (
    loopM FUEL sha_state_take_l11 [(at_ vs_12 0), (at_ vs_12 1), (Value.int .i64 0)]
    ) fun o => ret (unblk 6 o)
def sha_state_take_k13 (vs_8 : List V) : M Out :=
  bnd (lift (nilck (at_ vs_8 0))) fun x97 =>
  bnd (ldn 8 x97) fun x98 =>
  bnd (newc [Value.int .u32 0, Value.int .u32 0, Value.int .u32 0, Value.int .u32 0, Value.int .u32 0, Value.int .u32 0, Value.int .u32 0, Value.int .u32 0]) fun x9 =>
  bnd (stn 8 x9 x98) fun _ =>
  bnd (
    bnd (
      loopM FUEL sha_state_take_l8 [(at_ vs_8 0), (at_ vs_8 1), x9, (Value.int .i64 0)]
      ) fun o => ret (unblk 4 o)
    ) fun o => nx o sha_state_take_k12
def sha_state_take_k14 (vs_4 : List V) : M Out :=
  bnd (
    bnd (
      loopM FUEL sha_state_take_l5 [(at_ vs_4 0), (at_ vs_4 1), (Value.int .i64 16)]
      ) fun o => ret (unblk 2 o)
    ) fun o => nx o sha_state_take_k13
def F_sha_state_take (x0 x1 : V) : M V :=
  bnd (
    bnd (newc (List.replicate 64 (Value.int .u32 0))) fun x4 =>
    bnd (
      bnd (
        loopM FUEL sha_state_take_l2 [x0, x1, x4, (Value.int .i64 0)]
        ) fun o => ret (unblk 0 o)
      ) fun o => nx o sha_state_take_k14
    ) fun o => finM o fun vs => ret (outV [])
def h_sha_state_take : Hint := (.seq [] .leaf (.seq [0, 4] (.seq [] .leaf (.blk (.loop [0, 1, 4, 16] (.seq [] .leaf (.seq [0, 1, 4, 16] (.cond .leaf .leaf) (.seq [0, 1, 4, 16] (.blk (.seq [] .leaf (.reg [0, 1, 2, 3, 4, 8, 9, 10, 11, 12, 17, 18, 19, 20, 21, 26, 27, 28, 29, 30, 5, 6, 7, 13, 14, 15, 16, 22, 23, 24, 25, 31, 32, 33, 34, 35] []))) .leaf)))))) (.seq [0, 4] (.seq [] .leaf (.blk (.loop [0, 4, 6] (.seq [0, 4, 6] (.seq [] .leaf (.cond .leaf .leaf)) (.seq [0, 4, 6] (.blk (.seq [] (.reg [0, 1, 2, 4, 5, 6, 3, 8, 7, 9] []) (.reg [0, 1, 2, 3, 5, 7, 10, 11, 14, 15, 16, 19, 21, 24, 25, 4, 17, 6, 8, 9, 12, 13, 18, 20, 22, 23, 26, 27, 28, 29] []))) .leaf))))) (.seq [] .leaf (.seq [0, 9] (.seq [] .leaf (.blk (.loop [0, 4, 9, 99] (.seq [] .leaf (.seq [0, 4, 9, 99] (.cond .leaf .leaf) (.seq [0, 4, 9, 99] (.blk (.seq [] .leaf (.seq [] (.reg [0, 2, 1, 4, 3, 5] []) (.seq [] (.reg [0, 2, 4, 7, 11, 12, 15, 16, 17, 22, 23, 26, 27, 1, 13, 14, 18, 19, 20, 24, 28, 3, 5, 6, 8, 9, 10, 21, 25, 29, 30] []) (.seq [] (.reg [0, 2, 5, 8, 9, 12, 13, 17, 19, 10, 11, 14, 15, 16, 18, 20, 21, 22, 1, 3, 4, 6, 7, 23, 24] []) .leaf))))) .leaf)))))) (.seq [] .leaf (.blk (.loop [0, 9, 179] (.seq [] .leaf (.seq [0, 9, 179] (.cond .leaf .leaf) (.seq [0, 9, 179] (.blk (.seq [] .leaf (.reg [0, 1, 2, 3, 5, 6, 9, 4, 7, 8, 10, 11] []))) .leaf)))))))))))
def A_sha_state_take (l : List V) : M V := match l with | [x0, x1] => F_sha_state_take x0 x1 | _ => fail
theorem e_sha_state_take (x0 x1 : V) : funM Tryd.prog (ovr [(fid_sha_rotr, A_sha_rotr)] noC) fid_sha_state_take h_sha_state_take [x0, x1] = F_sha_state_take x0 x1 := by kernel_rfl
theorem K_sha_state_take : Known Tryd.prog fid_sha_state_take (A_sha_state_take) := known_of (σ := ovr [(fid_sha_rotr, A_sha_rotr)] noC) (hint := h_sha_state_take) (by kernel_rfl) (simAll_ovr K_sha_rotr simAll_nil0) fun l H r H' h => by
  unfold A_sha_state_take at h; split at h
  · rw [e_sha_state_take]; exact h
  · exact (fail_ne h).elim

/-! ### (*capstan/sha.Hash).Write -/
def sha_Hash_Write_k0 (vs_3 : List V) : M Out :=
  bnd (
  bnd (lift (nilck (at_ vs_3 0))) fun x38 =>
  bnd (lift (faddr 0 x38)) fun x39 =>
  bnd (lift (nilck (at_ vs_3 0))) fun x41 =>
  bnd (lift (faddr 8 x41)) fun x42 =>
  bnd (ld1 x42) fun x43 =>
  bnd (lift (subV 1 x43 none (some (Value.int .i64 64)))) fun x44 =>
  bnd (A_sha_state_take [x39, x44]) fun x45 =>
  bnd (lift (nilck (at_ vs_3 0))) fun x48 =>
  bnd (lift (faddr 8 x48)) fun x49 =>
  bnd (ld1 x49) fun x50 =>
  bnd (lift (subV 1 x50 (some (Value.int .i64 64)) none)) fun x51 =>
  bnd (lift (nilck (at_ vs_3 0))) fun x52 =>
  bnd (lift (faddr 8 x52)) fun x53 =>
  bnd (st1 x53 x51) fun _ =>
  ret (.nxt [(at_ vs_3 0)])
  ) fun o => ret (unblk 1 o)
def sha_Hash_Write_l1 (vs_2 : List V) : M Out :=
  bnd (
  bnd (lift (nilck (at_ vs_2 0))) fun x32 =>
  bnd (lift (faddr 8 x32)) fun x33 =>
  bnd (ld1 x33) fun x34 =>
  bnd (lift (lenSlc x34)) fun x35 =>
  bnd (lift (bin .geq x35 (Value.int .i64 64))) fun x36 =>
  condM x36 (
    ret (.nxt [(at_ vs_2 0)])
    ) (
    ret (.brk 0 [])
    )
  ) fun o => nx o sha_Hash_Write_k0
def sha_Hash_Write_k2 (vs_4 : List V) : M Out :=
  ret (.ret [(Value.int .i64 0)])
def sha_Hash_Write_k3 (vs : List V) : M Out :=
  bnd (lift (nilck (at_ vs 0))) fun x14 =>
  bnd (lift (faddr 9 x14)) fun x15 =>
  bnd (ld1 x15) fun x16 =>
  bnd (lift (lenStr (at_ vs 1))) fun x18 =>
  bnd (lift (bin .add x16 x18)) fun x19 =>
  bnd (lift (nilck (at_ vs 0))) fun x20 =>
  bnd (lift (faddr 9 x20)) fun x21 =>
  bnd (st1 x21 x19) fun _ =>
  bnd (lift (nilck (at_ vs 0))) fun x24 =>
  bnd (lift (faddr 8 x24)) fun x25 =>
  bnd (ld1 x25) fun x26 =>
  bnd (appS x26 (at_ vs 1)) fun x28 =>
  bnd (lift (nilck (at_ vs 0))) fun x29 =>
  bnd (lift (faddr 8 x29)) fun x30 =>
  bnd (st1 x30 x28) fun _ =>
  bnd (
    bnd (
      loopM FUEL sha_Hash_Write_l1 [(at_ vs 0)]
      ) fun o => ret (unblk 0 o)
    ) fun o => nx o sha_Hash_Write_k2
def F_sha_Hash_Write (x0 x1 : V) : M V :=
  bnd (
    bnd (
      bnd (lift (lenStr x1)) fun x6 =>
      bnd (lift (nilck x0)) fun x8 =>
      bnd (lift (faddr 9 x8)) fun x9 =>
      bnd (ld1 x9) fun x10 =>
      bnd (lift (bin .sub (Value.int .i64 1099511627776) x10)) fun x11 =>
      bnd (lift (bin .gtr x6 x11)) fun x12 =>
      condM x12 (
        ret (.ret [(Value.int .i64 2)])
        ) (
        ret (.nxt [x0, x1])
        )
      ) fun o => nx o sha_Hash_Write_k3
    ) fun o => finM o fun vs => ret (outV [(at_ vs 0)])
def h_sha_Hash_Write : Hint := (.seq [] .leaf (.seq [0, 1] (.seq [] .leaf (.cond (.seq [] .leaf .leaf) .leaf)) (.seq [] .leaf (.seq [] .leaf (.seq [] (.blk (.loop [0] (.seq [0] (.seq [] .leaf (.cond .leaf .leaf)) (.blk (.seq [] (.reg [0, 1, 2, 3, 4, 5, 6, 7, 8] []) .leaf))))) (.seq [] .leaf .leaf))))))
def A_sha_Hash_Write (l : List V) : M V := match l with | [x0, x1] => F_sha_Hash_Write x0 x1 | _ => fail
theorem e_sha_Hash_Write (x0 x1 : V) : funM Tryd.prog (ovr [(fid_sha_state_take, A_sha_state_take)] noC) fid_sha_Hash_Write h_sha_Hash_Write [x0, x1] = F_sha_Hash_Write x0 x1 := by kernel_rfl
theorem K_sha_Hash_Write : Known Tryd.prog fid_sha_Hash_Write (A_sha_Hash_Write) := known_of (σ := ovr [(fid_sha_state_take, A_sha_state_take)] noC) (hint := h_sha_Hash_Write) (by kernel_rfl) (simAll_ovr K_sha_state_take simAll_nil0) fun l H r H' h => by
  unfold A_sha_Hash_Write at h; split at h
  · rw [e_sha_Hash_Write]; exact h
  · exact (fail_ne h).elim

/-! ### (*capstan/sha.Hash).Fork -/
def F_sha_Hash_Fork (x0 : V) : M V :=
  bnd (
    withH fun h0 =>
    bnd (lift (nilck x0)) fun x4 =>
    bnd (lift (faddr 0 x4)) fun x5 =>
    bnd (lift (nilck x0)) fun x9 =>
    bnd (lift (faddr 8 x9)) fun x10 =>
    bnd (lift (nilck x0)) fun x14 =>
    bnd (lift (faddr 9 x14)) fun x15 =>
    bnd (ldn 8 x5) fun x6 =>
    bnd (ld1 x10) fun x11 =>
    bnd (ld1 x15) fun x16 =>
    bndH (bslc 1 0 (rep 0 [Value.int .u8 0]) []) fun ha x7 h1 =>
    bndH (appV 1 1 x7 x11) fun ha_2 x12 h2 =>
    bnd (lift (build [Value.int .u32 0, Value.int .u32 0, Value.int .u32 0, Value.int .u32 0, Value.int .u32 0, Value.int .u32 0, Value.int .u32 0, Value.int .u32 0, Value.slice none 0 0, Value.int .i64 0] [(0, 8, x6), (8, 1, x12), (9, 1, x16)])) fun x17 =>
    bndH (boxv x17) fun ha_3 x18 h3 =>
    need (chk (ldn 8 x5) h1 x6) <|
    need (chk (ldn 8 x5) h2 x6) <|
    need (chk (ld1 x10) h1 x11) <|
    need (chk (ld1 x15) h1 x16) <|
    need (chk (ld1 x15) h2 x16) <|
    ret (.ret [x18])
    ) fun o => finM o fun vs => ret (outV [(at_ vs 0)])
def h_sha_Hash_Fork : Hint := (.seq [] .leaf (.seq [] (.reg [0, 1, 2, 5, 6, 7, 10, 11, 12, 3, 8, 13, 4, 9, 14, 15, 16] []) .leaf))
def A_sha_Hash_Fork (l : List V) : M V := match l with | [x0] => F_sha_Hash_Fork x0 | _ => fail
theorem e_sha_Hash_Fork (x0 : V) : funM Tryd.prog (ovr [] noC) fid_sha_Hash_Fork h_sha_Hash_Fork [x0] = F_sha_Hash_Fork x0 := by kernel_rfl
theorem K_sha_Hash_Fork : Known Tryd.prog fid_sha_Hash_Fork (A_sha_Hash_Fork) := known_of (σ := ovr [] noC) (hint := h_sha_Hash_Fork) (by kernel_rfl) simAll_nil0 fun l H r H' h => by
  unfold A_sha_Hash_Fork at h; split at h
  · rw [e_sha_Hash_Fork]; exact h
  · exact (fail_ne h).elim

/-! ### (*capstan/sha.Hash).Sum -/
def sha_Hash_Sum_k0 (vs_3 : List V) : M Out :=
  bnd (lift (bin .sub (at_ vs_3 3) (Value.int .i64 1))) fun x30 =>
  ret (.nxt [(at_ vs_3 0), (at_ vs_3 1), (at_ vs_3 2), x30])
def sha_Hash_Sum_k1 (vs_2 : List V) : M Out :=
  bnd (
  bnd (
    bnd (lift (bin .mul (Value.int .i64 8) (at_ vs_2 3))) fun x34 =>
    bnd (lift (bin .shr (at_ vs_2 1) x34)) fun x35 =>
    bnd (lift (cvi .u8 x35)) fun x36 =>
    bnd (bslc 1 1 (rep 1 [Value.int .u8 0]) [(0, 1, x36)]) fun x37 =>
    bnd (appV 1 1 (at_ vs_2 2) x37) fun x38 =>
    ret (.nxt [(at_ vs_2 0), (at_ vs_2 1), x38, (at_ vs_2 3)])
    ) fun o => ret (unblk 1 o)
  ) fun o => nx o sha_Hash_Sum_k0
def sha_Hash_Sum_l2 (vs : List V) : M Out :=
  bnd (
  bnd (lift (bin .geq (at_ vs 3) (Value.int .i64 0))) fun x28 =>
  condM x28 (
    ret (.nxt [(at_ vs 0), (at_ vs 1), (at_ vs 2), (at_ vs 3)])
    ) (
    ret (.brk 0 [(at_ vs 0), (at_ vs 2)])
    )
  ) fun o => nx o sha_Hash_Sum_k1
def sha_Hash_Sum_k3 (vs_7 : List V) : M Out :=
  bnd (lift (nilck (at_ vs_7 0))) fun x56 =>
  bnd (lift (faddr 8 x56)) fun x57 =>
  bnd (ld1 x57) fun x58 =>
  bnd (lift (subV 1 x58 (some (Value.int .i64 64)) none)) fun x59 =>
  bnd (lift (nilck (at_ vs_7 0))) fun x60 =>
  bnd (lift (faddr 8 x60)) fun x61 =>
  bnd (st1 x61 x59) fun _ =>
  ret (.nxt [(at_ vs_7 0)])
def sha_Hash_Sum_k4 (vs_6 : List V) : M Out :=
  bnd (
  bnd (
    bnd (lift (nilck (at_ vs_6 0))) fun x63 =>
    bnd (lift (faddr 0 x63)) fun x64 =>
    bnd (lift (nilck (at_ vs_6 0))) fun x66 =>
    bnd (lift (faddr 8 x66)) fun x67 =>
    bnd (ld1 x67) fun x68 =>
    bnd (lift (subV 1 x68 none (some (Value.int .i64 64)))) fun x69 =>
    bnd (A_sha_state_take [x64, x69]) fun x70 =>
    ret (.nxt [(at_ vs_6 0)])
    ) fun o => ret (unblk 3 o)
  ) fun o => nx o sha_Hash_Sum_k3
def sha_Hash_Sum_l5 (vs_5 : List V) : M Out :=
  bnd (
  bnd (lift (nilck (at_ vs_5 0))) fun x49 =>
  bnd (lift (faddr 8 x49)) fun x50 =>
  bnd (ld1 x50) fun x51 =>
  bnd (lift (lenSlc x51)) fun x52 =>
  bnd (lift (bin .gtr x52 (Value.int .i64 0))) fun x53 =>
  condM x53 (
    ret (.nxt [(at_ vs_5 0)])
    ) (
    ret (.brk 2 [(at_ vs_5 0)])
    )
  ) fun o => nx o sha_Hash_Sum_k4
def sha_Hash_Sum_k6 (vs_11 : List V) : M Out :=
  bnd (lift (bin .add (at_ vs_11 2) (Value.int .i64 1))) fun x92 =>
  ret (.nxt [(at_ vs_11 0), (at_ vs_11 1), x92])
def sha_Hash_Sum_k7 (vs_10 : List V) : M Out :=
  bnd (
  bnd (
    bnd (lift (idxA1 8 (at_ vs_10 1) (at_ vs_10 2))) fun x77 =>
    bnd (lift (bin .shr x77 (Value.int .u64 24))) fun x80 =>
    bnd (lift (cvi .u8 x80)) fun x81 =>
    bnd (lift (bin .shr x77 (Value.int .u64 16))) fun x83 =>
    bnd (lift (cvi .u8 x83)) fun x84 =>
    bnd (lift (bin .shr x77 (Value.int .u64 8))) fun x86 =>
    bnd (lift (cvi .u8 x86)) fun x87 =>
    bnd (lift (cvi .u8 x77)) fun x89 =>
    bnd (bslc 1 4 (rep 4 [Value.int .u8 0]) [(0, 1, x81), (1, 1, x84), (2, 1, x87), (3, 1, x89)]) fun x90 =>
    bnd (appV 1 1 (at_ vs_10 0) x90) fun x91 =>
    ret (.nxt [x91, (at_ vs_10 1), (at_ vs_10 2)])
    ) fun o => ret (unblk 5 o)
  ) fun o => nx o sha_Hash_Sum_k6
def sha_Hash_Sum_l8 (vs_9 : List V) : M Out :=
  bnd (lift (bin .lss (at_ vs_9 2) (Value.int .i64 8))) fun x76 =>
  bnd (
  condM x76 (
    ret (.nxt [(at_ vs_9 0), (at_ vs_9 1), (at_ vs_9 2)])
    ) (
    ret (.brk 4 [(at_ vs_9 0)])
    )
  ) fun o => nx o sha_Hash_Sum_k7
def sha_Hash_Sum_k9 (vs_12 : List V) : M Out :=
  bnd (b2s (at_ vs_12 0)) fun x94 =>
  ret (.ret [x94])
def sha_Hash_Sum_k10 (vs_8 : List V) : M Out :=
  bnd (
    bnd (lift (nilck (at_ vs_8 0))) fun x72 =>
    bnd (lift (faddr 0 x72)) fun x73 =>
    bnd (ldn 8 x73) fun x74 =>
    bnd (
      loopM FUEL sha_Hash_Sum_l8 [(Value.slice none 0 0), x74, (Value.int .i64 0)]
      ) fun o => ret (unblk 4 o)
    ) fun o => nx o sha_Hash_Sum_k9
def sha_Hash_Sum_k11 (vs_4 : List V) : M Out :=
  bnd (lift (nilck (at_ vs_4 0))) fun x41 =>
  bnd (lift (faddr 8 x41)) fun x42 =>
  bnd (ld1 x42) fun x43 =>
  bnd (appV 1 1 x43 (at_ vs_4 1)) fun x45 =>
  bnd (lift (nilck (at_ vs_4 0))) fun x46 =>
  bnd (lift (faddr 8 x46)) fun x47 =>
  bnd (st1 x47 x45) fun _ =>
  bnd (
    bnd (
      loopM FUEL sha_Hash_Sum_l5 [(at_ vs_4 0)]
      ) fun o => ret (unblk 2 o)
    ) fun o => nx o sha_Hash_Sum_k10
def F_sha_Hash_Sum (x0 : V) : M V :=
  bnd (
    bnd (A_sha_Hash_Fork [x0]) fun x11 =>
    bnd (lift (nilck x0)) fun x13 =>
    bnd (lift (faddr 9 x13)) fun x14 =>
    bnd (ld1 x14) fun x15 =>
    bnd (lift (cvi .u64 x15)) fun x16 =>
    bnd (lift (bin .mul x16 (Value.int .u64 8))) fun x17 =>
    bnd (bslc 1 1 (rep 1 [Value.int .u8 0]) [(0, 1, (Value.int .u8 128))]) fun x18 =>
    bnd (lift (nilck x0)) fun x20 =>
    bnd (lift (faddr 9 x20)) fun x21 =>
    bnd (ld1 x21) fun x22 =>
    bnd (lift (bin .rem x22 (Value.int .i64 64))) fun x23 =>
    bnd (lift (bin .sub (Value.int .i64 119) x23)) fun x24 =>
    bnd (lift (bin .rem x24 (Value.int .i64 64))) fun x25 =>
    bnd (appZ 1 1 [Value.int .u8 0] x18 x25) fun x26 =>
    bnd (
      bnd (
        loopM FUEL sha_Hash_Sum_l2 [x11, x17, x26, (Value.int .i64 7)]
        ) fun o => ret (unblk 0 o)
      ) fun o => nx o sha_Hash_Sum_k11
    ) fun o => finM o fun vs => ret (outV [(at_ vs 0)])
def h_sha_Hash_Sum : Hint := (.seq [] .leaf (.seq [] .leaf (.seq [] .leaf (.seq [] .leaf (.seq [3, 5] (.seq [] .leaf (.blk (.loop [3, 4, 5, 6] (.seq [3, 4, 5, 6] (.seq [] .leaf (.cond .leaf .leaf)) (.seq [3, 4, 5, 6] (.blk .leaf) .leaf))))) (.seq [] .leaf (.seq [3] (.blk (.loop [3] (.seq [3] (.seq [] .leaf (.cond .leaf .leaf)) (.seq [3] (.blk (.reg [0, 1, 2, 3, 4, 5, 6, 7, 8] [])) .leaf)))) (.seq [] .leaf (.seq [7] (.seq [] .leaf (.blk (.loop [7, 74, 75] (.seq [] .leaf (.seq [7, 74, 75] (.cond .leaf .leaf) (.seq [7, 74, 75] (.blk (.seq [] .leaf .leaf)) .leaf)))))) (.seq [] .leaf .leaf))))))))))
def A_sha_Hash_Sum (l : List V) : M V := match l with | [x0] => F_sha_Hash_Sum x0 | _ => fail
theorem e_sha_Hash_Sum (x0 : V) : funM Tryd.prog (ovr [(fid_sha_Hash_Fork, A_sha_Hash_Fork), (fid_sha_state_take, A_sha_state_take)] noC) fid_sha_Hash_Sum h_sha_Hash_Sum [x0] = F_sha_Hash_Sum x0 := by kernel_rfl
theorem K_sha_Hash_Sum : Known Tryd.prog fid_sha_Hash_Sum (A_sha_Hash_Sum) := known_of (σ := ovr [(fid_sha_Hash_Fork, A_sha_Hash_Fork), (fid_sha_state_take, A_sha_state_take)] noC) (hint := h_sha_Hash_Sum) (by kernel_rfl) (simAll_ovr K_sha_Hash_Fork (simAll_ovr K_sha_state_take simAll_nil0)) fun l H r H' h => by
  unfold A_sha_Hash_Sum at h; split at h
  · rw [e_sha_Hash_Sum]; exact h
  · exact (fail_ne h).elim

/-! ### capstan/sha.Sum -/
def F_sha_Sum (x0 : V) : M V :=
  bnd (
    bnd (A_sha_New []) fun x4 =>
    bnd (A_sha_Hash_Write [x4, x0]) fun x7 =>
    bnd (A_sha_Hash_Sum [x4]) fun x9 =>
    ret (.ret [x9])
    ) fun o => finM o fun vs => ret (outV [(at_ vs 0)])
def h_sha_Sum : Hint := (.seq [] .leaf (.seq [] .leaf (.seq [] .leaf (.seq [] .leaf .leaf))))
def A_sha_Sum (l : List V) : M V := match l with | [x0] => F_sha_Sum x0 | _ => fail
theorem e_sha_Sum (x0 : V) : funM Tryd.prog (ovr [(fid_sha_New, A_sha_New), (fid_sha_Hash_Write, A_sha_Hash_Write), (fid_sha_Hash_Sum, A_sha_Hash_Sum)] noC) fid_sha_Sum h_sha_Sum [x0] = F_sha_Sum x0 := by kernel_rfl
theorem K_sha_Sum : Known Tryd.prog fid_sha_Sum (A_sha_Sum) := known_of (σ := ovr [(fid_sha_New, A_sha_New), (fid_sha_Hash_Write, A_sha_Hash_Write), (fid_sha_Hash_Sum, A_sha_Hash_Sum)] noC) (hint := h_sha_Sum) (by kernel_rfl) (simAll_ovr K_sha_New (simAll_ovr K_sha_Hash_Write (simAll_ovr K_sha_Hash_Sum simAll_nil0))) fun l H r H' h => by
  unfold A_sha_Sum at h; split at h
  · rw [e_sha_Sum]; exact h
  · exact (fail_ne h).elim

/-! ### capstan/capstanref01.padded -/
def ref01_padded_k0 (vs_2 : List V) : M Out :=
  bnd (
  bnd (bslc 1 1 (rep 1 [Value.int .u8 0]) [(0, 1, (Value.int .u8 0))]) fun x16 =>
  bnd (appV 1 1 (at_ vs_2 1) x16) fun x17 =>
  ret (.nxt [(at_ vs_2 0), x17])
  ) fun o => ret (unblk 1 o)
def ref01_padded_l1 (vs : List V) : M Out :=
  bnd (
  bnd (lift (lenSlc (at_ vs 1))) fun x12 =>
  bnd (lift (bin .rem x12 (Value.int .i64 64))) fun x13 =>
  bnd (lift (bin .neq x13 (Value.int .i64 56))) fun x14 =>
  condM x14 (
    ret (.nxt [(at_ vs 0), (at_ vs 1)])
    ) (
    ret (.brk 0 [(at_ vs 0), (at_ vs 1)])
    )
  ) fun o => nx o ref01_padded_k0
def ref01_padded_k2 (vs_6 : List V) : M Out :=
  bnd (lift (bin .sub (at_ vs_6 2) (Value.int .i64 1))) fun x25 =>
  ret (.nxt [(at_ vs_6 0), (at_ vs_6 1), x25])
def ref01_padded_k3 (vs_5 : List V) : M Out :=
  bnd (
  bnd (
    bnd (lift (bin .mul (Value.int .i64 8) (at_ vs_5 2))) fun x29 =>
    bnd (lift (bin .shr (at_ vs_5 1) x29)) fun x30 =>
    bnd (lift (cvi .u8 x30)) fun x31 =>
    bnd (bslc 1 1 (rep 1 [Value.int .u8 0]) [(0, 1, x31)]) fun x32 =>
    bnd (appV 1 1 (at_ vs_5 0) x32) fun x33 =>
    ret (.nxt [x33, (at_ vs_5 1), (at_ vs_5 2)])
    ) fun o => ret (unblk 3 o)
  ) fun o => nx o ref01_padded_k2
def ref01_padded_l4 (vs_4 : List V) : M Out :=
  bnd (
  bnd (lift (bin .geq (at_ vs_4 2) (Value.int .i64 0))) fun x23 =>
  condM x23 (
    ret (.nxt [(at_ vs_4 0), (at_ vs_4 1), (at_ vs_4 2)])
    ) (
    ret (.brk 2 [(at_ vs_4 0)])
    )
  ) fun o => nx o ref01_padded_k3
def ref01_padded_k5 (vs_7 : List V) : M Out :=
  ret (.ret [(at_ vs_7 0)])
def ref01_padded_k6 (vs_3 : List V) : M Out :=
  bnd (lift (lenStr (at_ vs_3 0))) fun x19 =>
  bnd (lift (cvi .u64 x19)) fun x20 =>
  bnd (lift (bin .mul x20 (Value.int .u64 8))) fun x21 =>
  bnd (
    bnd (
      loopM FUEL ref01_padded_l4 [(at_ vs_3 1), x21, (Value.int .i64 7)]
      ) fun o => ret (unblk 2 o)
    ) fun o => nx o ref01_padded_k5
def F_ref01_padded (x0 : V) : M V :=
  bnd (
    bnd (s2b x0) fun x7 =>
    bnd (bslc 1 1 (rep 1 [Value.int .u8 0]) [(0, 1, (Value.int .u8 128))]) fun x9 =>
    bnd (appV 1 1 x7 x9) fun x10 =>
    bnd (
      bnd (
        loopM FUEL ref01_padded_l1 [x0, x10]
        ) fun o => ret (unblk 0 o)
      ) fun o => nx o ref01_padded_k6
    ) fun o => finM o fun vs => ret (outV [(at_ vs 0)])
def h_ref01_padded : Hint := (.seq [] .leaf (.seq [] .leaf (.seq [] .leaf (.seq [0, 3] (.blk (.loop [0, 3] (.seq [0, 3] (.seq [] .leaf (.cond .leaf .leaf)) (.blk .leaf)))) (.seq [] .leaf (.seq [3] (.seq [] .leaf (.blk (.loop [3, 4, 5] (.seq [3, 4, 5] (.seq [] .leaf (.cond .leaf .leaf)) (.seq [3, 4, 5] (.blk .leaf) .leaf))))) (.seq [] .leaf .leaf)))))))
def A_ref01_padded (l : List V) : M V := match l with | [x0] => F_ref01_padded x0 | _ => fail
theorem e_ref01_padded (x0 : V) : funM Tryd.prog (ovr [] noC) fid_ref01_padded h_ref01_padded [x0] = F_ref01_padded x0 := by kernel_rfl
theorem K_ref01_padded : Known Tryd.prog fid_ref01_padded (A_ref01_padded) := known_of (σ := ovr [] noC) (hint := h_ref01_padded) (by kernel_rfl) simAll_nil0 fun l H r H' h => by
  unfold A_ref01_padded at h; split at h
  · rw [e_ref01_padded]; exact h
  · exact (fail_ne h).elim

/-! ### capstan/capstanref01.rotr -/
def F_ref01_rotr (x0 x1 : V) : M V :=
  bnd (
    bnd (lift (bin .shr x0 x1)) fun x7 =>
    bnd (lift (bin .sub (Value.int .i64 32) x1)) fun x10 =>
    bnd (lift (bin .shl x0 x10)) fun x11 =>
    bnd (lift (bin .or x7 x11)) fun x12 =>
    ret (.ret [x12])
    ) fun o => finM o fun vs => ret (outV [(at_ vs 0)])
def h_ref01_rotr : Hint := (.seq [] .leaf (.seq [] (.reg [0, 1, 2, 3, 4, 5, 6, 7, 8] []) .leaf))
def A_ref01_rotr (l : List V) : M V := match l with | [x0, x1] => F_ref01_rotr x0 x1 | _ => fail
theorem e_ref01_rotr (x0 x1 : V) : funM Tryd.prog (ovr [] noC) fid_ref01_rotr h_ref01_rotr [x0, x1] = F_ref01_rotr x0 x1 := by kernel_rfl
theorem K_ref01_rotr : Known Tryd.prog fid_ref01_rotr (A_ref01_rotr) := known_of (σ := ovr [] noC) (hint := h_ref01_rotr) (by kernel_rfl) simAll_nil0 fun l H r H' h => by
  unfold A_ref01_rotr at h; split at h
  · rw [e_ref01_rotr]; exact h
  · exact (fail_ne h).elim

/-! ### capstan/capstanref01.words -/
def ref01_words_k0 (vs_3 : List V) : M Out :=
    bnd (lift (bin .sub (at_ vs_3 2) (Value.int .i64 15))) fun x53 =>
    bnd (lift (iaddrS 1 (at_ vs_3 1) x53)) fun x54 =>
    bnd (lift (bin .sub (at_ vs_3 2) (Value.int .i64 2))) fun x58 =>
    bnd (lift (iaddrS 1 (at_ vs_3 1) x58)) fun x59 =>
    bnd (ld1 x54) fun x55 =>
    bnd (ld1 x59) fun x60 =>
    bnd (A_ref01_rotr [x55, (Value.int .i64 7)]) fun x62 =>
    bnd (A_ref01_rotr [x55, (Value.int .i64 18)]) fun x64 =>
    bnd (lift (bin .xor x62 x64)) fun x65 =>
    bnd (lift (bin .shr x55 (Value.int .u64 3))) fun x67 =>
    bnd (lift (bin .xor x65 x67)) fun x68 =>
    bnd (A_ref01_rotr [x60, (Value.int .i64 17)]) fun x70 =>
    bnd (A_ref01_rotr [x60, (Value.int .i64 19)]) fun x72 =>
    bnd (lift (bin .xor x70 x72)) fun x73 =>
    bnd (lift (bin .shr x60 (Value.int .u64 10))) fun x75 =>
    bnd (lift (bin .xor x73 x75)) fun x76 =>
    bnd (lift (bin .sub (at_ vs_3 2) (Value.int .i64 7))) fun x81 =>
    bnd (lift (iaddrS 1 (at_ vs_3 1) x81)) fun x82 =>
    bnd (lift (bin .sub (at_ vs_3 2) (Value.int .i64 16))) fun x89 =>
    bnd (lift (iaddrS 1 (at_ vs_3 1) x89)) fun x90 =>
    bnd (ld1 x82) fun x83 =>
    bnd (lift (bin .add x76 x83)) fun x84 =>
    bnd (lift (bin .add x84 x68)) fun x86 =>
    bnd (ld1 x90) fun x91 =>
    bnd (lift (bin .add x86 x91)) fun x92 =>
    bnd (bslc 1 1 (rep 1 [Value.int .u32 0]) [(0, 1, x92)]) fun x93 =>
    bnd (appV 1 4 (at_ vs_3 1) x93) fun x94 =>
    ret (.nxt [(at_ vs_3 0), x94, (at_ vs_3 2)])
def ref01_words_k1 (vs_4 : List V) : M Out :=
  bnd (lift (bin .add (at_ vs_4 2) (Value.int .i64 1))) fun x12 =>
  ret (.nxt [(at_ vs_4 0), (at_ vs_4 1), x12])
def ref01_words_k2 (vs_2 : List V) : M Out :=
  bnd (
  bnd (
    bnd (
      bnd (lift (bin .lss (at_ vs_2 2) (Value.int .i64 16))) fun x14 =>
      condM x14 (
        bnd (lift (bin .mul (Value.int .i64 4) (at_ vs_2 2))) fun x18 =>
        bnd (lift (iaddrS 1 (at_ vs_2 0) x18)) fun x19 =>
        bnd (lift (bin .mul (Value.int .i64 4) (at_ vs_2 2))) fun x25 =>
        bnd (lift (bin .add x25 (Value.int .i64 1))) fun x26 =>
        bnd (lift (iaddrS 1 (at_ vs_2 0) x26)) fun x27 =>
        bnd (lift (bin .mul (Value.int .i64 4) (at_ vs_2 2))) fun x34 =>
        bnd (lift (bin .add x34 (Value.int .i64 2))) fun x35 =>
        bnd (lift (iaddrS 1 (at_ vs_2 0) x35)) fun x36 =>
        bnd (lift (bin .mul (Value.int .i64 4) (at_ vs_2 2))) fun x43 =>
        bnd (lift (bin .add x43 (Value.int .i64 3))) fun x44 =>
        bnd (lift (iaddrS 1 (at_ vs_2 0) x44)) fun x45 =>
        bnd (ld1 x19) fun x20 =>
        bnd (lift (cvi .u32 x20)) fun x21 =>
        bnd (lift (bin .shl x21 (Value.int .u64 24))) fun x22 =>
        bnd (ld1 x27) fun x28 =>
        bnd (lift (cvi .u32 x28)) fun x29 =>
        bnd (lift (bin .shl x29 (Value.int .u64 16))) fun x30 =>
        bnd (lift (bin .add x22 x30)) fun x31 =>
        bnd (ld1 x36) fun x37 =>
        bnd (lift (cvi .u32 x37)) fun x38 =>
        bnd (lift (bin .shl x38 (Value.int .u64 8))) fun x39 =>
        bnd (lift (bin .add x31 x39)) fun x40 =>
        bnd (ld1 x45) fun x46 =>
        bnd (lift (cvi .u32 x46)) fun x47 =>
        bnd (lift (bin .add x40 x47)) fun x48 =>
        bnd (bslc 1 1 (rep 1 [Value.int .u32 0]) [(0, 1, x48)]) fun x49 =>
        bnd (appV 1 4 (at_ vs_2 1) x49) fun x50 =>
        ret (.brk 1 [(at_ vs_2 0), x50, (at_ vs_2 2)])
        ) (
        ret (.nxt [(at_ vs_2 0), (at_ vs_2 1), (at_ vs_2 2)])
        )
      ) fun o => nx o ref01_words_k0
    ) fun o => ret (unblk 1 o)
  ) fun o => nx o ref01_words_k1
def ref01_words_l3 (vs : List V) : M Out :=
  bnd (
  bnd (lift (bin .lss (at_ vs 2) (Value.int .i64 64))) fun x10 =>
  condM x10 (
    ret (.nxt [(at_ vs 0), (at_ vs 1), (at_ vs 2)])
    ) (
    ret (.brk 0 [(at_ vs 1)])
    )
  ) fun o => nx o ref01_words_k2
def ref01_words_k4 (vs_5 : List V) : M Out :=
  ret (.ret [(at_ vs_5 0)])
def F_ref01_words (x0 : V) : M V :=
  bnd (
    bnd (
      bnd (
        loopM FUEL ref01_words_l3 [x0, (Value.slice none 0 0), (Value.int .i64 0)]
        ) fun o => ret (unblk 0 o)
      ) fun o => nx o ref01_words_k4
    ) fun o => finM o fun vs => ret (outV [(at_ vs 0)])
def h_ref01_words : Hint := (.seq [] .leaf (.seq [] .leaf (.seq [3] (.seq [] .leaf (.blk (.loop [0, 3, 4] (.seq [0, 3, 4] (.seq [] .leaf (.cond .leaf .leaf)) (.seq [0, 3, 4] (.blk (.seq [0, 3, 4] (.seq [] .leaf (.cond (.seq [] (.reg [0, 1, 2, 3, 4, 8, 9, 10, 11, 12, 17, 18, 19, 20, 21, 26, 27, 28, 29, 30, 5, 6, 7, 13, 14, 15, 16, 22, 23, 24, 25, 31, 32, 33, 34, 35, 36] []) .leaf) .leaf)) (.seq [] (.reg [0, 1, 2, 3, 5, 6, 7, 8, 4, 10, 9, 11] []) (.seq [] .leaf (.seq [] .leaf (.reg [0, 1, 2, 3, 4, 5, 8, 10, 11, 12, 13, 6, 7, 9, 14, 15, 16, 17, 18] [])))))) .leaf))))) (.seq [] .leaf .leaf))))
def A_ref01_words (l : List V) : M V := match l with | [x0] => F_ref01_words x0 | _ => fail
theorem e_ref01_words (x0 : V) : funM Tryd.prog (ovr [(fid_ref01_rotr, A_ref01_rotr)] noC) fid_ref01_words h_ref01_words [x0] = F_ref01_words x0 := by kernel_rfl
theorem K_ref01_words : Known Tryd.prog fid_ref01_words (A_ref01_words) := known_of (σ := ovr [(fid_ref01_rotr, A_ref01_rotr)] noC) (hint := h_ref01_words) (by kernel_rfl) (simAll_ovr K_ref01_rotr simAll_nil0) fun l H r H' h => by
  unfold A_ref01_words at h; split at h
  · rw [e_ref01_words]; exact h
  · exact (fail_ne h).elim

/-! ### capstan/capstanref01.constants -/
def F_ref01_constants : M V :=
  bnd (
    bnd (bslc 1 64 (rep 64 [Value.int .u32 0]) [(0, 1, (Value.int .u32 1116352408)), (1, 1, (Value.int .u32 1899447441)), (2, 1, (Value.int .u32 3049323471)), (3, 1, (Value.int .u32 3921009573)), (4, 1, (Value.int .u32 961987163)), (5, 1, (Value.int .u32 1508970993)), (6, 1, (Value.int .u32 2453635748)), (7, 1, (Value.int .u32 2870763221)), (8, 1, (Value.int .u32 3624381080)), (9, 1, (Value.int .u32 310598401)), (10, 1, (Value.int .u32 607225278)), (11, 1, (Value.int .u32 1426881987)), (12, 1, (Value.int .u32 1925078388)), (13, 1, (Value.int .u32 2162078206)), (14, 1, (Value.int .u32 2614888103)), (15, 1, (Value.int .u32 3248222580)), (16, 1, (Value.int .u32 3835390401)), (17, 1, (Value.int .u32 4022224774)), (18, 1, (Value.int .u32 264347078)), (19, 1, (Value.int .u32 604807628)), (20, 1, (Value.int .u32 770255983)), (21, 1, (Value.int .u32 1249150122)), (22, 1, (Value.int .u32 1555081692)), (23, 1, (Value.int .u32 1996064986)), (24, 1, (Value.int .u32 2554220882)), (25, 1, (Value.int .u32 2821834349)), (26, 1, (Value.int .u32 2952996808)), (27, 1, (Value.int .u32 3210313671)), (28, 1, (Value.int .u32 3336571891)), (29, 1, (Value.int .u32 3584528711)), (30, 1, (Value.int .u32 113926993)), (31, 1, (Value.int .u32 338241895)), (32, 1, (Value.int .u32 666307205)), (33, 1, (Value.int .u32 773529912)), (34, 1, (Value.int .u32 1294757372)), (35, 1, (Value.int .u32 1396182291)), (36, 1, (Value.int .u32 1695183700)), (37, 1, (Value.int .u32 1986661051)), (38, 1, (Value.int .u32 2177026350)), (39, 1, (Value.int .u32 2456956037)), (40, 1, (Value.int .u32 2730485921)), (41, 1, (Value.int .u32 2820302411)), (42, 1, (Value.int .u32 3259730800)), (43, 1, (Value.int .u32 3345764771)), (44, 1, (Value.int .u32 3516065817)), (45, 1, (Value.int .u32 3600352804)), (46, 1, (Value.int .u32 4094571909)), (47, 1, (Value.int .u32 275423344)), (48, 1, (Value.int .u32 430227734)), (49, 1, (Value.int .u32 506948616)), (50, 1, (Value.int .u32 659060556)), (51, 1, (Value.int .u32 883997877)), (52, 1, (Value.int .u32 958139571)), (53, 1, (Value.int .u32 1322822218)), (54, 1, (Value.int .u32 1537002063)), (55, 1, (Value.int .u32 1747873779)), (56, 1, (Value.int .u32 1955562222)), (57, 1, (Value.int .u32 2024104815)), (58, 1, (Value.int .u32 2227730452)), (59, 1, (Value.int .u32 2361852424)), (60, 1, (Value.int .u32 2428436474)), (61, 1, (Value.int .u32 2756734187)), (62, 1, (Value.int .u32 3204031479)), (63, 1, (Value.int .u32 3329325298))]) fun x1 =>
    ret (.ret [x1])
    ) fun o => finM o fun vs => ret (outV [(at_ vs 0)])
def h_ref01_constants : Hint := (.seq [] .leaf (.seq [] .leaf .leaf))
def A_ref01_constants (l : List V) : M V := match l with | [] => F_ref01_constants  | _ => fail
theorem e_ref01_constants : funM Tryd.prog (ovr [] noC) fid_ref01_constants h_ref01_constants [] = F_ref01_constants  := by kernel_rfl
theorem K_ref01_constants : Known Tryd.prog fid_ref01_constants (A_ref01_constants) := known_of (σ := ovr [] noC) (hint := h_ref01_constants) (by kernel_rfl) simAll_nil0 fun l H r H' h => by
  unfold A_ref01_constants at h; split at h
  · rw [e_ref01_constants]; exact h
  · exact (fail_ne h).elim

/-! ### capstan/capstanref01.take -/
def ref01_take_k0 (vs_3 : List V) : M Out :=
  bnd (lift (bin .add (at_ vs_3 11) (Value.int .i64 1))) fun x48 =>
  ret (.nxt [(at_ vs_3 0), (at_ vs_3 1), (at_ vs_3 2), (at_ vs_3 3), (at_ vs_3 4), (at_ vs_3 5), (at_ vs_3 6), (at_ vs_3 7), (at_ vs_3 8), (at_ vs_3 9), (at_ vs_3 10), x48])
def ref01_take_k1 (vs_2 : List V) : M Out :=
  bnd (
  bnd (
    withH fun h0 =>
    bnd (lift (bin .and (at_ vs_2 7) (at_ vs_2 8))) fun x61 =>
    bnd (lift (un .xor (at_ vs_2 7))) fun x63 =>
    bnd (lift (bin .and x63 (at_ vs_2 9))) fun x65 =>
    bnd (lift (bin .xor x61 x65)) fun x66 =>
    bnd (lift (iaddrS 1 (at_ vs_2 2) (at_ vs_2 11))) fun x70 =>
    bnd (lift (iaddrS 1 (at_ vs_2 1) (at_ vs_2 11))) fun x75 =>
    bnd (ld1 x70) fun x71 =>
    bnd (ld1 x75) fun x76 =>
    bndH (A_ref01_rotr [(at_ vs_2 7), (Value.int .i64 6)]) fun ha x51 h1 =>
    bndH (A_ref01_rotr [(at_ vs_2 7), (Value.int .i64 11)]) fun ha_2 x53 h2 =>
    bnd (lift (bin .xor x51 x53)) fun x54 =>
    bndH (A_ref01_rotr [(at_ vs_2 7), (Value.int .i64 25)]) fun ha_3 x56 h3 =>
    bnd (lift (bin .xor x54 x56)) fun x57 =>
    bnd (lift (bin .add (at_ vs_2 10) x57)) fun x58 =>
    bnd (lift (bin .add x58 x66)) fun x67 =>
    bnd (lift (bin .add x67 x71)) fun x72 =>
    bnd (lift (bin .add x72 x76)) fun x77 =>
    need (chk (ld1 x70) h1 x71) <|
    need (chk (ld1 x70) h2 x71) <|
    need (chk (ld1 x70) h3 x71) <|
    need (chk (ld1 x75) h1 x76) <|
    need (chk (ld1 x75) h2 x76) <|
    need (chk (ld1 x75) h3 x76) <|
    bnd (A_ref01_rotr [(at_ vs_2 3), (Value.int .i64 2)]) fun x79 =>
    bnd (A_ref01_rotr [(at_ vs_2 3), (Value.int .i64 13)]) fun x81 =>
    bnd (lift (bin .xor x79 x81)) fun x82 =>
    bnd (A_ref01_rotr [(at_ vs_2 3), (Value.int .i64 22)]) fun x84 =>
    bnd (lift (bin .xor x82 x84)) fun x85 =>
    bnd (lift (bin .and (at_ vs_2 3) (at_ vs_2 4))) fun x88 =>
    bnd (lift (bin .and (at_ vs_2 3) (at_ vs_2 5))) fun x91 =>
    bnd (lift (bin .xor x88 x91)) fun x92 =>
    bnd (lift (bin .and (at_ vs_2 4) (at_ vs_2 5))) fun x95 =>
    bnd (lift (bin .xor x92 x95)) fun x96 =>
    bnd (lift (bin .add x85 x96)) fun x97 =>
    bnd (lift (bin .add (at_ vs_2 6) x77)) fun x103 =>
    bnd (lift (bin .add x77 x97)) fun x109 =>
    ret (.nxt [(at_ vs_2 0), (at_ vs_2 1), (at_ vs_2 2), x109, (at_ vs_2 3), (at_ vs_2 4), (at_ vs_2 5), x103, (at_ vs_2 7), (at_ vs_2 8), (at_ vs_2 9), (at_ vs_2 11)])
    ) fun o => ret (unblk 1 o)
  ) fun o => nx o ref01_take_k0
def ref01_take_l2 (vs : List V) : M Out :=
  bnd (
  bnd (lift (bin .lss (at_ vs 11) (Value.int .i64 64))) fun x46 =>
  condM x46 (
    ret (.nxt [(at_ vs 0), (at_ vs 1), (at_ vs 2), (at_ vs 3), (at_ vs 4), (at_ vs 5), (at_ vs 6), (at_ vs 7), (at_ vs 8), (at_ vs 9), (at_ vs 10), (at_ vs 11)])
    ) (
    ret (.brk 0 [(at_ vs 0), (at_ vs 3), (at_ vs 4), (at_ vs 5), (at_ vs 6), (at_ vs 7), (at_ vs 8), (at_ vs 9), (at_ vs 10)])
    )
  ) fun o => nx o ref01_take_k1
def ref01_take_k3 (vs_4 : List V) : M Out :=
  bnd (lift (iaddrS 1 (at_ vs_4 0) (Value.int .i64 0))) fun x111 =>
  bnd (lift (iaddrS 1 (at_ vs_4 0) (Value.int .i64 1))) fun x116 =>
  bnd (lift (iaddrS 1 (at_ vs_4 0) (Value.int .i64 2))) fun x121 =>
  bnd (lift (iaddrS 1 (at_ vs_4 0) (Value.int .i64 3))) fun x126 =>
  bnd (lift (iaddrS 1 (at_ vs_4 0) (Value.int .i64 4))) fun x131 =>
  bnd (lift (iaddrS 1 (at_ vs_4 0) (Value.int .i64 5))) fun x136 =>
  bnd (lift (iaddrS 1 (at_ vs_4 0) (Value.int .i64 6))) fun x141 =>
  bnd (lift (iaddrS 1 (at_ vs_4 0) (Value.int .i64 7))) fun x146 =>
  bnd (ld1 x111) fun x112 =>
  bnd (lift (bin .add x112 (at_ vs_4 1))) fun x114 =>
  bnd (ld1 x116) fun x117 =>
  bnd (lift (bin .add x117 (at_ vs_4 2))) fun x119 =>
  bnd (ld1 x121) fun x122 =>
  bnd (lift (bin .add x122 (at_ vs_4 3))) fun x124 =>
  bnd (ld1 x126) fun x127 =>
  bnd (lift (bin .add x127 (at_ vs_4 4))) fun x129 =>
  bnd (ld1 x131) fun x132 =>
  bnd (lift (bin .add x132 (at_ vs_4 5))) fun x134 =>
  bnd (ld1 x136) fun x137 =>
  bnd (lift (bin .add x137 (at_ vs_4 6))) fun x139 =>
  bnd (ld1 x141) fun x142 =>
  bnd (lift (bin .add x142 (at_ vs_4 7))) fun x144 =>
  bnd (ld1 x146) fun x147 =>
  bnd (lift (bin .add x147 (at_ vs_4 8))) fun x149 =>
  bnd (bslc 1 8 (rep 8 [Value.int .u32 0]) [(0, 1, x114), (1, 1, x119), (2, 1, x124), (3, 1, x129), (4, 1, x134), (5, 1, x139), (6, 1, x144), (7, 1, x149)]) fun x150 =>
  ret (.ret [x150])
def F_ref01_take (x0 x1 : V) : M V :=
  bnd (
    bnd (A_ref01_words [x1]) fun x19 =>
    bnd (A_ref01_constants []) fun x20 =>
    bnd (lift (iaddrS 1 x0 (Value.int .i64 0))) fun x22 =>
    bnd (lift (iaddrS 1 x0 (Value.int .i64 1))) fun x25 =>
    bnd (lift (iaddrS 1 x0 (Value.int .i64 2))) fun x28 =>
    bnd (lift (iaddrS 1 x0 (Value.int .i64 3))) fun x31 =>
    bnd (ld1 x22) fun x23 =>
    bnd (ld1 x25) fun x26 =>
    bnd (ld1 x28) fun x29 =>
    bnd (ld1 x31) fun x32 =>
    bnd (lift (iaddrS 1 x0 (Value.int .i64 4))) fun x34 =>
    bnd (lift (iaddrS 1 x0 (Value.int .i64 5))) fun x37 =>
    bnd (lift (iaddrS 1 x0 (Value.int .i64 6))) fun x40 =>
    bnd (lift (iaddrS 1 x0 (Value.int .i64 7))) fun x43 =>
    bnd (ld1 x34) fun x35 =>
    bnd (ld1 x37) fun x38 =>
    bnd (ld1 x40) fun x41 =>
    bnd (ld1 x43) fun x44 =>
    bnd (
      bnd (
        loopM FUEL ref01_take_l2 [x0, x19, x20, x23, x26, x29, x32, x35, x38, x41, x44, (Value.int .i64 0)]
        ) fun o => ret (unblk 0 o)
      ) fun o => nx o ref01_take_k3
    ) fun o => finM o fun vs => ret (outV [(at_ vs 0)])
def h_ref01_take : Hint := (.seq [] .leaf (.seq [] .leaf (.seq [] (.reg [0, 1, 3, 4, 6, 7, 9, 10, 2, 12, 5, 13, 8, 14, 11, 15] []) (.seq [] (.reg [0, 1, 3, 4, 6, 7, 9, 10, 2, 12, 5, 13, 8, 14, 11, 15] []) (.seq [0, 7, 8, 9, 10, 11, 12, 13, 14] (.seq [] .leaf (.blk (.loop [0, 5, 6, 7, 8, 9, 10, 11, 12, 13, 14, 15] (.seq [0, 5, 6, 7, 8, 9, 10, 11, 12, 13, 14, 15] (.seq [] .leaf (.cond .leaf .leaf)) (.seq [0, 5, 6, 7, 8, 9, 10, 11, 12, 13, 14, 15] (.blk (.seq [] (.reg [0, 1, 3, 6, 10, 11, 12, 13, 14, 15, 16, 17, 19, 20, 21, 24, 25, 26, 22, 27, 2, 4, 5, 7, 8, 9, 18, 23, 28, 29] []) (.seq [] .leaf (.seq [] .leaf (.seq [] .leaf (.seq [] .leaf (.seq [] .leaf (.seq [] .leaf (.seq [] .leaf (.seq [] .leaf .leaf)))))))))) .leaf))))) (.seq [] (.reg [0, 1, 3, 5, 6, 8, 10, 11, 13, 15, 16, 18, 20, 21, 23, 25, 26, 28, 30, 31, 33, 35, 36, 38, 2, 4, 7, 9, 12, 14, 17, 19, 22, 24, 27, 29, 32, 34, 37, 39, 40, 41] []) .leaf))))))
def A_ref01_take (l : List V) : M V := match l with | [x0, x1] => F_ref01_take x0 x1 | _ => fail
theorem e_ref01_take (x0 x1 : V) : funM Tryd.prog (ovr [(fid_ref01_words, A_ref01_words), (fid_ref01_constants, A_ref01_constants), (fid_ref01_rotr, A_ref01_rotr)] noC) fid_ref01_take h_ref01_take [x0, x1] = F_ref01_take x0 x1 := by kernel_rfl
theorem K_ref01_take : Known Tryd.prog fid_ref01_take (A_ref01_take) := known_of (σ := ovr [(fid_ref01_words, A_ref01_words), (fid_ref01_constants, A_ref01_constants), (fid_ref01_rotr, A_ref01_rotr)] noC) (hint := h_ref01_take) (by kernel_rfl) (simAll_ovr K_ref01_words (simAll_ovr K_ref01_constants (simAll_ovr K_ref01_rotr simAll_nil0))) fun l H r H' h => by
  unfold A_ref01_take at h; split at h
  · rw [e_ref01_take]; exact h
  · exact (fail_ne h).elim

/-! ### capstan/capstanref01.Sum -/
def ref01_Sum_k0 (vs_3 : List V) : M Out :=
  bnd (lift (bin .add (at_ vs_3 2) (Value.int .i64 64))) fun x16 =>
  ret (.nxt [(at_ vs_3 0), (at_ vs_3 1), x16])
def ref01_Sum_k1 (vs_2 : List V) : M Out :=
  bnd (
  bnd (
    bnd (lift (bin .add (at_ vs_2 2) (Value.int .i64 64))) fun x21 =>
    bnd (lift (subV 1 (at_ vs_2 1) (some (at_ vs_2 2)) (some x21))) fun x22 =>
    bnd (A_ref01_take [(at_ vs_2 0), x22]) fun x23 =>
    ret (.nxt [x23, (at_ vs_2 1), (at_ vs_2 2)])
    ) fun o => ret (unblk 1 o)
  ) fun o => nx o ref01_Sum_k0
def ref01_Sum_l2 (vs : List V) : M Out :=
  bnd (
  bnd (lift (lenSlc (at_ vs 1))) fun x13 =>
  bnd (lift (bin .lss (at_ vs 2) x13)) fun x14 =>
  condM x14 (
    ret (.nxt [(at_ vs 0), (at_ vs 1), (at_ vs 2)])
    ) (
    ret (.brk 0 [(at_ vs 0)])
    )
  ) fun o => nx o ref01_Sum_k1
def ref01_Sum_k3 (vs_7 : List V) : M Out :=
  bnd (lift (bin .add (at_ vs_7 2) (Value.int .i64 1))) fun x27 =>
  ret (.nxt [(at_ vs_7 0), (at_ vs_7 1), x27])
def ref01_Sum_k4 (vs_6 : List V) : M Out :=
  bnd (
  bnd (
    bnd (lift (iaddrS 1 (at_ vs_6 0) (at_ vs_6 2))) fun x31 =>
    bnd (lift (iaddrS 1 (at_ vs_6 0) (at_ vs_6 2))) fun x37 =>
    bnd (lift (iaddrS 1 (at_ vs_6 0) (at_ vs_6 2))) fun x43 =>
    bnd (lift (iaddrS 1 (at_ vs_6 0) (at_ vs_6 2))) fun x49 =>
    bnd (ld1 x31) fun x32 =>
    bnd (lift (bin .shr x32 (Value.int .u64 24))) fun x33 =>
    bnd (lift (cvi .u8 x33)) fun x34 =>
    bnd (ld1 x37) fun x38 =>
    bnd (lift (bin .shr x38 (Value.int .u64 16))) fun x39 =>
    bnd (lift (cvi .u8 x39)) fun x40 =>
    bnd (ld1 x43) fun x44 =>
    bnd (lift (bin .shr x44 (Value.int .u64 8))) fun x45 =>
    bnd (lift (cvi .u8 x45)) fun x46 =>
    bnd (ld1 x49) fun x50 =>
    bnd (lift (cvi .u8 x50)) fun x51 =>
    bnd (bslc 1 4 (rep 4 [Value.int .u8 0]) [(0, 1, x34), (1, 1, x40), (2, 1, x46), (3, 1, x51)]) fun x52 =>
    bnd (appV 1 1 (at_ vs_6 1) x52) fun x53 =>
    ret (.nxt [(at_ vs_6 0), x53, (at_ vs_6 2)])
    ) fun o => ret (unblk 3 o)
  ) fun o => nx o ref01_Sum_k3
def ref01_Sum_l5 (vs_5 : List V) : M Out :=
  bnd (
  bnd (lift (bin .lss (at_ vs_5 2) (Value.int .i64 8))) fun x25 =>
  condM x25 (
    ret (.nxt [(at_ vs_5 0), (at_ vs_5 1), (at_ vs_5 2)])
    ) (
    ret (.brk 2 [(at_ vs_5 1)])
    )
  ) fun o => nx o ref01_Sum_k4
def ref01_Sum_k6 (vs_8 : List V) : M Out :=
  bnd (b2s (at_ vs_8 0)) fun x55 =>
  ret (.ret [x55])
def ref01_Sum_k7 (vs_4 : List V) : M Out :=
  bnd (
    bnd (
      loopM FUEL ref01_Sum_l5 [(at_ vs_4 0), (Value.slice none 0 0), (Value.int .i64 0)]
      ) fun o => ret (unblk 2 o)
    ) fun o => nx o ref01_Sum_k6
def F_ref01_Sum (x0 : V) : M V :=
  bnd (
    bnd (bslc 1 8 (rep 8 [Value.int .u32 0]) [(0, 1, (Value.int .u32 1779033703)), (1, 1, (Value.int .u32 3144134277)), (2, 1, (Value.int .u32 1013904242)), (3, 1, (Value.int .u32 2773480762)), (4, 1, (Value.int .u32 1359893119)), (5, 1, (Value.int .u32 2600822924)), (6, 1, (Value.int .u32 528734635)), (7, 1, (Value.int .u32 1541459225))]) fun x8 =>
    bnd (A_ref01_padded [x0]) fun x10 =>
    bnd (
      bnd (
        loopM FUEL ref01_Sum_l2 [x8, x10, (Value.int .i64 0)]
        ) fun o => ret (unblk 0 o)
      ) fun o => nx o ref01_Sum_k7
    ) fun o => finM o fun vs => ret (outV [(at_ vs 0)])
def h_ref01_Sum : Hint := (.seq [] .leaf (.seq [] .leaf (.seq [] .leaf (.seq [3] (.seq [] .leaf (.blk (.loop [3, 4, 5] (.seq [3, 4, 5] (.seq [] .leaf (.cond .leaf .leaf)) (.seq [3, 4, 5] (.blk .leaf) .leaf))))) (.seq [] .leaf (.seq [6] (.seq [] .leaf (.blk (.loop [3, 6, 7] (.seq [3, 6, 7] (.seq [] .leaf (.cond .leaf .leaf)) (.seq [3, 6, 7] (.blk (.reg [0, 1, 2, 3, 7, 8, 9, 13, 14, 15, 19, 20, 21, 4, 5, 6, 10, 11, 12, 16, 17, 18, 22, 23, 24, 25, 26] [])) .leaf))))) (.seq [] .leaf .leaf)))))))
def A_ref01_Sum (l : List V) : M V := match l with | [x0] => F_ref01_Sum x0 | _ => fail
theorem e_ref01_Sum (x0 : V) : funM Tryd.prog (ovr [(fid_ref01_padded, A_ref01_padded), (fid_ref01_take, A_ref01_take)] noC) fid_ref01_Sum h_ref01_Sum [x0] = F_ref01_Sum x0 := by kernel_rfl
theorem K_ref01_Sum : Known Tryd.prog fid_ref01_Sum (A_ref01_Sum) := known_of (σ := ovr [(fid_ref01_padded, A_ref01_padded), (fid_ref01_take, A_ref01_take)] noC) (hint := h_ref01_Sum) (by kernel_rfl) (simAll_ovr K_ref01_padded (simAll_ovr K_ref01_take simAll_nil0)) fun l H r H' h => by
  unfold A_ref01_Sum at h; split at h
  · rw [e_ref01_Sum]; exact h
  · exact (fail_ne h).elim

/-! ### capstan/sha.Hex -/
def sha_Hex_k0 (vs_3 : List V) : M Out :=
  bnd (lift (bin .add (at_ vs_3 3) (Value.int .i64 1))) fun x23 =>
  ret (.nxt [(at_ vs_3 0), (at_ vs_3 1), (at_ vs_3 2), x23])
def sha_Hex_k1 (vs_2 : List V) : M Out :=
  bnd (
  bnd (
    bnd (lift (idxS (at_ vs_2 0) (at_ vs_2 3))) fun x13 =>
    bnd (lift (bin .shr x13 (Value.int .u64 4))) fun x14 =>
    bnd (lift (idxS (Value.string ⟨#[48, 49, 50, 51, 52, 53, 54, 55, 56, 57, 97, 98, 99, 100, 101, 102]⟩) x14)) fun x15 =>
    bnd (lift (idxS (at_ vs_2 0) (at_ vs_2 3))) fun x18 =>
    bnd (lift (bin .and x18 (Value.int .u8 15))) fun x19 =>
    bnd (lift (idxS (Value.string ⟨#[48, 49, 50, 51, 52, 53, 54, 55, 56, 57, 97, 98, 99, 100, 101, 102]⟩) x19)) fun x20 =>
    bnd (bslc 1 2 (rep 2 [Value.int .u8 0]) [(0, 1, x15), (1, 1, x20)]) fun x21 =>
    bnd (appV 1 1 (at_ vs_2 1) x21) fun x22 =>
    ret (.nxt [(at_ vs_2 0), x22, (at_ vs_2 2), (at_ vs_2 3)])
    ) fun o => ret (unblk 1 o)
  ) fun o => nx o sha_Hex_k0
def sha_Hex_l2 (vs : List V) : M Out :=
  bnd (lift (bin .lss (at_ vs 3) (at_ vs 2))) fun x8 =>
  bnd (
  condM x8 (
    ret (.nxt [(at_ vs 0), (at_ vs 1), (at_ vs 2), (at_ vs 3)])
    ) (
    ret (.brk 0 [(at_ vs 1)])
    )
  ) fun o => nx o sha_Hex_k1
def sha_Hex_k3 (vs_4 : List V) : M Out :=
  bnd (b2s (at_ vs_4 0)) fun x25 =>
  ret (.ret [x25])
def F_sha_Hex (x0 : V) : M V :=
  bnd (
    bnd (
      bnd (lift (lenStr x0)) fun x6 =>
      bnd (
        loopM FUEL sha_Hex_l2 [x0, (Value.slice none 0 0), x6, (Value.int .i64 0)]
        ) fun o => ret (unblk 0 o)
      ) fun o => nx o sha_Hex_k3
    ) fun o => finM o fun vs => ret (outV [(at_ vs 0)])
def h_sha_Hex : Hint := (.seq [] .leaf (.seq [] .leaf (.seq [3] (.seq [] .leaf (.blk (.loop [0, 3, 6, 7] (.seq [] .leaf (.seq [0, 3, 6, 7] (.cond .leaf .leaf) (.seq [0, 3, 6, 7] (.blk (.seq [] .leaf (.reg [0, 1, 2, 3, 4, 5, 6, 7, 8, 9, 10, 11, 12, 13] []))) .leaf)))))) (.seq [] .leaf .leaf))))
def A_sha_Hex (l : List V) : M V := match l with | [x0] => F_sha_Hex x0 | _ => fail
theorem e_sha_Hex (x0 : V) : funM Tryd.prog (ovr [] noC) fid_sha_Hex h_sha_Hex [x0] = F_sha_Hex x0 := by kernel_rfl
theorem K_sha_Hex : Known Tryd.prog fid_sha_Hex (A_sha_Hex) := known_of (σ := ovr [] noC) (hint := h_sha_Hex) (by kernel_rfl) simAll_nil0 fun l H r H' h => by
  unfold A_sha_Hex at h; split at h
  · rw [e_sha_Hex]; exact h
  · exact (fail_ne h).elim

/-! ### capstan/capstanref01.Hex -/
def ref01_Hex_k0 (vs_3 : List V) : M Out :=
  bnd (lift (bin .add (at_ vs_3 3) (Value.int .i64 1))) fun x11 =>
  ret (.nxt [(at_ vs_3 0), (at_ vs_3 1), (at_ vs_3 2), x11])
def ref01_Hex_k1 (vs_2 : List V) : M Out :=
  bnd (
  bnd (
    bnd (lift (idxS (at_ vs_2 0) (at_ vs_2 3))) fun x16 =>
    bnd (lift (bin .quo x16 (Value.int .u8 16))) fun x17 =>
    bnd (lift (idxS (at_ vs_2 1) x17)) fun x18 =>
    bnd (lift (idxS (at_ vs_2 0) (at_ vs_2 3))) fun x22 =>
    bnd (lift (bin .rem x22 (Value.int .u8 16))) fun x23 =>
    bnd (lift (idxS (at_ vs_2 1) x23)) fun x24 =>
    bnd (bslc 1 2 (rep 2 [Value.int .u8 0]) [(0, 1, x18), (1, 1, x24)]) fun x25 =>
    bnd (appV 1 1 (at_ vs_2 2) x25) fun x26 =>
    ret (.nxt [(at_ vs_2 0), (at_ vs_2 1), x26, (at_ vs_2 3)])
    ) fun o => ret (unblk 1 o)
  ) fun o => nx o ref01_Hex_k0
def ref01_Hex_l2 (vs : List V) : M Out :=
  bnd (
  bnd (lift (lenStr (at_ vs 0))) fun x8 =>
  bnd (lift (bin .lss (at_ vs 3) x8)) fun x9 =>
  condM x9 (
    ret (.nxt [(at_ vs 0), (at_ vs 1), (at_ vs 2), (at_ vs 3)])
    ) (
    ret (.brk 0 [(at_ vs 2)])
    )
  ) fun o => nx o ref01_Hex_k1
def ref01_Hex_k3 (vs_4 : List V) : M Out :=
  bnd (b2s (at_ vs_4 0)) fun x28 =>
  ret (.ret [x28])
def F_ref01_Hex (x0 : V) : M V :=
  bnd (
    bnd (
      bnd (
        loopM FUEL ref01_Hex_l2 [x0, (Value.string ⟨#[48, 49, 50, 51, 52, 53, 54, 55, 56, 57, 97, 98, 99, 100, 101, 102]⟩), (Value.slice none 0 0), (Value.int .i64 0)]
        ) fun o => ret (unblk 0 o)
      ) fun o => nx o ref01_Hex_k3
    ) fun o => finM o fun vs => ret (outV [(at_ vs 0)])
def h_ref01_Hex : Hint := (.seq [] .leaf (.seq [] .leaf (.seq [] .leaf (.seq [4] (.seq [] .leaf (.blk (.loop [0, 3, 4, 5] (.seq [0, 3, 4, 5] (.seq [] .leaf (.cond .leaf .leaf)) (.seq [0, 3, 4, 5] (.blk (.reg [0, 1, 2, 3, 4, 5, 6, 7, 8, 9, 10, 11, 12, 13, 14, 15] [])) .leaf))))) (.seq [] .leaf .leaf)))))
def A_ref01_Hex (l : List V) : M V := match l with | [x0] => F_ref01_Hex x0 | _ => fail
theorem e_ref01_Hex (x0 : V) : funM Tryd.prog (ovr [] noC) fid_ref01_Hex h_ref01_Hex [x0] = F_ref01_Hex x0 := by kernel_rfl
theorem K_ref01_Hex : Known Tryd.prog fid_ref01_Hex (A_ref01_Hex) := known_of (σ := ovr [] noC) (hint := h_ref01_Hex) (by kernel_rfl) simAll_nil0 fun l H r H' h => by
  unfold A_ref01_Hex at h; split at h
  · rw [e_ref01_Hex]; exact h
  · exact (fail_ne h).elim

/-! ### capstan/capstanlaw01.works -/
def F_law01_works : M V :=
  bnd (
    bnd (A_sha_Sum [(Value.string ⟨#[97, 98, 99]⟩)]) fun x1 =>
    bnd (A_sha_Hex [x1]) fun x2 =>
    bnd (lift (bin .eql x2 (Value.string ⟨#[98, 97, 55, 56, 49, 54, 98, 102, 56, 102, 48, 49, 99, 102, 101, 97, 52, 49, 52, 49, 52, 48, 100, 101, 53, 100, 97, 101, 50, 50, 50, 51, 98, 48, 48, 51, 54, 49, 97, 51, 57, 54, 49, 55, 55, 97, 57, 99, 98, 52, 49, 48, 102, 102, 54, 49, 102, 50, 48, 48, 49, 53, 97, 100]⟩))) fun x3 =>
    bnd (gd x3 true (A_sha_Sum [(Value.string ⟨#[]⟩)])) fun x5 =>
    bnd (gd x3 true (A_sha_Hex [x5])) fun x6 =>
    bnd (gd x3 true (lift (bin .eql x6 (Value.string ⟨#[101, 51, 98, 48, 99, 52, 52, 50, 57, 56, 102, 99, 49, 99, 49, 52, 57, 97, 102, 98, 102, 52, 99, 56, 57, 57, 54, 102, 98, 57, 50, 52, 50, 55, 97, 101, 52, 49, 101, 52, 54, 52, 57, 98, 57, 51, 52, 99, 97, 52, 57, 53, 57, 57, 49, 98, 55, 56, 53, 50, 98, 56, 53, 53]⟩)))) fun x7 =>
    bnd (lift (pickV x3 x7 (Value.bool false))) fun x8 =>
    ret (.ret [x8])
    ) fun o => finM o fun vs => ret (outV [(at_ vs 0)])
def h_law01_works : Hint := (.seq [] .leaf (.seq [] .leaf .leaf))
def A_law01_works (l : List V) : M V := match l with | [] => F_law01_works  | _ => fail
theorem e_law01_works : funM Tryd.prog (ovr [(fid_sha_Sum, A_sha_Sum), (fid_sha_Hex, A_sha_Hex)] noC) fid_law01_works h_law01_works [] = F_law01_works  := by kernel_rfl
theorem K_law01_works : Known Tryd.prog fid_law01_works (A_law01_works) := known_of (σ := ovr [(fid_sha_Sum, A_sha_Sum), (fid_sha_Hex, A_sha_Hex)] noC) (hint := h_law01_works) (by kernel_rfl) (simAll_ovr K_sha_Sum (simAll_ovr K_sha_Hex simAll_nil0)) fun l H r H' h => by
  unfold A_law01_works at h; split at h
  · rw [e_law01_works]; exact h
  · exact (fail_ne h).elim

/-! ### capstan/capstanlaw01.ShaSums -/
def F_law01_ShaSums (x0 : V) : M V :=
  bnd (
    bnd (A_law01_names []) fun x3 =>
    bnd (gd x3 true (lift (some x0))) fun x5 =>
    bnd (gd x3 true (A_sha_Sum [x5])) fun x6 =>
    bnd (gd x3 true (lift (some x0))) fun x7 =>
    bnd (gd x3 true (A_ref01_Sum [x7])) fun x8 =>
    bnd (gd x3 true (lift (bin .eql x6 x8))) fun x9 =>
    bnd (lift (pickV x3 x9 (Value.bool false))) fun x10 =>
    bnd (gd x10 true (lift (some x0))) fun x12 =>
    bnd (gd x10 true (A_sha_Hex [x12])) fun x13 =>
    bnd (gd x10 true (lift (some x0))) fun x14 =>
    bnd (gd x10 true (A_ref01_Hex [x14])) fun x15 =>
    bnd (gd x10 true (lift (bin .eql x13 x15))) fun x16 =>
    bnd (lift (pickV x10 x16 (Value.bool false))) fun x17 =>
    bnd (gd x17 true (A_law01_works [])) fun x19 =>
    bnd (lift (pickV x17 x19 (Value.bool false))) fun x20 =>
    ret (.ret [x20])
    ) fun o => finM o fun vs => ret (outV [(at_ vs 0)])
def h_law01_ShaSums : Hint := (.seq [] .leaf (.seq [] .leaf .leaf))
def A_law01_ShaSums (l : List V) : M V := match l with | [x0] => F_law01_ShaSums x0 | _ => fail
theorem e_law01_ShaSums (x0 : V) : funM Tryd.prog (ovr [(fid_law01_names, A_law01_names), (fid_sha_Sum, A_sha_Sum), (fid_ref01_Sum, A_ref01_Sum), (fid_sha_Hex, A_sha_Hex), (fid_ref01_Hex, A_ref01_Hex), (fid_law01_works, A_law01_works)] noC) fid_law01_ShaSums h_law01_ShaSums [x0] = F_law01_ShaSums x0 := by kernel_rfl
theorem K_law01_ShaSums : Known Tryd.prog fid_law01_ShaSums (A_law01_ShaSums) := known_of (σ := ovr [(fid_law01_names, A_law01_names), (fid_sha_Sum, A_sha_Sum), (fid_ref01_Sum, A_ref01_Sum), (fid_sha_Hex, A_sha_Hex), (fid_ref01_Hex, A_ref01_Hex), (fid_law01_works, A_law01_works)] noC) (hint := h_law01_ShaSums) (by kernel_rfl) (simAll_ovr K_law01_names (simAll_ovr K_sha_Sum (simAll_ovr K_ref01_Sum (simAll_ovr K_sha_Hex (simAll_ovr K_ref01_Hex (simAll_ovr K_law01_works simAll_nil0)))))) fun l H r H' h => by
  unfold A_law01_ShaSums at h; split at h
  · rw [e_law01_ShaSums]; exact h
  · exact (fail_ne h).elim

/-! ### capstan/capstanlaw01.value -/
def law01_value_k0 (vs : List V) : M Out :=
  ret (.ret [(Value.int .i64 (-1000))])
def F_law01_value (x0 : V) : M V :=
  bnd (
    bnd (
      bnd (
        bnd (lift (bin .geq x0 (Value.int .u8 48))) fun x5 =>
        bnd (gd x5 true (lift (some x0))) fun x7 =>
        bnd (gd x5 true (lift (bin .leq x7 (Value.int .u8 57)))) fun x8 =>
        bnd (lift (pickV x5 x8 (Value.bool false))) fun x9 =>
        condM x9 (
          bnd (lift (bin .sub x0 (Value.int .u8 48))) fun x11 =>
          bnd (lift (cvi .i64 x11)) fun x12 =>
          ret (.ret [x12])
          ) (
          bnd (lift (bin .geq x0 (Value.int .u8 97))) fun x15 =>
          bnd (gd x15 true (lift (some x0))) fun x17 =>
          bnd (gd x15 true (lift (bin .leq x17 (Value.int .u8 102)))) fun x18 =>
          bnd (lift (pickV x15 x18 (Value.bool false))) fun x19 =>
          condM x19 (
            bnd (lift (bin .sub x0 (Value.int .u8 97))) fun x21 =>
            bnd (lift (cvi .i64 x21)) fun x22 =>
            bnd (lift (bin .add x22 (Value.int .i64 10))) fun x23 =>
            ret (.ret [x23])
            ) (
            ret (.nxt [])
            )
          )
        ) fun o => ret (unblk 0 o)
      ) fun o => nx o law01_value_k0
    ) fun o => finM o fun vs => ret (outV [(at_ vs 0)])
def h_law01_value : Hint := (.seq [] .leaf (.seq [] (.blk (.seq [] .leaf (.cond (.seq [] .leaf .leaf) (.seq [] .leaf (.cond (.seq [] .leaf .leaf) .leaf))))) (.seq [] .leaf .leaf)))
def A_law01_value (l : List V) : M V := match l with | [x0] => F_law01_value x0 | _ => fail
theorem e_law01_value (x0 : V) : funM Tryd.prog (ovr [] noC) fid_law01_value h_law01_value [x0] = F_law01_value x0 := by kernel_rfl
theorem K_law01_value : Known Tryd.prog fid_law01_value (A_law01_value) := known_of (σ := ovr [] noC) (hint := h_law01_value) (by kernel_rfl) simAll_nil0 fun l H r H' h => by
  unfold A_law01_value at h; split at h
  · rw [e_law01_value]; exact h
  · exact (fail_ne h).elim

/-! ### capstan/capstanlaw01.ShaLong -/
def law01_ShaLong_k0 (vs_5 : List V) : M Out :=
  bnd (lift (bin .add (at_ vs_5 3) (Value.int .i64 1))) fun x52 =>
  ret (.nxt [(at_ vs_5 0), (at_ vs_5 1), (at_ vs_5 2), x52])
def law01_ShaLong_k1 (vs_4 : List V) : M Out :=
  bnd (
  bnd (
    bnd (lift (bin .mul (Value.int .i64 2) (at_ vs_4 3))) fun x36 =>
    bnd (lift (idxS (at_ vs_4 1) x36)) fun x37 =>
    bnd (lift (bin .mul (Value.int .i64 2) (at_ vs_4 3))) fun x42 =>
    bnd (lift (bin .add x42 (Value.int .i64 1))) fun x43 =>
    bnd (lift (idxS (at_ vs_4 1) x43)) fun x44 =>
    bnd (lift (idxS (at_ vs_4 0) (at_ vs_4 3))) fun x49 =>
    bnd (lift (cvi .i64 x49)) fun x50 =>
    bnd (A_law01_value [x37]) fun x38 =>
    bnd (lift (bin .mul x38 (Value.int .i64 16))) fun x39 =>
    bnd (A_law01_value [x44]) fun x45 =>
    bnd (lift (bin .add x39 x45)) fun x46 =>
    bnd (lift (bin .neq x46 x50)) fun x51 =>
    condM x51 (
      ret (.ret [(Value.bool false)])
      ) (
      ret (.nxt [(at_ vs_4 0), (at_ vs_4 1), (at_ vs_4 2), (at_ vs_4 3)])
      )
    ) fun o => ret (unblk 1 o)
  ) fun o => nx o law01_ShaLong_k0
def law01_ShaLong_l2 (vs_3 : List V) : M Out :=
  bnd (lift (bin .lss (at_ vs_3 3) (at_ vs_3 2))) fun x32 =>
  bnd (
  condM x32 (
    ret (.nxt [(at_ vs_3 0), (at_ vs_3 1), (at_ vs_3 2), (at_ vs_3 3)])
    ) (
    ret (.brk 0 [])
    )
  ) fun o => nx o law01_ShaLong_k1
def law01_ShaLong_k3 (vs_6 : List V) : M Out :=
  ret (.ret [(Value.bool true)])
def law01_ShaLong_k4 (vs_2 : List V) : M Out :=
  bnd (
    bnd (lift (lenStr (at_ vs_2 0))) fun x30 =>
    bnd (
      loopM FUEL law01_ShaLong_l2 [(at_ vs_2 0), (at_ vs_2 1), x30, (Value.int .i64 0)]
      ) fun o => ret (unblk 0 o)
    ) fun o => nx o law01_ShaLong_k3
def law01_ShaLong_k5 (vs : List V) : M Out :=
  bnd (A_sha_Sum [(at_ vs 0)]) fun x9 =>
  bnd (A_sha_Hex [(at_ vs 0)]) fun x11 =>
  bnd (
    bnd (lift (lenStr x9)) fun x13 =>
    bnd (lift (bin .neq x13 (Value.int .i64 32))) fun x14 =>
    bnd (gd x14 false (lift (some x9))) fun x16 =>
    bnd (gd x14 false (A_sha_Hex [x16])) fun x17 =>
    bnd (gd x14 false (lift (lenStr x17))) fun x18 =>
    bnd (gd x14 false (lift (bin .neq x18 (Value.int .i64 64)))) fun x19 =>
    bnd (lift (pickV x14 (Value.bool true) x19)) fun x20 =>
    bnd (gd x20 false (lift (some x11))) fun x22 =>
    bnd (gd x20 false (lift (lenStr x22))) fun x23 =>
    bnd (gd x20 false (lift (some (at_ vs 0)))) fun x24 =>
    bnd (gd x20 false (lift (lenStr x24))) fun x25 =>
    bnd (gd x20 false (lift (bin .mul (Value.int .i64 2) x25))) fun x26 =>
    bnd (gd x20 false (lift (bin .neq x23 x26))) fun x27 =>
    bnd (lift (pickV x20 (Value.bool true) x27)) fun x28 =>
    condM x28 (
      ret (.ret [(Value.bool false)])
      ) (
      ret (.nxt [(at_ vs 0), x11])
      )
    ) fun o => nx o law01_ShaLong_k4
def F_law01_ShaLong (x0 : V) : M V :=
  bnd (
    bnd (
      bnd (A_law01_works []) fun x6 =>
      bnd (lift (un .not x6)) fun x7 =>
      condM x7 (
        ret (.ret [(Value.bool false)])
        ) (
        ret (.nxt [x0])
        )
      ) fun o => nx o law01_ShaLong_k5
    ) fun o => finM o fun vs => ret (outV [(at_ vs 0)])
def h_law01_ShaLong : Hint := (.seq [] .leaf (.seq [0] (.seq [] .leaf (.cond (.seq [] .leaf .leaf) .leaf)) (.seq [] .leaf (.seq [] .leaf (.seq [0, 4] (.seq [] .leaf (.cond (.seq [] .leaf .leaf) .leaf)) (.seq [] (.seq [] .leaf (.blk (.loop [0, 4, 30, 31] (.seq [] .leaf (.seq [0, 4, 30, 31] (.cond .leaf .leaf) (.seq [0, 4, 30, 31] (.blk (.seq [] .leaf (.seq [] (.reg [0, 1, 2, 3, 6, 7, 8, 9, 10, 13, 14, 15, 16, 4, 5, 11, 12, 17] []) (.cond (.seq [] .leaf .leaf) .leaf)))) .leaf)))))) (.seq [] .leaf .leaf)))))))
def A_law01_ShaLong (l : List V) : M V := match l with | [x0] => F_law01_ShaLong x0 | _ => fail
theorem e_law01_ShaLong (x0 : V) : funM Tryd.prog (ovr [(fid_law01_works, A_law01_works), (fid_sha_Sum, A_sha_Sum), (fid_sha_Hex, A_sha_Hex), (fid_law01_value, A_law01_value)] noC) fid_law01_ShaLong h_law01_ShaLong [x0] = F_law01_ShaLong x0 := by kernel_rfl
theorem K_law01_ShaLong : Known Tryd.prog fid_law01_ShaLong (A_law01_ShaLong) := known_of (σ := ovr [(fid_law01_works, A_law01_works), (fid_sha_Sum, A_sha_Sum), (fid_sha_Hex, A_sha_Hex), (fid_law01_value, A_law01_value)] noC) (hint := h_law01_ShaLong) (by kernel_rfl) (simAll_ovr K_law01_works (simAll_ovr K_sha_Sum (simAll_ovr K_sha_Hex (simAll_ovr K_law01_value simAll_nil0)))) fun l H r H' h => by
  unfold A_law01_ShaLong at h; split at h
  · rw [e_law01_ShaLong]; exact h
  · exact (fail_ne h).elim

/-! ### (*capstan/sha.Hash).Len -/
def F_sha_Hash_Len (x0 : V) : M V :=
  bnd (
    bnd (lift (nilck x0)) fun x4 =>
    bnd (lift (faddr 9 x4)) fun x5 =>
    bnd (ld1 x5) fun x6 =>
    ret (.ret [x6])
    ) fun o => finM o fun vs => ret (outV [(at_ vs 0)])
def h_sha_Hash_Len : Hint := (.seq [] .leaf (.seq [] .leaf .leaf))
def A_sha_Hash_Len (l : List V) : M V := match l with | [x0] => F_sha_Hash_Len x0 | _ => fail
theorem e_sha_Hash_Len (x0 : V) : funM Tryd.prog (ovr [] noC) fid_sha_Hash_Len h_sha_Hash_Len [x0] = F_sha_Hash_Len x0 := by kernel_rfl
theorem K_sha_Hash_Len : Known Tryd.prog fid_sha_Hash_Len (A_sha_Hash_Len) := known_of (σ := ovr [] noC) (hint := h_sha_Hash_Len) (by kernel_rfl) simAll_nil0 fun l H r H' h => by
  unfold A_sha_Hash_Len at h; split at h
  · rw [e_sha_Hash_Len]; exact h
  · exact (fail_ne h).elim

/-! ### capstan/capstanlaw01.ShaPieces -/
def law01_ShaPieces_k0 (vs_5 : List V) : M Out :=
    bnd (lift (bin .eql (at_ vs_5 4) (at_ vs_5 1))) fun x60 =>
    condM x60 (
      bnd (A_sha_Hash_Fork [(at_ vs_5 2)]) fun x62 =>
      bnd (lift (notIf false (isNil .p x62))) fun x64 =>
      bnd (gd x64 false (lift (some x62))) fun x66 =>
      bnd (gd x64 false (A_sha_Hash_Write [x66, (Value.string ⟨#[111, 116, 104, 101, 114]⟩)])) fun x67 =>
      bnd (gd x64 false (lift (bin .neq x67 (Value.int .i64 0)))) fun x68 =>
      bnd (lift (pickV x64 (Value.bool true) x68)) fun x69 =>
      bnd (gd x69 false (lift (some x62))) fun x71 =>
      bnd (gd x69 false (A_sha_Hash_Sum [x71])) fun x72 =>
      bnd (gd x69 false (lift (some (at_ vs_5 3)))) fun x73 =>
      bnd (gd x69 false (lift (bin .add x73 (Value.string ⟨#[111, 116, 104, 101, 114]⟩)))) fun x74 =>
      bnd (gd x69 false (A_ref01_Sum [x74])) fun x75 =>
      bnd (gd x69 false (lift (bin .neq x72 x75))) fun x76 =>
      bnd (lift (pickV x69 (Value.bool true) x76)) fun x77 =>
      bnd (gd x77 false (lift (some (at_ vs_5 2)))) fun x79 =>
      bnd (gd x77 false (A_sha_Hash_Sum [x79])) fun x80 =>
      bnd (gd x77 false (lift (some (at_ vs_5 3)))) fun x81 =>
      bnd (gd x77 false (A_ref01_Sum [x81])) fun x82 =>
      bnd (gd x77 false (lift (bin .neq x80 x82))) fun x83 =>
      bnd (lift (pickV x77 (Value.bool true) x83)) fun x84 =>
      condM x84 (
        ret (.ret [(Value.bool false)])
        ) (
        ret (.nxt [(at_ vs_5 0), (at_ vs_5 1), (at_ vs_5 2), (at_ vs_5 3), (at_ vs_5 4)])
        )
      ) (
      ret (.nxt [(at_ vs_5 0), (at_ vs_5 1), (at_ vs_5 2), (at_ vs_5 3), (at_ vs_5 4)])
      )
def law01_ShaPieces_k1 (vs_4 : List V) : M Out :=
    bnd (lift (iaddrS 1 (at_ vs_4 0) (at_ vs_4 4))) fun x36 =>
    bnd (ld1 x36) fun x37 =>
    bnd (lift (bin .add (at_ vs_4 3) x37)) fun x38 =>
    bnd (
      bnd (A_sha_Hash_Len [(at_ vs_4 2)]) fun x40 =>
      bnd (lift (lenStr x38)) fun x42 =>
      bnd (lift (bin .neq x40 x42)) fun x43 =>
      bnd (gd x43 false (lift (some (at_ vs_4 2)))) fun x45 =>
      bnd (gd x43 false (A_sha_Hash_Sum [x45])) fun x46 =>
      bnd (gd x43 false (lift (some x38))) fun x47 =>
      bnd (gd x43 false (A_ref01_Sum [x47])) fun x48 =>
      bnd (gd x43 false (lift (bin .neq x46 x48))) fun x49 =>
      bnd (lift (pickV x43 (Value.bool true) x49)) fun x50 =>
      bnd (gd x50 false (lift (some (at_ vs_4 2)))) fun x52 =>
      bnd (gd x50 false (A_sha_Hash_Sum [x52])) fun x53 =>
      bnd (gd x50 false (lift (some x38))) fun x54 =>
      bnd (gd x50 false (A_ref01_Sum [x54])) fun x55 =>
      bnd (gd x50 false (lift (bin .neq x53 x55))) fun x56 =>
      bnd (lift (pickV x50 (Value.bool true) x56)) fun x57 =>
      condM x57 (
        ret (.ret [(Value.bool false)])
        ) (
        ret (.nxt [(at_ vs_4 0), (at_ vs_4 1), (at_ vs_4 2), x38, (at_ vs_4 4)])
        )
      ) fun o => nx o law01_ShaPieces_k0
def law01_ShaPieces_k2 (vs_6 : List V) : M Out :=
  bnd (lift (bin .add (at_ vs_6 4) (Value.int .i64 1))) fun x25 =>
  ret (.nxt [(at_ vs_6 0), (at_ vs_6 1), (at_ vs_6 2), (at_ vs_6 3), x25])
def law01_ShaPieces_k3 (vs_3 : List V) : M Out :=
  bnd (
  bnd (
    bnd (
      bnd (lift (iaddrS 1 (at_ vs_3 0) (at_ vs_3 4))) fun x29 =>
      bnd (ld1 x29) fun x30 =>
      bnd (A_sha_Hash_Write [(at_ vs_3 2), x30]) fun x31 =>
      bnd (lift (bin .neq x31 (Value.int .i64 0))) fun x32 =>
      condM x32 (
        ret (.ret [(Value.bool false)])
        ) (
        ret (.nxt [(at_ vs_3 0), (at_ vs_3 1), (at_ vs_3 2), (at_ vs_3 3), (at_ vs_3 4)])
        )
      ) fun o => nx o law01_ShaPieces_k1
    ) fun o => ret (unblk 1 o)
  ) fun o => nx o law01_ShaPieces_k2
def law01_ShaPieces_l4 (vs_2 : List V) : M Out :=
  bnd (
  bnd (lift (lenSlc (at_ vs_2 0))) fun x18 =>
  bnd (lift (bin .lss (at_ vs_2 4) x18)) fun x19 =>
  bnd (gd x19 true (lift (some (at_ vs_2 4)))) fun x21 =>
  bnd (gd x19 true (lift (bin .lss x21 (Value.int .i64 60)))) fun x22 =>
  bnd (lift (pickV x19 x22 (Value.bool false))) fun x23 =>
  condM x23 (
    ret (.nxt [(at_ vs_2 0), (at_ vs_2 1), (at_ vs_2 2), (at_ vs_2 3), (at_ vs_2 4)])
    ) (
    ret (.brk 0 [(at_ vs_2 2), (at_ vs_2 3)])
    )
  ) fun o => nx o law01_ShaPieces_k3
def law01_ShaPieces_k5 (vs_7 : List V) : M Out :=
  bnd (A_sha_Hash_Sum [(at_ vs_7 0)]) fun x86 =>
  bnd (A_sha_Sum [(at_ vs_7 1)]) fun x88 =>
  bnd (lift (bin .eql x86 x88)) fun x89 =>
  ret (.ret [x89])
def law01_ShaPieces_k6 (vs : List V) : M Out :=
  bnd (
    bnd (
      loopM FUEL law01_ShaPieces_l4 [(at_ vs 0), (at_ vs 1), (at_ vs 2), (Value.string ⟨#[]⟩), (Value.int .i64 0)]
      ) fun o => ret (unblk 0 o)
    ) fun o => nx o law01_ShaPieces_k5
def F_law01_ShaPieces (x0 x1 : V) : M V :=
  bnd (
    bnd (A_sha_New []) fun x9 =>
    bnd (
      bnd (lift (notIf false (isNil .p x9))) fun x11 =>
      bnd (gd x11 false (A_law01_works [])) fun x13 =>
      bnd (gd x11 false (lift (un .not x13))) fun x14 =>
      bnd (lift (pickV x11 (Value.bool true) x14)) fun x15 =>
      condM x15 (
        ret (.ret [(Value.bool false)])
        ) (
        ret (.nxt [x0, x1, x9])
        )
      ) fun o => nx o law01_ShaPieces_k6
    ) fun o => finM o fun vs => ret (outV [(at_ vs 0)])
def h_law01_ShaPieces : Hint := (.seq [] .leaf (.seq [] .leaf (.seq [0, 1, 5] (.seq [] .leaf (.cond (.seq [] .leaf .leaf) .leaf)) (.seq [] .leaf (.seq [5, 6] (.seq [] .leaf (.blk (.loop [0, 1, 5, 6, 7] (.seq [0, 1, 5, 6, 7] (.seq [] .leaf (.cond .leaf .leaf)) (.seq [0, 1, 5, 6, 7] (.blk (.seq [0, 1, 5, 6, 7] (.seq [] .leaf (.cond (.seq [] .leaf .leaf) .leaf)) (.seq [] .leaf (.seq [0, 1, 5, 6, 7] (.seq [] .leaf (.cond (.seq [] .leaf .leaf) .leaf)) (.seq [] .leaf (.cond (.seq [] .leaf (.seq [] .leaf (.cond (.seq [] .leaf .leaf) .leaf))) .leaf)))))) .leaf))))) (.seq [] .leaf .leaf))))))
def A_law01_ShaPieces (l : List V) : M V := match l with | [x0, x1] => F_law01_ShaPieces x0 x1 | _ => fail
theorem e_law01_ShaPieces (x0 x1 : V) : funM Tryd.prog (ovr [(fid_sha_New, A_sha_New), (fid_law01_works, A_law01_works), (fid_sha_Hash_Write, A_sha_Hash_Write), (fid_sha_Hash_Len, A_sha_Hash_Len), (fid_sha_Hash_Sum, A_sha_Hash_Sum), (fid_ref01_Sum, A_ref01_Sum), (fid_sha_Hash_Fork, A_sha_Hash_Fork), (fid_sha_Sum, A_sha_Sum)] noC) fid_law01_ShaPieces h_law01_ShaPieces [x0, x1] = F_law01_ShaPieces x0 x1 := by kernel_rfl
theorem K_law01_ShaPieces : Known Tryd.prog fid_law01_ShaPieces (A_law01_ShaPieces) := known_of (σ := ovr [(fid_sha_New, A_sha_New), (fid_law01_works, A_law01_works), (fid_sha_Hash_Write, A_sha_Hash_Write), (fid_sha_Hash_Len, A_sha_Hash_Len), (fid_sha_Hash_Sum, A_sha_Hash_Sum), (fid_ref01_Sum, A_ref01_Sum), (fid_sha_Hash_Fork, A_sha_Hash_Fork), (fid_sha_Sum, A_sha_Sum)] noC) (hint := h_law01_ShaPieces) (by kernel_rfl) (simAll_ovr K_sha_New (simAll_ovr K_law01_works (simAll_ovr K_sha_Hash_Write (simAll_ovr K_sha_Hash_Len (simAll_ovr K_sha_Hash_Sum (simAll_ovr K_ref01_Sum (simAll_ovr K_sha_Hash_Fork (simAll_ovr K_sha_Sum simAll_nil0)))))))) fun l H r H' h => by
  unfold A_law01_ShaPieces at h; split at h
  · rw [e_law01_ShaPieces]; exact h
  · exact (fail_ne h).elim

/-! ### capstan/capstanlaw01.ShaBytes -/
def law01_ShaBytes_k0 (vs_5 : List V) : M Out :=
  bnd (lift (bin .add (at_ vs_5 5) (Value.int .i64 1))) fun x38 =>
  ret (.nxt [(at_ vs_5 0), (at_ vs_5 1), (at_ vs_5 2), (at_ vs_5 3), (at_ vs_5 4), x38])
def law01_ShaBytes_k1 (vs_4 : List V) : M Out :=
  bnd (
  bnd (
    bnd (lift (bin .add (at_ vs_4 5) (Value.int .i64 1))) fun x34 =>
    bnd (lift (subS (at_ vs_4 0) (some (at_ vs_4 5)) (some x34))) fun x35 =>
    bnd (A_sha_Hash_Write [(at_ vs_4 2), x35]) fun x36 =>
    bnd (lift (bin .neq x36 (Value.int .i64 0))) fun x37 =>
    condM x37 (
      ret (.ret [(Value.bool false)])
      ) (
      ret (.nxt [(at_ vs_4 0), (at_ vs_4 1), (at_ vs_4 2), (at_ vs_4 3), (at_ vs_4 4), (at_ vs_4 5)])
      )
    ) fun o => ret (unblk 1 o)
  ) fun o => nx o law01_ShaBytes_k0
def law01_ShaBytes_l2 (vs_3 : List V) : M Out :=
  bnd (lift (bin .lss (at_ vs_3 5) (at_ vs_3 4))) fun x28 =>
  bnd (
  condM x28 (
    ret (.nxt [(at_ vs_3 0), (at_ vs_3 1), (at_ vs_3 2), (at_ vs_3 3), (at_ vs_3 4), (at_ vs_3 5)])
    ) (
    ret (.brk 0 [(at_ vs_3 0), (at_ vs_3 1), (at_ vs_3 2), (at_ vs_3 3)])
    )
  ) fun o => nx o law01_ShaBytes_k1
def law01_ShaBytes_k3 (vs_7 : List V) : M Out :=
  bnd (A_sha_Sum [(at_ vs_7 0)]) fun x62 =>
  bnd (A_sha_Hash_Sum [(at_ vs_7 1)]) fun x64 =>
  bnd (lift (bin .eql x64 x62)) fun x66 =>
  bnd (gd x66 true (lift (some (at_ vs_7 2)))) fun x68 =>
  bnd (gd x66 true (A_sha_Hash_Sum [x68])) fun x69 =>
  bnd (gd x66 true (lift (some x62))) fun x70 =>
  bnd (gd x66 true (lift (bin .eql x69 x70))) fun x71 =>
  bnd (lift (pickV x66 x71 (Value.bool false))) fun x72 =>
  bnd (gd x72 true (lift (some (at_ vs_7 1)))) fun x74 =>
  bnd (gd x72 true (A_sha_Hash_Len [x74])) fun x75 =>
  bnd (gd x72 true (lift (some (at_ vs_7 0)))) fun x76 =>
  bnd (gd x72 true (lift (lenStr x76))) fun x77 =>
  bnd (gd x72 true (lift (bin .eql x75 x77))) fun x78 =>
  bnd (lift (pickV x72 x78 (Value.bool false))) fun x79 =>
  bnd (gd x79 true (lift (some (at_ vs_7 2)))) fun x81 =>
  bnd (gd x79 true (A_sha_Hash_Len [x81])) fun x82 =>
  bnd (gd x79 true (lift (some (at_ vs_7 0)))) fun x83 =>
  bnd (gd x79 true (lift (lenStr x83))) fun x84 =>
  bnd (gd x79 true (lift (bin .eql x82 x84))) fun x85 =>
  bnd (lift (pickV x79 x85 (Value.bool false))) fun x86 =>
  ret (.ret [x86])
def law01_ShaBytes_k4 (vs_6 : List V) : M Out :=
  bnd (lift (cvi .u64 (at_ vs_6 1))) fun x40 =>
  bnd (lift (lenStr (at_ vs_6 0))) fun x42 =>
  bnd (lift (bin .add x42 (Value.int .i64 1))) fun x43 =>
  bnd (lift (cvi .u64 x43)) fun x44 =>
  bnd (lift (bin .rem x40 x44)) fun x45 =>
  bnd (lift (cvi .i64 x45)) fun x46 =>
  bnd (
    bnd (lift (subS (at_ vs_6 0) none (some x46))) fun x50 =>
    bnd (A_sha_Hash_Write [(at_ vs_6 3), x50]) fun x51 =>
    bnd (lift (bin .neq x51 (Value.int .i64 0))) fun x52 =>
    bnd (gd x52 false (lift (some (at_ vs_6 3)))) fun x54 =>
    bnd (gd x52 false (lift (some (at_ vs_6 0)))) fun x55 =>
    bnd (gd x52 false (lift (some x46))) fun x56 =>
    bnd (gd x52 false (lift (subS x55 (some x56) none))) fun x57 =>
    bnd (gd x52 false (A_sha_Hash_Write [x54, x57])) fun x58 =>
    bnd (gd x52 false (lift (bin .neq x58 (Value.int .i64 0)))) fun x59 =>
    bnd (lift (pickV x52 (Value.bool true) x59)) fun x60 =>
    condM x60 (
      ret (.ret [(Value.bool false)])
      ) (
      ret (.nxt [(at_ vs_6 0), (at_ vs_6 2), (at_ vs_6 3)])
      )
    ) fun o => nx o law01_ShaBytes_k3
def law01_ShaBytes_k5 (vs_2 : List V) : M Out :=
  bnd (
    bnd (lift (lenStr (at_ vs_2 0))) fun x26 =>
    bnd (
      loopM FUEL law01_ShaBytes_l2 [(at_ vs_2 0), (at_ vs_2 1), (at_ vs_2 2), (at_ vs_2 3), x26, (Value.int .i64 0)]
      ) fun o => ret (unblk 0 o)
    ) fun o => nx o law01_ShaBytes_k4
def law01_ShaBytes_k6 (vs : List V) : M Out :=
  bnd (
    bnd (lift (lenStr (at_ vs 0))) fun x23 =>
    bnd (lift (bin .gtr x23 (Value.int .i64 400))) fun x24 =>
    condM x24 (
      ret (.ret [(Value.bool true)])
      ) (
      ret (.nxt [(at_ vs 0), (at_ vs 1), (at_ vs 2), (at_ vs 3)])
      )
    ) fun o => nx o law01_ShaBytes_k5
def F_law01_ShaBytes (x0 x1 : V) : M V :=
  bnd (
    bnd (A_sha_New []) fun x10 =>
    bnd (A_sha_New []) fun x11 =>
    bnd (
      bnd (lift (notIf false (isNil .p x10))) fun x13 =>
      bnd (gd x13 false (lift (some x11))) fun x15 =>
      bnd (gd x13 false (lift (notIf false (isNil .p x15)))) fun x16 =>
      bnd (lift (pickV x13 (Value.bool true) x16)) fun x17 =>
      bnd (gd x17 false (A_law01_works [])) fun x19 =>
      bnd (gd x17 false (lift (un .not x19))) fun x20 =>
      bnd (lift (pickV x17 (Value.bool true) x20)) fun x21 =>
      condM x21 (
        ret (.ret [(Value.bool false)])
        ) (
        ret (.nxt [x0, x1, x10, x11])
        )
      ) fun o => nx o law01_ShaBytes_k6
    ) fun o => finM o fun vs => ret (outV [(at_ vs 0)])
def h_law01_ShaBytes : Hint := (.seq [] .leaf (.seq [] .leaf (.seq [0, 1, 5, 6] (.seq [] .leaf (.cond (.seq [] .leaf .leaf) .leaf)) (.seq [0, 1, 5, 6] (.seq [] .leaf (.cond (.seq [] .leaf .leaf) .leaf)) (.seq [0, 1, 5, 6] (.seq [] .leaf (.blk (.loop [0, 1, 5, 6, 26, 27] (.seq [] .leaf (.seq [0, 1, 5, 6, 26, 27] (.cond .leaf .leaf) (.seq [0, 1, 5, 6, 26, 27] (.blk (.seq [] .leaf (.seq [] .leaf (.cond (.seq [] .leaf .leaf) .leaf)))) .leaf)))))) (.seq [] .leaf (.seq [0, 5, 6] (.seq [] .leaf (.cond (.seq [] .leaf .leaf) .leaf)) (.seq [] .leaf (.seq [] .leaf .leaf)))))))))
def A_law01_ShaBytes (l : List V) : M V := match l with | [x0, x1] => F_law01_ShaBytes x0 x1 | _ => fail
theorem e_law01_ShaBytes (x0 x1 : V) : funM Tryd.prog (ovr [(fid_sha_New, A_sha_New), (fid_law01_works, A_law01_works), (fid_sha_Hash_Write, A_sha_Hash_Write), (fid_sha_Sum, A_sha_Sum), (fid_sha_Hash_Sum, A_sha_Hash_Sum), (fid_sha_Hash_Len, A_sha_Hash_Len)] noC) fid_law01_ShaBytes h_law01_ShaBytes [x0, x1] = F_law01_ShaBytes x0 x1 := by kernel_rfl
theorem K_law01_ShaBytes : Known Tryd.prog fid_law01_ShaBytes (A_law01_ShaBytes) := known_of (σ := ovr [(fid_sha_New, A_sha_New), (fid_law01_works, A_law01_works), (fid_sha_Hash_Write, A_sha_Hash_Write), (fid_sha_Sum, A_sha_Sum), (fid_sha_Hash_Sum, A_sha_Hash_Sum), (fid_sha_Hash_Len, A_sha_Hash_Len)] noC) (hint := h_law01_ShaBytes) (by kernel_rfl) (simAll_ovr K_sha_New (simAll_ovr K_law01_works (simAll_ovr K_sha_Hash_Write (simAll_ovr K_sha_Sum (simAll_ovr K_sha_Hash_Sum (simAll_ovr K_sha_Hash_Len simAll_nil0)))))) fun l H r H' h => by
  unfold A_law01_ShaBytes at h; split at h
  · rw [e_law01_ShaBytes]; exact h
  · exact (fail_ne h).elim

/-! ### capstan/mac.Tag$1 -/
def mac_Tag_1_k0 (vs_3 : List V) : M Out :=
  bnd (lift (bin .add (at_ vs_3 2) (Value.int .i64 1))) fun x16 =>
  ret (.nxt [(at_ vs_3 0), (at_ vs_3 1), x16])
def mac_Tag_1_k1 (vs_2 : List V) : M Out :=
  bnd (
  bnd (
    bnd (lift (iaddrA 64 1 (at_ vs_2 1) (at_ vs_2 2))) fun x11 =>
    bnd (ld1 x11) fun x12 =>
    bnd (lift (bin .xor x12 (at_ vs_2 0))) fun x14 =>
    bnd (lift (iaddrA 64 1 (at_ vs_2 1) (at_ vs_2 2))) fun x15 =>
    bnd (st1 x15 x14) fun _ =>
    ret (.nxt [(at_ vs_2 0), (at_ vs_2 1), (at_ vs_2 2)])
    ) fun o => ret (unblk 1 o)
  ) fun o => nx o mac_Tag_1_k0
def mac_Tag_1_l2 (vs : List V) : M Out :=
  bnd (lift (bin .lss (at_ vs 2) (Value.int .i64 64))) fun x8 =>
  bnd (
  condM x8 (
    ret (.nxt [(at_ vs 0), (at_ vs 1), (at_ vs 2)])
    ) (
    ret (.brk 0 [(at_ vs 1)])
    )
  ) fun o => nx o mac_Tag_1_k1
def mac_Tag_1_k3 (vs_4 : List V) : M Out :=
  bnd (lift (subA 64 1 (at_ vs_4 0) none none)) fun x17 =>
  bnd (b2s x17) fun x18 =>
  ret (.ret [x18])
def F_mac_Tag_1 (x0 x1 : V) : M V :=
  bnd (
    bnd (ldn 64 x1) fun x6 =>
    bnd (newc (List.replicate 64 (Value.int .u8 0))) fun x4 =>
    bnd (stn 64 x4 x6) fun _ =>
    bnd (
      bnd (
        loopM FUEL mac_Tag_1_l2 [x0, x4, (Value.int .i64 0)]
        ) fun o => ret (unblk 0 o)
      ) fun o => nx o mac_Tag_1_k3
    ) fun o => finM o fun vs => ret (outV [(at_ vs 0)])
def h_mac_Tag_1 : Hint := (.seq [] .leaf (.seq [] .leaf (.seq [4] (.seq [] .leaf (.blk (.loop [0, 4, 7] (.seq [] .leaf (.seq [0, 4, 7] (.cond .leaf .leaf) (.seq [0, 4, 7] (.blk (.seq [] .leaf .leaf)) .leaf)))))) (.seq [] .leaf .leaf))))
def A_mac_Tag_1 (l : List V) : M V := match l with | [x0, x1] => F_mac_Tag_1 x0 x1 | _ => fail
theorem e_mac_Tag_1 (x0 x1 : V) : funM Tryd.prog (ovr [] noC) fid_mac_Tag_1 h_mac_Tag_1 [x0, x1] = F_mac_Tag_1 x0 x1 := by kernel_rfl
theorem K_mac_Tag_1 : Known Tryd.prog fid_mac_Tag_1 (A_mac_Tag_1) := known_of (σ := ovr [] noC) (hint := h_mac_Tag_1) (by kernel_rfl) simAll_nil0 fun l H r H' h => by
  unfold A_mac_Tag_1 at h; split at h
  · rw [e_mac_Tag_1]; exact h
  · exact (fail_ne h).elim

/-! ### capstan/mac.Tag -/
def mac_Tag_k0 (vs : List V) : M Out :=
  bnd (newc (List.replicate 64 (Value.int .u8 0))) fun x5 =>
  bnd (lift (subA 64 1 x5 none none)) fun x12 =>
  bnd (cpy 1 x12 (at_ vs 0)) fun x14 =>
  bnd (lift (some (Value.func (.func fid_mac_Tag_1) #[] #[x5]))) fun x15 =>
  bnd (callM (ovr [(fid_mac_Tag_1, A_mac_Tag_1), (fid_sha_Sum, A_sha_Sum)] noC) x15 [(Value.int .u8 92)]) fun x17 =>
  bnd (callM (ovr [(fid_mac_Tag_1, A_mac_Tag_1), (fid_sha_Sum, A_sha_Sum)] noC) x15 [(Value.int .u8 54)]) fun x19 =>
  bnd (lift (bin .add x19 (at_ vs 1))) fun x21 =>
  bnd (A_sha_Sum [x21]) fun x22 =>
  bnd (lift (bin .add x17 x22)) fun x23 =>
  bnd (A_sha_Sum [x23]) fun x24 =>
  ret (.ret [x24])
def F_mac_Tag (x0 x1 : V) : M V :=
  bnd (
    bnd (
      bnd (lift (lenStr x0)) fun x8 =>
      bnd (lift (bin .gtr x8 (Value.int .i64 64))) fun x9 =>
      condM x9 (
        bnd (A_sha_Sum [x0]) fun x11 =>
        ret (.nxt [x11, x1])
        ) (
        ret (.nxt [x0, x1])
        )
      ) fun o => nx o mac_Tag_k0
    ) fun o => finM o fun vs => ret (outV [(at_ vs 0)])
def h_mac_Tag : Hint := (.seq [] .leaf (.seq [0, 1] (.seq [] .leaf (.cond .leaf .leaf)) (.seq [] .leaf (.seq [] .leaf (.seq [] .leaf (.seq [] .leaf .leaf))))))
def A_mac_Tag (l : List V) : M V := match l with | [x0, x1] => F_mac_Tag x0 x1 | _ => fail
theorem e_mac_Tag (x0 x1 : V) : funM Tryd.prog (ovr [(fid_mac_Tag_1, A_mac_Tag_1), (fid_sha_Sum, A_sha_Sum)] noC) fid_mac_Tag h_mac_Tag [x0, x1] = F_mac_Tag x0 x1 := by kernel_rfl
theorem K_mac_Tag : Known Tryd.prog fid_mac_Tag (A_mac_Tag) := known_of (σ := ovr [(fid_mac_Tag_1, A_mac_Tag_1), (fid_sha_Sum, A_sha_Sum)] noC) (hint := h_mac_Tag) (by kernel_rfl) (simAll_ovr K_mac_Tag_1 (simAll_ovr K_sha_Sum simAll_nil0)) fun l H r H' h => by
  unfold A_mac_Tag at h; split at h
  · rw [e_mac_Tag]; exact h
  · exact (fail_ne h).elim

/-! ### capstan/mac.Equal -/
def mac_Equal_k0 (vs_4 : List V) : M Out :=
  bnd (lift (bin .add (at_ vs_4 4) (Value.int .i64 1))) fun x26 =>
  ret (.nxt [(at_ vs_4 0), (at_ vs_4 1), (at_ vs_4 2), (at_ vs_4 3), x26])
def mac_Equal_k1 (vs_3 : List V) : M Out :=
  bnd (
  bnd (
    bnd (lift (idxS (at_ vs_3 0) (at_ vs_3 4))) fun x20 =>
    bnd (lift (idxS (at_ vs_3 1) (at_ vs_3 4))) fun x23 =>
    bnd (lift (bin .xor x20 x23)) fun x24 =>
    bnd (lift (bin .or (at_ vs_3 2) x24)) fun x25 =>
    ret (.nxt [(at_ vs_3 0), (at_ vs_3 1), x25, (at_ vs_3 3), (at_ vs_3 4)])
    ) fun o => ret (unblk 1 o)
  ) fun o => nx o mac_Equal_k0
def mac_Equal_l2 (vs_2 : List V) : M Out :=
  bnd (lift (bin .lss (at_ vs_2 4) (at_ vs_2 3))) fun x15 =>
  bnd (
  condM x15 (
    ret (.nxt [(at_ vs_2 0), (at_ vs_2 1), (at_ vs_2 2), (at_ vs_2 3), (at_ vs_2 4)])
    ) (
    ret (.brk 0 [(at_ vs_2 2)])
    )
  ) fun o => nx o mac_Equal_k1
def mac_Equal_k3 (vs_5 : List V) : M Out :=
  bnd (lift (bin .eql (at_ vs_5 0) (Value.int .u8 0))) fun x28 =>
  ret (.ret [x28])
def mac_Equal_k4 (vs : List V) : M Out :=
  bnd (
    bnd (lift (lenStr (at_ vs 0))) fun x13 =>
    bnd (
      loopM FUEL mac_Equal_l2 [(at_ vs 0), (at_ vs 1), (Value.int .u8 0), x13, (Value.int .i64 0)]
      ) fun o => ret (unblk 0 o)
    ) fun o => nx o mac_Equal_k3
def F_mac_Equal (x0 x1 : V) : M V :=
  bnd (
    bnd (
      bnd (lift (lenStr x0)) fun x8 =>
      bnd (lift (lenStr x1)) fun x10 =>
      bnd (lift (bin .neq x8 x10)) fun x11 =>
      condM x11 (
        ret (.ret [(Value.bool false)])
        ) (
        ret (.nxt [x0, x1])
        )
      ) fun o => nx o mac_Equal_k4
    ) fun o => finM o fun vs => ret (outV [(at_ vs 0)])
def h_mac_Equal : Hint := (.seq [] .leaf (.seq [0, 1] (.seq [] .leaf (.cond (.seq [] .leaf .leaf) .leaf)) (.seq [] .leaf (.seq [5] (.seq [] .leaf (.blk (.loop [0, 1, 5, 13, 14] (.seq [] .leaf (.seq [0, 1, 5, 13, 14] (.cond .leaf .leaf) (.seq [0, 1, 5, 13, 14] (.blk (.seq [] .leaf (.reg [0, 1, 2, 3, 4, 5, 6, 7, 8, 9] []))) .leaf)))))) (.seq [] .leaf .leaf)))))
def A_mac_Equal (l : List V) : M V := match l with | [x0, x1] => F_mac_Equal x0 x1 | _ => fail
theorem e_mac_Equal (x0 x1 : V) : funM Tryd.prog (ovr [] noC) fid_mac_Equal h_mac_Equal [x0, x1] = F_mac_Equal x0 x1 := by kernel_rfl
theorem K_mac_Equal : Known Tryd.prog fid_mac_Equal (A_mac_Equal) := known_of (σ := ovr [] noC) (hint := h_mac_Equal) (by kernel_rfl) simAll_nil0 fun l H r H' h => by
  unfold A_mac_Equal at h; split at h
  · rw [e_mac_Equal]; exact h
  · exact (fail_ne h).elim

/-! ### capstan/capstanlaw02.works -/
def F_law02_works : M V :=
  bnd (
    bnd (A_mac_Tag [(Value.string ⟨#[74, 101, 102, 101]⟩), (Value.string ⟨#[119, 104, 97, 116, 32, 100, 111, 32, 121, 97, 32, 119, 97, 110, 116, 32, 102, 111, 114, 32, 110, 111, 116, 104, 105, 110, 103, 63]⟩)]) fun x1 =>
    bnd (A_sha_Hex [x1]) fun x2 =>
    bnd (lift (bin .eql x2 (Value.string ⟨#[53, 98, 100, 99, 99, 49, 52, 54, 98, 102, 54, 48, 55, 53, 52, 101, 54, 97, 48, 52, 50, 52, 50, 54, 48, 56, 57, 53, 55, 53, 99, 55, 53, 97, 48, 48, 51, 102, 48, 56, 57, 100, 50, 55, 51, 57, 56, 51, 57, 100, 101, 99, 53, 56, 98, 57, 54, 52, 101, 99, 51, 56, 52, 51]⟩))) fun x3 =>
    bnd (gd x3 true (A_mac_Equal [(Value.string ⟨#[97]⟩), (Value.string ⟨#[97]⟩)])) fun x5 =>
    bnd (lift (pickV x3 x5 (Value.bool false))) fun x6 =>
    bnd (gd x6 true (A_mac_Equal [(Value.string ⟨#[97]⟩), (Value.string ⟨#[98]⟩)])) fun x8 =>
    bnd (gd x6 true (lift (un .not x8))) fun x9 =>
    bnd (lift (pickV x6 x9 (Value.bool false))) fun x10 =>
    ret (.ret [x10])
    ) fun o => finM o fun vs => ret (outV [(at_ vs 0)])
def h_law02_works : Hint := (.seq [] .leaf (.seq [] .leaf .leaf))
def A_law02_works (l : List V) : M V := match l with | [] => F_law02_works  | _ => fail
theorem e_law02_works : funM Tryd.prog (ovr [(fid_mac_Tag, A_mac_Tag), (fid_sha_Hex, A_sha_Hex), (fid_mac_Equal, A_mac_Equal)] noC) fid_law02_works h_law02_works [] = F_law02_works  := by kernel_rfl
theorem K_law02_works : Known Tryd.prog fid_law02_works (A_law02_works) := known_of (σ := ovr [(fid_mac_Tag, A_mac_Tag), (fid_sha_Hex, A_sha_Hex), (fid_mac_Equal, A_mac_Equal)] noC) (hint := h_law02_works) (by kernel_rfl) (simAll_ovr K_mac_Tag (simAll_ovr K_sha_Hex (simAll_ovr K_mac_Equal simAll_nil0))) fun l H r H' h => by
  unfold A_law02_works at h; split at h
  · rw [e_law02_works]; exact h
  · exact (fail_ne h).elim

/-! ### capstan/capstanlaw02.MacKeys -/
def law02_MacKeys_k0 (vs_2 : List V) : M Out :=
  bnd (lift (cvi .u64 (at_ vs_2 2))) fun x22 =>
  bnd (lift (lenStr (at_ vs_2 0))) fun x24 =>
  bnd (lift (bin .sub (Value.int .i64 65) x24)) fun x25 =>
  bnd (lift (cvi .u64 x25)) fun x26 =>
  bnd (lift (bin .rem x22 x26)) fun x27 =>
  bnd (lift (cvi .i64 x27)) fun x28 =>
  bnd (mkslc 1 1 [Value.int .u8 0] x28 x28) fun x31 =>
  bnd (b2s x31) fun x32 =>
  bnd (lift (bin .add (at_ vs_2 0) x32)) fun x33 =>
  bnd (A_mac_Tag [x33, (at_ vs_2 1)]) fun x35 =>
  bnd (A_mac_Tag [(at_ vs_2 0), (at_ vs_2 1)]) fun x38 =>
  bnd (lift (bin .eql x35 x38)) fun x39 =>
  ret (.ret [x39])
def law02_MacKeys_k1 (vs : List V) : M Out :=
  bnd (
    bnd (lift (lenStr (at_ vs 0))) fun x11 =>
    bnd (lift (bin .gtr x11 (Value.int .i64 64))) fun x12 =>
    condM x12 (
      bnd (A_mac_Tag [(at_ vs 0), (at_ vs 1)]) fun x15 =>
      bnd (A_sha_Sum [(at_ vs 0)]) fun x17 =>
      bnd (A_mac_Tag [x17, (at_ vs 1)]) fun x19 =>
      bnd (lift (bin .eql x15 x19)) fun x20 =>
      ret (.ret [x20])
      ) (
      ret (.nxt [(at_ vs 0), (at_ vs 1), (at_ vs 2)])
      )
    ) fun o => nx o law02_MacKeys_k0
def F_law02_MacKeys (x0 x1 x2 : V) : M V :=
  bnd (
    bnd (
      bnd (A_law02_works []) fun x8 =>
      bnd (lift (un .not x8)) fun x9 =>
      condM x9 (
        ret (.ret [(Value.bool false)])
        ) (
        ret (.nxt [x0, x1, x2])
        )
      ) fun o => nx o law02_MacKeys_k1
    ) fun o => finM o fun vs => ret (outV [(at_ vs 0)])
def h_law02_MacKeys : Hint := (.seq [] .leaf (.seq [0, 1, 2] (.seq [] .leaf (.cond (.seq [] .leaf .leaf) .leaf)) (.seq [0, 1, 2] (.seq [] .leaf (.cond (.seq [] .leaf .leaf) .leaf)) (.seq [] .leaf (.seq [] .leaf .leaf)))))
def A_law02_MacKeys (l : List V) : M V := match l with | [x0, x1, x2] => F_law02_MacKeys x0 x1 x2 | _ => fail
theorem e_law02_MacKeys (x0 x1 x2 : V) : funM Tryd.prog (ovr [(fid_law02_works, A_law02_works), (fid_mac_Tag, A_mac_Tag), (fid_sha_Sum, A_sha_Sum)] noC) fid_law02_MacKeys h_law02_MacKeys [x0, x1, x2] = F_law02_MacKeys x0 x1 x2 := by kernel_rfl
theorem K_law02_MacKeys : Known Tryd.prog fid_law02_MacKeys (A_law02_MacKeys) := known_of (σ := ovr [(fid_law02_works, A_law02_works), (fid_mac_Tag, A_mac_Tag), (fid_sha_Sum, A_sha_Sum)] noC) (hint := h_law02_MacKeys) (by kernel_rfl) (simAll_ovr K_law02_works (simAll_ovr K_mac_Tag (simAll_ovr K_sha_Sum simAll_nil0))) fun l H r H' h => by
  unfold A_law02_MacKeys at h; split at h
  · rw [e_law02_MacKeys]; exact h
  · exact (fail_ne h).elim

/-! ### capstan/capstanref02.fitted -/
def ref02_fitted_k0 (vs_3 : List V) : M Out :=
  bnd (
  bnd (bslc 1 1 (rep 1 [Value.int .u8 0]) [(0, 1, (Value.int .u8 0))]) fun x15 =>
  bnd (appV 1 1 (at_ vs_3 0) x15) fun x16 =>
  ret (.nxt [x16])
  ) fun o => ret (unblk 1 o)
def ref02_fitted_l1 (vs_2 : List V) : M Out :=
  bnd (
  bnd (lift (lenSlc (at_ vs_2 0))) fun x12 =>
  bnd (lift (bin .lss x12 (Value.int .i64 64))) fun x13 =>
  condM x13 (
    ret (.nxt [(at_ vs_2 0)])
    ) (
    ret (.brk 0 [(at_ vs_2 0)])
    )
  ) fun o => nx o ref02_fitted_k0
def ref02_fitted_k2 (vs_4 : List V) : M Out :=
  ret (.ret [(at_ vs_4 0)])
def ref02_fitted_k3 (vs : List V) : M Out :=
  bnd (s2b (at_ vs 0)) fun x10 =>
  bnd (
    bnd (
      loopM FUEL ref02_fitted_l1 [x10]
      ) fun o => ret (unblk 0 o)
    ) fun o => nx o ref02_fitted_k2
def F_ref02_fitted (x0 : V) : M V :=
  bnd (
    bnd (
      bnd (lift (lenStr x0)) fun x5 =>
      bnd (lift (bin .gtr x5 (Value.int .i64 64))) fun x6 =>
      condM x6 (
        bnd (A_ref01_Sum [x0]) fun x8 =>
        ret (.nxt [x8])
        ) (
        ret (.nxt [x0])
        )
      ) fun o => nx o ref02_fitted_k3
    ) fun o => finM o fun vs => ret (outV [(at_ vs 0)])
def h_ref02_fitted : Hint := (.seq [] .leaf (.seq [0] (.seq [] .leaf (.cond .leaf .leaf)) (.seq [] .leaf (.seq [3] (.blk (.loop [3] (.seq [3] (.seq [] .leaf (.cond .leaf .leaf)) (.blk .leaf)))) (.seq [] .leaf .leaf)))))
def A_ref02_fitted (l : List V) : M V := match l with | [x0] => F_ref02_fitted x0 | _ => fail
theorem e_ref02_fitted (x0 : V) : funM Tryd.prog (ovr [(fid_ref01_Sum, A_ref01_Sum)] noC) fid_ref02_fitted h_ref02_fitted [x0] = F_ref02_fitted x0 := by kernel_rfl
theorem K_ref02_fitted : Known Tryd.prog fid_ref02_fitted (A_ref02_fitted) := known_of (σ := ovr [(fid_ref01_Sum, A_ref01_Sum)] noC) (hint := h_ref02_fitted) (by kernel_rfl) (simAll_ovr K_ref01_Sum simAll_nil0) fun l H r H' h => by
  unfold A_ref02_fitted at h; split at h
  · rw [e_ref02_fitted]; exact h
  · exact (fail_ne h).elim

/-! ### capstan/capstanref02.with -/
def ref02_with_k0 (vs_3 : List V) : M Out :=
  bnd (lift (bin .add (at_ vs_3 3) (Value.int .i64 1))) fun x12 =>
  ret (.nxt [(at_ vs_3 0), (at_ vs_3 1), (at_ vs_3 2), x12])
def ref02_with_k1 (vs_2 : List V) : M Out :=
  bnd (
  bnd (
    bnd (lift (iaddrS 1 (at_ vs_2 0) (at_ vs_2 3))) fun x16 =>
    bnd (ld1 x16) fun x17 =>
    bnd (lift (bin .xor x17 (at_ vs_2 1))) fun x19 =>
    bnd (bslc 1 1 (rep 1 [Value.int .u8 0]) [(0, 1, x19)]) fun x20 =>
    bnd (appV 1 1 (at_ vs_2 2) x20) fun x21 =>
    ret (.nxt [(at_ vs_2 0), (at_ vs_2 1), x21, (at_ vs_2 3)])
    ) fun o => ret (unblk 1 o)
  ) fun o => nx o ref02_with_k0
def ref02_with_l2 (vs : List V) : M Out :=
  bnd (
  bnd (lift (lenSlc (at_ vs 0))) fun x9 =>
  bnd (lift (bin .lss (at_ vs 3) x9)) fun x10 =>
  condM x10 (
    ret (.nxt [(at_ vs 0), (at_ vs 1), (at_ vs 2), (at_ vs 3)])
    ) (
    ret (.brk 0 [(at_ vs 2)])
    )
  ) fun o => nx o ref02_with_k1
def ref02_with_k3 (vs_4 : List V) : M Out :=
  bnd (b2s (at_ vs_4 0)) fun x23 =>
  ret (.ret [x23])
def F_ref02_with (x0 x1 : V) : M V :=
  bnd (
    bnd (
      bnd (
        loopM FUEL ref02_with_l2 [x0, x1, (Value.slice none 0 0), (Value.int .i64 0)]
        ) fun o => ret (unblk 0 o)
      ) fun o => nx o ref02_with_k3
    ) fun o => finM o fun vs => ret (outV [(at_ vs 0)])
def h_ref02_with : Hint := (.seq [] .leaf (.seq [] .leaf (.seq [5] (.seq [] .leaf (.blk (.loop [0, 1, 5, 6] (.seq [0, 1, 5, 6] (.seq [] .leaf (.cond .leaf .leaf)) (.seq [0, 1, 5, 6] (.blk .leaf) .leaf))))) (.seq [] .leaf .leaf))))
def A_ref02_with (l : List V) : M V := match l with | [x0, x1] => F_ref02_with x0 x1 | _ => fail
theorem e_ref02_with (x0 x1 : V) : funM Tryd.prog (ovr [] noC) fid_ref02_with h_ref02_with [x0, x1] = F_ref02_with x0 x1 := by kernel_rfl
theorem K_ref02_with : Known Tryd.prog fid_ref02_with (A_ref02_with) := known_of (σ := ovr [] noC) (hint := h_ref02_with) (by kernel_rfl) simAll_nil0 fun l H r H' h => by
  unfold A_ref02_with at h; split at h
  · rw [e_ref02_with]; exact h
  · exact (fail_ne h).elim

/-! ### capstan/capstanref02.Tag -/
def F_ref02_Tag (x0 x1 : V) : M V :=
  bnd (
    bnd (A_ref02_fitted [x0]) fun x7 =>
    bnd (A_ref02_with [x7, (Value.int .u8 92)]) fun x9 =>
    bnd (A_ref02_with [x7, (Value.int .u8 54)]) fun x11 =>
    bnd (lift (bin .add x11 x1)) fun x13 =>
    bnd (A_ref01_Sum [x13]) fun x14 =>
    bnd (lift (bin .add x9 x14)) fun x15 =>
    bnd (A_ref01_Sum [x15]) fun x16 =>
    ret (.ret [x16])
    ) fun o => finM o fun vs => ret (outV [(at_ vs 0)])
def h_ref02_Tag : Hint := (.seq [] .leaf (.seq [] .leaf (.seq [] .leaf .leaf)))
def A_ref02_Tag (l : List V) : M V := match l with | [x0, x1] => F_ref02_Tag x0 x1 | _ => fail
theorem e_ref02_Tag (x0 x1 : V) : funM Tryd.prog (ovr [(fid_ref02_fitted, A_ref02_fitted), (fid_ref02_with, A_ref02_with), (fid_ref01_Sum, A_ref01_Sum)] noC) fid_ref02_Tag h_ref02_Tag [x0, x1] = F_ref02_Tag x0 x1 := by kernel_rfl
theorem K_ref02_Tag : Known Tryd.prog fid_ref02_Tag (A_ref02_Tag) := known_of (σ := ovr [(fid_ref02_fitted, A_ref02_fitted), (fid_ref02_with, A_ref02_with), (fid_ref01_Sum, A_ref01_Sum)] noC) (hint := h_ref02_Tag) (by kernel_rfl) (simAll_ovr K_ref02_fitted (simAll_ovr K_ref02_with (simAll_ovr K_ref01_Sum simAll_nil0))) fun l H r H' h => by
  unfold A_ref02_Tag at h; split at h
  · rw [e_ref02_Tag]; exact h
  · exact (fail_ne h).elim

/-! ### capstan/mac.Make -/
def F_mac_Make (x0 x1 : V) : M V :=
  bnd (
    bnd (A_mac_Tag [x0, x1]) fun x7 =>
    ret (.ret [x7])
    ) fun o => finM o fun vs => ret (outV [(at_ vs 0)])
def h_mac_Make : Hint := (.seq [] .leaf (.seq [] .leaf .leaf))
def A_mac_Make (l : List V) : M V := match l with | [x0, x1] => F_mac_Make x0 x1 | _ => fail
theorem e_mac_Make (x0 x1 : V) : funM Tryd.prog (ovr [(fid_mac_Tag, A_mac_Tag)] noC) fid_mac_Make h_mac_Make [x0, x1] = F_mac_Make x0 x1 := by kernel_rfl
theorem K_mac_Make : Known Tryd.prog fid_mac_Make (A_mac_Make) := known_of (σ := ovr [(fid_mac_Tag, A_mac_Tag)] noC) (hint := h_mac_Make) (by kernel_rfl) (simAll_ovr K_mac_Tag simAll_nil0) fun l H r H' h => by
  unfold A_mac_Make at h; split at h
  · rw [e_mac_Make]; exact h
  · exact (fail_ne h).elim

/-! ### capstan/mac.Check -/
def mac_Check_k0 (vs : List V) : M Out :=
  ret (.ret [(Value.int .i64 0)])
def F_mac_Check (x0 x1 x2 : V) : M V :=
  bnd (
    bnd (
      bnd (A_mac_Tag [x0, x1]) fun x9 =>
      bnd (A_mac_Equal [x9, x2]) fun x11 =>
      bnd (lift (un .not x11)) fun x12 =>
      condM x12 (
        ret (.ret [(Value.int .i64 20)])
        ) (
        ret (.nxt [])
        )
      ) fun o => nx o mac_Check_k0
    ) fun o => finM o fun vs => ret (outV [(at_ vs 0)])
def h_mac_Check : Hint := (.seq [] .leaf (.seq [] (.seq [] .leaf (.cond (.seq [] .leaf .leaf) .leaf)) (.seq [] .leaf .leaf)))
def A_mac_Check (l : List V) : M V := match l with | [x0, x1, x2] => F_mac_Check x0 x1 x2 | _ => fail
theorem e_mac_Check (x0 x1 x2 : V) : funM Tryd.prog (ovr [(fid_mac_Tag, A_mac_Tag), (fid_mac_Equal, A_mac_Equal)] noC) fid_mac_Check h_mac_Check [x0, x1, x2] = F_mac_Check x0 x1 x2 := by kernel_rfl
theorem K_mac_Check : Known Tryd.prog fid_mac_Check (A_mac_Check) := known_of (σ := ovr [(fid_mac_Tag, A_mac_Tag), (fid_mac_Equal, A_mac_Equal)] noC) (hint := h_mac_Check) (by kernel_rfl) (simAll_ovr K_mac_Tag (simAll_ovr K_mac_Equal simAll_nil0)) fun l H r H' h => by
  unfold A_mac_Check at h; split at h
  · rw [e_mac_Check]; exact h
  · exact (fail_ne h).elim

/-! ### capstan/capstanref02.Check -/
def ref02_Check_k0 (vs : List V) : M Out :=
  ret (.ret [(Value.int .i64 0)])
def F_ref02_Check (x0 x1 x2 : V) : M V :=
  bnd (
    bnd (
      bnd (A_ref02_Tag [x0, x1]) fun x9 =>
      bnd (lift (bin .neq x9 x2)) fun x11 =>
      condM x11 (
        ret (.ret [(Value.int .i64 20)])
        ) (
        ret (.nxt [])
        )
      ) fun o => nx o ref02_Check_k0
    ) fun o => finM o fun vs => ret (outV [(at_ vs 0)])
def h_ref02_Check : Hint := (.seq [] .leaf (.seq [] (.seq [] .leaf (.cond (.seq [] .leaf .leaf) .leaf)) (.seq [] .leaf .leaf)))
def A_ref02_Check (l : List V) : M V := match l with | [x0, x1, x2] => F_ref02_Check x0 x1 x2 | _ => fail
theorem e_ref02_Check (x0 x1 x2 : V) : funM Tryd.prog (ovr [(fid_ref02_Tag, A_ref02_Tag)] noC) fid_ref02_Check h_ref02_Check [x0, x1, x2] = F_ref02_Check x0 x1 x2 := by kernel_rfl
theorem K_ref02_Check : Known Tryd.prog fid_ref02_Check (A_ref02_Check) := known_of (σ := ovr [(fid_ref02_Tag, A_ref02_Tag)] noC) (hint := h_ref02_Check) (by kernel_rfl) (simAll_ovr K_ref02_Tag simAll_nil0) fun l H r H' h => by
  unfold A_ref02_Check at h; split at h
  · rw [e_ref02_Check]; exact h
  · exact (fail_ne h).elim

/-! ### capstan/capstanlaw02.MacTags -/
def F_law02_MacTags (x0 x1 x2 : V) : M V :=
  bnd (
    bnd (A_ref02_Tag [x0, x1]) fun x10 =>
    bnd (gd (Value.bool true) true (lift (some x0))) fun x12 =>
    bnd (gd (Value.bool true) true (lift (some x1))) fun x13 =>
    bnd (gd (Value.bool true) true (A_mac_Tag [x12, x13])) fun x14 =>
    bnd (gd (Value.bool true) true (lift (some x10))) fun x15 =>
    bnd (gd (Value.bool true) true (lift (bin .eql x14 x15))) fun x16 =>
    bnd (lift (pickV (Value.bool true) x16 (Value.bool false))) fun x17 =>
    bnd (gd x17 true (lift (some x0))) fun x19 =>
    bnd (gd x17 true (lift (some x1))) fun x20 =>
    bnd (gd x17 true (A_mac_Make [x19, x20])) fun x21 =>
    bnd (gd x17 true (lift (some x10))) fun x22 =>
    bnd (gd x17 true (lift (bin .eql x21 x22))) fun x23 =>
    bnd (lift (pickV x17 x23 (Value.bool false))) fun x24 =>
    bnd (gd x24 true (lift (some x1))) fun x26 =>
    bnd (gd x24 true (lift (some x2))) fun x27 =>
    bnd (gd x24 true (A_mac_Equal [x26, x27])) fun x28 =>
    bnd (gd x24 true (lift (some x1))) fun x29 =>
    bnd (gd x24 true (lift (some x2))) fun x30 =>
    bnd (gd x24 true (lift (bin .eql x29 x30))) fun x31 =>
    bnd (gd x24 true (lift (notIf false (eqK .b x28 x31)))) fun x32 =>
    bnd (lift (pickV x24 x32 (Value.bool false))) fun x33 =>
    bnd (gd x33 true (lift (some x0))) fun x35 =>
    bnd (gd x33 true (lift (some x1))) fun x36 =>
    bnd (gd x33 true (lift (some x10))) fun x37 =>
    bnd (gd x33 true (A_mac_Check [x35, x36, x37])) fun x38 =>
    bnd (gd x33 true (lift (bin .eql x38 (Value.int .i64 0)))) fun x39 =>
    bnd (lift (pickV x33 x39 (Value.bool false))) fun x40 =>
    bnd (gd x40 true (lift (some x0))) fun x42 =>
    bnd (gd x40 true (lift (some x1))) fun x43 =>
    bnd (gd x40 true (lift (some x2))) fun x44 =>
    bnd (gd x40 true (A_mac_Check [x42, x43, x44])) fun x45 =>
    bnd (gd x40 true (lift (some x0))) fun x46 =>
    bnd (gd x40 true (lift (some x1))) fun x47 =>
    bnd (gd x40 true (lift (some x2))) fun x48 =>
    bnd (gd x40 true (A_ref02_Check [x46, x47, x48])) fun x49 =>
    bnd (gd x40 true (lift (bin .eql x45 x49))) fun x50 =>
    bnd (lift (pickV x40 x50 (Value.bool false))) fun x51 =>
    bnd (gd x51 true (A_law02_works [])) fun x53 =>
    bnd (lift (pickV x51 x53 (Value.bool false))) fun x54 =>
    ret (.ret [x54])
    ) fun o => finM o fun vs => ret (outV [(at_ vs 0)])
def h_law02_MacTags : Hint := (.seq [] .leaf (.seq [] .leaf (.seq [] .leaf .leaf)))
def A_law02_MacTags (l : List V) : M V := match l with | [x0, x1, x2] => F_law02_MacTags x0 x1 x2 | _ => fail
theorem e_law02_MacTags (x0 x1 x2 : V) : funM Tryd.prog (ovr [(fid_ref02_Tag, A_ref02_Tag), (fid_mac_Tag, A_mac_Tag), (fid_mac_Make, A_mac_Make), (fid_mac_Equal, A_mac_Equal), (fid_mac_Check, A_mac_Check), (fid_ref02_Check, A_ref02_Check), (fid_law02_works, A_law02_works)] noC) fid_law02_MacTags h_law02_MacTags [x0, x1, x2] = F_law02_MacTags x0 x1 x2 := by kernel_rfl
theorem K_law02_MacTags : Known Tryd.prog fid_law02_MacTags (A_law02_MacTags) := known_of (σ := ovr [(fid_ref02_Tag, A_ref02_Tag), (fid_mac_Tag, A_mac_Tag), (fid_mac_Make, A_mac_Make), (fid_mac_Equal, A_mac_Equal), (fid_mac_Check, A_mac_Check), (fid_ref02_Check, A_ref02_Check), (fid_law02_works, A_law02_works)] noC) (hint := h_law02_MacTags) (by kernel_rfl) (simAll_ovr K_ref02_Tag (simAll_ovr K_mac_Tag (simAll_ovr K_mac_Make (simAll_ovr K_mac_Equal (simAll_ovr K_mac_Check (simAll_ovr K_ref02_Check (simAll_ovr K_law02_works simAll_nil0))))))) fun l H r H' h => by
  unfold A_law02_MacTags at h; split at h
  · rw [e_law02_MacTags]; exact h
  · exact (fail_ne h).elim

/-! ### capstan/mac.Open -/
def mac_Open_k0 (vs_2 : List V) : M Out :=
  bnd (lift (subS (at_ vs_2 0) none (some (at_ vs_2 1)))) fun x27 =>
  ret (.ret [x27, (Value.int .i64 0)])
def mac_Open_k1 (vs : List V) : M Out :=
  bnd (lift (lenStr (at_ vs 1))) fun x12 =>
  bnd (lift (bin .sub x12 (Value.int .i64 32))) fun x13 =>
  bnd (
    bnd (lift (subS (at_ vs 1) none (some x13))) fun x17 =>
    bnd (lift (subS (at_ vs 1) (some x13) none)) fun x20 =>
    bnd (A_mac_Check [(at_ vs 0), x17, x20]) fun x21 =>
    bnd (lift (bin .neq x21 (Value.int .i64 0))) fun x23 =>
    condM x23 (
      ret (.ret [(Value.string ⟨#[]⟩), x21])
      ) (
      ret (.nxt [(at_ vs 1), x13])
      )
    ) fun o => nx o mac_Open_k0
def F_mac_Open (x0 x1 : V) : M V :=
  bnd (
    bnd (
      bnd (lift (lenStr x1)) fun x9 =>
      bnd (lift (bin .lss x9 (Value.int .i64 32))) fun x10 =>
      condM x10 (
        ret (.ret [(Value.string ⟨#[]⟩), (Value.int .i64 20)])
        ) (
        ret (.nxt [x0, x1])
        )
      ) fun o => nx o mac_Open_k1
    ) fun o => finM o fun vs => ret (outV [(at_ vs 0), (at_ vs 1)])
def h_mac_Open : Hint := (.seq [] .leaf (.seq [0, 1] (.seq [] .leaf (.cond (.seq [] .leaf .leaf) .leaf)) (.seq [] .leaf (.seq [1, 6] (.seq [] (.reg [0, 1, 2, 3, 4, 5, 6, 7, 8] []) (.seq [] .leaf (.cond (.seq [] .leaf .leaf) .leaf))) (.seq [] .leaf .leaf)))))
def A_mac_Open (l : List V) : M V := match l with | [x0, x1] => F_mac_Open x0 x1 | _ => fail
theorem e_mac_Open (x0 x1 : V) : funM Tryd.prog (ovr [(fid_mac_Check, A_mac_Check)] noC) fid_mac_Open h_mac_Open [x0, x1] = F_mac_Open x0 x1 := by kernel_rfl
theorem K_mac_Open : Known Tryd.prog fid_mac_Open (A_mac_Open) := known_of (σ := ovr [(fid_mac_Check, A_mac_Check)] noC) (hint := h_mac_Open) (by kernel_rfl) (simAll_ovr K_mac_Check simAll_nil0) fun l H r H' h => by
  unfold A_mac_Open at h; split at h
  · rw [e_mac_Open]; exact h
  · exact (fail_ne h).elim

/-! ### capstan/capstanref02.Open -/
def ref02_Open_k0 (vs : List V) : M Out :=
  bnd (lift (subS (at_ vs 0) none (some (at_ vs 1)))) fun x25 =>
  ret (.ret [x25, (Value.int .i64 0)])
def F_ref02_Open (x0 x1 : V) : M V :=
  bnd (
    bnd (lift (lenStr x1)) fun x8 =>
    bnd (lift (bin .sub x8 (Value.int .i64 32))) fun x9 =>
    bnd (
      bnd (lift (bin .lss x9 (Value.int .i64 0))) fun x11 =>
      bnd (gd x11 false (lift (some x0))) fun x13 =>
      bnd (gd x11 false (lift (some x1))) fun x14 =>
      bnd (gd x11 false (lift (some x9))) fun x15 =>
      bnd (gd x11 false (lift (subS x14 none (some x15)))) fun x16 =>
      bnd (gd x11 false (lift (some x1))) fun x18 =>
      bnd (gd x11 false (lift (some x9))) fun x19 =>
      bnd (gd x11 false (lift (subS x18 (some x19) none))) fun x20 =>
      bnd (gd x11 false (A_ref02_Tag [x13, x16])) fun x17 =>
      bnd (gd x11 false (lift (bin .neq x17 x20))) fun x21 =>
      bnd (lift (pickV x11 (Value.bool true) x21)) fun x22 =>
      condM x22 (
        ret (.ret [(Value.string ⟨#[]⟩), (Value.int .i64 20)])
        ) (
        ret (.nxt [x1, x9])
        )
      ) fun o => nx o ref02_Open_k0
    ) fun o => finM o fun vs => ret (outV [(at_ vs 0), (at_ vs 1)])
def h_ref02_Open : Hint := (.seq [] .leaf (.seq [] .leaf (.seq [1, 6] (.seq [] (.reg [0, 1, 2, 3, 4, 5, 6, 8, 9, 10, 7, 11, 12] []) (.cond (.seq [] .leaf .leaf) .leaf)) (.seq [] .leaf .leaf))))
def A_ref02_Open (l : List V) : M V := match l with | [x0, x1] => F_ref02_Open x0 x1 | _ => fail
theorem e_ref02_Open (x0 x1 : V) : funM Tryd.prog (ovr [(fid_ref02_Tag, A_ref02_Tag)] noC) fid_ref02_Open h_ref02_Open [x0, x1] = F_ref02_Open x0 x1 := by kernel_rfl
theorem K_ref02_Open : Known Tryd.prog fid_ref02_Open (A_ref02_Open) := known_of (σ := ovr [(fid_ref02_Tag, A_ref02_Tag)] noC) (hint := h_ref02_Open) (by kernel_rfl) (simAll_ovr K_ref02_Tag simAll_nil0) fun l H r H' h => by
  unfold A_ref02_Open at h; split at h
  · rw [e_ref02_Open]; exact h
  · exact (fail_ne h).elim

/-! ### capstan/mac.Seal -/
def F_mac_Seal (x0 x1 : V) : M V :=
  bnd (
    bnd (A_mac_Tag [x0, x1]) fun x8 =>
    bnd (lift (bin .add x1 x8)) fun x9 =>
    ret (.ret [x9])
    ) fun o => finM o fun vs => ret (outV [(at_ vs 0)])
def h_mac_Seal : Hint := (.seq [] .leaf (.seq [] .leaf .leaf))
def A_mac_Seal (l : List V) : M V := match l with | [x0, x1] => F_mac_Seal x0 x1 | _ => fail
theorem e_mac_Seal (x0 x1 : V) : funM Tryd.prog (ovr [(fid_mac_Tag, A_mac_Tag)] noC) fid_mac_Seal h_mac_Seal [x0, x1] = F_mac_Seal x0 x1 := by kernel_rfl
theorem K_mac_Seal : Known Tryd.prog fid_mac_Seal (A_mac_Seal) := known_of (σ := ovr [(fid_mac_Tag, A_mac_Tag)] noC) (hint := h_mac_Seal) (by kernel_rfl) (simAll_ovr K_mac_Tag simAll_nil0) fun l H r H' h => by
  unfold A_mac_Seal at h; split at h
  · rw [e_mac_Seal]; exact h
  · exact (fail_ne h).elim

/-! ### capstan/capstanlaw02.MacSeals -/
def F_law02_MacSeals (x0 x1 x2 : V) : M V :=
  bnd (
    bnd (A_mac_Open [x0, x2]) fun x14 =>
    bnd (lift (ext 0 x14)) fun x15 =>
    bnd (lift (ext 1 x14)) fun x16 =>
    bnd (A_ref02_Open [x0, x2]) fun x20 =>
    bnd (lift (ext 0 x20)) fun x21 =>
    bnd (lift (ext 1 x20)) fun x22 =>
    bnd (A_mac_Seal [x0, x1]) fun x25 =>
    bnd (A_ref02_Tag [x0, x1]) fun x29 =>
    bnd (lift (bin .add x1 x29)) fun x30 =>
    bnd (lift (bin .eql x25 x30)) fun x31 =>
    bnd (gd x31 true (lift (some x15))) fun x33 =>
    bnd (gd x31 true (lift (some x21))) fun x34 =>
    bnd (gd x31 true (lift (bin .eql x33 x34))) fun x35 =>
    bnd (lift (pickV x31 x35 (Value.bool false))) fun x36 =>
    bnd (gd x36 true (lift (some x16))) fun x38 =>
    bnd (gd x36 true (lift (some x22))) fun x39 =>
    bnd (gd x36 true (lift (bin .eql x38 x39))) fun x40 =>
    bnd (lift (pickV x36 x40 (Value.bool false))) fun x41 =>
    bnd (gd x41 true (A_law02_works [])) fun x43 =>
    bnd (lift (pickV x41 x43 (Value.bool false))) fun x44 =>
    ret (.ret [x44])
    ) fun o => finM o fun vs => ret (outV [(at_ vs 0)])
def h_law02_MacSeals : Hint := (.seq [] .leaf (.seq [] .leaf (.seq [] .leaf (.seq [] .leaf .leaf))))
def A_law02_MacSeals (l : List V) : M V := match l with | [x0, x1, x2] => F_law02_MacSeals x0 x1 x2 | _ => fail
theorem e_law02_MacSeals (x0 x1 x2 : V) : funM Tryd.prog (ovr [(fid_mac_Open, A_mac_Open), (fid_ref02_Open, A_ref02_Open), (fid_mac_Seal, A_mac_Seal), (fid_ref02_Tag, A_ref02_Tag), (fid_law02_works, A_law02_works)] noC) fid_law02_MacSeals h_law02_MacSeals [x0, x1, x2] = F_law02_MacSeals x0 x1 x2 := by kernel_rfl
theorem K_law02_MacSeals : Known Tryd.prog fid_law02_MacSeals (A_law02_MacSeals) := known_of (σ := ovr [(fid_mac_Open, A_mac_Open), (fid_ref02_Open, A_ref02_Open), (fid_mac_Seal, A_mac_Seal), (fid_ref02_Tag, A_ref02_Tag), (fid_law02_works, A_law02_works)] noC) (hint := h_law02_MacSeals) (by kernel_rfl) (simAll_ovr K_mac_Open (simAll_ovr K_ref02_Open (simAll_ovr K_mac_Seal (simAll_ovr K_ref02_Tag (simAll_ovr K_law02_works simAll_nil0))))) fun l H r H' h => by
  unfold A_law02_MacSeals at h; split at h
  · rw [e_law02_MacSeals]; exact h
  · exact (fail_ne h).elim

/-! ### capstan/capstanlaw02.MacBack -/
def law02_MacBack_k0 (vs : List V) : M Out :=
  bnd (A_mac_Seal [(at_ vs 0), (at_ vs 1)]) fun x17 =>
  bnd (A_mac_Open [(at_ vs 0), x17]) fun x21 =>
  bnd (lift (ext 0 x21)) fun x22 =>
  bnd (lift (ext 1 x21)) fun x23 =>
  bnd (A_mac_Seal [(at_ vs 2), x17]) fun x26 =>
  bnd (A_mac_Open [(at_ vs 2), x26]) fun x30 =>
  bnd (lift (ext 0 x30)) fun x31 =>
  bnd (lift (ext 1 x30)) fun x32 =>
  bnd (lift (bin .eql x22 (at_ vs 1))) fun x35 =>
  bnd (gd x35 true (lift (some x23))) fun x37 =>
  bnd (gd x35 true (lift (bin .eql x37 (Value.int .i64 0)))) fun x38 =>
  bnd (lift (pickV x35 x38 (Value.bool false))) fun x39 =>
  bnd (gd x39 true (lift (some x31))) fun x41 =>
  bnd (gd x39 true (lift (some x17))) fun x42 =>
  bnd (gd x39 true (lift (bin .eql x41 x42))) fun x43 =>
  bnd (lift (pickV x39 x43 (Value.bool false))) fun x44 =>
  bnd (gd x44 true (lift (some x32))) fun x46 =>
  bnd (gd x44 true (lift (bin .eql x46 (Value.int .i64 0)))) fun x47 =>
  bnd (lift (pickV x44 x47 (Value.bool false))) fun x48 =>
  bnd (gd x48 true (lift (some x17))) fun x50 =>
  bnd (gd x48 true (lift (lenStr x50))) fun x51 =>
  bnd (gd x48 true (lift (some (at_ vs 1)))) fun x52 =>
  bnd (gd x48 true (lift (lenStr x52))) fun x53 =>
  bnd (gd x48 true (lift (bin .add x53 (Value.int .i64 32)))) fun x54 =>
  bnd (gd x48 true (lift (bin .eql x51 x54))) fun x55 =>
  bnd (lift (pickV x48 x55 (Value.bool false))) fun x56 =>
  ret (.ret [x56])
def F_law02_MacBack (x0 x1 x2 : V) : M V :=
  bnd (
    bnd (
      bnd (A_law02_works []) fun x13 =>
      bnd (lift (un .not x13)) fun x14 =>
      condM x14 (
        ret (.ret [(Value.bool false)])
        ) (
        ret (.nxt [x0, x1, x2])
        )
      ) fun o => nx o law02_MacBack_k0
    ) fun o => finM o fun vs => ret (outV [(at_ vs 0)])
def h_law02_MacBack : Hint := (.seq [] .leaf (.seq [0, 1, 2] (.seq [] .leaf (.cond (.seq [] .leaf .leaf) .leaf)) (.seq [] .leaf (.seq [] .leaf (.seq [] .leaf (.seq [] .leaf (.seq [] .leaf .leaf)))))))
def A_law02_MacBack (l : List V) : M V := match l with | [x0, x1, x2] => F_law02_MacBack x0 x1 x2 | _ => fail
theorem e_law02_MacBack (x0 x1 x2 : V) : funM Tryd.prog (ovr [(fid_law02_works, A_law02_works), (fid_mac_Seal, A_mac_Seal), (fid_mac_Open, A_mac_Open)] noC) fid_law02_MacBack h_law02_MacBack [x0, x1, x2] = F_law02_MacBack x0 x1 x2 := by kernel_rfl
theorem K_law02_MacBack : Known Tryd.prog fid_law02_MacBack (A_law02_MacBack) := known_of (σ := ovr [(fid_law02_works, A_law02_works), (fid_mac_Seal, A_mac_Seal), (fid_mac_Open, A_mac_Open)] noC) (hint := h_law02_MacBack) (by kernel_rfl) (simAll_ovr K_law02_works (simAll_ovr K_mac_Seal (simAll_ovr K_mac_Open simAll_nil0))) fun l H r H' h => by
  unfold A_law02_MacBack at h; split at h
  · rw [e_law02_MacBack]; exact h
  · exact (fail_ne h).elim

/-! ### capstan/capstanlaw02.MacTurns -/
def law02_MacTurns_k0 (vs_5 : List V) : M Out :=
  bnd (lift (bin .eql (at_ vs_5 2) (Value.int .i64 20))) fun x88 =>
  bnd (gd x88 false (lift (some (at_ vs_5 0)))) fun x90 =>
  bnd (gd x88 false (lift (some (at_ vs_5 1)))) fun x91 =>
  bnd (gd x88 false (lift (some (at_ vs_5 1)))) fun x92 =>
  bnd (gd x88 false (lift (lenStr x92))) fun x93 =>
  bnd (gd x88 false (lift (bin .sub x93 (Value.int .i64 32)))) fun x94 =>
  bnd (gd x88 false (lift (subS x91 none (some x94)))) fun x95 =>
  bnd (gd x88 false (lift (some (at_ vs_5 1)))) fun x97 =>
  bnd (gd x88 false (lift (some (at_ vs_5 1)))) fun x98 =>
  bnd (gd x88 false (lift (lenStr x98))) fun x99 =>
  bnd (gd x88 false (lift (bin .sub x99 (Value.int .i64 32)))) fun x100 =>
  bnd (gd x88 false (lift (subS x97 (some x100) none))) fun x101 =>
  bnd (gd x88 false (A_mac_Tag [x90, x95])) fun x96 =>
  bnd (gd x88 false (lift (bin .eql x96 x101))) fun x102 =>
  bnd (lift (pickV x88 (Value.bool true) x102)) fun x103 =>
  ret (.ret [x103])
def law02_MacTurns_k1 (vs_4 : List V) : M Out :=
  bnd (lift (subS (at_ vs_4 1) none (some (at_ vs_4 2)))) fun x75 =>
  bnd (A_mac_Open [(at_ vs_4 0), x75]) fun x79 =>
  bnd (lift (ext 0 x79)) fun x80 =>
  bnd (lift (ext 1 x79)) fun x81 =>
  bnd (
    bnd (lift (lenStr x75)) fun x83 =>
    bnd (lift (bin .lss x83 (Value.int .i64 32))) fun x84 =>
    condM x84 (
      bnd (lift (bin .eql x81 (Value.int .i64 20))) fun x86 =>
      ret (.ret [x86])
      ) (
      ret (.nxt [(at_ vs_4 0), x75, x81])
      )
    ) fun o => nx o law02_MacTurns_k0
def law02_MacTurns_k2 (vs_3 : List V) : M Out :=
  bnd (
    bnd (A_mac_Open [(at_ vs_3 0), (at_ vs_3 3)]) fun x53 =>
    bnd (lift (ext 0 x53)) fun x54 =>
    bnd (lift (ext 1 x53)) fun x55 =>
    bnd (lift (bin .eql x55 (Value.int .i64 0))) fun x57 =>
    bnd (gd x57 true (lift (some (at_ vs_3 0)))) fun x59 =>
    bnd (gd x57 true (lift (some (at_ vs_3 3)))) fun x60 =>
    bnd (gd x57 true (lift (some (at_ vs_3 3)))) fun x61 =>
    bnd (gd x57 true (lift (lenStr x61))) fun x62 =>
    bnd (gd x57 true (lift (bin .sub x62 (Value.int .i64 32)))) fun x63 =>
    bnd (gd x57 true (lift (subS x60 none (some x63)))) fun x64 =>
    bnd (gd x57 true (lift (some (at_ vs_3 3)))) fun x66 =>
    bnd (gd x57 true (lift (some (at_ vs_3 3)))) fun x67 =>
    bnd (gd x57 true (lift (lenStr x67))) fun x68 =>
    bnd (gd x57 true (lift (bin .sub x68 (Value.int .i64 32)))) fun x69 =>
    bnd (gd x57 true (lift (subS x66 (some x69) none))) fun x70 =>
    bnd (gd x57 true (A_mac_Tag [x59, x64])) fun x65 =>
    bnd (gd x57 true (lift (bin .neq x65 x70))) fun x71 =>
    bnd (lift (pickV x57 x71 (Value.bool false))) fun x72 =>
    condM x72 (
      ret (.ret [(Value.bool false)])
      ) (
      ret (.nxt [(at_ vs_3 0), (at_ vs_3 1), (at_ vs_3 2)])
      )
    ) fun o => nx o law02_MacTurns_k1
def law02_MacTurns_k3 (vs_2 : List V) : M Out :=
  bnd (lift (cvi .u64 (at_ vs_2 1))) fun x25 =>
  bnd (lift (lenStr (at_ vs_2 2))) fun x27 =>
  bnd (lift (cvi .u64 x27)) fun x28 =>
  bnd (lift (bin .rem x25 x28)) fun x29 =>
  bnd (lift (cvi .i64 x29)) fun x30 =>
  bnd (s2b (at_ vs_2 2)) fun x32 =>
  bnd (lift (iaddrS 1 x32 x30)) fun x35 =>
  bnd (ld1 x35) fun x36 =>
  bnd (lift (bin .xor x36 (Value.int .u8 1))) fun x37 =>
  bnd (lift (iaddrS 1 x32 x30)) fun x38 =>
  bnd (st1 x38 x37) fun _ =>
  bnd (b2s x32) fun x40 =>
  bnd (
    bnd (A_mac_Equal [(at_ vs_2 2), x40]) fun x43 =>
    bnd (gd x43 false (lift (some (at_ vs_2 2)))) fun x45 =>
    bnd (gd x43 false (lift (some (at_ vs_2 2)))) fun x46 =>
    bnd (gd x43 false (A_mac_Equal [x45, x46])) fun x47 =>
    bnd (gd x43 false (lift (un .not x47))) fun x48 =>
    bnd (lift (pickV x43 (Value.bool true) x48)) fun x49 =>
    condM x49 (
      ret (.ret [(Value.bool false)])
      ) (
      ret (.nxt [(at_ vs_2 0), (at_ vs_2 2), x30, x40])
      )
    ) fun o => nx o law02_MacTurns_k2
def law02_MacTurns_k4 (vs : List V) : M Out :=
  bnd (A_mac_Seal [(at_ vs 0), (at_ vs 1)]) fun x20 =>
  bnd (
    bnd (lift (lenStr x20)) fun x22 =>
    bnd (lift (bin .lss x22 (Value.int .i64 32))) fun x23 =>
    condM x23 (
      ret (.ret [(Value.bool false)])
      ) (
      ret (.nxt [(at_ vs 0), (at_ vs 2), x20])
      )
    ) fun o => nx o law02_MacTurns_k3
def F_law02_MacTurns (x0 x1 x2 : V) : M V :=
  bnd (
    bnd (
      bnd (A_law02_works []) fun x16 =>
      bnd (lift (un .not x16)) fun x17 =>
      condM x17 (
        ret (.ret [(Value.bool false)])
        ) (
        ret (.nxt [x0, x1, x2])
        )
      ) fun o => nx o law02_MacTurns_k4
    ) fun o => finM o fun vs => ret (outV [(at_ vs 0)])
def h_law02_MacTurns : Hint := (.seq [] .leaf (.seq [0, 1, 2] (.seq [] .leaf (.cond (.seq [] .leaf .leaf) .leaf)) (.seq [] .leaf (.seq [0, 2, 7] (.seq [] .leaf (.cond (.seq [] .leaf .leaf) .leaf)) (.seq [] .leaf (.seq [] .leaf (.seq [] .leaf (.seq [] .leaf (.seq [0, 7, 8, 10] (.seq [] .leaf (.cond (.seq [] .leaf .leaf) .leaf)) (.seq [0, 7, 8] (.seq [] .leaf (.seq [] (.reg [0, 1, 2, 3, 4, 5, 6, 7, 8, 10, 11, 12, 13, 14, 9, 15, 16] []) (.cond (.seq [] .leaf .leaf) .leaf))) (.seq [] .leaf (.seq [] .leaf (.seq [0, 13, 15] (.seq [] .leaf (.cond (.seq [] .leaf .leaf) .leaf)) (.seq [] (.reg [0, 1, 2, 3, 4, 5, 6, 7, 8, 10, 11, 12, 13, 14, 9, 15, 16, 17] []) .leaf))))))))))))))
def A_law02_MacTurns (l : List V) : M V := match l with | [x0, x1, x2] => F_law02_MacTurns x0 x1 x2 | _ => fail
theorem e_law02_MacTurns (x0 x1 x2 : V) : funM Tryd.prog (ovr [(fid_law02_works, A_law02_works), (fid_mac_Seal, A_mac_Seal), (fid_mac_Equal, A_mac_Equal), (fid_mac_Open, A_mac_Open), (fid_mac_Tag, A_mac_Tag)] noC) fid_law02_MacTurns h_law02_MacTurns [x0, x1, x2] = F_law02_MacTurns x0 x1 x2 := by kernel_rfl
theorem K_law02_MacTurns : Known Tryd.prog fid_law02_MacTurns (A_law02_MacTurns) := known_of (σ := ovr [(fid_law02_works, A_law02_works), (fid_mac_Seal, A_mac_Seal), (fid_mac_Equal, A_mac_Equal), (fid_mac_Open, A_mac_Open), (fid_mac_Tag, A_mac_Tag)] noC) (hint := h_law02_MacTurns) (by kernel_rfl) (simAll_ovr K_law02_works (simAll_ovr K_mac_Seal (simAll_ovr K_mac_Equal (simAll_ovr K_mac_Open (simAll_ovr K_mac_Tag simAll_nil0))))) fun l H r H' h => by
  unfold A_law02_MacTurns at h; split at h
  · rw [e_law02_MacTurns]; exact h
  · exact (fail_ne h).elim

end Go.AM.Cap
