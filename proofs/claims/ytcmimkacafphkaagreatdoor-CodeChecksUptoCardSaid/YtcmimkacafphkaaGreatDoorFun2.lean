import Derived.Test.YtcmimkacafphkaaGreatDoorFun
set_option linter.all false
/- Printed by amprint2.py: functions of YtcmimkacafphkaaGreatDoor on the abstract machine. -/
set_option linter.unusedVariables false
set_option maxRecDepth 100000
namespace Go.AM.Cap
open Go.AM Go.Proofs


/-! ### capstan/code.Encode -/
def code_Encode_k0 (G_strings_IndexRune : List V → M V) (G_strings_Contains : List V → M V) (vs_4 : List V) : M Out :=
  bnd (lift (bin .add (at_ vs_4 4) (Value.int .i64 1))) fun x51 =>
  ret (.nxt [(at_ vs_4 0), (at_ vs_4 1), (at_ vs_4 2), (at_ vs_4 3), x51])
def code_Encode_k1 (G_strings_IndexRune : List V → M V) (G_strings_Contains : List V → M V) (vs_3 : List V) : M Out :=
  bnd (
  bnd (
    bnd (lift (iaddrS 1 (at_ vs_3 2) (at_ vs_3 4))) fun x39 =>
    bnd (ld1 x39) fun x40 =>
    bnd (lift (faddr 2 (at_ vs_3 0))) fun x43 =>
    bnd (ld1 x43) fun x44 =>
    bnd (lift (iaddrS 1 x44 (at_ vs_3 4))) fun x46 =>
    bnd (ld1 x46) fun x47 =>
    bnd (bslc 1 2 (rep 2 [Value.int .i64 0]) [(0, 1, x40), (1, 1, x47)]) fun x48 =>
    bnd (A_code_numbers_int64 [x48]) fun x49 =>
    bnd (appV 3 32 (at_ vs_3 1) x49) fun x50 =>
    ret (.nxt [(at_ vs_3 0), x50, (at_ vs_3 2), (at_ vs_3 3), (at_ vs_3 4)])
    ) fun o => ret (unblk 1 o)
  ) fun o => nx o (code_Encode_k0 G_strings_IndexRune G_strings_Contains)
def code_Encode_l2 (G_strings_IndexRune : List V → M V) (G_strings_Contains : List V → M V) (vs_2 : List V) : M Out :=
  bnd (lift (bin .lss (at_ vs_2 4) (at_ vs_2 3))) fun x37 =>
  bnd (
  condM x37 (
    ret (.nxt [(at_ vs_2 0), (at_ vs_2 1), (at_ vs_2 2), (at_ vs_2 3), (at_ vs_2 4)])
    ) (
    ret (.brk 0 [(at_ vs_2 0), (at_ vs_2 1)])
    )
  ) fun o => nx o (code_Encode_k1 G_strings_IndexRune G_strings_Contains)
def code_Encode_k3 (G_strings_IndexRune : List V → M V) (G_strings_Contains : List V → M V) (vs_8 : List V) : M Out :=
  bnd (lift (bin .add (at_ vs_8 4) (Value.int .i64 1))) fun x71 =>
  ret (.nxt [(at_ vs_8 0), (at_ vs_8 1), (at_ vs_8 2), (at_ vs_8 3), x71])
def code_Encode_k4 (G_strings_IndexRune : List V → M V) (G_strings_Contains : List V → M V) (vs_7 : List V) : M Out :=
  bnd (
  bnd (
    bnd (lift (iaddrS 1 (at_ vs_7 2) (at_ vs_7 4))) fun x60 =>
    bnd (ld1 x60) fun x61 =>
    bnd (lift (lenSlc x61)) fun x64 =>
    bnd (bslc 1 1 (rep 1 [Value.int .i64 0]) [(0, 1, x64)]) fun x65 =>
    bnd (A_code_numbers_int [x65]) fun x66 =>
    bnd (appV 3 32 (at_ vs_7 1) x66) fun x67 =>
    bnd (A_code_numbers_int [x61]) fun x69 =>
    bnd (appV 3 32 x67 x69) fun x70 =>
    ret (.nxt [(at_ vs_7 0), x70, (at_ vs_7 2), (at_ vs_7 3), (at_ vs_7 4)])
    ) fun o => ret (unblk 3 o)
  ) fun o => nx o (code_Encode_k3 G_strings_IndexRune G_strings_Contains)
def code_Encode_l5 (G_strings_IndexRune : List V → M V) (G_strings_Contains : List V → M V) (vs_6 : List V) : M Out :=
  bnd (lift (bin .lss (at_ vs_6 4) (at_ vs_6 3))) fun x59 =>
  bnd (
  condM x59 (
    ret (.nxt [(at_ vs_6 0), (at_ vs_6 1), (at_ vs_6 2), (at_ vs_6 3), (at_ vs_6 4)])
    ) (
    ret (.brk 2 [(at_ vs_6 0), (at_ vs_6 1)])
    )
  ) fun o => nx o (code_Encode_k4 G_strings_IndexRune G_strings_Contains)
def code_Encode_k6 (G_strings_IndexRune : List V → M V) (G_strings_Contains : List V → M V) (vs_14 : List V) : M Out :=
  bnd (lift (bin .sub (at_ vs_14 3) (Value.int .i64 8))) fun x102 =>
  ret (.nxt [(at_ vs_14 0), (at_ vs_14 1), (at_ vs_14 2), x102, (at_ vs_14 4), (at_ vs_14 5), (at_ vs_14 6)])
def code_Encode_k7 (G_strings_IndexRune : List V → M V) (G_strings_Contains : List V → M V) (vs_13 : List V) : M Out :=
  bnd (
  bnd (
    bnd (lift (faddr 3 (at_ vs_13 2))) fun x104 =>
    bnd (ld1 x104) fun x105 =>
    bnd (lift (bin .shr x105 (at_ vs_13 3))) fun x107 =>
    bnd (lift (cvi .u8 x107)) fun x108 =>
    bnd (bslc 1 1 (rep 1 [Value.int .u8 0]) [(0, 1, x108)]) fun x109 =>
    bnd (appV 1 1 (at_ vs_13 1) x109) fun x110 =>
    ret (.nxt [(at_ vs_13 0), x110, (at_ vs_13 2), (at_ vs_13 3), (at_ vs_13 4), (at_ vs_13 5), (at_ vs_13 6)])
    ) fun o => ret (unblk 7 o)
  ) fun o => nx o (code_Encode_k6 G_strings_IndexRune G_strings_Contains)
def code_Encode_l8 (G_strings_IndexRune : List V → M V) (G_strings_Contains : List V → M V) (vs_12 : List V) : M Out :=
  bnd (
  bnd (lift (bin .geq (at_ vs_12 3) (Value.int .i64 0))) fun x100 =>
  condM x100 (
    ret (.nxt [(at_ vs_12 0), (at_ vs_12 1), (at_ vs_12 2), (at_ vs_12 3), (at_ vs_12 4), (at_ vs_12 5), (at_ vs_12 6)])
    ) (
    ret (.brk 6 [(at_ vs_12 0), (at_ vs_12 1), (at_ vs_12 4), (at_ vs_12 5), (at_ vs_12 6)])
    )
  ) fun o => nx o (code_Encode_k7 G_strings_IndexRune G_strings_Contains)
def code_Encode_k9 (G_strings_IndexRune : List V → M V) (G_strings_Contains : List V → M V) (vs_15 : List V) : M Out :=
  bnd (lift (bin .add (at_ vs_15 4) (Value.int .i64 1))) fun x111 =>
  ret (.nxt [(at_ vs_15 0), (at_ vs_15 1), (at_ vs_15 2), (at_ vs_15 3), x111])
def code_Encode_k10 (G_strings_IndexRune : List V → M V) (G_strings_Contains : List V → M V) (vs_11 : List V) : M Out :=
  bnd (
  bnd (
    bnd (lift (iaddrS 4 (at_ vs_11 2) (at_ vs_11 4))) fun x77 =>
    bnd (ldn 4 x77) fun x78 =>
    bnd (newc [Value.int .i64 0, Value.int .i64 0, Value.int .i64 0, Value.int .i64 0]) fun x13 =>
    bnd (stn 4 x13 x78) fun _ =>
    bnd (lift (faddr 0 x13)) fun x80 =>
    bnd (ld1 x80) fun x81 =>
    bnd (lift (cvi .u8 x81)) fun x82 =>
    bnd (lift (faddr 1 x13)) fun x83 =>
    bnd (ld1 x83) fun x84 =>
    bnd (lift (bin .shr x84 (Value.int .u64 8))) fun x85 =>
    bnd (lift (cvi .u8 x85)) fun x86 =>
    bnd (lift (faddr 1 x13)) fun x87 =>
    bnd (ld1 x87) fun x88 =>
    bnd (lift (cvi .u8 x88)) fun x89 =>
    bnd (lift (faddr 2 x13)) fun x90 =>
    bnd (ld1 x90) fun x91 =>
    bnd (lift (bin .shr x91 (Value.int .u64 8))) fun x92 =>
    bnd (lift (cvi .u8 x92)) fun x93 =>
    bnd (lift (faddr 2 x13)) fun x94 =>
    bnd (ld1 x94) fun x95 =>
    bnd (lift (cvi .u8 x95)) fun x96 =>
    bnd (bslc 1 5 (rep 5 [Value.int .u8 0]) [(0, 1, x82), (1, 1, x86), (2, 1, x89), (3, 1, x93), (4, 1, x96)]) fun x97 =>
    bnd (appV 1 1 (at_ vs_11 1) x97) fun x98 =>
    bnd (
      loopM FUEL (code_Encode_l8 G_strings_IndexRune G_strings_Contains) [(at_ vs_11 0), x98, x13, (Value.int .i64 40), (at_ vs_11 2), (at_ vs_11 3), (at_ vs_11 4)]
      ) fun o => ret (unblk 6 o)
    ) fun o => ret (unblk 5 o)
  ) fun o => nx o (code_Encode_k9 G_strings_IndexRune G_strings_Contains)
def code_Encode_l11 (G_strings_IndexRune : List V → M V) (G_strings_Contains : List V → M V) (vs_10 : List V) : M Out :=
  bnd (lift (bin .lss (at_ vs_10 4) (at_ vs_10 3))) fun x76 =>
  bnd (
  condM x76 (
    ret (.nxt [(at_ vs_10 0), (at_ vs_10 1), (at_ vs_10 2), (at_ vs_10 3), (at_ vs_10 4)])
    ) (
    ret (.brk 4 [(at_ vs_10 0), (at_ vs_10 1)])
    )
  ) fun o => nx o (code_Encode_k10 G_strings_IndexRune G_strings_Contains)
def code_Encode_k12 (G_strings_IndexRune : List V → M V) (G_strings_Contains : List V → M V) (vs_16 : List V) : M Out :=
  bnd (b2s (at_ vs_16 1)) fun x114 =>
  bnd (lift (build [Value.bool false, Value.int .i64 0, Value.string ⟨#[]⟩] [(0, 1, (Value.bool true)), (2, 1, x114)])) fun x115 =>
  bnd (bslc 3 1 (rep 1 [Value.bool false, Value.int .i64 0, Value.string ⟨#[]⟩]) [(0, 3, x115)]) fun x116 =>
  bnd (appV 3 32 (at_ vs_16 0) x116) fun x117 =>
  bnd (A_wire_Encode [x117]) fun x118 =>
  bnd (lift (ext 0 x118)) fun x119 =>
  bnd (lift (ext 1 x118)) fun x120 =>
  ret (.ret [x119, x120])
def code_Encode_k13 (G_strings_IndexRune : List V → M V) (G_strings_Contains : List V → M V) (vs_9 : List V) : M Out :=
  bnd (
    bnd (lift (faddr 5 (at_ vs_9 0))) fun x72 =>
    bnd (ld1 x72) fun x73 =>
    bnd (lift (lenSlc x73)) fun x74 =>
    bnd (
      loopM FUEL (code_Encode_l11 G_strings_IndexRune G_strings_Contains) [(at_ vs_9 1), (Value.slice none 0 0), x73, x74, (Value.int .i64 0)]
      ) fun o => ret (unblk 4 o)
    ) fun o => nx o (code_Encode_k12 G_strings_IndexRune G_strings_Contains)
def code_Encode_k14 (G_strings_IndexRune : List V → M V) (G_strings_Contains : List V → M V) (vs_5 : List V) : M Out :=
  bnd (
    bnd (lift (faddr 3 (at_ vs_5 0))) fun x52 =>
    bnd (ld1 x52) fun x53 =>
    bnd (lift (faddr 4 (at_ vs_5 0))) fun x54 =>
    bnd (ld1 x54) fun x55 =>
    bnd (bslc 1 2 (rep 2 [Value.slice none 0 0]) [(0, 1, x53), (1, 1, x55)]) fun x56 =>
    bnd (lift (lenSlc x56)) fun x57 =>
    bnd (
      loopM FUEL (code_Encode_l5 G_strings_IndexRune G_strings_Contains) [(at_ vs_5 0), (at_ vs_5 1), x56, x57, (Value.int .i64 0)]
      ) fun o => ret (unblk 2 o)
    ) fun o => nx o (code_Encode_k13 G_strings_IndexRune G_strings_Contains)
def code_Encode_k15 (G_strings_IndexRune : List V → M V) (G_strings_Contains : List V → M V) (vs : List V) : M Out :=
  withResv 2 fun base h0 =>
  bnd (lift (faddr 0 (at_ vs 0))) fun x23 =>
  bnd (lift (faddr 1 (at_ vs 0))) fun x27 =>
  bnd (ld1 x23) fun x24 =>
  bnd (lift (build [Value.bool false, Value.int .i64 0, Value.string ⟨#[]⟩] [(0, 1, (Value.bool true)), (2, 1, x24)])) fun x25 =>
  bnd (ld1 x27) fun x28 =>
  bnd (lift (lenSlc x28)) fun x29 =>
  bnd (flt (base + 1) (bslc 1 1 (rep 1 [Value.int .i64 0]) [(0, 1, x29)])) fun x30 =>
  bndH (A_code_numbers_int [x30]) fun ha x31 h1 =>
  need (freeIn ha [base + 0] && freeIn h1 [base + 0]) <|
  bnd (flt (base + 0) (bslc 3 1 (rep 1 [Value.bool false, Value.int .i64 0, Value.string ⟨#[]⟩]) [(0, 3, x25)])) fun x26 =>
  bndH (appV 3 32 x26 x31) fun ha_2 x32 h2 =>
  need (chk (ld1 x23) h1 x24) <|
  bnd (
    bnd (lift (faddr 1 (at_ vs 0))) fun x33 =>
    bnd (ld1 x33) fun x34 =>
    bnd (lift (lenSlc x34)) fun x35 =>
    bnd (
      loopM FUEL (code_Encode_l2 G_strings_IndexRune G_strings_Contains) [(at_ vs 0), x32, x34, x35, (Value.int .i64 0)]
      ) fun o => ret (unblk 0 o)
    ) fun o => nx o (code_Encode_k14 G_strings_IndexRune G_strings_Contains)
def F_code_Encode (G_strings_IndexRune : List V → M V) (G_strings_Contains : List V → M V) (x0 : V) : M V :=
  bnd (
    bnd (boxv x0) fun x1 =>
    bnd (
      bnd (ldn 6 x1) fun x16 =>
      bnd ((A_code_Check G_strings_IndexRune G_strings_Contains) [x16]) fun x17 =>
      bnd (lift (ext 0 x17)) fun x18 =>
      bnd (lift (ext 1 x17)) fun x19 =>
      bnd (lift (bin .neq x19 (Value.int .i64 0))) fun x21 =>
      condM x21 (
        ret (.ret [(Value.string ⟨#[]⟩), x19])
        ) (
        ret (.nxt [x1])
        )
      ) fun o => nx o (code_Encode_k15 G_strings_IndexRune G_strings_Contains)
    ) fun o => finM o fun vs => ret (outV [(at_ vs 0), (at_ vs 1)])
def h_code_Encode : Hint := (.seq [] .leaf (.seq [1] (.seq [] .leaf (.seq [] .leaf (.cond (.seq [] .leaf .leaf) .leaf))) (.seq [] (.reg [0, 4, 1, 2, 5, 6, 7, 8, 3, 9, 10] [3, 7]) (.seq [1, 6] (.seq [] .leaf (.blk (.loop [1, 6, 34, 35, 36] (.seq [] .leaf (.seq [1, 6, 34, 35, 36] (.cond .leaf .leaf) (.seq [1, 6, 34, 35, 36] (.blk (.seq [] .leaf .leaf)) .leaf)))))) (.seq [1, 6] (.seq [] .leaf (.blk (.loop [1, 6, 56, 57, 58] (.seq [] .leaf (.seq [1, 6, 56, 57, 58] (.cond .leaf .leaf) (.seq [1, 6, 56, 57, 58] (.blk (.seq [] .leaf .leaf)) .leaf)))))) (.seq [] .leaf (.seq [6, 11] (.seq [] .leaf (.blk (.loop [6, 11, 73, 74, 75] (.seq [] .leaf (.seq [6, 11, 73, 74, 75] (.cond .leaf .leaf) (.seq [6, 11, 73, 74, 75] (.blk (.seq [] .leaf (.seq [] .leaf (.seq [] .leaf (.blk (.loop [6, 11, 13, 14, 73, 74, 75] (.seq [6, 11, 13, 14, 73, 74, 75] (.seq [] .leaf (.cond .leaf .leaf)) (.seq [6, 11, 13, 14, 73, 74, 75] (.blk .leaf) .leaf)))))))) .leaf)))))) (.seq [] .leaf .leaf))))))))
def A_code_Encode (G_strings_IndexRune : List V → M V) (G_strings_Contains : List V → M V) (l : List V) : M V := match l with | [x0] => F_code_Encode G_strings_IndexRune G_strings_Contains x0 | _ => fail
theorem e_code_Encode (G_strings_IndexRune : List V → M V) (G_strings_Contains : List V → M V) (x0 : V) : funM Tryz.prog (ovr [(fid_code_Check, A_code_Check G_strings_IndexRune G_strings_Contains), (fid_code_numbers_int, A_code_numbers_int), (fid_code_numbers_int64, A_code_numbers_int64), (fid_wire_Encode, A_wire_Encode)] noC) fid_code_Encode h_code_Encode [x0] = F_code_Encode G_strings_IndexRune G_strings_Contains x0 := by kernel_rfl
theorem K_code_Encode {G_strings_IndexRune : List V → M V} {G_strings_Contains : List V → M V} (k_strings_IndexRune : Known Tryz.prog fid_strings_IndexRune G_strings_IndexRune) (k_strings_Contains : Known Tryz.prog fid_strings_Contains G_strings_Contains) : Known Tryz.prog fid_code_Encode (A_code_Encode G_strings_IndexRune G_strings_Contains) := known_of (σ := ovr [(fid_code_Check, A_code_Check G_strings_IndexRune G_strings_Contains), (fid_code_numbers_int, A_code_numbers_int), (fid_code_numbers_int64, A_code_numbers_int64), (fid_wire_Encode, A_wire_Encode)] noC) (hint := h_code_Encode) (by kernel_rfl) (simAll_ovr (K_code_Check k_strings_IndexRune k_strings_Contains) (simAll_ovr K_code_numbers_int (simAll_ovr K_code_numbers_int64 (simAll_ovr K_wire_Encode simAll_nil0)))) fun l H r H' h => by
  unfold A_code_Encode at h; split at h
  · rw [e_code_Encode]; exact h
  · exact (fail_ne h).elim

/-! ### capstan/capstanref13.num -/
def F_ref13_num (x0 : V) : M V :=
  bnd (
    bnd (newc [Value.bool false, Value.int .i64 0, Value.string ⟨#[]⟩]) fun x2 =>
    bnd (lift (build [Value.bool false, Value.int .i64 0, Value.string ⟨#[]⟩] [(1, 1, x0)])) fun x4 =>
    bnd (stn 3 x2 x4) fun _ =>
    ret (.ret [x2])
    ) fun o => finM o fun vs => bnd (ldn 3 (at_ vs 0)) fun r0 => ret (outV [r0])
def h_ref13_num : Hint := (.seq [] .leaf (.seq [] .leaf .leaf))
def A_ref13_num (l : List V) : M V := match l with | [x0] => F_ref13_num x0 | _ => fail
theorem e_ref13_num (x0 : V) : funM Tryz.prog (ovr [] noC) fid_ref13_num h_ref13_num [x0] = F_ref13_num x0 := by kernel_rfl
theorem K_ref13_num : Known Tryz.prog fid_ref13_num (A_ref13_num) := known_of (σ := ovr [] noC) (hint := h_ref13_num) (by kernel_rfl) simAll_nil0 fun l H r H' h => by
  unfold A_ref13_num at h; split at h
  · rw [e_ref13_num]; exact h
  · exact (fail_ne h).elim

/-! ### capstan/capstanref13.Items -/
def ref13_Items_k0 (vs_3 : List V) : M Out :=
  bnd (lift (bin .add (at_ vs_3 2) (Value.int .i64 1))) fun x25 =>
  ret (.nxt [(at_ vs_3 0), (at_ vs_3 1), x25])
def ref13_Items_k1 (vs_2 : List V) : M Out :=
  bnd (
  bnd (
    withH fun h0_2 =>
    bnd (lift (faddr 1 (at_ vs_2 0))) fun x27 =>
    bnd (lift (faddr 2 (at_ vs_2 0))) fun x33 =>
    bnd (ld1 x27) fun x28 =>
    bnd (lift (iaddrS 1 x28 (at_ vs_2 2))) fun x30 =>
    bnd (ld1 x30) fun x31 =>
    bnd (ld1 x33) fun x34 =>
    bnd (lift (iaddrS 1 x34 (at_ vs_2 2))) fun x36 =>
    bnd (ld1 x36) fun x37 =>
    bnd (lift (build [Value.bool false, Value.int .i64 0, Value.string ⟨#[]⟩] [(1, 1, x37)])) fun x38 =>
    bndH (A_ref13_num [x31]) fun ha_3 x32 h1_2 =>
    bndH (bslc 3 2 (rep 2 [Value.bool false, Value.int .i64 0, Value.string ⟨#[]⟩]) [(0, 3, x32), (3, 3, x38)]) fun ha_4 x39 h2_2 =>
    bndH (appV 3 32 (at_ vs_2 1) x39) fun ha_5 x40 h3 =>
    need (chk (ld1 x33) h1_2 x34) <|
    need (chk (ld1 x36) h1_2 x37) <|
    ret (.nxt [(at_ vs_2 0), x40, (at_ vs_2 2)])
    ) fun o => ret (unblk 1 o)
  ) fun o => nx o ref13_Items_k0
def ref13_Items_l2 (vs : List V) : M Out :=
  bnd (
  bnd (lift (faddr 1 (at_ vs 0))) fun x20 =>
  bnd (ld1 x20) fun x21 =>
  bnd (lift (lenSlc x21)) fun x22 =>
  bnd (lift (bin .lss (at_ vs 2) x22)) fun x23 =>
  condM x23 (
    ret (.nxt [(at_ vs 0), (at_ vs 1), (at_ vs 2)])
    ) (
    ret (.brk 0 [(at_ vs 0), (at_ vs 1)])
    )
  ) fun o => nx o ref13_Items_k1
def ref13_Items_k3 (vs_7 : List V) : M Out :=
  bnd (lift (bin .add (at_ vs_7 2) (Value.int .i64 1))) fun x54 =>
  ret (.nxt [(at_ vs_7 0), (at_ vs_7 1), x54])
def ref13_Items_k4 (vs_6 : List V) : M Out :=
  bnd (
  bnd (
    bnd (lift (faddr 3 (at_ vs_6 0))) fun x56 =>
    bnd (ld1 x56) fun x57 =>
    bnd (lift (iaddrS 1 x57 (at_ vs_6 2))) fun x59 =>
    bnd (ld1 x59) fun x60 =>
    bnd (A_ref13_num [x60]) fun x61 =>
    bnd (bslc 3 1 (rep 1 [Value.bool false, Value.int .i64 0, Value.string ⟨#[]⟩]) [(0, 3, x61)]) fun x62 =>
    bnd (appV 3 32 (at_ vs_6 1) x62) fun x63 =>
    ret (.nxt [(at_ vs_6 0), x63, (at_ vs_6 2)])
    ) fun o => ret (unblk 3 o)
  ) fun o => nx o ref13_Items_k3
def ref13_Items_l5 (vs_5 : List V) : M Out :=
  bnd (
  bnd (lift (faddr 3 (at_ vs_5 0))) fun x49 =>
  bnd (ld1 x49) fun x50 =>
  bnd (lift (lenSlc x50)) fun x51 =>
  bnd (lift (bin .lss (at_ vs_5 2) x51)) fun x52 =>
  condM x52 (
    ret (.nxt [(at_ vs_5 0), (at_ vs_5 1), (at_ vs_5 2)])
    ) (
    ret (.brk 2 [(at_ vs_5 0), (at_ vs_5 1)])
    )
  ) fun o => nx o ref13_Items_k4
def ref13_Items_k6 (vs_11 : List V) : M Out :=
  bnd (lift (bin .add (at_ vs_11 2) (Value.int .i64 1))) fun x77 =>
  ret (.nxt [(at_ vs_11 0), (at_ vs_11 1), x77])
def ref13_Items_k7 (vs_10 : List V) : M Out :=
  bnd (
  bnd (
    bnd (lift (faddr 4 (at_ vs_10 0))) fun x79 =>
    bnd (ld1 x79) fun x80 =>
    bnd (lift (iaddrS 1 x80 (at_ vs_10 2))) fun x82 =>
    bnd (ld1 x82) fun x83 =>
    bnd (A_ref13_num [x83]) fun x84 =>
    bnd (bslc 3 1 (rep 1 [Value.bool false, Value.int .i64 0, Value.string ⟨#[]⟩]) [(0, 3, x84)]) fun x85 =>
    bnd (appV 3 32 (at_ vs_10 1) x85) fun x86 =>
    ret (.nxt [(at_ vs_10 0), x86, (at_ vs_10 2)])
    ) fun o => ret (unblk 5 o)
  ) fun o => nx o ref13_Items_k6
def ref13_Items_l8 (vs_9 : List V) : M Out :=
  bnd (
  bnd (lift (faddr 4 (at_ vs_9 0))) fun x72 =>
  bnd (ld1 x72) fun x73 =>
  bnd (lift (lenSlc x73)) fun x74 =>
  bnd (lift (bin .lss (at_ vs_9 2) x74)) fun x75 =>
  condM x75 (
    ret (.nxt [(at_ vs_9 0), (at_ vs_9 1), (at_ vs_9 2)])
    ) (
    ret (.brk 4 [(at_ vs_9 0), (at_ vs_9 1)])
    )
  ) fun o => nx o ref13_Items_k7
def ref13_Items_k9 (vs_17 : List V) : M Out :=
  bnd (lift (bin .sub (at_ vs_17 5) (Value.int .i64 1))) fun x124 =>
  ret (.nxt [(at_ vs_17 0), (at_ vs_17 1), (at_ vs_17 2), (at_ vs_17 3), (at_ vs_17 4), x124])
def ref13_Items_k10 (vs_16 : List V) : M Out :=
  bnd (
  bnd (
    bnd (lift (faddr 3 (at_ vs_16 4))) fun x126 =>
    bnd (ld1 x126) fun x127 =>
    bnd (lift (cvi .u64 x127)) fun x128 =>
    bnd (lift (bin .mul (Value.int .i64 8) (at_ vs_16 5))) fun x130 =>
    bnd (lift (bin .shr x128 x130)) fun x131 =>
    bnd (lift (cvi .u8 x131)) fun x132 =>
    bnd (bslc 1 1 (rep 1 [Value.int .u8 0]) [(0, 1, x132)]) fun x133 =>
    bnd (appV 1 1 (at_ vs_16 2) x133) fun x134 =>
    ret (.nxt [(at_ vs_16 0), (at_ vs_16 1), x134, (at_ vs_16 3), (at_ vs_16 4), (at_ vs_16 5)])
    ) fun o => ret (unblk 9 o)
  ) fun o => nx o ref13_Items_k9
def ref13_Items_l11 (vs_15 : List V) : M Out :=
  bnd (
  bnd (lift (bin .geq (at_ vs_15 5) (Value.int .i64 0))) fun x122 =>
  condM x122 (
    ret (.nxt [(at_ vs_15 0), (at_ vs_15 1), (at_ vs_15 2), (at_ vs_15 3), (at_ vs_15 4), (at_ vs_15 5)])
    ) (
    ret (.brk 8 [(at_ vs_15 0), (at_ vs_15 1), (at_ vs_15 2), (at_ vs_15 3)])
    )
  ) fun o => nx o ref13_Items_k10
def ref13_Items_k12 (vs_18 : List V) : M Out :=
  bnd (lift (bin .add (at_ vs_18 3) (Value.int .i64 1))) fun x93 =>
  ret (.nxt [(at_ vs_18 0), (at_ vs_18 1), (at_ vs_18 2), x93])
def ref13_Items_k13 (vs_14 : List V) : M Out :=
  bnd (
  bnd (
    bnd (lift (faddr 5 (at_ vs_14 0))) fun x94 =>
    bnd (ld1 x94) fun x95 =>
    bnd (lift (iaddrS 4 x95 (at_ vs_14 3))) fun x97 =>
    bnd (ldn 4 x97) fun x98 =>
    bnd (newc [Value.int .i64 0, Value.int .i64 0, Value.int .i64 0, Value.int .i64 0]) fun x9 =>
    bnd (stn 4 x9 x98) fun _ =>
    bnd (lift (faddr 0 x9)) fun x100 =>
    bnd (ld1 x100) fun x101 =>
    bnd (lift (cvi .u8 x101)) fun x102 =>
    bnd (lift (faddr 1 x9)) fun x103 =>
    bnd (ld1 x103) fun x104 =>
    bnd (lift (bin .quo x104 (Value.int .i64 256))) fun x105 =>
    bnd (lift (cvi .u8 x105)) fun x106 =>
    bnd (lift (faddr 1 x9)) fun x107 =>
    bnd (ld1 x107) fun x108 =>
    bnd (lift (bin .rem x108 (Value.int .i64 256))) fun x109 =>
    bnd (lift (cvi .u8 x109)) fun x110 =>
    bnd (lift (faddr 2 x9)) fun x111 =>
    bnd (ld1 x111) fun x112 =>
    bnd (lift (bin .quo x112 (Value.int .i64 256))) fun x113 =>
    bnd (lift (cvi .u8 x113)) fun x114 =>
    bnd (lift (faddr 2 x9)) fun x115 =>
    bnd (ld1 x115) fun x116 =>
    bnd (lift (bin .rem x116 (Value.int .i64 256))) fun x117 =>
    bnd (lift (cvi .u8 x117)) fun x118 =>
    bnd (bslc 1 5 (rep 5 [Value.int .u8 0]) [(0, 1, x102), (1, 1, x106), (2, 1, x110), (3, 1, x114), (4, 1, x118)]) fun x119 =>
    bnd (appV 1 1 (at_ vs_14 2) x119) fun x120 =>
    bnd (
      loopM FUEL ref13_Items_l11 [(at_ vs_14 0), (at_ vs_14 1), x120, (at_ vs_14 3), x9, (Value.int .i64 5)]
      ) fun o => ret (unblk 8 o)
    ) fun o => ret (unblk 7 o)
  ) fun o => nx o ref13_Items_k12
def ref13_Items_l14 (vs_13 : List V) : M Out :=
  bnd (
  bnd (lift (faddr 5 (at_ vs_13 0))) fun x88 =>
  bnd (ld1 x88) fun x89 =>
  bnd (lift (lenSlc x89)) fun x90 =>
  bnd (lift (bin .lss (at_ vs_13 3) x90)) fun x91 =>
  condM x91 (
    ret (.nxt [(at_ vs_13 0), (at_ vs_13 1), (at_ vs_13 2), (at_ vs_13 3)])
    ) (
    ret (.brk 6 [(at_ vs_13 1), (at_ vs_13 2)])
    )
  ) fun o => nx o ref13_Items_k13
def ref13_Items_k15 (vs_19 : List V) : M Out :=
  bnd (b2s (at_ vs_19 1)) fun x137 =>
  bnd (lift (build [Value.bool false, Value.int .i64 0, Value.string ⟨#[]⟩] [(0, 1, (Value.bool true)), (2, 1, x137)])) fun x138 =>
  bnd (bslc 3 1 (rep 1 [Value.bool false, Value.int .i64 0, Value.string ⟨#[]⟩]) [(0, 3, x138)]) fun x139 =>
  bnd (appV 3 32 (at_ vs_19 0) x139) fun x140 =>
  ret (.ret [x140])
def ref13_Items_k16 (vs_12 : List V) : M Out :=
  bnd (
    bnd (
      loopM FUEL ref13_Items_l14 [(at_ vs_12 0), (at_ vs_12 1), (Value.slice none 0 0), (Value.int .i64 0)]
      ) fun o => ret (unblk 6 o)
    ) fun o => nx o ref13_Items_k15
def ref13_Items_k17 (vs_8 : List V) : M Out :=
  bnd (lift (faddr 4 (at_ vs_8 0))) fun x65 =>
  bnd (ld1 x65) fun x66 =>
  bnd (lift (lenSlc x66)) fun x67 =>
  bnd (A_ref13_num [x67]) fun x68 =>
  bnd (bslc 3 1 (rep 1 [Value.bool false, Value.int .i64 0, Value.string ⟨#[]⟩]) [(0, 3, x68)]) fun x69 =>
  bnd (appV 3 32 (at_ vs_8 1) x69) fun x70 =>
  bnd (
    bnd (
      loopM FUEL ref13_Items_l8 [(at_ vs_8 0), x70, (Value.int .i64 0)]
      ) fun o => ret (unblk 4 o)
    ) fun o => nx o ref13_Items_k16
def ref13_Items_k18 (vs_4 : List V) : M Out :=
  bnd (lift (faddr 3 (at_ vs_4 0))) fun x42 =>
  bnd (ld1 x42) fun x43 =>
  bnd (lift (lenSlc x43)) fun x44 =>
  bnd (A_ref13_num [x44]) fun x45 =>
  bnd (bslc 3 1 (rep 1 [Value.bool false, Value.int .i64 0, Value.string ⟨#[]⟩]) [(0, 3, x45)]) fun x46 =>
  bnd (appV 3 32 (at_ vs_4 1) x46) fun x47 =>
  bnd (
    bnd (
      loopM FUEL ref13_Items_l5 [(at_ vs_4 0), x47, (Value.int .i64 0)]
      ) fun o => ret (unblk 2 o)
    ) fun o => nx o ref13_Items_k17
def F_ref13_Items (x0 : V) : M V :=
  bnd (
    bnd (boxv x0) fun x1 =>
    withH fun h0 =>
    bnd (lift (faddr 0 x1)) fun x11 =>
    bnd (lift (faddr 1 x1)) fun x14 =>
    bnd (ld1 x11) fun x12 =>
    bnd (lift (build [Value.bool false, Value.int .i64 0, Value.string ⟨#[]⟩] [(0, 1, (Value.bool true)), (2, 1, x12)])) fun x13 =>
    bnd (ld1 x14) fun x15 =>
    bnd (lift (lenSlc x15)) fun x16 =>
    bndH (A_ref13_num [x16]) fun ha x17 h1 =>
    bndH (bslc 3 2 (rep 2 [Value.bool false, Value.int .i64 0, Value.string ⟨#[]⟩]) [(0, 3, x13), (3, 3, x17)]) fun ha_2 x18 h2 =>
    need (chk (ld1 x11) h1 x12) <|
    bnd (
      bnd (
        loopM FUEL ref13_Items_l2 [x1, x18, (Value.int .i64 0)]
        ) fun o => ret (unblk 0 o)
      ) fun o => nx o ref13_Items_k18
    ) fun o => finM o fun vs => ret (outV [(at_ vs 0)])
def h_ref13_Items : Hint := (.seq [] .leaf (.seq [] (.reg [0, 3, 1, 2, 4, 5, 6, 7, 8] []) (.seq [1, 3] (.seq [] .leaf (.blk (.loop [1, 3, 4] (.seq [1, 3, 4] (.seq [] .leaf (.cond .leaf .leaf)) (.seq [1, 3, 4] (.blk (.reg [0, 1, 3, 7, 9, 2, 4, 5, 8, 10, 11, 12, 6, 13, 14, 15] [])) .leaf))))) (.seq [] .leaf (.seq [1, 3] (.seq [] .leaf (.blk (.loop [1, 3, 5] (.seq [1, 3, 5] (.seq [] .leaf (.cond .leaf .leaf)) (.seq [1, 3, 5] (.blk .leaf) .leaf))))) (.seq [] .leaf (.seq [1, 3] (.seq [] .leaf (.blk (.loop [1, 3, 6] (.seq [1, 3, 6] (.seq [] .leaf (.cond .leaf .leaf)) (.seq [1, 3, 6] (.blk .leaf) .leaf))))) (.seq [] .leaf (.seq [3, 7] (.seq [] .leaf (.blk (.loop [1, 3, 7, 8] (.seq [1, 3, 7, 8] (.seq [] .leaf (.cond .leaf .leaf)) (.seq [1, 3, 7, 8] (.blk (.seq [] .leaf (.seq [] .leaf (.seq [] .leaf (.blk (.loop [1, 3, 7, 8, 9, 10] (.seq [1, 3, 7, 8, 9, 10] (.seq [] .leaf (.cond .leaf .leaf)) (.seq [1, 3, 7, 8, 9, 10] (.blk .leaf) .leaf)))))))) .leaf))))) (.seq [] .leaf .leaf))))))))))
def A_ref13_Items (l : List V) : M V := match l with | [x0] => F_ref13_Items x0 | _ => fail
def s_ref13_Items : Calls' := ovr [(fid_ref13_num, A_ref13_num)] noC
theorem e_ref13_Items (x0 : V) : funM Tryz.prog (s_ref13_Items) fid_ref13_Items h_ref13_Items [x0] = F_ref13_Items x0 := by kernel_rfl
theorem K_ref13_Items : Known Tryz.prog fid_ref13_Items (A_ref13_Items) := known_of (σ := s_ref13_Items) (hint := h_ref13_Items) (by kernel_rfl) (simAll_ovr K_ref13_num simAll_nil0) fun l H r H' h => by
  unfold A_ref13_Items at h; split at h
  · rw [e_ref13_Items]; exact h
  · exact (fail_ne h).elim

/-! ### capstan/capstanref03.May -/
def F_ref03_May (x0 : V) : M V :=
  bnd (
    bnd (boxv x0) fun x1 =>
    bnd (lift (faddr 0 x1)) fun x3 =>
    bnd (ld1 x3) fun x4 =>
    bnd (gd x4 true (lift (faddr 1 x1))) fun x6 =>
    bnd (gd x4 true (ld1 x6)) fun x7 =>
    bnd (gd x4 true (lift (bin .eql x7 (Value.int .i64 0)))) fun x8 =>
    bnd (lift (pickV x4 x8 (Value.bool false))) fun x9 =>
    bnd (gd x9 true (lift (faddr 2 x1))) fun x11 =>
    bnd (gd x9 true (ld1 x11)) fun x12 =>
    bnd (gd x9 true (lift (lenStr x12))) fun x13 =>
    bnd (gd x9 true (lift (bin .leq x13 (Value.int .i64 65535)))) fun x14 =>
    bnd (lift (pickV x9 x14 (Value.bool false))) fun x15 =>
    bnd (gd x15 false (lift (faddr 0 x1))) fun x17 =>
    bnd (gd x15 false (ld1 x17)) fun x18 =>
    bnd (gd x15 false (lift (un .not x18))) fun x19 =>
    bnd (gd x15 false (lift (some x19))) fun x20 =>
    bnd (gd x20 true (lift (faddr 2 x1))) fun x21 =>
    bnd (gd x20 true (ld1 x21)) fun x22 =>
    bnd (gd x20 true (lift (bin .eql x22 (Value.string ⟨#[]⟩)))) fun x23 =>
    bnd (gd x15 false (lift (pickV x20 x23 (Value.bool false)))) fun x24 =>
    bnd (lift (pickV x15 (Value.bool true) x24)) fun x25 =>
    ret (.ret [x25])
    ) fun o => finM o fun vs => ret (outV [(at_ vs 0)])
def h_ref03_May : Hint := (.seq [] .leaf (.seq [] .leaf .leaf))
def A_ref03_May (l : List V) : M V := match l with | [x0] => F_ref03_May x0 | _ => fail
theorem e_ref03_May (x0 : V) : funM Tryz.prog (ovr [] noC) fid_ref03_May h_ref03_May [x0] = F_ref03_May x0 := by kernel_rfl
theorem K_ref03_May : Known Tryz.prog fid_ref03_May (A_ref03_May) := known_of (σ := ovr [] noC) (hint := h_ref03_May) (by kernel_rfl) simAll_nil0 fun l H r H' h => by
  unfold A_ref03_May at h; split at h
  · rw [e_ref03_May]; exact h
  · exact (fail_ne h).elim

/-! ### capstan/capstanref03.One -/
def ref03_One_k0 (vs_4 : List V) : M Out :=
  bnd (lift (bin .sub (at_ vs_4 2) (Value.int .i64 1))) fun x26 =>
  ret (.nxt [(at_ vs_4 0), (at_ vs_4 1), x26])
def ref03_One_k1 (vs_3 : List V) : M Out :=
  bnd (
  bnd (
    bnd (lift (faddr 1 (at_ vs_3 0))) fun x28 =>
    bnd (ld1 x28) fun x29 =>
    bnd (lift (cvi .u64 x29)) fun x30 =>
    bnd (lift (bin .mul (Value.int .i64 8) (at_ vs_3 2))) fun x32 =>
    bnd (lift (bin .shr x30 x32)) fun x33 =>
    bnd (lift (cvi .u8 x33)) fun x34 =>
    bnd (bslc 1 1 (rep 1 [Value.int .u8 0]) [(0, 1, x34)]) fun x35 =>
    bnd (appV 1 1 (at_ vs_3 1) x35) fun x36 =>
    ret (.nxt [(at_ vs_3 0), x36, (at_ vs_3 2)])
    ) fun o => ret (unblk 1 o)
  ) fun o => nx o ref03_One_k0
def ref03_One_l2 (vs_2 : List V) : M Out :=
  bnd (
  bnd (lift (bin .geq (at_ vs_2 2) (Value.int .i64 0))) fun x24 =>
  condM x24 (
    ret (.nxt [(at_ vs_2 0), (at_ vs_2 1), (at_ vs_2 2)])
    ) (
    ret (.brk 0 [(at_ vs_2 1)])
    )
  ) fun o => nx o ref03_One_k1
def ref03_One_k3 (vs_5 : List V) : M Out :=
  bnd (b2s (at_ vs_5 0)) fun x38 =>
  ret (.ret [x38])
def ref03_One_k4 (vs : List V) : M Out :=
  bnd (bslc 1 1 (rep 1 [Value.int .u8 0]) [(0, 1, (Value.int .u8 35))]) fun x22 =>
  bnd (
    bnd (
      loopM FUEL ref03_One_l2 [(at_ vs 0), x22, (Value.int .i64 7)]
      ) fun o => ret (unblk 0 o)
    ) fun o => nx o ref03_One_k3
def F_ref03_One (x0 : V) : M V :=
  bnd (
    bnd (boxv x0) fun x1 =>
    bnd (
      bnd (lift (faddr 0 x1)) fun x5 =>
      bnd (ld1 x5) fun x6 =>
      condM x6 (
        bnd (lift (faddr 2 x1)) fun x7 =>
        bnd (ld1 x7) fun x8 =>
        bnd (lift (lenStr x8)) fun x9 =>
        bnd (lift (bin .quo x9 (Value.int .i64 256))) fun x10 =>
        bnd (lift (cvi .u8 x10)) fun x11 =>
        bnd (lift (faddr 2 x1)) fun x12 =>
        bnd (ld1 x12) fun x13 =>
        bnd (lift (lenStr x13)) fun x14 =>
        bnd (lift (bin .rem x14 (Value.int .i64 256))) fun x15 =>
        bnd (lift (cvi .u8 x15)) fun x16 =>
        bnd (bslc 1 3 (rep 3 [Value.int .u8 0]) [(0, 1, (Value.int .u8 36)), (1, 1, x11), (2, 1, x16)]) fun x17 =>
        bnd (b2s x17) fun x18 =>
        bnd (lift (faddr 2 x1)) fun x19 =>
        bnd (ld1 x19) fun x20 =>
        bnd (lift (bin .add x18 x20)) fun x21 =>
        ret (.ret [x21])
        ) (
        ret (.nxt [x1])
        )
      ) fun o => nx o ref03_One_k4
    ) fun o => finM o fun vs => ret (outV [(at_ vs 0)])
def h_ref03_One : Hint := (.seq [] .leaf (.seq [1] (.seq [] .leaf (.cond (.seq [] .leaf .leaf) .leaf)) (.seq [] .leaf (.seq [3] (.seq [] .leaf (.blk (.loop [1, 3, 4] (.seq [1, 3, 4] (.seq [] .leaf (.cond .leaf .leaf)) (.seq [1, 3, 4] (.blk .leaf) .leaf))))) (.seq [] .leaf .leaf)))))
def A_ref03_One (l : List V) : M V := match l with | [x0] => F_ref03_One x0 | _ => fail
theorem e_ref03_One (x0 : V) : funM Tryz.prog (ovr [] noC) fid_ref03_One h_ref03_One [x0] = F_ref03_One x0 := by kernel_rfl
theorem K_ref03_One : Known Tryz.prog fid_ref03_One (A_ref03_One) := known_of (σ := ovr [] noC) (hint := h_ref03_One) (by kernel_rfl) simAll_nil0 fun l H r H' h => by
  unfold A_ref03_One at h; split at h
  · rw [e_ref03_One]; exact h
  · exact (fail_ne h).elim

/-! ### capstan/capstanref03.Bytes -/
def ref03_Bytes_k0 (vs_3 : List V) : M Out :=
  bnd (lift (bin .add (at_ vs_3 2) (Value.int .i64 1))) fun x24 =>
  ret (.nxt [(at_ vs_3 0), (at_ vs_3 1), x24])
def ref03_Bytes_k1 (vs_2 : List V) : M Out :=
  bnd (
  bnd (
    bnd (lift (iaddrS 3 (at_ vs_2 0) (at_ vs_2 2))) fun x28 =>
    bnd (ldn 3 x28) fun x29 =>
    bnd (A_ref03_One [x29]) fun x30 =>
    bnd (appS (at_ vs_2 1) x30) fun x31 =>
    ret (.nxt [(at_ vs_2 0), x31, (at_ vs_2 2)])
    ) fun o => ret (unblk 1 o)
  ) fun o => nx o ref03_Bytes_k0
def ref03_Bytes_l2 (vs : List V) : M Out :=
  bnd (
  bnd (lift (lenSlc (at_ vs 0))) fun x16 =>
  bnd (lift (bin .lss (at_ vs 2) x16)) fun x17 =>
  bnd (gd x17 true (lift (some (at_ vs 1)))) fun x19 =>
  bnd (gd x17 true (lift (lenSlc x19))) fun x20 =>
  bnd (gd x17 true (lift (bin .leq x20 (Value.int .i64 65536)))) fun x21 =>
  bnd (lift (pickV x17 x21 (Value.bool false))) fun x22 =>
  condM x22 (
    ret (.nxt [(at_ vs 0), (at_ vs 1), (at_ vs 2)])
    ) (
    ret (.brk 0 [(at_ vs 1)])
    )
  ) fun o => nx o ref03_Bytes_k1
def ref03_Bytes_k3 (vs_4 : List V) : M Out :=
  bnd (b2s (at_ vs_4 0)) fun x33 =>
  ret (.ret [x33])
def F_ref03_Bytes (x0 : V) : M V :=
  bnd (
    bnd (lift (lenSlc x0)) fun x6 =>
    bnd (lift (bin .quo x6 (Value.int .i64 256))) fun x7 =>
    bnd (lift (cvi .u8 x7)) fun x8 =>
    bnd (lift (lenSlc x0)) fun x10 =>
    bnd (lift (bin .rem x10 (Value.int .i64 256))) fun x11 =>
    bnd (lift (cvi .u8 x11)) fun x12 =>
    bnd (bslc 1 2 (rep 2 [Value.int .u8 0]) [(0, 1, x8), (1, 1, x12)]) fun x13 =>
    bnd (
      bnd (
        loopM FUEL ref03_Bytes_l2 [x0, x13, (Value.int .i64 0)]
        ) fun o => ret (unblk 0 o)
      ) fun o => nx o ref03_Bytes_k3
    ) fun o => finM o fun vs => ret (outV [(at_ vs 0)])
def h_ref03_Bytes : Hint := (.seq [] .leaf (.seq [] .leaf (.seq [3] (.seq [] .leaf (.blk (.loop [0, 3, 4] (.seq [0, 3, 4] (.seq [] .leaf (.cond .leaf .leaf)) (.seq [0, 3, 4] (.blk .leaf) .leaf))))) (.seq [] .leaf .leaf))))
def A_ref03_Bytes (l : List V) : M V := match l with | [x0] => F_ref03_Bytes x0 | _ => fail
def s_ref03_Bytes : Calls' := ovr [(fid_ref03_One, A_ref03_One)] noC
theorem e_ref03_Bytes (x0 : V) : funM Tryz.prog (s_ref03_Bytes) fid_ref03_Bytes h_ref03_Bytes [x0] = F_ref03_Bytes x0 := by kernel_rfl
theorem K_ref03_Bytes : Known Tryz.prog fid_ref03_Bytes (A_ref03_Bytes) := known_of (σ := s_ref03_Bytes) (hint := h_ref03_Bytes) (by kernel_rfl) (simAll_ovr K_ref03_One simAll_nil0) fun l H r H' h => by
  unfold A_ref03_Bytes at h; split at h
  · rw [e_ref03_Bytes]; exact h
  · exact (fail_ne h).elim

/-! ### capstan/capstanref03.Encode -/
def ref03_Encode_k0 (vs_4 : List V) : M Out :=
  bnd (lift (bin .add (at_ vs_4 1) (Value.int .i64 1))) fun x14 =>
  ret (.nxt [(at_ vs_4 0), x14])
def ref03_Encode_k1 (vs_3 : List V) : M Out :=
  bnd (
  bnd (
    bnd (lift (iaddrS 3 (at_ vs_3 0) (at_ vs_3 1))) fun x17 =>
    bnd (ldn 3 x17) fun x18 =>
    bnd (A_ref03_May [x18]) fun x19 =>
    bnd (lift (un .not x19)) fun x20 =>
    condM x20 (
      ret (.ret [(Value.string ⟨#[]⟩), (Value.int .i64 4)])
      ) (
      ret (.nxt [(at_ vs_3 0), (at_ vs_3 1)])
      )
    ) fun o => ret (unblk 1 o)
  ) fun o => nx o ref03_Encode_k0
def ref03_Encode_l2 (vs_2 : List V) : M Out :=
  bnd (
  bnd (lift (lenSlc (at_ vs_2 0))) fun x11 =>
  bnd (lift (bin .lss (at_ vs_2 1) x11)) fun x12 =>
  condM x12 (
    ret (.nxt [(at_ vs_2 0), (at_ vs_2 1)])
    ) (
    ret (.brk 0 [(at_ vs_2 0)])
    )
  ) fun o => nx o ref03_Encode_k1
def ref03_Encode_k3 (vs_6 : List V) : M Out :=
  ret (.ret [(at_ vs_6 0), (Value.int .i64 0)])
def ref03_Encode_k4 (vs_5 : List V) : M Out :=
  bnd (A_ref03_Bytes [(at_ vs_5 0)]) fun x22 =>
  bnd (
    bnd (lift (lenStr x22)) fun x24 =>
    bnd (lift (bin .gtr x24 (Value.int .i64 65536))) fun x25 =>
    condM x25 (
      ret (.ret [(Value.string ⟨#[]⟩), (Value.int .i64 2)])
      ) (
      ret (.nxt [x22])
      )
    ) fun o => nx o ref03_Encode_k3
def ref03_Encode_k5 (vs : List V) : M Out :=
  bnd (
    bnd (
      loopM FUEL ref03_Encode_l2 [(at_ vs 0), (Value.int .i64 0)]
      ) fun o => ret (unblk 0 o)
    ) fun o => nx o ref03_Encode_k4
def F_ref03_Encode (x0 : V) : M V :=
  bnd (
    bnd (
      bnd (lift (lenSlc x0)) fun x7 =>
      bnd (lift (bin .gtr x7 (Value.int .i64 1000))) fun x8 =>
      condM x8 (
        ret (.ret [(Value.string ⟨#[]⟩), (Value.int .i64 2)])
        ) (
        ret (.nxt [x0])
        )
      ) fun o => nx o ref03_Encode_k5
    ) fun o => finM o fun vs => ret (outV [(at_ vs 0), (at_ vs 1)])
def h_ref03_Encode : Hint := (.seq [] .leaf (.seq [0] (.seq [] .leaf (.cond (.seq [] .leaf .leaf) .leaf)) (.seq [0] (.seq [] .leaf (.blk (.loop [0, 4] (.seq [0, 4] (.seq [] .leaf (.cond .leaf .leaf)) (.seq [0, 4] (.blk (.seq [] .leaf (.cond (.seq [] .leaf .leaf) .leaf))) .leaf))))) (.seq [] .leaf (.seq [5] (.seq [] .leaf (.cond (.seq [] .leaf .leaf) .leaf)) (.seq [] .leaf .leaf))))))
def A_ref03_Encode (l : List V) : M V := match l with | [x0] => F_ref03_Encode x0 | _ => fail
def s_ref03_Encode : Calls' := ovr [(fid_ref03_May, A_ref03_May), (fid_ref03_Bytes, A_ref03_Bytes)] noC
theorem e_ref03_Encode (x0 : V) : funM Tryz.prog (s_ref03_Encode) fid_ref03_Encode h_ref03_Encode [x0] = F_ref03_Encode x0 := by kernel_rfl
theorem K_ref03_Encode : Known Tryz.prog fid_ref03_Encode (A_ref03_Encode) := known_of (σ := s_ref03_Encode) (hint := h_ref03_Encode) (by kernel_rfl) (simAll_ovr K_ref03_May (simAll_ovr K_ref03_Bytes simAll_nil0)) fun l H r H' h => by
  unfold A_ref03_Encode at h; split at h
  · rw [e_ref03_Encode]; exact h
  · exact (fail_ne h).elim

/-! ### capstan/capstanref13.Encode -/
def ref13_Encode_k0 (vs : List V) : M Out :=
  bnd (ldn 6 (at_ vs 0)) fun x13 =>
  bnd (A_ref13_Items [x13]) fun x14 =>
  bnd (A_ref03_Encode [x14]) fun x15 =>
  bnd (lift (ext 0 x15)) fun x16 =>
  bnd (lift (ext 1 x15)) fun x17 =>
  ret (.ret [x16, x17])
def F_ref13_Encode (x0 : V) : M V :=
  bnd (
    bnd (boxv x0) fun x1 =>
    bnd (
      bnd (ldn 6 x1) fun x7 =>
      bnd (A_ref13_Check [x7]) fun x8 =>
      bnd (lift (ext 0 x8)) fun x9 =>
      bnd (lift (ext 1 x8)) fun x10 =>
      bnd (lift (bin .neq x10 (Value.int .i64 0))) fun x12 =>
      condM x12 (
        ret (.ret [(Value.string ⟨#[]⟩), (Value.int .i64 130)])
        ) (
        ret (.nxt [x1])
        )
      ) fun o => nx o ref13_Encode_k0
    ) fun o => finM o fun vs => ret (outV [(at_ vs 0), (at_ vs 1)])
def h_ref13_Encode : Hint := (.seq [] .leaf (.seq [1] (.seq [] .leaf (.seq [] .leaf (.cond (.seq [] .leaf .leaf) .leaf))) (.seq [] .leaf .leaf)))
def A_ref13_Encode (l : List V) : M V := match l with | [x0] => F_ref13_Encode x0 | _ => fail
def s_ref13_Encode : Calls' := ovr [(fid_ref13_Check, A_ref13_Check), (fid_ref13_Items, A_ref13_Items), (fid_ref03_Encode, A_ref03_Encode)] noC
theorem e_ref13_Encode (x0 : V) : funM Tryz.prog (s_ref13_Encode) fid_ref13_Encode h_ref13_Encode [x0] = F_ref13_Encode x0 := by kernel_rfl
theorem K_ref13_Encode : Known Tryz.prog fid_ref13_Encode (A_ref13_Encode) := known_of (σ := s_ref13_Encode) (hint := h_ref13_Encode) (by kernel_rfl) (simAll_ovr K_ref13_Check (simAll_ovr K_ref13_Items (simAll_ovr K_ref03_Encode simAll_nil0))) fun l H r H' h => by
  unfold A_ref13_Encode at h; split at h
  · rw [e_ref13_Encode]; exact h
  · exact (fail_ne h).elim

/-! ### capstan/capstanlaw13.names -/
def F_law13_names : M V :=
  bnd (
    ret (.ret [(Value.bool true)])
    ) fun o => finM o fun vs => ret (outV [(at_ vs 0)])
def h_law13_names : Hint := (.seq [] .leaf (.seq [] .leaf .leaf))
def A_law13_names (l : List V) : M V := match l with | [] => F_law13_names  | _ => fail
theorem e_law13_names : funM Tryz.prog (ovr [] noC) fid_law13_names h_law13_names [] = F_law13_names  := by kernel_rfl
theorem K_law13_names : Known Tryz.prog fid_law13_names (A_law13_names) := known_of (σ := ovr [] noC) (hint := h_law13_names) (by kernel_rfl) simAll_nil0 fun l H r H' h => by
  unfold A_law13_names at h; split at h
  · rw [e_law13_names]; exact h
  · exact (fail_ne h).elim

/-! ### capstan/capstanbook.SameInts -/
def book_SameInts_k0 (vs_4 : List V) : M Out :=
  bnd (lift (bin .add (at_ vs_4 2) (Value.int .i64 1))) fun x16 =>
  ret (.nxt [(at_ vs_4 0), (at_ vs_4 1), x16])
def book_SameInts_k1 (vs_3 : List V) : M Out :=
  bnd (
  bnd (
    bnd (lift (iaddrS 1 (at_ vs_3 0) (at_ vs_3 2))) fun x19 =>
    bnd (lift (iaddrS 1 (at_ vs_3 1) (at_ vs_3 2))) fun x23 =>
    bnd (ld1 x19) fun x20 =>
    bnd (ld1 x23) fun x24 =>
    bnd (lift (bin .neq x20 x24)) fun x25 =>
    condM x25 (
      ret (.ret [(Value.bool false)])
      ) (
      ret (.nxt [(at_ vs_3 0), (at_ vs_3 1), (at_ vs_3 2)])
      )
    ) fun o => ret (unblk 1 o)
  ) fun o => nx o book_SameInts_k0
def book_SameInts_l2 (vs_2 : List V) : M Out :=
  bnd (
  bnd (lift (lenSlc (at_ vs_2 0))) fun x13 =>
  bnd (lift (bin .lss (at_ vs_2 2) x13)) fun x14 =>
  condM x14 (
    ret (.nxt [(at_ vs_2 0), (at_ vs_2 1), (at_ vs_2 2)])
    ) (
    ret (.brk 0 [])
    )
  ) fun o => nx o book_SameInts_k1
def book_SameInts_k3 (vs_5 : List V) : M Out :=
  ret (.ret [(Value.bool true)])
def book_SameInts_k4 (vs : List V) : M Out :=
  bnd (
    bnd (
      loopM FUEL book_SameInts_l2 [(at_ vs 0), (at_ vs 1), (Value.int .i64 0)]
      ) fun o => ret (unblk 0 o)
    ) fun o => nx o book_SameInts_k3
def F_book_SameInts (x0 x1 : V) : M V :=
  bnd (
    bnd (
      bnd (lift (lenSlc x0)) fun x7 =>
      bnd (lift (lenSlc x1)) fun x9 =>
      bnd (lift (bin .neq x7 x9)) fun x10 =>
      condM x10 (
        ret (.ret [(Value.bool false)])
        ) (
        ret (.nxt [x0, x1])
        )
      ) fun o => nx o book_SameInts_k4
    ) fun o => finM o fun vs => ret (outV [(at_ vs 0)])
def h_book_SameInts : Hint := (.seq [] .leaf (.seq [0, 1] (.seq [] .leaf (.cond (.seq [] .leaf .leaf) .leaf)) (.seq [] (.seq [] .leaf (.blk (.loop [0, 1, 5] (.seq [0, 1, 5] (.seq [] .leaf (.cond .leaf .leaf)) (.seq [0, 1, 5] (.blk (.seq [] (.reg [0, 1, 2, 4, 5, 6, 3, 7, 8] []) (.cond (.seq [] .leaf .leaf) .leaf))) .leaf))))) (.seq [] .leaf .leaf))))
def A_book_SameInts (l : List V) : M V := match l with | [x0, x1] => F_book_SameInts x0 x1 | _ => fail
theorem e_book_SameInts (x0 x1 : V) : funM Tryz.prog (ovr [] noC) fid_book_SameInts h_book_SameInts [x0, x1] = F_book_SameInts x0 x1 := by kernel_rfl
theorem K_book_SameInts : Known Tryz.prog fid_book_SameInts (A_book_SameInts) := known_of (σ := ovr [] noC) (hint := h_book_SameInts) (by kernel_rfl) simAll_nil0 fun l H r H' h => by
  unfold A_book_SameInts at h; split at h
  · rw [e_book_SameInts]; exact h
  · exact (fail_ne h).elim

/-! ### capstan/capstanbook.SameNums -/
def book_SameNums_k0 (vs_4 : List V) : M Out :=
  bnd (lift (bin .add (at_ vs_4 2) (Value.int .i64 1))) fun x16 =>
  ret (.nxt [(at_ vs_4 0), (at_ vs_4 1), x16])
def book_SameNums_k1 (vs_3 : List V) : M Out :=
  bnd (
  bnd (
    bnd (lift (iaddrS 1 (at_ vs_3 0) (at_ vs_3 2))) fun x19 =>
    bnd (lift (iaddrS 1 (at_ vs_3 1) (at_ vs_3 2))) fun x23 =>
    bnd (ld1 x19) fun x20 =>
    bnd (ld1 x23) fun x24 =>
    bnd (lift (bin .neq x20 x24)) fun x25 =>
    condM x25 (
      ret (.ret [(Value.bool false)])
      ) (
      ret (.nxt [(at_ vs_3 0), (at_ vs_3 1), (at_ vs_3 2)])
      )
    ) fun o => ret (unblk 1 o)
  ) fun o => nx o book_SameNums_k0
def book_SameNums_l2 (vs_2 : List V) : M Out :=
  bnd (
  bnd (lift (lenSlc (at_ vs_2 0))) fun x13 =>
  bnd (lift (bin .lss (at_ vs_2 2) x13)) fun x14 =>
  condM x14 (
    ret (.nxt [(at_ vs_2 0), (at_ vs_2 1), (at_ vs_2 2)])
    ) (
    ret (.brk 0 [])
    )
  ) fun o => nx o book_SameNums_k1
def book_SameNums_k3 (vs_5 : List V) : M Out :=
  ret (.ret [(Value.bool true)])
def book_SameNums_k4 (vs : List V) : M Out :=
  bnd (
    bnd (
      loopM FUEL book_SameNums_l2 [(at_ vs 0), (at_ vs 1), (Value.int .i64 0)]
      ) fun o => ret (unblk 0 o)
    ) fun o => nx o book_SameNums_k3
def F_book_SameNums (x0 x1 : V) : M V :=
  bnd (
    bnd (
      bnd (lift (lenSlc x0)) fun x7 =>
      bnd (lift (lenSlc x1)) fun x9 =>
      bnd (lift (bin .neq x7 x9)) fun x10 =>
      condM x10 (
        ret (.ret [(Value.bool false)])
        ) (
        ret (.nxt [x0, x1])
        )
      ) fun o => nx o book_SameNums_k4
    ) fun o => finM o fun vs => ret (outV [(at_ vs 0)])
def h_book_SameNums : Hint := (.seq [] .leaf (.seq [0, 1] (.seq [] .leaf (.cond (.seq [] .leaf .leaf) .leaf)) (.seq [] (.seq [] .leaf (.blk (.loop [0, 1, 5] (.seq [0, 1, 5] (.seq [] .leaf (.cond .leaf .leaf)) (.seq [0, 1, 5] (.blk (.seq [] (.reg [0, 1, 2, 4, 5, 6, 3, 7, 8] []) (.cond (.seq [] .leaf .leaf) .leaf))) .leaf))))) (.seq [] .leaf .leaf))))
def A_book_SameNums (l : List V) : M V := match l with | [x0, x1] => F_book_SameNums x0 x1 | _ => fail
theorem e_book_SameNums (x0 x1 : V) : funM Tryz.prog (ovr [] noC) fid_book_SameNums h_book_SameNums [x0, x1] = F_book_SameNums x0 x1 := by kernel_rfl
theorem K_book_SameNums : Known Tryz.prog fid_book_SameNums (A_book_SameNums) := known_of (σ := ovr [] noC) (hint := h_book_SameNums) (by kernel_rfl) simAll_nil0 fun l H r H' h => by
  unfold A_book_SameNums at h; split at h
  · rw [e_book_SameNums]; exact h
  · exact (fail_ne h).elim

/-! ### capstan/capstanbook.SameImage -/
def book_SameImage_k0 (vs_4 : List V) : M Out :=
  bnd (lift (bin .add (at_ vs_4 2) (Value.int .i64 1))) fun x58 =>
  ret (.nxt [(at_ vs_4 0), (at_ vs_4 1), x58])
def book_SameImage_k1 (vs_3 : List V) : M Out :=
  bnd (
  bnd (
    bnd (lift (faddr 5 (at_ vs_3 0))) fun x59 =>
    bnd (lift (faddr 5 (at_ vs_3 1))) fun x64 =>
    bnd (ld1 x59) fun x60 =>
    bnd (lift (iaddrS 4 x60 (at_ vs_3 2))) fun x62 =>
    bnd (ldn 4 x62) fun x63 =>
    bnd (ld1 x64) fun x65 =>
    bnd (lift (iaddrS 4 x65 (at_ vs_3 2))) fun x67 =>
    bnd (ldn 4 x67) fun x68 =>
    bnd (lift (notIf true (eqAgg [.i, .i, .i, .i] x63 x68))) fun x69 =>
    condM x69 (
      ret (.ret [(Value.bool false)])
      ) (
      ret (.nxt [(at_ vs_3 0), (at_ vs_3 1), (at_ vs_3 2)])
      )
    ) fun o => ret (unblk 1 o)
  ) fun o => nx o book_SameImage_k0
def book_SameImage_l2 (vs_2 : List V) : M Out :=
  bnd (
  bnd (lift (faddr 5 (at_ vs_2 0))) fun x53 =>
  bnd (ld1 x53) fun x54 =>
  bnd (lift (lenSlc x54)) fun x55 =>
  bnd (lift (bin .lss (at_ vs_2 2) x55)) fun x56 =>
  condM x56 (
    ret (.nxt [(at_ vs_2 0), (at_ vs_2 1), (at_ vs_2 2)])
    ) (
    ret (.brk 0 [])
    )
  ) fun o => nx o book_SameImage_k1
def book_SameImage_k3 (vs_5 : List V) : M Out :=
  ret (.ret [(Value.bool true)])
def book_SameImage_k4 (vs : List V) : M Out :=
  bnd (
    bnd (
      loopM FUEL book_SameImage_l2 [(at_ vs 0), (at_ vs 1), (Value.int .i64 0)]
      ) fun o => ret (unblk 0 o)
    ) fun o => nx o book_SameImage_k3
def F_book_SameImage (x0 x1 : V) : M V :=
  bnd (
    bnd (boxv x0) fun x2 =>
    bnd (boxv x1) fun x3 =>
    bnd (
      bnd (lift (faddr 0 x2)) fun x6 =>
      bnd (ld1 x6) fun x7 =>
      bnd (lift (faddr 0 x3)) fun x8 =>
      bnd (ld1 x8) fun x9 =>
      bnd (lift (bin .neq x7 x9)) fun x10 =>
      bnd (gd x10 false (lift (faddr 1 x2))) fun x12 =>
      bnd (gd x10 false (ld1 x12)) fun x13 =>
      bnd (gd x10 false (lift (faddr 1 x3))) fun x14 =>
      bnd (gd x10 false (ld1 x14)) fun x15 =>
      bnd (gd x10 false (A_book_SameInts [x13, x15])) fun x16 =>
      bnd (gd x10 false (lift (un .not x16))) fun x17 =>
      bnd (lift (pickV x10 (Value.bool true) x17)) fun x18 =>
      bnd (gd x18 false (lift (faddr 2 x2))) fun x20 =>
      bnd (gd x18 false (ld1 x20)) fun x21 =>
      bnd (gd x18 false (lift (faddr 2 x3))) fun x22 =>
      bnd (gd x18 false (ld1 x22)) fun x23 =>
      bnd (gd x18 false (A_book_SameNums [x21, x23])) fun x24 =>
      bnd (gd x18 false (lift (un .not x24))) fun x25 =>
      bnd (lift (pickV x18 (Value.bool true) x25)) fun x26 =>
      bnd (gd x26 false (lift (faddr 3 x2))) fun x28 =>
      bnd (gd x26 false (ld1 x28)) fun x29 =>
      bnd (gd x26 false (lift (faddr 3 x3))) fun x30 =>
      bnd (gd x26 false (ld1 x30)) fun x31 =>
      bnd (gd x26 false (A_book_SameInts [x29, x31])) fun x32 =>
      bnd (gd x26 false (lift (un .not x32))) fun x33 =>
      bnd (lift (pickV x26 (Value.bool true) x33)) fun x34 =>
      bnd (gd x34 false (lift (faddr 4 x2))) fun x36 =>
      bnd (gd x34 false (ld1 x36)) fun x37 =>
      bnd (gd x34 false (lift (faddr 4 x3))) fun x38 =>
      bnd (gd x34 false (ld1 x38)) fun x39 =>
      bnd (gd x34 false (A_book_SameInts [x37, x39])) fun x40 =>
      bnd (gd x34 false (lift (un .not x40))) fun x41 =>
      bnd (lift (pickV x34 (Value.bool true) x41)) fun x42 =>
      bnd (gd x42 false (lift (faddr 5 x2))) fun x44 =>
      bnd (gd x42 false (ld1 x44)) fun x45 =>
      bnd (gd x42 false (lift (lenSlc x45))) fun x46 =>
      bnd (gd x42 false (lift (faddr 5 x3))) fun x47 =>
      bnd (gd x42 false (ld1 x47)) fun x48 =>
      bnd (gd x42 false (lift (lenSlc x48))) fun x49 =>
      bnd (gd x42 false (lift (bin .neq x46 x49))) fun x50 =>
      bnd (lift (pickV x42 (Value.bool true) x50)) fun x51 =>
      condM x51 (
        ret (.ret [(Value.bool false)])
        ) (
        ret (.nxt [x2, x3])
        )
      ) fun o => nx o book_SameImage_k4
    ) fun o => finM o fun vs => ret (outV [(at_ vs 0)])
def h_book_SameImage : Hint := (.seq [] .leaf (.seq [2, 3] (.seq [] .leaf (.cond (.seq [] .leaf .leaf) .leaf)) (.seq [] (.seq [] .leaf (.blk (.loop [2, 3, 5] (.seq [2, 3, 5] (.seq [] .leaf (.cond .leaf .leaf)) (.seq [2, 3, 5] (.blk (.seq [] (.reg [0, 2, 5, 7, 1, 3, 4, 6, 8, 9, 10] []) (.cond (.seq [] .leaf .leaf) .leaf))) .leaf))))) (.seq [] .leaf .leaf))))
def A_book_SameImage (l : List V) : M V := match l with | [x0, x1] => F_book_SameImage x0 x1 | _ => fail
def s_book_SameImage : Calls' := ovr [(fid_book_SameInts, A_book_SameInts), (fid_book_SameNums, A_book_SameNums)] noC
theorem e_book_SameImage (x0 x1 : V) : funM Tryz.prog (s_book_SameImage) fid_book_SameImage h_book_SameImage [x0, x1] = F_book_SameImage x0 x1 := by kernel_rfl
theorem K_book_SameImage : Known Tryz.prog fid_book_SameImage (A_book_SameImage) := known_of (σ := s_book_SameImage) (hint := h_book_SameImage) (by kernel_rfl) (simAll_ovr K_book_SameInts (simAll_ovr K_book_SameNums simAll_nil0)) fun l H r H' h => by
  unfold A_book_SameImage at h; split at h
  · rw [e_book_SameImage]; exact h
  · exact (fail_ne h).elim

/-! ### capstan/code.Show -/
def code_Show_k0 (G_strconv_Itoa : List V → M V) (G_strconv_FormatInt : List V → M V) (G_strings_Join : List V → M V) (vs : List V) : M Out :=
  withH fun h0 =>
  bnd (lift (faddr 1 (at_ vs 0))) fun x19 =>
  bnd (lift (faddr 2 (at_ vs 0))) fun x22 =>
  bnd (lift (faddr 3 (at_ vs 0))) fun x25 =>
  bnd (ld1 x19) fun x20 =>
  bnd (ld1 x22) fun x23 =>
  bnd (ld1 x25) fun x26 =>
  bndH (G_strconv_Itoa [x20]) fun ha x21 h1 =>
  bndH (G_strconv_Itoa [x23]) fun ha_2 x24 h2 =>
  bndH (G_strconv_FormatInt [x26, (Value.int .i64 10)]) fun ha_3 x27 h3 =>
  bndH (bslc 1 4 (rep 4 [Value.string ⟨#[]⟩]) [(0, 1, (at_ vs 1)), (1, 1, x21), (2, 1, x24), (3, 1, x27)]) fun ha_4 x28 h4 =>
  bndH (G_strings_Join [x28, (Value.string ⟨#[32]⟩)]) fun ha_5 x29 h5 =>
  need (chk (ld1 x22) h1 x23) <|
  need (chk (ld1 x25) h1 x26) <|
  need (chk (ld1 x25) h2 x26) <|
  ret (.ret [x29])
def F_code_Show (G_strconv_Itoa : List V → M V) (G_strconv_FormatInt : List V → M V) (G_strings_Join : List V → M V) (x0 : V) : M V :=
  bnd (
    bnd (boxv x0) fun x1 =>
    bnd (lift (iaddrA 13 1 (ptr gid_code_opNames 0) (Value.int .i64 0))) fun x4 =>
    bnd (ld1 x4) fun x5 =>
    bnd (
      bnd (lift (faddr 0 x1)) fun x6 =>
      bnd (ld1 x6) fun x7 =>
      bnd (lift (bin .gtr x7 (Value.int .i64 0))) fun x8 =>
      bnd (gd x8 true (lift (faddr 0 x1))) fun x10 =>
      bnd (gd x8 true (ld1 x10)) fun x11 =>
      bnd (gd x8 true (lift (bin .lss x11 (Value.int .i64 13)))) fun x12 =>
      bnd (lift (pickV x8 x12 (Value.bool false))) fun x13 =>
      condM x13 (
        bnd (lift (faddr 0 x1)) fun x14 =>
        bnd (ld1 x14) fun x15 =>
        bnd (lift (iaddrA 13 1 (ptr gid_code_opNames 0) x15)) fun x16 =>
        bnd (ld1 x16) fun x17 =>
        ret (.nxt [x1, x17])
        ) (
        ret (.nxt [x1, x5])
        )
      ) fun o => nx o (code_Show_k0 G_strconv_Itoa G_strconv_FormatInt G_strings_Join)
    ) fun o => finM o fun vs => ret (outV [(at_ vs 0)])
def h_code_Show : Hint := (.seq [] .leaf (.seq [] .leaf (.seq [1, 3] (.seq [] .leaf (.cond .leaf .leaf)) (.seq [] (.reg [0, 1, 4, 7, 2, 5, 8, 3, 6, 9, 10, 11, 12] []) .leaf))))
def A_code_Show (G_strconv_Itoa : List V → M V) (G_strconv_FormatInt : List V → M V) (G_strings_Join : List V → M V) (l : List V) : M V := match l with | [x0] => F_code_Show G_strconv_Itoa G_strconv_FormatInt G_strings_Join x0 | _ => fail
theorem e_code_Show (G_strconv_Itoa : List V → M V) (G_strconv_FormatInt : List V → M V) (G_strings_Join : List V → M V) (x0 : V) : funM Tryz.prog (ovr [(fid_strconv_Itoa, G_strconv_Itoa), (fid_strconv_FormatInt, G_strconv_FormatInt), (fid_strings_Join, G_strings_Join)] noC) fid_code_Show h_code_Show [x0] = F_code_Show G_strconv_Itoa G_strconv_FormatInt G_strings_Join x0 := by kernel_rfl
theorem K_code_Show {G_strconv_Itoa : List V → M V} {G_strconv_FormatInt : List V → M V} {G_strings_Join : List V → M V} (k_strconv_Itoa : Known Tryz.prog fid_strconv_Itoa G_strconv_Itoa) (k_strconv_FormatInt : Known Tryz.prog fid_strconv_FormatInt G_strconv_FormatInt) (k_strings_Join : Known Tryz.prog fid_strings_Join G_strings_Join) : Known Tryz.prog fid_code_Show (A_code_Show G_strconv_Itoa G_strconv_FormatInt G_strings_Join) := known_of (σ := ovr [(fid_strconv_Itoa, G_strconv_Itoa), (fid_strconv_FormatInt, G_strconv_FormatInt), (fid_strings_Join, G_strings_Join)] noC) (hint := h_code_Show) (by kernel_rfl) (simAll_ovr k_strconv_Itoa (simAll_ovr k_strconv_FormatInt (simAll_ovr k_strings_Join simAll_nil0))) fun l H r H' h => by
  unfold A_code_Show at h; split at h
  · rw [e_code_Show]; exact h
  · exact (fail_ne h).elim

/-! ### capstan/capstanlaw13.works -/
def F_law13_works (G_strings_IndexRune : List V → M V) (G_strings_Contains : List V → M V) (G_strconv_Itoa : List V → M V) (G_strconv_FormatInt : List V → M V) (G_strings_Join : List V → M V) : M V :=
  bnd (
    bnd (bslc 1 1 (rep 1 [Value.int .i64 0]) [(0, 1, (Value.int .i64 2))]) fun x6 =>
    bnd (bslc 1 1 (rep 1 [Value.int .i64 0]) [(0, 1, (Value.int .i64 0))]) fun x7 =>
    bnd (lift (build [Value.int .i64 0, Value.int .i64 0, Value.int .i64 0, Value.int .i64 0] [(0, 1, (Value.int .i64 1)), (1, 1, (Value.int .i64 2)), (3, 1, (Value.int .i64 5))])) fun x8 =>
    bnd (lift (build [Value.int .i64 0, Value.int .i64 0, Value.int .i64 0, Value.int .i64 0] [(0, 1, (Value.int .i64 3))])) fun x9 =>
    bnd (lift (build [Value.int .i64 0, Value.int .i64 0, Value.int .i64 0, Value.int .i64 0] [(0, 1, (Value.int .i64 12))])) fun x10 =>
    bnd (bslc 4 3 (rep 3 [Value.int .i64 0, Value.int .i64 0, Value.int .i64 0, Value.int .i64 0]) [(0, 4, x8), (4, 4, x9), (8, 4, x10)]) fun x11 =>
    bnd (lift (build [Value.string ⟨#[]⟩, Value.slice none 0 0, Value.slice none 0 0, Value.slice none 0 0, Value.slice none 0 0, Value.slice none 0 0] [(0, 1, (Value.string ⟨#[80]⟩)), (1, 1, x6), (2, 1, x7), (5, 1, x11)])) fun x12 =>
    bnd (newc [Value.string ⟨#[]⟩, Value.slice none 0 0, Value.slice none 0 0, Value.slice none 0 0, Value.slice none 0 0, Value.slice none 0 0]) fun x1 =>
    bnd (stn 6 x1 x12) fun _ =>
    bnd (ldn 6 x1) fun x14 =>
    bnd ((A_code_Check G_strings_IndexRune G_strings_Contains) [x14]) fun x15 =>
    bnd (lift (ext 0 x15)) fun x16 =>
    bnd (lift (ext 1 x15)) fun x17 =>
    bnd (lift (faddr 5 x1)) fun x18 =>
    bnd (ld1 x18) fun x19 =>
    bnd (lift (build [Value.int .i64 0, Value.int .i64 0, Value.int .i64 0, Value.int .i64 0] [(0, 1, (Value.int .i64 2)), (1, 1, (Value.int .i64 1))])) fun x20 =>
    bnd (lift (iaddrS 4 x19 (Value.int .i64 1))) fun x21 =>
    bnd (stn 4 x21 x20) fun _ =>
    bnd (ldn 6 x1) fun x23 =>
    bnd ((A_code_Check G_strings_IndexRune G_strings_Contains) [x23]) fun x24 =>
    bnd (lift (ext 0 x24)) fun x25 =>
    bnd (lift (ext 1 x24)) fun x26 =>
    bnd (lift (bin .eql x17 (Value.int .i64 0))) fun x28 =>
    bnd (gd x28 true (lift (some x25))) fun x30 =>
    bnd (gd x28 true (lift (bin .eql x30 (Value.int .i64 1)))) fun x31 =>
    bnd (lift (pickV x28 x31 (Value.bool false))) fun x32 =>
    bnd (gd x32 true (lift (some x26))) fun x34 =>
    bnd (gd x32 true (lift (bin .eql x34 (Value.int .i64 130)))) fun x35 =>
    bnd (lift (pickV x32 x35 (Value.bool false))) fun x36 =>
    bnd (gd x36 true (lift (build [Value.int .i64 0, Value.int .i64 0, Value.int .i64 0, Value.int .i64 0] [(0, 1, (Value.int .i64 1)), (1, 1, (Value.int .i64 2)), (3, 1, (Value.int .i64 (-5)))]))) fun x38 =>
    bnd (gd x36 true ((A_code_Show G_strconv_Itoa G_strconv_FormatInt G_strings_Join) [x38])) fun x39 =>
    bnd (gd x36 true (lift (bin .eql x39 (Value.string ⟨#[80, 85, 83, 72, 32, 50, 32, 48, 32, 45, 53]⟩)))) fun x40 =>
    bnd (lift (pickV x36 x40 (Value.bool false))) fun x41 =>
    ret (.ret [x41])
    ) fun o => finM o fun vs => ret (outV [(at_ vs 0)])
def h_law13_works : Hint := (.seq [] .leaf (.seq [] .leaf (.seq [] .leaf (.seq [] .leaf (.seq [] .leaf (.seq [] .leaf .leaf))))))
def A_law13_works (G_strings_IndexRune : List V → M V) (G_strings_Contains : List V → M V) (G_strconv_Itoa : List V → M V) (G_strconv_FormatInt : List V → M V) (G_strings_Join : List V → M V) (l : List V) : M V := match l with | [] => F_law13_works G_strings_IndexRune G_strings_Contains G_strconv_Itoa G_strconv_FormatInt G_strings_Join  | _ => fail
theorem e_law13_works (G_strings_IndexRune : List V → M V) (G_strings_Contains : List V → M V) (G_strconv_Itoa : List V → M V) (G_strconv_FormatInt : List V → M V) (G_strings_Join : List V → M V) : funM Tryz.prog (ovr [(fid_code_Check, A_code_Check G_strings_IndexRune G_strings_Contains), (fid_code_Show, A_code_Show G_strconv_Itoa G_strconv_FormatInt G_strings_Join)] noC) fid_law13_works h_law13_works [] = F_law13_works G_strings_IndexRune G_strings_Contains G_strconv_Itoa G_strconv_FormatInt G_strings_Join  := by kernel_rfl
theorem K_law13_works {G_strings_IndexRune : List V → M V} {G_strings_Contains : List V → M V} {G_strconv_Itoa : List V → M V} {G_strconv_FormatInt : List V → M V} {G_strings_Join : List V → M V} (k_strings_IndexRune : Known Tryz.prog fid_strings_IndexRune G_strings_IndexRune) (k_strings_Contains : Known Tryz.prog fid_strings_Contains G_strings_Contains) (k_strconv_Itoa : Known Tryz.prog fid_strconv_Itoa G_strconv_Itoa) (k_strconv_FormatInt : Known Tryz.prog fid_strconv_FormatInt G_strconv_FormatInt) (k_strings_Join : Known Tryz.prog fid_strings_Join G_strings_Join) : Known Tryz.prog fid_law13_works (A_law13_works G_strings_IndexRune G_strings_Contains G_strconv_Itoa G_strconv_FormatInt G_strings_Join) := known_of (σ := ovr [(fid_code_Check, A_code_Check G_strings_IndexRune G_strings_Contains), (fid_code_Show, A_code_Show G_strconv_Itoa G_strconv_FormatInt G_strings_Join)] noC) (hint := h_law13_works) (by kernel_rfl) (simAll_ovr (K_code_Check k_strings_IndexRune k_strings_Contains) (simAll_ovr (K_code_Show k_strconv_Itoa k_strconv_FormatInt k_strings_Join) simAll_nil0)) fun l H r H' h => by
  unfold A_law13_works at h; split at h
  · rw [e_law13_works]; exact h
  · exact (fail_ne h).elim

/-! ### capstan/capstanlaw13.CodeChecks -/
def F_law13_CodeChecks (G_strings_IndexRune : List V → M V) (G_strings_Contains : List V → M V) (G_strconv_Itoa : List V → M V) (G_strconv_FormatInt : List V → M V) (G_strings_Join : List V → M V) (x0 : V) : M V :=
  bnd (
    bnd (boxv x0) fun x1 =>
    bnd (ldn 6 x1) fun x12 =>
    bnd (A_book_CopyImage [x12]) fun x13 =>
    bnd (newc [Value.string ⟨#[]⟩, Value.slice none 0 0, Value.slice none 0 0, Value.slice none 0 0, Value.slice none 0 0, Value.slice none 0 0]) fun x3 =>
    bnd (stn 6 x3 x13) fun _ =>
    bnd (ldn 6 x3) fun x15 =>
    bnd ((A_code_Check G_strings_IndexRune G_strings_Contains) [x15]) fun x16 =>
    bnd (lift (ext 0 x16)) fun x17 =>
    bnd (lift (ext 1 x16)) fun x18 =>
    bnd (ldn 6 x1) fun x20 =>
    bnd (A_ref13_Check [x20]) fun x21 =>
    bnd (lift (ext 0 x21)) fun x22 =>
    bnd (lift (ext 1 x21)) fun x23 =>
    bnd (ldn 6 x3) fun x25 =>
    bnd ((A_code_Encode G_strings_IndexRune G_strings_Contains) [x25]) fun x26 =>
    bnd (lift (ext 0 x26)) fun x27 =>
    bnd (lift (ext 1 x26)) fun x28 =>
    bnd (ldn 6 x1) fun x30 =>
    bnd (A_ref13_Encode [x30]) fun x31 =>
    bnd (lift (ext 0 x31)) fun x32 =>
    bnd (lift (ext 1 x31)) fun x33 =>
    bnd (A_law13_names []) fun x34 =>
    bnd (gd x34 true (lift (some x17))) fun x36 =>
    bnd (gd x34 true (lift (some x22))) fun x37 =>
    bnd (gd x34 true (lift (bin .eql x36 x37))) fun x38 =>
    bnd (lift (pickV x34 x38 (Value.bool false))) fun x39 =>
    bnd (gd x39 true (lift (some x18))) fun x41 =>
    bnd (gd x39 true (lift (some x23))) fun x42 =>
    bnd (gd x39 true (lift (bin .eql x41 x42))) fun x43 =>
    bnd (lift (pickV x39 x43 (Value.bool false))) fun x44 =>
    bnd (gd x44 true (lift (some x27))) fun x46 =>
    bnd (gd x44 true (lift (some x32))) fun x47 =>
    bnd (gd x44 true (lift (bin .eql x46 x47))) fun x48 =>
    bnd (lift (pickV x44 x48 (Value.bool false))) fun x49 =>
    bnd (gd x49 true (lift (some x28))) fun x51 =>
    bnd (gd x49 true (lift (some x33))) fun x52 =>
    bnd (gd x49 true (lift (bin .eql x51 x52))) fun x53 =>
    bnd (lift (pickV x49 x53 (Value.bool false))) fun x54 =>
    bnd (gd x54 true (ldn 6 x3)) fun x56 =>
    bnd (gd x54 true (ldn 6 x1)) fun x57 =>
    bnd (gd x54 true (A_book_SameImage [x56, x57])) fun x58 =>
    bnd (lift (pickV x54 x58 (Value.bool false))) fun x59 =>
    bnd (gd x59 true ((A_law13_works G_strings_IndexRune G_strings_Contains G_strconv_Itoa G_strconv_FormatInt G_strings_Join) [])) fun x61 =>
    bnd (lift (pickV x59 x61 (Value.bool false))) fun x62 =>
    ret (.ret [x62])
    ) fun o => finM o fun vs => ret (outV [(at_ vs 0)])
def h_law13_CodeChecks : Hint := (.seq [] .leaf (.seq [] .leaf (.seq [] .leaf (.seq [] .leaf (.seq [] .leaf (.seq [] .leaf (.seq [] .leaf .leaf)))))))
def A_law13_CodeChecks (G_strings_IndexRune : List V → M V) (G_strings_Contains : List V → M V) (G_strconv_Itoa : List V → M V) (G_strconv_FormatInt : List V → M V) (G_strings_Join : List V → M V) (l : List V) : M V := match l with | [x0] => F_law13_CodeChecks G_strings_IndexRune G_strings_Contains G_strconv_Itoa G_strconv_FormatInt G_strings_Join x0 | _ => fail
theorem e_law13_CodeChecks (G_strings_IndexRune : List V → M V) (G_strings_Contains : List V → M V) (G_strconv_Itoa : List V → M V) (G_strconv_FormatInt : List V → M V) (G_strings_Join : List V → M V) (x0 : V) : funM Tryz.prog (ovr [(fid_book_CopyImage, A_book_CopyImage), (fid_code_Check, A_code_Check G_strings_IndexRune G_strings_Contains), (fid_ref13_Check, A_ref13_Check), (fid_code_Encode, A_code_Encode G_strings_IndexRune G_strings_Contains), (fid_ref13_Encode, A_ref13_Encode), (fid_law13_names, A_law13_names), (fid_book_SameImage, A_book_SameImage), (fid_law13_works, A_law13_works G_strings_IndexRune G_strings_Contains G_strconv_Itoa G_strconv_FormatInt G_strings_Join)] noC) fid_law13_CodeChecks h_law13_CodeChecks [x0] = F_law13_CodeChecks G_strings_IndexRune G_strings_Contains G_strconv_Itoa G_strconv_FormatInt G_strings_Join x0 := by kernel_rfl
theorem K_law13_CodeChecks {G_strings_IndexRune : List V → M V} {G_strings_Contains : List V → M V} {G_strconv_Itoa : List V → M V} {G_strconv_FormatInt : List V → M V} {G_strings_Join : List V → M V} (k_strings_IndexRune : Known Tryz.prog fid_strings_IndexRune G_strings_IndexRune) (k_strings_Contains : Known Tryz.prog fid_strings_Contains G_strings_Contains) (k_strconv_Itoa : Known Tryz.prog fid_strconv_Itoa G_strconv_Itoa) (k_strconv_FormatInt : Known Tryz.prog fid_strconv_FormatInt G_strconv_FormatInt) (k_strings_Join : Known Tryz.prog fid_strings_Join G_strings_Join) : Known Tryz.prog fid_law13_CodeChecks (A_law13_CodeChecks G_strings_IndexRune G_strings_Contains G_strconv_Itoa G_strconv_FormatInt G_strings_Join) := known_of (σ := ovr [(fid_book_CopyImage, A_book_CopyImage), (fid_code_Check, A_code_Check G_strings_IndexRune G_strings_Contains), (fid_ref13_Check, A_ref13_Check), (fid_code_Encode, A_code_Encode G_strings_IndexRune G_strings_Contains), (fid_ref13_Encode, A_ref13_Encode), (fid_law13_names, A_law13_names), (fid_book_SameImage, A_book_SameImage), (fid_law13_works, A_law13_works G_strings_IndexRune G_strings_Contains G_strconv_Itoa G_strconv_FormatInt G_strings_Join)] noC) (hint := h_law13_CodeChecks) (by kernel_rfl) (simAll_ovr K_book_CopyImage (simAll_ovr (K_code_Check k_strings_IndexRune k_strings_Contains) (simAll_ovr K_ref13_Check (simAll_ovr (K_code_Encode k_strings_IndexRune k_strings_Contains) (simAll_ovr K_ref13_Encode (simAll_ovr K_law13_names (simAll_ovr K_book_SameImage (simAll_ovr (K_law13_works k_strings_IndexRune k_strings_Contains k_strconv_Itoa k_strconv_FormatInt k_strings_Join) simAll_nil0)))))))) fun l H r H' h => by
  unfold A_law13_CodeChecks at h; split at h
  · rw [e_law13_CodeChecks]; exact h
  · exact (fail_ne h).elim

end Go.AM.Cap
