import Derived.Test.YtcmimkacafphkaaGreatDoorFun
set_option linter.all false
/- Printed by amprint2.py: functions of YtcmimkacafphkaaGreatDoor on the abstract machine. -/
set_option linter.unusedVariables false
set_option maxRecDepth 100000
namespace Go.AM.Cap
open Go.AM Go.Proofs


/-! ### capstan/capstanlaw13.CodeBack -/
def law13_CodeBack_k0 (G_strings_IndexRune : List V → M V) (G_strings_Contains : List V → M V) (G_strconv_Itoa : List V → M V) (G_strconv_FormatInt : List V → M V) (G_strings_Join : List V → M V) (G_errors_As : List V → M V) (vs_3 : List V) : M Out :=
  bnd (ldn 6 (at_ vs_3 1)) fun x58 =>
  bnd ((A_code_Encode G_strings_IndexRune G_strings_Contains) [x58]) fun x59 =>
  bnd (lift (ext 0 x59)) fun x60 =>
  bnd (lift (ext 1 x59)) fun x61 =>
  bnd (lift (bin .eql x61 (Value.int .i64 0))) fun x63 =>
  bnd (gd x63 true (lift (some x60))) fun x65 =>
  bnd (gd x63 true (lift (some (at_ vs_3 0)))) fun x66 =>
  bnd (gd x63 true (lift (bin .eql x65 x66))) fun x67 =>
  bnd (lift (pickV x63 x67 (Value.bool false))) fun x68 =>
  ret (.ret [x68])
def law13_CodeBack_k1 (G_strings_IndexRune : List V → M V) (G_strings_Contains : List V → M V) (G_strconv_Itoa : List V → M V) (G_strconv_FormatInt : List V → M V) (G_strings_Join : List V → M V) (G_errors_As : List V → M V) (vs_2 : List V) : M Out :=
  bnd ((A_code_Decode G_errors_As G_strings_IndexRune G_strings_Contains) [(at_ vs_2 0)]) fun x39 =>
  bnd (lift (ext 0 x39)) fun x40 =>
  bnd (lift (ext 1 x39)) fun x41 =>
  bnd (newc [Value.string ⟨#[]⟩, Value.slice none 0 0, Value.slice none 0 0, Value.slice none 0 0, Value.slice none 0 0, Value.slice none 0 0]) fun x9 =>
  bnd (stn 6 x9 x40) fun _ =>
  bnd (
    bnd (lift (bin .neq x41 (Value.int .i64 0))) fun x43 =>
    condM x43 (
      bnd (lift (bin .eql x41 (Value.int .i64 130))) fun x45 =>
      bnd (gd x45 true (lift (faddr 5 x9))) fun x47 =>
      bnd (gd x45 true (ld1 x47)) fun x48 =>
      bnd (gd x45 true (lift (lenSlc x48))) fun x49 =>
      bnd (gd x45 true (lift (bin .eql x49 (Value.int .i64 0)))) fun x50 =>
      bnd (lift (pickV x45 x50 (Value.bool false))) fun x51 =>
      bnd (gd x51 true (lift (faddr 0 x9))) fun x53 =>
      bnd (gd x51 true (ld1 x53)) fun x54 =>
      bnd (gd x51 true (lift (bin .eql x54 (Value.string ⟨#[]⟩)))) fun x55 =>
      bnd (lift (pickV x51 x55 (Value.bool false))) fun x56 =>
      ret (.ret [x56])
      ) (
      ret (.nxt [(at_ vs_2 0), x9])
      )
    ) fun o => nx o (law13_CodeBack_k0 G_strings_IndexRune G_strings_Contains G_strconv_Itoa G_strconv_FormatInt G_strings_Join G_errors_As)
def law13_CodeBack_k2 (G_strings_IndexRune : List V → M V) (G_strings_Contains : List V → M V) (G_strconv_Itoa : List V → M V) (G_strconv_FormatInt : List V → M V) (G_strings_Join : List V → M V) (G_errors_As : List V → M V) (vs : List V) : M Out :=
  bnd (
    bnd (ldn 6 (at_ vs 1)) fun x16 =>
    bnd ((A_code_Encode G_strings_IndexRune G_strings_Contains) [x16]) fun x17 =>
    bnd (lift (ext 0 x17)) fun x18 =>
    bnd (lift (ext 1 x17)) fun x19 =>
    bnd (lift (bin .eql x19 (Value.int .i64 0))) fun x21 =>
    condM x21 (
      bnd ((A_code_Decode G_errors_As G_strings_IndexRune G_strings_Contains) [x18]) fun x24 =>
      bnd (lift (ext 0 x24)) fun x25 =>
      bnd (lift (ext 1 x24)) fun x26 =>
      bnd (newc [Value.string ⟨#[]⟩, Value.slice none 0 0, Value.slice none 0 0, Value.slice none 0 0, Value.slice none 0 0, Value.slice none 0 0]) fun x7 =>
      bnd (stn 6 x7 x25) fun _ =>
      bnd (lift (bin .neq x26 (Value.int .i64 0))) fun x28 =>
      bnd (gd x28 false (ldn 6 (at_ vs 1))) fun x30 =>
      bnd (gd x28 false (ldn 6 x7)) fun x31 =>
      bnd (gd x28 false (A_book_SameImage [x30, x31])) fun x32 =>
      bnd (gd x28 false (lift (un .not x32))) fun x33 =>
      bnd (lift (pickV x28 (Value.bool true) x33)) fun x34 =>
      condM x34 (
        ret (.ret [(Value.bool false)])
        ) (
        ret (.nxt [(at_ vs 0)])
        )
      ) (
      bnd (lift (bin .neq x18 (Value.string ⟨#[]⟩))) fun x36 =>
      condM x36 (
        ret (.ret [(Value.bool false)])
        ) (
        ret (.nxt [(at_ vs 0)])
        )
      )
    ) fun o => nx o (law13_CodeBack_k1 G_strings_IndexRune G_strings_Contains G_strconv_Itoa G_strconv_FormatInt G_strings_Join G_errors_As)
def F_law13_CodeBack (G_strings_IndexRune : List V → M V) (G_strings_Contains : List V → M V) (G_strconv_Itoa : List V → M V) (G_strconv_FormatInt : List V → M V) (G_strings_Join : List V → M V) (G_errors_As : List V → M V) (x0 x1 : V) : M V :=
  bnd (
    bnd (boxv x0) fun x2 =>
    bnd (
      bnd ((A_law13_works G_strings_IndexRune G_strings_Contains G_strconv_Itoa G_strconv_FormatInt G_strings_Join) []) fun x13 =>
      bnd (lift (un .not x13)) fun x14 =>
      condM x14 (
        ret (.ret [(Value.bool false)])
        ) (
        ret (.nxt [x1, x2])
        )
      ) fun o => nx o (law13_CodeBack_k2 G_strings_IndexRune G_strings_Contains G_strconv_Itoa G_strconv_FormatInt G_strings_Join G_errors_As)
    ) fun o => finM o fun vs => ret (outV [(at_ vs 0)])
def h_law13_CodeBack : Hint := (.seq [] .leaf (.seq [1, 2] (.seq [] .leaf (.cond (.seq [] .leaf .leaf) .leaf)) (.seq [1] (.seq [] .leaf (.seq [] .leaf (.cond (.seq [] .leaf (.seq [] .leaf (.cond (.seq [] .leaf .leaf) .leaf))) (.seq [] .leaf (.cond (.seq [] .leaf .leaf) .leaf))))) (.seq [] .leaf (.seq [1, 9] (.seq [] .leaf (.cond (.seq [] .leaf .leaf) .leaf)) (.seq [] .leaf (.seq [] .leaf .leaf)))))))
def A_law13_CodeBack (G_strings_IndexRune : List V → M V) (G_strings_Contains : List V → M V) (G_strconv_Itoa : List V → M V) (G_strconv_FormatInt : List V → M V) (G_strings_Join : List V → M V) (G_errors_As : List V → M V) (l : List V) : M V := match l with | [x0, x1] => F_law13_CodeBack G_strings_IndexRune G_strings_Contains G_strconv_Itoa G_strconv_FormatInt G_strings_Join G_errors_As x0 x1 | _ => fail
theorem e_law13_CodeBack (G_strings_IndexRune : List V → M V) (G_strings_Contains : List V → M V) (G_strconv_Itoa : List V → M V) (G_strconv_FormatInt : List V → M V) (G_strings_Join : List V → M V) (G_errors_As : List V → M V) (x0 x1 : V) : funM Tryz.prog (ovr [(fid_law13_works, A_law13_works G_strings_IndexRune G_strings_Contains G_strconv_Itoa G_strconv_FormatInt G_strings_Join), (fid_code_Encode, A_code_Encode G_strings_IndexRune G_strings_Contains), (fid_code_Decode, A_code_Decode G_errors_As G_strings_IndexRune G_strings_Contains), (fid_book_SameImage, A_book_SameImage)] noC) fid_law13_CodeBack h_law13_CodeBack [x0, x1] = F_law13_CodeBack G_strings_IndexRune G_strings_Contains G_strconv_Itoa G_strconv_FormatInt G_strings_Join G_errors_As x0 x1 := by kernel_rfl
theorem K_law13_CodeBack {G_strings_IndexRune : List V → M V} {G_strings_Contains : List V → M V} {G_strconv_Itoa : List V → M V} {G_strconv_FormatInt : List V → M V} {G_strings_Join : List V → M V} {G_errors_As : List V → M V} (k_strings_IndexRune : Known Tryz.prog fid_strings_IndexRune G_strings_IndexRune) (k_strings_Contains : Known Tryz.prog fid_strings_Contains G_strings_Contains) (k_strconv_Itoa : Known Tryz.prog fid_strconv_Itoa G_strconv_Itoa) (k_strconv_FormatInt : Known Tryz.prog fid_strconv_FormatInt G_strconv_FormatInt) (k_strings_Join : Known Tryz.prog fid_strings_Join G_strings_Join) (k_errors_As : Known Tryz.prog fid_errors_As G_errors_As) : Known Tryz.prog fid_law13_CodeBack (A_law13_CodeBack G_strings_IndexRune G_strings_Contains G_strconv_Itoa G_strconv_FormatInt G_strings_Join G_errors_As) := known_of (σ := ovr [(fid_law13_works, A_law13_works G_strings_IndexRune G_strings_Contains G_strconv_Itoa G_strconv_FormatInt G_strings_Join), (fid_code_Encode, A_code_Encode G_strings_IndexRune G_strings_Contains), (fid_code_Decode, A_code_Decode G_errors_As G_strings_IndexRune G_strings_Contains), (fid_book_SameImage, A_book_SameImage)] noC) (hint := h_law13_CodeBack) (by kernel_rfl) (simAll_ovr (K_law13_works k_strings_IndexRune k_strings_Contains k_strconv_Itoa k_strconv_FormatInt k_strings_Join) (simAll_ovr (K_code_Encode k_strings_IndexRune k_strings_Contains) (simAll_ovr (K_code_Decode k_errors_As k_strings_IndexRune k_strings_Contains) (simAll_ovr K_book_SameImage simAll_nil0)))) fun l H r H' h => by
  unfold A_law13_CodeBack at h; split at h
  · rw [e_law13_CodeBack]; exact h
  · exact (fail_ne h).elim

end Go.AM.Cap
