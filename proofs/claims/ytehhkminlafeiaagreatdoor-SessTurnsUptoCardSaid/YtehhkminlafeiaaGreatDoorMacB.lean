import Derived.Test.YtehhkminlafeiaaGreatDoorMacA
import Derived.Test.YtehhkminlafeiaaGreatDoorAmOpenF
set_option linter.all false
/- mac: the laws -/
namespace Go.AM.Cap
open Go.AM Go.Proofs

abbrev big : Nat := 1073741824
theorem mac_Make_ok (H : Heap) (k m : ByteArray) (hks : k.size ≤ 1099511627776) (hms : m.size ≤ 1073741824) (hb : Base H) (Q : V → Heap → Prop) (hQ : ∀ H', Keeps [] H H' → Q (.string (sv (tag (bv k) (bv m)))) H') : wp (A_mac_Make [.string k, .string m]) Q H := by
  show wp (F_mac_Make (.string k) (.string m)) Q H
  simp only [F_mac_Make, wp_bnd]
  refine mac_Tag_ok H k m hks hms hb _ fun H1 k1 => ?_
  (try simp (maxSteps := 1000000) (disch := first | omega | (simp only [Z3]; omega) | (simp; done) | assumption | decide | (refine not_not_intro ?_; assumption)) only [Z1])
  exact hQ _ k1
def checkS (k m t : ByteArray) : Int := if sv (tag (bv k) (bv m)) = t then 0 else 20
theorem mac_Check_ok (H : Heap) (k m t : ByteArray) (hks : k.size ≤ 1099511627776) (hms : m.size ≤ 1073741824) (hb : Base H) (Q : V → Heap → Prop) (hQ : ∀ H', Keeps [] H H' → Q (i64 (checkS k m t)) H') : wp (A_mac_Check [.string k, .string m, .string t]) Q H := by
  show wp (F_mac_Check (.string k) (.string m) (.string t)) Q H
  simp only [F_mac_Check, wp_bnd]
  refine mac_Tag_ok H k m hks hms hb _ fun H1 k1 => ?_
  have h32 : (sv (tag (bv k) (bv m))).size = 32 := by rw [sv_size, tag_length]
  rw [mac_Equal_eq _ _ (by omega)]
  by_cases h : sv (tag (bv k) (bv m)) = t
  · (try simp (maxSteps := 1000000) (disch := first | omega | (simp only [Z3]; omega) | (simp; done) | assumption | decide | (refine not_not_intro ?_; assumption)) only [Z1, Z2, splice, mac_Check_k0])
    have := hQ H1 k1
    rw [checkS, if_pos h] at this
    exact this
  · (try simp (maxSteps := 1000000) (disch := first | omega | (simp only [Z3]; omega) | (simp; done) | assumption | decide | (refine not_not_intro ?_; assumption)) only [Z1])
    have := hQ H1 k1
    rw [checkS, if_neg h] at this
    exact this
def body (s : ByteArray) : ByteArray := s.extract 0 (s.size - 32)
def foot (s : ByteArray) : ByteArray := s.extract (s.size - 32) s.size
def openS (k s : ByteArray) : ByteArray × Int := if 32 ≤ s.size ∧ sv (tag (bv k) (bv (body s))) = foot s then (body s, 0) else (⟨#[]⟩, 20)
theorem body_size {s : ByteArray} (h : 32 ≤ s.size) : (body s).size = s.size - 32 := by rw [body, size_extract _ (by omega)]; omega

theorem mac_Open_ok (H : Heap) (k s : ByteArray) (hks : k.size ≤ 1099511627776) (hms : s.size ≤ 1073741824) (hb : Base H) (Q : V → Heap → Prop) (hQ : ∀ H', Keeps [] H H' → Q (.tuple #[.string (openS k s).1, i64 (openS k s).2]) H') : wp (A_mac_Open [.string k, .string s]) Q H := by
  show wp (F_mac_Open (.string k) (.string s)) Q H
  by_cases h : (s.size : Int) < 32
  · (try simp (maxSteps := 1000000) (disch := first | omega | (simp only [Z3]; omega) | (simp; done) | assumption | decide | (refine not_not_intro ?_; assumption)) only [Z1, F_mac_Open])
    have := hQ H (Keeps.refl _ _)
    rw [openS, if_neg (by omega)] at this
    exact this
  · have e1 : ((s.size : Int) - 32).toNat = s.size - 32 := by omega
    (try simp (maxSteps := 1000000) (disch := first | omega | (simp only [Z3]; omega) | (simp; done) | assumption | decide | (refine not_not_intro ?_; assumption)) only [Z1, F_mac_Open, mac_Open_k1, subS_hi, subS_lo, e1])
    refine mac_Check_ok H k _ _ hks (by have := body_size (s := s) (by omega); unfold body at this; omega) hb _ fun H1 k1 => ?_
    have q := hQ H1 k1
    by_cases h2 : sv (tag (bv k) (bv (body s))) = foot s
    · rw [openS, if_pos ⟨by omega, h2⟩] at q
      have ec : checkS k (s.extract 0 (s.size - 32)) (s.extract (s.size - 32) s.size) = 0 := if_pos h2
      (try simp (maxSteps := 1000000) (disch := first | omega | (simp only [Z3]; omega) | (simp; done) | assumption | decide | (refine not_not_intro ?_; assumption)) only [Z1, ec, mac_Open_k0, subS_hi, e1])
      exact q
    · rw [openS, if_neg (fun hh => h2 hh.2)] at q
      have ec : checkS k (s.extract 0 (s.size - 32)) (s.extract (s.size - 32) s.size) = 20 := if_neg h2
      (try simp (maxSteps := 1000000) (disch := first | omega | (simp only [Z3]; omega) | (simp; done) | assumption | decide | (refine not_not_intro ?_; assumption)) only [Z1, ec])
      exact q
def sealS (k m : ByteArray) : ByteArray := m ++ sv (tag (bv k) (bv m))
theorem seal_size (k m : ByteArray) : (sealS k m).size = m.size + 32 := by rw [sealS, size_append, sv_size, tag_length]
theorem mac_Seal_ok (H : Heap) (k m : ByteArray) (hks : k.size ≤ 1099511627776) (hms : m.size ≤ 1073741824) (hb : Base H) (Q : V → Heap → Prop) (hQ : ∀ H', Keeps [] H H' → Q (.string (sealS k m)) H') : wp (A_mac_Seal [.string k, .string m]) Q H := by
  show wp (F_mac_Seal (.string k) (.string m)) Q H
  simp only [F_mac_Seal, wp_bnd]
  refine mac_Tag_ok H k m hks hms hb _ fun H1 k1 => ?_
  have h32 : (sv (tag (bv k) (bv m))).size = 32 := by rw [sv_size, tag_length]
  (try simp (maxSteps := 1000000) (disch := first | omega | (simp only [Z3]; omega) | (simp; done) | assumption | decide | (refine not_not_intro ?_; assumption)) only [Z1, str_add (show m.size + (sv (tag (bv k) (bv m))).size ≤ 4611686018427387904 by omega)])
  exact hQ _ k1
theorem body_seal (k m : ByteArray) : body (sealS k m) = m := by
  apply bv_inj
  rw [body, bv_extract, List.drop_zero, seal_size, sealS, bv_append, Nat.sub_zero, Nat.add_sub_cancel, ← bv_length, List.take_left']
  rfl
theorem foot_seal (k m : ByteArray) : foot (sealS k m) = sv (tag (bv k) (bv m)) := by
  apply bv_inj
  rw [foot, bv_extract, seal_size, sealS, bv_append, Nat.add_sub_cancel, ← bv_length m, List.drop_left', bv_sv, List.take_of_length_le (by rw [tag_length]; omega)]
  rfl
end Go.AM.Cap
