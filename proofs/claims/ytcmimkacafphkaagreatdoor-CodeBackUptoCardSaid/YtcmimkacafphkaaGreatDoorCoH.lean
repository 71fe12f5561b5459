import Derived.Test.YtcmimkacafphkaaGreatDoorCoW
import Derived.Test.YtcmimkacafphkaaGreatDoorCoG
import Derived.Test.YtcmimkacafphkaaGreatDoorLibK
import Derived.Test.YtcmimkacafphkaaGreatDoorAmOpenF
set_option linter.all false
/- code: words and names on the machine -/
set_option maxHeartbeats 8000000
set_option maxRecDepth 100000
namespace Go.AM.Cap
open Go.AM Go.Proofs

/-- the cell that strings.Contains looks at -/
def MaxL (H : Heap) : Prop := ∃ m, H.cell 3 0 = some (.int .i64 m)
theorem MaxL.keep {H H' : Heap} (h : MaxL H) (hk : Keeps [] H H') : MaxL H' := by
  obtain ⟨m, h⟩ := h
  refine ⟨m, ?_⟩
  unfold Heap.cell at h ⊢
  cases hg : H.get 3 with
  | none => rw [hg] at h; cases h
  | some b => rw [hk.get hg (by simp)]; rw [hg] at h; exact h
theorem holds_ok {H : Heap} (hm : MaxL H) (s t : ByteArray) (hs : s.size < 4294967281) (Q : V → Heap → Prop) (hQ : Q (.bool (Lib.contains s.data.toList t.data.toList)) H) : wp (containsF [.string s, .string t]) Q H := by
  obtain ⟨m, hm⟩ := hm
  refine ⟨_, H, ?_, hQ⟩
  unfold containsF
  simp only [hm]
  rw [if_pos hs]
theorem app_toList (a b : ByteArray) : (a ++ b).data.toList = a.data.toList ++ b.data.toList := by
  rw [ByteArray.data_append, Array.toList_append]
theorem word_ok {H : Heap} {G : List V → M V} (hm : MaxL H) (s : ByteArray) (Q : V → Heap → Prop) (hQ : ∀ H', Keeps [] H H' → Q (.bool (wordB s)) H') : wp (A_expr_word G containsF [.string s]) Q H := by
  show wp (F_expr_word G containsF (.string s)) Q H
  unfold F_expr_word
  by_cases h1 : s = ⟨#[]⟩
  · have e : wordB s = false := by simp [wordB, h1]
    rw [e] at hQ
    (try simp (maxSteps := 1000000) (disch := first | omega | (simp only [Z3]; omega) | (simp; done) | assumption | decide | (refine not_not_intro ?_; assumption)) only [Z1, Z2, splice, h1])
    exact hQ _ (Keeps.refl _ _)
  by_cases h2 : (s.size : Int) ≤ 24
  case neg =>
    have h2' : ¬ s.size ≤ 24 := by omega
    have e : wordB s = false := by simp [wordB, h2']
    rw [e] at hQ
    (try simp (maxSteps := 1000000) (disch := first | omega | (simp only [Z3]; omega) | (simp; done) | assumption | decide | (refine not_not_intro ?_; assumption)) only [Z1, Z2, splice, h1])
    exact hQ _ (Keeps.refl _ _)
  have h2' : s.size ≤ 24 := by omega
  have hl : (⟨#[65, 66, 67, 68, 69, 70, 71, 72, 73, 74, 75, 76, 77, 78, 79, 80, 81, 82, 83, 84, 85, 86, 87, 88, 89, 90, 95, 48, 49, 50, 51, 52, 53, 54, 55, 56, 57]⟩ : ByteArray) = lettersC := rfl
  rw [hl]
  (try simp (maxSteps := 1000000) (disch := first | omega | (simp only [Z3]; omega) | (simp; done) | assumption | decide | (refine not_not_intro ?_; assumption)) only [Z1, Z2, splice])
  refine trim_ok s lettersC (by omega) lettersC_ascii (by decide) (by decide) _ fun H2 k2 => ?_
  have hiff : (sv (dropL (bv lettersC) (dropR (bv lettersC) (bv s))) = ⟨#[]⟩) ↔ (bv s).all (inS (bv lettersC)) = true := by
    rw [← bv_nil, bv_sv, trim_nil, List.all_eq_true]
  by_cases h3 : (bv s).all (inS (bv lettersC)) = true
  case neg =>
    have h3' : ¬ (sv (dropL (bv lettersC) (dropR (bv lettersC) (bv s))) = ⟨#[]⟩) := fun q => h3 (hiff.1 q)
    have e : wordB s = false := by simp only [wordB]; simp [h3]
    rw [e] at hQ
    (try simp (maxSteps := 1000000) (disch := first | omega | (simp only [Z3]; omega) | (simp; done) | assumption | decide | (refine not_not_intro ?_; assumption)) only [Z1, Z2, splice])
    exact hQ _ k2
  have h3' := hiff.2 h3
  have hpos : 0 < s.size := by
    have : (bv s).length ≠ 0 := fun q => h1 (bv_nil.1 (List.eq_nil_of_length_eq_zero q))
    rw [bv_length] at this; omega
  have hsub := subS_hi (s := s) (k' := .i64) (b := 1) (by omega) (by omega)
  have hx : (s.extract 0 1).data.toList = [UInt8.ofBitVec ((bv s).getD 0 0)] := by
    have h5 : bv (s.extract 0 1) = [(bv s).getD 0 0] := by
      rw [bv_extract]
      have : (bv s).length ≠ 0 := by rw [bv_length]; omega
      cases hb : bv s with
      | nil => rw [hb] at this; simp at this
      | cons a l => simp
    have h6 : s.extract 0 1 = sv [(bv s).getD 0 0] := by rw [← h5, sv_bv]
    rw [h6]; rfl
  (try simp (maxSteps := 1000000) (disch := first | omega | (simp only [Z3]; omega) | (simp; done) | assumption | decide | (refine not_not_intro ?_; assumption)) only [Z1, Z2, splice, h3', hsub])
  refine holds_ok (hm.keep k2) numsC _ (by decide) _ ?_
  rw [show (1 : Int).toNat = 1 from rfl, hx, digit_iff]
  have e : wordB s = !decide (48 ≤ ((bv s).getD 0 0).toNat ∧ ((bv s).getD 0 0).toNat ≤ 57) := by
    simp only [wordB, h3]; simp [h1, h2']
  rw [e, ← decide_not] at hQ
  (try simp (maxSteps := 1000000) (disch := first | omega | (simp only [Z3]; omega) | (simp; done) | assumption | decide | (refine not_not_intro ?_; assumption)) only [Z1, Z2, splice])
  exact hQ _ k2
theorem name_ok {H : Heap} {G : List V → M V} (hm : MaxL H) (s : ByteArray) (Q : V → Heap → Prop) (hQ : ∀ H', Keeps [] H H' → Q (.bool (nameB s)) H') : wp (A_expr_Name G containsF [.string s]) Q H := by
  show wp (F_expr_Name G containsF (.string s)) Q H
  unfold F_expr_Name
  rw [show (⟨#[32, 80, 82, 79, 71, 82, 65, 77, 32, 69, 78, 68, 95, 80, 82, 79, 71, 82, 65, 77, 32, 86, 65, 82, 32, 86, 65, 82, 95, 73, 78, 80, 85, 84, 32, 86, 65, 82, 95, 79, 85, 84, 80, 85, 84, 32, 69, 78, 68, 95, 86, 65, 82, 32, 65, 82, 82, 65, 89, 32, 79, 70, 32, 66, 79, 79, 76, 32, 73, 78, 84, 32, 68, 73, 78, 84, 32, 84, 73, 77, 69, 32, 84, 79, 78, 32, 84, 79, 70, 32, 84, 80, 32, 67, 84, 85, 32, 67, 84, 68, 32, 82, 95, 84, 82, 73, 71, 32, 70, 95, 84, 82, 73, 71, 32, 83, 82, 32, 82, 83, 32, 81, 85, 65, 68, 32, 73, 70, 32, 84, 72, 69, 78, 32, 69, 76, 83, 73, 70, 32, 69, 76, 83, 69, 32, 69, 78, 68, 95, 73, 70, 32, 67, 65, 83, 69, 32, 69, 78, 68, 95, 67, 65, 83, 69, 32, 87, 72, 73, 76, 69, 32, 68, 79, 32, 69, 78, 68, 95, 87, 72, 73, 76, 69, 32, 70, 79, 82, 32, 84, 79, 32, 66, 89, 32, 69, 78, 68, 95, 70, 79, 82, 32, 82, 69, 80, 69, 65, 84, 32, 85, 78, 84, 73, 76, 32, 69, 78, 68, 95, 82, 69, 80, 69, 65, 84, 32, 69, 88, 73, 84, 32, 82, 69, 84, 85, 82, 78, 32, 65, 78, 68, 32, 79, 82, 32, 88, 79, 82, 32, 78, 79, 84, 32, 77, 79, 68, 32, 84, 82, 85, 69, 32, 70, 65, 76, 83, 69, 32, 84, 79, 95, 73, 78, 84, 32, 84, 79, 95, 68, 73, 78, 84, 32, 84, 79, 95, 84, 73, 77, 69, 32]⟩ : ByteArray) = keysT from rfl]
  rw [wp_bnd, wp_bnd]
  refine word_ok hm s _ fun H2 k2 => ?_
  cases h : wordB s with
  | false =>
    have e : nameB s = false := by simp [nameB, h]
    rw [e] at hQ
    (try simp (maxSteps := 1000000) (disch := first | omega | (simp only [Z3]; omega) | (simp; done) | assumption | decide | (refine not_not_intro ?_; assumption)) only [Z1, Z2, splice])
    exact hQ _ k2
  | true =>
    have e : nameB s = !isKey s := by simp [nameB, h]
    rw [e] at hQ
    have hw := h
    unfold wordB at hw
    simp only [Bool.and_eq_true, decide_eq_true_eq] at hw
    obtain ⟨⟨⟨h1, h2⟩, h3⟩, _⟩ := hw
    have q1 : (⟨#[32]⟩ : ByteArray).size = 1 := rfl
    have q2 : ((⟨#[32]⟩ : ByteArray) ++ s).size = 1 + s.size := by rw [size_append]; rfl
    (try simp (maxSteps := 1000000) (disch := first | omega | (simp only [Z3]; omega) | (simp; done) | assumption | decide | (refine not_not_intro ?_; assumption)) only [Z1, Z2, splice, str_add (show (⟨#[32]⟩ : ByteArray).size + s.size ≤ 4611686018427387904 by omega), str_add (show ((⟨#[32]⟩ : ByteArray) ++ s).size + (⟨#[32]⟩ : ByteArray).size ≤ 4611686018427387904 by omega)])
    refine holds_ok (hm.keep k2) keysT _ (by decide +kernel) _ ?_
    rw [app_toList, app_toList, show (⟨#[32]⟩ : ByteArray).data.toList = [32] from rfl, List.append_assoc, List.singleton_append, keys_iff h3 h1]
    cases hk : isKey s
    all_goals
      rw [hk] at hQ
      (try simp (maxSteps := 1000000) (disch := first | omega | (simp only [Z3]; omega) | (simp; done) | assumption | decide | (refine not_not_intro ?_; assumption)) only [Z1, Z2, splice, Bool.not_true, Bool.not_false])
      exact hQ _ k2
end Go.AM.Cap
