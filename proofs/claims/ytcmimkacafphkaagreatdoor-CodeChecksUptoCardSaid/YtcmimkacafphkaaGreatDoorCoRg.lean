import Derived.Test.YtcmimkacafphkaaGreatDoorCoRf
import Derived.Test.YtcmimkacafphkaaGreatDoorCoW
import Derived.Test.YtcmimkacafphkaaGreatDoorAmOpenF
set_option linter.all false
/- code: the document's words, names -/
set_option maxHeartbeats 16000000
namespace Go.AM.Cap
open Go.AM Go.Proofs

theorem rword_ok {H : Heap} (s : ByteArray) (hs : s.size ≤ 1000000000) (Q : V → Heap → Prop) (hQ : Q (.bool (wordB s)) H) : wp (A_ref06_Word [.string s]) Q H := by
  show wp (F_ref06_Word (.string s)) Q H
  unfold F_ref06_Word
  by_cases h1 : s = ⟨#[]⟩
  · have e : wordB s = false := by simp [wordB, h1]
    rw [e] at hQ
    (try simp (maxSteps := 1000000) (disch := first | omega | (simp only [Z3]; omega) | (simp; done) | assumption | decide | (refine not_not_intro ?_; assumption)) only [Z1, Z2, splice, h1])
    exact hQ
  by_cases h2 : (s.size : Int) > 24
  · have h2' : ¬ s.size ≤ 24 := by omega
    have e : wordB s = false := by simp [wordB, h2']
    rw [e] at hQ
    (try simp (maxSteps := 1000000) (disch := first | omega | (simp only [Z3]; omega) | (simp; done) | assumption | decide | (refine not_not_intro ?_; assumption)) only [Z1, Z2, splice, h1, decide_eq_true h2])
    exact hQ
  have hpos : 0 < s.size := by
    have : (bv s).length ≠ 0 := fun q => h1 (bv_nil.1 (List.eq_nil_of_length_eq_zero q))
    rw [bv_length] at this; omega
  have i0 := idxS_bv (s := s) (k := .i64) (i := 0) (by omega) (by omega)
  rw [show (0 : Int).toNat = 0 from rfl] at i0
  have h2' : s.size ≤ 24 := by omega
  have ew : wordB s = ((bv s).all (inS (bv lettersC)) && !decide (48 ≤ ((bv s).getD 0 0).toNat ∧ ((bv s).getD 0 0).toNat ≤ 57)) := by
    unfold wordB
    rw [decide_eq_true ⟨h1, h2'⟩, Bool.true_and]
  rw [ew] at hQ
  generalize hc : (bv s).getD 0 0 = c at *
  by_cases d1 : (c.toNat : Int) ≥ 48 ∧ (c.toNat : Int) ≤ 57
  · have e : decide (48 ≤ c.toNat ∧ c.toNat ≤ 57) = true := decide_eq_true (by omega)
    rw [e, Bool.not_true, Bool.and_false] at hQ
    have q1 : decide ((c.toNat : Int) ≥ 48) = true := decide_eq_true d1.1
    have q2 : decide ((c.toNat : Int) ≤ 57) = true := decide_eq_true d1.2
    (try simp (maxSteps := 1000000) (disch := first | omega | (simp only [Z3]; omega) | (simp; done) | assumption | decide | (refine not_not_intro ?_; assumption)) only [Z1, Z2, splice, h1, decide_eq_false h2, i0, q1, q2])
    exact hQ
  have e : decide (48 ≤ c.toNat ∧ c.toNat ≤ 57) = false := decide_eq_false (by omega)
  rw [e, Bool.not_false, Bool.and_true] at hQ
  have fin : wp (loopM FUEL ref06_Word_l2 [.string s, i64 0]) (fun o H' => wp (nx (unblk 0 o) ref06_Word_k3) (fun o H' => wp (finM o fun vs => ret (outV [at_ vs 0])) Q H') H') H := by
    refine wp_loop (Inv := fun k vs H' => ∃ j : Nat, k = s.size - j ∧ j ≤ s.size ∧ vs = [.string s, i64 j] ∧ H = H' ∧ (∀ i, i < j → inS (bv lettersC) ((bv s).getD i 0) = true)) (n := s.size) (by unfold FUEL; omega)
      ⟨0, by omega, by omega, rfl, rfl, by omega⟩ ?_
    rintro k vs H' ⟨j, hk, hj, rfl, rfl, hall⟩
    by_cases hlt : j < s.size
    case neg =>
      have : j = s.size := by omega
      subst this
      have ha : (bv s).all (inS (bv lettersC)) = true := by
        rw [List.all_eq_true]
        intro b hb
        obtain ⟨i, hi, rfl⟩ := List.getElem_of_mem hb
        have := hall i (by rw [← bv_length]; exact hi)
        rw [List.getD_eq_getElem?_getD, List.getElem?_eq_getElem hi] at this
        exact this
      rw [ha] at hQ
      (try simp (maxSteps := 1000000) (disch := first | omega | (simp only [Z3]; omega) | (simp; done) | assumption | decide | (refine not_not_intro ?_; assumption)) only [Z1, Z2, splice, ref06_Word_l2, ref06_Word_k3])
      exact hQ
    have ix := idxS_bv (s := s) (k := .i64) (i := j) (by omega) (by omega)
    rw [Int.toNat_natCast] at ix
    have hl := letter_iff ((bv s).getD j 0)
    by_cases hin : inS (bv lettersC) ((bv s).getD j 0) = true
    · have hall' : ∀ i, i < j + 1 → inS (bv lettersC) ((bv s).getD i 0) = true := fun i h3 => by
        rcases Nat.lt_or_eq_of_le (Nat.lt_succ_iff.1 h3) with z | rfl
        · exact hall i z
        · exact hin
      rw [hin] at hl
      have hl := of_decide_eq_true hl.symm
      generalize (bv s).getD j 0 = b at *
      (repeat' (first | (simp (maxSteps := 1000000) (disch := first | omega | (simp only [Z3]; omega) | (simp; done) | assumption | decide | (refine not_not_intro ?_; assumption)) only [Z1, Z2, splice, ref06_Word_l2, ref06_Word_k1, ix, ref06_Word_k0]) | (refine wp_cond_split (fun _ => ?_) (fun _ => ?_)) | (refine wp_gd_split (fun _ => ?_) (fun _ => ?_)) | (refine wp_gdf_split (fun _ => ?_) (fun _ => ?_)) | (refine wpO_pick_split (fun _ => ?_) (fun _ => ?_)) | (refine wp_cond_bs (fun _ => ?_) (fun _ => ?_)) | (refine wp_gd_bs (fun _ => ?_) (fun _ => ?_)) | (refine wp_gdf_bs (fun _ => ?_) (fun _ => ?_)) | (refine wpO_pick_bs (fun _ => ?_) (fun _ => ?_))))
      all_goals first | (exfalso; omega) | exact ⟨s.size - (j + 1), by omega, j + 1, rfl, by omega, by push_cast; rfl, trivial, hall'⟩ | exact ⟨s.size - (j + 1), by omega, j + 1, rfl, by omega, by push_cast; rfl, hall'⟩
    · have ha : (bv s).all (inS (bv lettersC)) = false := by
        rw [List.all_eq_false]
        refine ⟨_, getD_mem' (d := 0) (show j < (bv s).length by rw [bv_length]; exact hlt), hin⟩
      rw [ha] at hQ
      rw [Bool.not_eq_true] at hin
      rw [hin] at hl
      have hl := of_decide_eq_false hl.symm
      generalize (bv s).getD j 0 = b at *
      (repeat' (first | (simp (maxSteps := 1000000) (disch := first | omega | (simp only [Z3]; omega) | (simp; done) | assumption | decide | (refine not_not_intro ?_; assumption)) only [Z1, Z2, splice, ref06_Word_l2, ref06_Word_k1, ix, ref06_Word_k0]) | (refine wp_cond_split (fun _ => ?_) (fun _ => ?_)) | (refine wp_gd_split (fun _ => ?_) (fun _ => ?_)) | (refine wp_gdf_split (fun _ => ?_) (fun _ => ?_)) | (refine wpO_pick_split (fun _ => ?_) (fun _ => ?_)) | (refine wp_cond_bs (fun _ => ?_) (fun _ => ?_)) | (refine wp_gd_bs (fun _ => ?_) (fun _ => ?_)) | (refine wp_gdf_bs (fun _ => ?_) (fun _ => ?_)) | (refine wpO_pick_bs (fun _ => ?_) (fun _ => ?_))))
      all_goals first | (exfalso; omega) | exact hQ
  rcases (show ¬ (c.toNat : Int) ≥ 48 ∨ ((c.toNat : Int) ≥ 48 ∧ ¬ (c.toNat : Int) ≤ 57) by omega) with q | ⟨q, q2⟩
  · (try simp (maxSteps := 1000000) (disch := first | omega | (simp only [Z3]; omega) | (simp; done) | assumption | decide | (refine not_not_intro ?_; assumption)) only [Z1, Z2, splice, h1, decide_eq_false h2, i0, decide_eq_false q, ref06_Word_k4])
    exact fin
  · (try simp (maxSteps := 1000000) (disch := first | omega | (simp only [Z3]; omega) | (simp; done) | assumption | decide | (refine not_not_intro ?_; assumption)) only [Z1, Z2, splice, h1, decide_eq_false h2, i0, decide_eq_true q, decide_eq_false q2, ref06_Word_k4])
    exact fin
theorem rname_ok {H : Heap} (s : ByteArray) (hs : s.size ≤ 1000000000) (Q : V → Heap → Prop) (hQ : ∀ H', Keeps [] H H' → Q (.bool (nameB s)) H') : wp (A_ref06_Name [.string s]) Q H := by
  show wp (F_ref06_Name (.string s)) Q H
  unfold F_ref06_Name A_ref06_keywords F_ref06_keywords
  (try simp (maxSteps := 1000000) (disch := first | omega | (simp only [Z3]; omega) | (simp; done) | assumption | decide | (refine not_not_intro ?_; assumption)) only [Z1, Z2, splice])
  refine (wp_bslc (by rfl) (cs := encs keysL) (by rfl)).mpr ?_
  have k1 : Keeps [] H (H.push (some (.cells true (encs keysL)))) := Keeps.push _ _ _
  have hv : Sl (H.push (some (.cells true (encs keysL)))) (slc H.next 0 1 51 51) keysL := (ownF_push (n := 1) (m := 51) rfl rfl).sl
  generalize H.push (some (.cells true (encs keysL))) = H1 at *
  have hvl := hv.len
  have hkl : keysL.length = 51 := rfl
  (try simp (maxSteps := 1000000) (disch := first | omega | (simp only [Z3]; omega) | (simp; done) | assumption | decide | (refine not_not_intro ?_; assumption)) only [Z1, Z2, splice])
  refine wp_loop (Inv := fun k vs H' => ∃ j : Nat, k = 51 - j ∧ j ≤ 51 ∧ vs = [.string s, slc H.next 0 1 51 51, i64 j] ∧ H1 = H' ∧ (∀ i, i < j → keysL.getD i ⟨#[]⟩ ≠ s)) (n := 51) (by unfold FUEL; omega)
    ⟨0, by omega, by omega, rfl, rfl, by omega⟩ ?_
  rintro k vs H' ⟨j, hk, hj, rfl, rfl, hall⟩
  by_cases hlt : j < 51
  case neg =>
    have : j = 51 := by omega
    subst this
    have hn : isKey s = false := by
      rw [← Bool.not_eq_true, isKey_iff]
      intro hm
      obtain ⟨i, hi, e⟩ := List.getElem_of_mem hm
      refine hall i (by rw [← hkl]; exact hi) ?_
      rw [List.getD_eq_getElem?_getD, List.getElem?_eq_getElem hi]; exact e
    have hq := hQ H1 k1
    rw [show nameB s = wordB s by unfold nameB; rw [hn]; simp] at hq
    (try simp (maxSteps := 1000000) (disch := first | omega | (simp only [Z3]; omega) | (simp; done) | assumption | decide | (refine not_not_intro ?_; assumption)) only [Z1, Z2, splice, ref06_Name_l2, hvl, ref06_Name_k3])
    refine rword_ok s hs _ ?_
    (try simp (maxSteps := 1000000) (disch := first | omega | (simp only [Z3]; omega) | (simp; done) | assumption | decide | (refine not_not_intro ?_; assumption)) only [Z1, Z2, splice])
    exact hq
  have a1 := hv.addr1 rfl (k := .i64) (i := (j : Int)) (by omega) (by omega)
  rw [Int.toNat_natCast] at a1
  have d1 := hv.cell1 rfl (i := j) (by omega) ⟨#[]⟩
  rw [cellP_get] at d1
  by_cases he : keysL.getD j ⟨#[]⟩ = s
  · have hn : isKey s = true := isKey_iff.2 (by rw [← he]; exact getD_mem' (by omega))
    have hq := hQ H1 k1
    rw [show nameB s = false by unfold nameB; rw [hn]; simp] at hq
    (try simp (maxSteps := 1000000) (disch := first | omega | (simp only [Z3]; omega) | (simp; done) | assumption | decide | (refine not_not_intro ?_; assumption)) only [Z1, Z2, splice, ref06_Name_l2, hvl, ref06_Name_k1, a1, d1, decide_eq_true he])
    exact hq
  · have hall' : ∀ i, i < j + 1 → keysL.getD i ⟨#[]⟩ ≠ s := fun i h3 => by
      rcases Nat.lt_or_eq_of_le (Nat.lt_succ_iff.1 h3) with z | rfl
      · exact hall i z
      · exact he
    (try simp (maxSteps := 1000000) (disch := first | omega | (simp only [Z3]; omega) | (simp; done) | assumption | decide | (refine not_not_intro ?_; assumption)) only [Z1, Z2, splice, ref06_Name_l2, hvl, ref06_Name_k1, a1, d1, decide_eq_false he, ref06_Name_k0])
    exact ⟨51 - (j + 1), by omega, j + 1, rfl, by omega, by push_cast; rfl, hall'⟩
end Go.AM.Cap
