import Derived.Test.YtcmimkacafphkaaGreatDoorCoRf
import Derived.Test.YtcmimkacafphkaaGreatDoorNumA
import Derived.Test.YtcmimkacafphkaaGreatDoorAmOpenF
set_option linter.all false
/- code: the document's words, names -/
set_option maxHeartbeats 16000000
namespace Go.AM.Cap
open Go.AM Go.Proofs
theorem zbt9 {H : Heap} (s : ByteArray) (hs : s.size ≤ 1000000000) (Q : V → Heap → Prop) (hQ : Q (.bool (zo0 s)) H) : wp (zqb [.string s]) Q H := by
  show wp (zty (.string s)) Q H
  unfold zty
  by_cases h1 : s = ⟨#[]⟩
  · have e : zo0 s = false := by simp [zo0, h1]
    rw [e] at hQ
    (try simp (maxSteps := 1000000) (disch := first | omega | (simp only [Z3]; omega) | (simp; done) | assumption | decide | (refine not_not_intro ?_; assumption)) only [Z1, Z2, splice, h1])
    exact hQ
  by_cases h2 : (s.size : Int) > 24
  · have h2' : ¬ s.size ≤ 24 := by omega
    have e : zo0 s = false := by simp [zo0, h2']
    rw [e] at hQ
    (try simp (maxSteps := 1000000) (disch := first | omega | (simp only [Z3]; omega) | (simp; done) | assumption | decide | (refine not_not_intro ?_; assumption)) only [Z1, Z2, splice, h1, decide_eq_true h2])
    exact hQ
  have hpos : 0 < s.size := by
    have : (bv s).length ≠ 0 := fun q => h1 (zbh0.1 (List.eq_nil_of_length_eq_zero q))
    rw [zbl] at this; omega
  have i0 := zgj (s := s) (k := .i64) (i := 0) (by omega) (by omega)
  rw [show (0 : Int).toNat = 0 from rfl] at i0
  have h2' : s.size ≤ 24 := by omega
  have ew : zo0 s = ((bv s).all (inS (bv zff)) && !decide (48 ≤ ((bv s).getD 0 0).toNat ∧ ((bv s).getD 0 0).toNat ≤ 57)) := by
    unfold zo0
    rw [decide_eq_true ⟨h1, h2'⟩, Bool.true_and]
  rw [ew] at hQ
  generalize hc : (bv s).getD 0 0 = c at *
  by_cases d1 : (c.toNat : Int) ≥ 48 ∧ (c.toNat : Int) ≤ 57
  · have e : decide (48 ≤ c.toNat ∧ c.toNat ≤ 57) = true := decide_eq_true (by omega)
    rw [e, Bool.not_true, Bool.and_false] at hQ
    have q1 : decide ((c.toNat : Int) ≥ 48) = true := decide_eq_true d1.1
    have q2 : decide ((c.toNat : Int) ≤ 57) = true := decide_eq_true d1.2
    (try simp (maxSteps := 1000000) (disch := first | omega | (simp only [Z3]; omega) | (simp; done) | assumption | decide | (refine not_not_intro ?_; assumption)) only [Z1, Z2, splice, h1, decide_eq_false h2, i0, q1, q2])
    exact hQ
  have e : decide (48 ≤ c.toNat ∧ c.toNat ≤ 57) = false := decide_eq_false (by omega)
  rw [e, Bool.not_false, Bool.and_true] at hQ
  have fin : wp (zcg zcb znt [.string s, i64 0]) (fun o H' => wp (nx (zp 0 o) zwt) (fun o H' => wp (zbn o fun vs => ret (zbe [zc vs 0])) Q H') H') H := by
    refine zb9 (Inv := fun k vs H' => ∃ j : Nat, k = s.size - j ∧ j ≤ s.size ∧ vs = [.string s, i64 j] ∧ H = H' ∧ (∀ i, i < j → inS (bv zff) ((bv s).getD i 0) = true)) (n := s.size) (by unfold zcb; omega)
      ⟨0, by omega, by omega, rfl, rfl, by omega⟩ ?_
    rintro k vs H' ⟨j, hk, hj, rfl, rfl, hall⟩
    by_cases hlt : j < s.size
    case neg =>
      have : j = s.size := by omega
      subst this
      have ha : (bv s).all (inS (bv zff)) = true := by
        rw [List.all_eq_true]
        intro b hb
        obtain ⟨i, hi, rfl⟩ := List.getElem_of_mem hb
        have := hall i (by rw [← zbl]; exact hi)
        rw [List.getD_eq_getElem?_getD, List.getElem?_eq_getElem hi] at this
        exact this
      rw [ha] at hQ
      (try simp (maxSteps := 1000000) (disch := first | omega | (simp only [Z3]; omega) | (simp; done) | assumption | decide | (refine not_not_intro ?_; assumption)) only [Z1, Z2, splice, znt, zwt])
      exact hQ
    have ix := zgj (s := s) (k := .i64) (i := j) (by omega) (by omega)
    rw [Int.toNat_natCast] at ix
    have hl := zbd3 ((bv s).getD j 0)
    by_cases hin : inS (bv zff) ((bv s).getD j 0) = true
    · have hall' : ∀ i, i < j + 1 → inS (bv zff) ((bv s).getD i 0) = true := fun i h3 => by
        rcases Nat.lt_or_eq_of_le (Nat.lt_succ_iff.1 h3) with z | rfl
        · exact hall i z
        · exact hin
      rw [hin] at hl
      have hl := of_decide_eq_true hl.symm
      generalize (bv s).getD j 0 = b at *
      (repeat' (first | (simp (maxSteps := 1000000) (disch := first | omega | (simp only [Z3]; omega) | (simp; done) | assumption | decide | (refine not_not_intro ?_; assumption)) only [Z1, Z2, splice, znt, zws, ix, zwr]) | (refine zfl (fun _ => ?_) (fun _ => ?_)) | (refine zhj (fun _ => ?_) (fun _ => ?_)) | (refine zgk (fun _ => ?_) (fun _ => ?_)) | (refine zex (fun _ => ?_) (fun _ => ?_)) | (refine ziu (fun _ => ?_) (fun _ => ?_)) | (refine znh (fun _ => ?_) (fun _ => ?_)) | (refine zkd (fun _ => ?_) (fun _ => ?_)) | (refine zhk (fun _ => ?_) (fun _ => ?_))))
      all_goals first | (exfalso; omega) | exact ⟨s.size - (j + 1), by omega, j + 1, rfl, by omega, by push_cast; rfl, trivial, hall'⟩ | exact ⟨s.size - (j + 1), by omega, j + 1, rfl, by omega, by push_cast; rfl, hall'⟩
    · have ha : (bv s).all (inS (bv zff)) = false := by
        rw [List.all_eq_false]
        refine ⟨_, zij (d := 0) (show j < (bv s).length by rw [zbl]; exact hlt), hin⟩
      rw [ha] at hQ
      rw [Bool.not_eq_true] at hin
      rw [hin] at hl
      have hl := of_decide_eq_false hl.symm
      generalize (bv s).getD j 0 = b at *
      (repeat' (first | (simp (maxSteps := 1000000) (disch := first | omega | (simp only [Z3]; omega) | (simp; done) | assumption | decide | (refine not_not_intro ?_; assumption)) only [Z1, Z2, splice, znt, zws, ix, zwr]) | (refine zfl (fun _ => ?_) (fun _ => ?_)) | (refine zhj (fun _ => ?_) (fun _ => ?_)) | (refine zgk (fun _ => ?_) (fun _ => ?_)) | (refine zex (fun _ => ?_) (fun _ => ?_)) | (refine ziu (fun _ => ?_) (fun _ => ?_)) | (refine znh (fun _ => ?_) (fun _ => ?_)) | (refine zkd (fun _ => ?_) (fun _ => ?_)) | (refine zhk (fun _ => ?_) (fun _ => ?_))))
      all_goals first | (exfalso; omega) | exact hQ
  rcases (show ¬ (c.toNat : Int) ≥ 48 ∨ ((c.toNat : Int) ≥ 48 ∧ ¬ (c.toNat : Int) ≤ 57) by omega) with q | ⟨q, q2⟩
  · (try simp (maxSteps := 1000000) (disch := first | omega | (simp only [Z3]; omega) | (simp; done) | assumption | decide | (refine not_not_intro ?_; assumption)) only [Z1, Z2, splice, h1, decide_eq_false h2, i0, decide_eq_false q, zwu])
    exact fin
  · (try simp (maxSteps := 1000000) (disch := first | omega | (simp only [Z3]; omega) | (simp; done) | assumption | decide | (refine not_not_intro ?_; assumption)) only [Z1, Z2, splice, h1, decide_eq_false h2, i0, decide_eq_true q, decide_eq_false q2, zwu])
    exact fin
theorem zbua {H : Heap} (s : ByteArray) (hs : s.size ≤ 1000000000) (Q : V → Heap → Prop) (hQ : ∀ H', Keeps [] H H' → Q (.bool (zv2 s)) H') : wp (zqc [.string s]) Q H := by
  show wp (ztz (.string s)) Q H
  unfold ztz zjk zq5
  (try simp (maxSteps := 1000000) (disch := first | omega | (simp only [Z3]; omega) | (simp; done) | assumption | decide | (refine not_not_intro ?_; assumption)) only [Z1, Z2, splice])
  refine (zbb (by rfl) (cs := zr zz5) (by rfl)).mpr ?_
  have k1 : Keeps [] H (H.push (some (.cells true (zr zz5)))) := Keeps.push _ _ _
  have hv : Sl (H.push (some (.cells true (zr zz5)))) (slc H.next 0 1 51 51) zz5 := (zol (n := 1) (m := 51) rfl rfl).sl
  generalize H.push (some (.cells true (zr zz5))) = H1 at *
  have hvl := hv.len
  have hkl : zz5.length = 51 := rfl
  (try simp (maxSteps := 1000000) (disch := first | omega | (simp only [Z3]; omega) | (simp; done) | assumption | decide | (refine not_not_intro ?_; assumption)) only [Z1, Z2, splice])
  refine zb9 (Inv := fun k vs H' => ∃ j : Nat, k = 51 - j ∧ j ≤ 51 ∧ vs = [.string s, slc H.next 0 1 51 51, i64 j] ∧ H1 = H' ∧ (∀ i, i < j → zz5.getD i ⟨#[]⟩ ≠ s)) (n := 51) (by unfold zcb; omega)
    ⟨0, by omega, by omega, rfl, rfl, by omega⟩ ?_
  rintro k vs H' ⟨j, hk, hj, rfl, rfl, hall⟩
  by_cases hlt : j < 51
  case neg =>
    have : j = 51 := by omega
    subst this
    have hn : zbal s = false := by
      rw [← Bool.not_eq_true, z9f]
      intro hm
      obtain ⟨i, hi, e⟩ := List.getElem_of_mem hm
      refine hall i (by rw [← hkl]; exact hi) ?_
      rw [List.getD_eq_getElem?_getD, List.getElem?_eq_getElem hi]; exact e
    have hq := hQ H1 k1
    rw [show zv2 s = zo0 s by unfold zv2; rw [hn]; simp] at hq
    (try simp (maxSteps := 1000000) (disch := first | omega | (simp only [Z3]; omega) | (simp; done) | assumption | decide | (refine not_not_intro ?_; assumption)) only [Z1, Z2, splice, zrv, hvl, z4o])
    refine zbt9 s hs _ ?_
    (try simp (maxSteps := 1000000) (disch := first | omega | (simp only [Z3]; omega) | (simp; done) | assumption | decide | (refine not_not_intro ?_; assumption)) only [Z1, Z2, splice])
    exact hq
  have a1 := hv.addr1 rfl (k := .i64) (i := (j : Int)) (by omega) (by omega)
  rw [Int.toNat_natCast] at a1
  have d1 := hv.cell1 rfl (i := j) (by omega) ⟨#[]⟩
  rw [zv] at d1
  by_cases he : zz5.getD j ⟨#[]⟩ = s
  · have hn : zbal s = true := z9f.2 (by rw [← he]; exact zij (by omega))
    have hq := hQ H1 k1
    rw [show zv2 s = false by unfold zv2; rw [hn]; simp] at hq
    (try simp (maxSteps := 1000000) (disch := first | omega | (simp only [Z3]; omega) | (simp; done) | assumption | decide | (refine not_not_intro ?_; assumption)) only [Z1, Z2, splice, zrv, hvl, zwv, a1, d1, decide_eq_true he])
    exact hq
  · have hall' : ∀ i, i < j + 1 → zz5.getD i ⟨#[]⟩ ≠ s := fun i h3 => by
      rcases Nat.lt_or_eq_of_le (Nat.lt_succ_iff.1 h3) with z | rfl
      · exact hall i z
      · exact he
    (try simp (maxSteps := 1000000) (disch := first | omega | (simp only [Z3]; omega) | (simp; done) | assumption | decide | (refine not_not_intro ?_; assumption)) only [Z1, Z2, splice, zrv, hvl, zwv, a1, d1, decide_eq_false he, z4n])
    exact ⟨51 - (j + 1), by omega, j + 1, rfl, by omega, by push_cast; rfl, hall'⟩
end Go.AM.Cap
