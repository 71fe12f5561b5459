import Derived.Test.YtehhkminlafeiaaGreatDoorRoC
import Derived.Test.YtehhkminlafeiaaGreatDoorAmSep
set_option linter.all false
/- roles: Needs, asked, May, Aims, works -/
set_option maxHeartbeats 8000000
namespace Go.AM.Cap
open Go.AM Go.Proofs

theorem sameInts_ok {H : Heap} {v w : V} {xs ys : List Int} (hv : Sl H v xs) (hw : Sl H w ys) (hb : xs.length ≤ 1000000000) (Q : V → Heap → Prop) (hQ : Q (.bool (decide (xs = ys))) H) : wp (A_book_SameInts [v, w]) Q H := by
  show wp (F_book_SameInts v w) Q H
  have hl := hv.len
  have hl' := hw.len
  by_cases h0 : xs.length = ys.length
  case neg =>
    have : ¬ xs = ys := fun q => h0 (by rw [q])
    rw [decide_eq_false this] at hQ
    (try simp (maxSteps := 1000000) (disch := first | omega | (simp only [Heap.next_push', Heap.next_set']; omega) | (simp; done) | assumption | decide | (refine not_not_intro ?_; assumption)) only [Z1, Z2, splice, F_book_SameInts, hl, hl'])
    exact hQ
  have hi0 : ((xs.length : Nat) : Int) = (ys.length : Int) := by omega
  (try simp (maxSteps := 1000000) (disch := first | omega | (simp only [Heap.next_push', Heap.next_set']; omega) | (simp; done) | assumption | decide | (refine not_not_intro ?_; assumption)) only [Z1, Z2, splice, F_book_SameInts, hl, hl', book_SameInts_k4])
  refine wp_loop (Inv := fun k vs H' => ∃ (j : Nat), k = xs.length - j ∧ j ≤ xs.length ∧ vs = [v, w, i64 j] ∧ H' = H ∧ (∀ i, i < j → xs.getD i 0 = ys.getD i 0)) (n := xs.length) (by unfold FUEL; omega)
    ⟨0, by omega, by omega, rfl, rfl, by omega⟩ ?_
  rintro k vs H' ⟨j, hk, hj, rfl, he, hsame⟩
  rw [he]; clear he H'
  by_cases hlt : j < xs.length
  case neg =>
    have : xs = ys := by
      apply List.ext_getElem h0
      intro i h1 h2
      have := hsame i (by omega)
      rwa [List.getD_eq_getElem?_getD, List.getElem?_eq_getElem h1, List.getD_eq_getElem?_getD, List.getElem?_eq_getElem h2] at this
    rw [decide_eq_true this] at hQ
    (try simp (maxSteps := 1000000) (disch := first | omega | (simp only [Heap.next_push', Heap.next_set']; omega) | (simp; done) | assumption | decide | (refine not_not_intro ?_; assumption)) only [Z1, Z2, splice, book_SameInts_l2, hl, book_SameInts_k3])
    exact hQ
  have a1 := hv.addr1 rfl (k := .i64) (i := j) (by omega) (by omega)
  rw [Int.toNat_natCast] at a1
  have c1 := hv.cell1 rfl hlt 0
  rw [cellP_get] at c1
  have e1 : (Flat.enc (xs.getD j 0))[0]? = some (i64 (xs.getD j 0)) := rfl
  rw [e1] at c1
  have a2 := hw.addr1 rfl (k := .i64) (i := j) (by omega) (by omega)
  rw [Int.toNat_natCast] at a2
  have c2 := hw.cell1 rfl (show j < ys.length by omega) 0
  rw [cellP_get] at c2
  have e2 : (Flat.enc (ys.getD j 0))[0]? = some (i64 (ys.getD j 0)) := rfl
  rw [e2] at c2
  by_cases he : xs.getD j 0 = ys.getD j 0
  · generalize hx : xs.getD j 0 = x at *
    generalize hy : ys.getD j 0 = y at *
    (try simp (maxSteps := 1000000) (disch := first | omega | (simp only [Heap.next_push', Heap.next_set']; omega) | (simp; done) | assumption | decide | (refine not_not_intro ?_; assumption)) only [Z1, Z2, splice, book_SameInts_l2, hl, book_SameInts_k1, a1, a2, c1, c2, book_SameInts_k0])
    refine ⟨xs.length - (j + 1), by omega, j + 1, rfl, by omega, by push_cast; rfl, fun i hi => ?_⟩
    rcases Nat.lt_or_eq_of_le (Nat.lt_succ_iff.1 hi) with q | rfl
    · exact hsame i q
    · rw [hx, hy]; exact he
  · have : ¬ xs = ys := fun q => he (by rw [q])
    rw [decide_eq_false this] at hQ
    generalize xs.getD j 0 = x at *
    generalize ys.getD j 0 = y at *
    (try simp (maxSteps := 1000000) (disch := first | omega | (simp only [Heap.next_push', Heap.next_set']; omega) | (simp; done) | assumption | decide | (refine not_not_intro ?_; assumption)) only [Z1, Z2, splice, book_SameInts_l2, hl, book_SameInts_k1, a1, a2, c1, c2])
    exact hQ
end Go.AM.Cap
