import Derived.Test.YtehhkminlafeiaaGreatDoorWiJ
import Derived.Test.YtehhkminlafeiaaGreatDoorAmSep
set_option linter.all false
/- wire: the lists' book; works -/
set_option maxHeartbeats 16000000
namespace Go.AM.Cap
open Go.AM Go.Proofs

theorem eq_it (x y : It) : eqAgg [.b, .i, .s] (.agg (Flat.enc x).toArray) (.agg (Flat.enc y).toArray) = some (decide (x = y)) := by
  obtain ⟨t, n, s⟩ := x
  obtain ⟨t', n', s'⟩ := y
  show eqKs [.b, .i, .s] [.bool t, i64 n, .string s] [.bool t', i64 n', .string s'] = _
  simp only [eqKs, eqK, if_true]
  by_cases h1 : t = t'
  · subst h1
    by_cases h2 : n = n'
    · subst h2
      by_cases h3 : s = s'
      · subst h3; simp
      · simp [h3]
    · have e : (n == n') = false := by simpa using h2
      simp [e, h2]
  · have e : (t == t') = false := by simpa using h1
    simp [e, h1]
theorem eq_two (a b c d : Int) : eqAgg [.i, .i] (.agg (#[i64 a, i64 b] : Array V)) (.agg (#[i64 c, i64 d] : Array V)) = some (decide (a = c ∧ b = d)) := by
  show eqKs [.i, .i] [i64 a, i64 b] [i64 c, i64 d] = _
  simp only [eqKs, eqK, if_true]
  by_cases h1 : a = c
  · subst h1
    by_cases h2 : b = d
    · subst h2; simp
    · have e : (b == d) = false := by simpa using h2
      simp [e, h2]
  · have e : (a == c) = false := by simpa using h1
    simp [e, h1]
theorem notIf_t (b : Bool) : notIf true (some b) = some (.bool (!b)) := rfl
theorem same_ok {H : Heap} {v w : V} {xs ys : List It} (hv : Sl H v xs) (hw : Sl H w ys) (hb : xs.length ≤ 1000000000) (Q : V → Heap → Prop) (hQ : Q (.bool (decide (xs = ys))) H) : wp (A_book_SameItems [v, w]) Q H := by
  show wp (F_book_SameItems v w) Q H
  have hl := hv.len
  have hl' := hw.len
  by_cases h0 : xs.length = ys.length
  case neg =>
    have : ¬ xs = ys := fun q => h0 (by rw [q])
    rw [decide_eq_false this] at hQ
    (try simp (maxSteps := 1000000) (disch := first | omega | (simp only [Heap.next_push', Heap.next_set']; omega) | (simp; done) | assumption | decide | (refine not_not_intro ?_; assumption)) only [Z1, Z2, splice, F_book_SameItems, hl, hl'])
    exact hQ
  have hi0 : ((xs.length : Nat) : Int) = (ys.length : Int) := by omega
  (try simp (maxSteps := 1000000) (disch := first | omega | (simp only [Heap.next_push', Heap.next_set']; omega) | (simp; done) | assumption | decide | (refine not_not_intro ?_; assumption)) only [Z1, Z2, splice, F_book_SameItems, hl, hl', book_SameItems_k4])
  refine wp_loop (Inv := fun k vs H' => ∃ (j : Nat), k = xs.length - j ∧ j ≤ xs.length ∧ vs = [v, w, i64 j] ∧ H' = H ∧ (∀ i, i < j → xs.getD i default = ys.getD i default)) (n := xs.length) (by unfold FUEL; omega)
    ⟨0, by omega, by omega, rfl, rfl, by omega⟩ ?_
  rintro k vs H' ⟨j, hk, hj, rfl, he, hsame⟩
  rw [he]; clear he H'
  by_cases hlt : j < xs.length
  case neg =>
    have : xs = ys := by
      apply List.ext_getElem h0
      intro i h1 h2
      have := hsame i (by omega)
      rwa [List.getD_eq_getElem?_getD, List.getElem?_eq_getElem h1, List.getD_eq_getElem?_getD, List.getElem?_eq_getElem h2] at this
    rw [decide_eq_true this] at hQ
    (try simp (maxSteps := 1000000) (disch := first | omega | (simp only [Heap.next_push', Heap.next_set']; omega) | (simp; done) | assumption | decide | (refine not_not_intro ?_; assumption)) only [Z1, Z2, splice, book_SameItems_l2, hl, book_SameItems_k3])
    exact hQ
  have a1 := hv.addr' (n := 3) rfl (k := .i64) (i := j) (by omega) (by omega)
  rw [Int.toNat_natCast] at a1
  have d1 := fun Q => hv.ldn' (Q := Q) (n := 3) rfl hlt default
  have a2 := hw.addr' (n := 3) rfl (k := .i64) (i := j) (by omega) (by omega)
  rw [Int.toNat_natCast] at a2
  have d2 := fun Q => hw.ldn' (Q := Q) (n := 3) rfl (show j < ys.length by omega) default
  by_cases he : xs.getD j default = ys.getD j default
  · (try simp (maxSteps := 1000000) (disch := first | omega | (simp only [Heap.next_push', Heap.next_set']; omega) | (simp; done) | assumption | decide | (refine not_not_intro ?_; assumption)) only [Z1, cellP_get, cellG_cells, wp_st1g, stG_c, eq_self, true_and, wp_stng, stnG_ok, ldG_ok, wp_newcg, wp_boxg, Heap.get_push_eq, Heap.get_push_lt, Heap.get_set_eq, Heap.get_set_ne', Heap.next_push', Heap.next_set', Heap.set_push_lt, Heap.set_push_eq, Heap.set_set, fld1_agg, fldn_agg, ext_tuple, outV_nil, outV_two, outV_three, outV_four, chk_ld1g, chkO_int, chkO_bool, chkO_str, chkO_ptr, chkO_slc, chkO_map, List.set_cons_zero, List.set_cons_succ, List.length_cons, List.length_nil, List.drop_succ_cons, List.drop_zero, List.take_succ_cons, List.take_zero, List.nil_append, List.cons_append, splice, isOne_int, isOne_str, isOne_bool, isOne_slice, isOne_pointer, isOne_map, condM_nf, condM_nef, gd_nef, gdf_nef, pick_nef, build_eq, fillA_nil, fillA_one, fillA_agg, Option.map_some, resv_one, resv_two, freeIn_nil, fillA_slc, fillA_int, fillA_str, fillA_bool, fillA_ptr, fillA_map, book_SameItems_l2, hl, book_SameItems_k1, a1, a2, d1, d2, eq_it, notIf_t, he, decide_true, Bool.not_true, book_SameItems_k0])
    refine ⟨xs.length - (j + 1), by omega, j + 1, rfl, by omega, by push_cast; rfl, fun i hi => ?_⟩
    rcases Nat.lt_or_eq_of_le (Nat.lt_succ_iff.1 hi) with q | rfl
    · exact hsame i q
    · exact he
  · have : ¬ xs = ys := fun q => he (by rw [q])
    rw [decide_eq_false this] at hQ
    (try simp (maxSteps := 1000000) (disch := first | omega | (simp only [Heap.next_push', Heap.next_set']; omega) | (simp; done) | assumption | decide | (refine not_not_intro ?_; assumption)) only [Z1, cellP_get, cellG_cells, wp_st1g, stG_c, eq_self, true_and, wp_stng, stnG_ok, ldG_ok, wp_newcg, wp_boxg, Heap.get_push_eq, Heap.get_push_lt, Heap.get_set_eq, Heap.get_set_ne', Heap.next_push', Heap.next_set', Heap.set_push_lt, Heap.set_push_eq, Heap.set_set, fld1_agg, fldn_agg, ext_tuple, outV_nil, outV_two, outV_three, outV_four, chk_ld1g, chkO_int, chkO_bool, chkO_str, chkO_ptr, chkO_slc, chkO_map, List.set_cons_zero, List.set_cons_succ, List.length_cons, List.length_nil, List.drop_succ_cons, List.drop_zero, List.take_succ_cons, List.take_zero, List.nil_append, List.cons_append, splice, isOne_int, isOne_str, isOne_bool, isOne_slice, isOne_pointer, isOne_map, condM_nf, condM_nef, gd_nef, gdf_nef, pick_nef, build_eq, fillA_nil, fillA_one, fillA_agg, Option.map_some, resv_one, resv_two, freeIn_nil, fillA_slc, fillA_int, fillA_str, fillA_bool, fillA_ptr, fillA_map, book_SameItems_l2, hl, book_SameItems_k1, a1, a2, d1, d2, eq_it, notIf_t, decide_eq_false he, Bool.not_false])
    exact hQ

theorem sub_hi {b s n c h : Nat} {k : IntKind} (hs : s ≠ 0) (hc : h ≤ c) (h0 : 0 < c) : subV s (slc b 0 s n c) none (some (.int k (h : Int))) = some (slc b 0 s h c) := by
  have e1 : bound n c (some (.int k (h : Int))) = some h := by simp [bound, hc]
  simp only [subV, e1]
  simp [bound, cutAt, show c ≠ 0 by omega]
end Go.AM.Cap
