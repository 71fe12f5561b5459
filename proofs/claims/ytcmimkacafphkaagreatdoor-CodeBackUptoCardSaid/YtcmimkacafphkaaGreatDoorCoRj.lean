import Derived.Test.YtcmimkacafphkaaGreatDoorCoRi
import Derived.Test.YtcmimkacafphkaaGreatDoorWiAs
import Derived.Test.YtcmimkacafphkaaGreatDoorAmOpenF
set_option linter.all false
/- code: the same image? CodeChecks on the machine -/
set_option maxHeartbeats 16000000
namespace Go.AM.Cap
open Go.AM Go.Proofs

theorem bkInts_ok {H : Heap} {v w : V} {xs ys : List Int} (hv : Sl H v xs) (hw : Sl H w ys) (hb : xs.length ≤ 1000000000) (Q : V → Heap → Prop) (hQ : Q (.bool (decide (xs = ys))) H) : wp (A_book_SameInts [v, w]) Q H := by
  show wp (F_book_SameInts v w) Q H
  have hl := hv.len
  have hl' := hw.len
  by_cases h0 : xs.length = ys.length
  case neg =>
    have : ¬ xs = ys := fun q => h0 (by rw [q])
    rw [decide_eq_false this] at hQ
    (try simp (maxSteps := 1000000) (disch := first | omega | (simp only [Z3]; omega) | (simp; done) | assumption | decide | (refine not_not_intro ?_; assumption)) only [Z1, Z2, splice, F_book_SameInts, hl, hl'])
    exact hQ
  have hi0 : ((xs.length : Nat) : Int) = (ys.length : Int) := by omega
  (try simp (maxSteps := 1000000) (disch := first | omega | (simp only [Z3]; omega) | (simp; done) | assumption | decide | (refine not_not_intro ?_; assumption)) only [Z1, Z2, splice, F_book_SameInts, hl, hl', book_SameInts_k4])
  refine wp_loop (Inv := fun k vs H' => ∃ (j : Nat), k = xs.length - j ∧ j ≤ xs.length ∧ vs = [v, w, i64 j] ∧ H' = H ∧ (∀ i, i < j → xs.getD i 0 = ys.getD i 0)) (n := xs.length) (by unfold FUEL; omega)
    ⟨0, by omega, by omega, rfl, rfl, by omega⟩ ?_
  rintro k vs H' ⟨j, hk, hj, rfl, he, hsame⟩
  rw [he]; clear he H'
  by_cases hlt : j < xs.length
  case neg =>
    have : xs = ys := by
      apply List.ext_getElem h0
      intro i h1 h2
      have := hsame i (by omega)
      rwa [List.getD_eq_getElem?_getD, List.getElem?_eq_getElem h1, List.getD_eq_getElem?_getD, List.getElem?_eq_getElem h2] at this
    rw [decide_eq_true this] at hQ
    (try simp (maxSteps := 1000000) (disch := first | omega | (simp only [Z3]; omega) | (simp; done) | assumption | decide | (refine not_not_intro ?_; assumption)) only [Z1, Z2, splice, book_SameInts_l2, hl, book_SameInts_k3])
    exact hQ
  have a1 := hv.addr1 rfl (k := .i64) (i := j) (by omega) (by omega)
  rw [Int.toNat_natCast] at a1
  have c1 := hv.cell1 rfl hlt 0
  rw [cellP_get] at c1
  have e1 : (Flat.enc (xs.getD j 0))[0]? = some (i64 (xs.getD j 0)) := rfl
  rw [e1] at c1
  have a2 := hw.addr1 rfl (k := .i64) (i := j) (by omega) (by omega)
  rw [Int.toNat_natCast] at a2
  have c2 := hw.cell1 rfl (show j < ys.length by omega) 0
  rw [cellP_get] at c2
  have e2 : (Flat.enc (ys.getD j 0))[0]? = some (i64 (ys.getD j 0)) := rfl
  rw [e2] at c2
  by_cases he : xs.getD j 0 = ys.getD j 0
  · (try simp (maxSteps := 1000000) (disch := first | omega | (simp only [Z3]; omega) | (simp; done) | assumption | decide | (refine not_not_intro ?_; assumption)) only [Z1, Z2, splice, book_SameInts_l2, hl, book_SameInts_k1, a1, a2, c1, c2, he, book_SameInts_k0])
    refine ⟨xs.length - (j + 1), by omega, j + 1, rfl, by omega, by push_cast; rfl, fun i hi => ?_⟩
    rcases Nat.lt_or_eq_of_le (Nat.lt_succ_iff.1 hi) with q | rfl
    · exact hsame i q
    · exact he
  · have : ¬ xs = ys := fun q => he (by rw [q])
    rw [decide_eq_false this] at hQ
    (try simp (maxSteps := 1000000) (disch := first | omega | (simp only [Z3]; omega) | (simp; done) | assumption | decide | (refine not_not_intro ?_; assumption)) only [Z1, Z2, splice, book_SameInts_l2, hl, book_SameInts_k1, a1, a2, c1, c2, decide_eq_false he])
    exact hQ
theorem bkNums_ok {H : Heap} {v w : V} {xs ys : List Int} (hv : Sl H v xs) (hw : Sl H w ys) (hb : xs.length ≤ 1000000000) (Q : V → Heap → Prop) (hQ : Q (.bool (decide (xs = ys))) H) : wp (A_book_SameNums [v, w]) Q H := by
  show wp (F_book_SameNums v w) Q H
  have hl := hv.len
  have hl' := hw.len
  by_cases h0 : xs.length = ys.length
  case neg =>
    have : ¬ xs = ys := fun q => h0 (by rw [q])
    rw [decide_eq_false this] at hQ
    (try simp (maxSteps := 1000000) (disch := first | omega | (simp only [Z3]; omega) | (simp; done) | assumption | decide | (refine not_not_intro ?_; assumption)) only [Z1, Z2, splice, F_book_SameNums, hl, hl'])
    exact hQ
  have hi0 : ((xs.length : Nat) : Int) = (ys.length : Int) := by omega
  (try simp (maxSteps := 1000000) (disch := first | omega | (simp only [Z3]; omega) | (simp; done) | assumption | decide | (refine not_not_intro ?_; assumption)) only [Z1, Z2, splice, F_book_SameNums, hl, hl', book_SameNums_k4])
  refine wp_loop (Inv := fun k vs H' => ∃ (j : Nat), k = xs.length - j ∧ j ≤ xs.length ∧ vs = [v, w, i64 j] ∧ H' = H ∧ (∀ i, i < j → xs.getD i 0 = ys.getD i 0)) (n := xs.length) (by unfold FUEL; omega)
    ⟨0, by omega, by omega, rfl, rfl, by omega⟩ ?_
  rintro k vs H' ⟨j, hk, hj, rfl, he, hsame⟩
  rw [he]; clear he H'
  by_cases hlt : j < xs.length
  case neg =>
    have : xs = ys := by
      apply List.ext_getElem h0
      intro i h1 h2
      have := hsame i (by omega)
      rwa [List.getD_eq_getElem?_getD, List.getElem?_eq_getElem h1, List.getD_eq_getElem?_getD, List.getElem?_eq_getElem h2] at this
    rw [decide_eq_true this] at hQ
    (try simp (maxSteps := 1000000) (disch := first | omega | (simp only [Z3]; omega) | (simp; done) | assumption | decide | (refine not_not_intro ?_; assumption)) only [Z1, Z2, splice, book_SameNums_l2, hl, book_SameNums_k3])
    exact hQ
  have a1 := hv.addr1 rfl (k := .i64) (i := j) (by omega) (by omega)
  rw [Int.toNat_natCast] at a1
  have c1 := hv.cell1 rfl hlt 0
  rw [cellP_get] at c1
  have e1 : (Flat.enc (xs.getD j 0))[0]? = some (i64 (xs.getD j 0)) := rfl
  rw [e1] at c1
  have a2 := hw.addr1 rfl (k := .i64) (i := j) (by omega) (by omega)
  rw [Int.toNat_natCast] at a2
  have c2 := hw.cell1 rfl (show j < ys.length by omega) 0
  rw [cellP_get] at c2
  have e2 : (Flat.enc (ys.getD j 0))[0]? = some (i64 (ys.getD j 0)) := rfl
  rw [e2] at c2
  by_cases he : xs.getD j 0 = ys.getD j 0
  · (try simp (maxSteps := 1000000) (disch := first | omega | (simp only [Z3]; omega) | (simp; done) | assumption | decide | (refine not_not_intro ?_; assumption)) only [Z1, Z2, splice, book_SameNums_l2, hl, book_SameNums_k1, a1, a2, c1, c2, he, book_SameNums_k0])
    refine ⟨xs.length - (j + 1), by omega, j + 1, rfl, by omega, by push_cast; rfl, fun i hi => ?_⟩
    rcases Nat.lt_or_eq_of_le (Nat.lt_succ_iff.1 hi) with q | rfl
    · exact hsame i q
    · exact he
  · have : ¬ xs = ys := fun q => he (by rw [q])
    rw [decide_eq_false this] at hQ
    (try simp (maxSteps := 1000000) (disch := first | omega | (simp only [Z3]; omega) | (simp; done) | assumption | decide | (refine not_not_intro ?_; assumption)) only [Z1, Z2, splice, book_SameNums_l2, hl, book_SameNums_k1, a1, a2, c1, c2, decide_eq_false he])
    exact hQ
theorem eq_ins (x y : Ins) : eqAgg [.i, .i, .i, .i] (.agg (Flat.enc x).toArray) (.agg (Flat.enc y).toArray) = some (decide (x = y)) := by
  obtain ⟨a, b, c, d⟩ := x
  obtain ⟨a', b', c', d'⟩ := y
  show eqKs [.i, .i, .i, .i] [i64 a, i64 b, i64 c, i64 d] [i64 a', i64 b', i64 c', i64 d'] = _
  simp only [eqKs, eqK, if_true]
  by_cases h1 : a = a'
  · subst h1
    by_cases h2 : b = b'
    · subst h2
      by_cases h3 : c = c'
      · subst h3
        by_cases h4 : d = d'
        · subst h4; simp
        · have e : (d == d') = false := by simpa using h4
          simp [e, h4]
      · have e : (c == c') = false := by simpa using h3
        simp [e, h3]
    · have e : (b == b') = false := by simpa using h2
      simp [e, h2]
  · have e : (a == a') = false := by simpa using h1
    simp [e, h1]
theorem not_neg (b : Bool) : notIf true (some b) = some (.bool (!b)) := rfl
/-- two images in blocks of their own -/
theorem two_ims {H : Heap} {x y : Im} {P : Heap → Prop}
    (h : ∀ H2, Keeps [] H H2 → (∀ H3, Keeps [] H2 H3 → H3.get H.next = some (.cells true (Flat.enc x)) ∧ H3.get (H.next + 1) = some (.cells true (Flat.enc y))) → H.next + 1 < H2.next → P H2) : P ((H.push (some (.cells true (Flat.enc x)))).push (some (.cells true (Flat.enc y)))) := by
  have k1 : Keeps [] H (H.push (some (.cells true (Flat.enc x)))) := keeps_push (Keeps.refl _ _)
  have g1 : (H.push (some (.cells true (Flat.enc x)))).get H.next = some (.cells true (Flat.enc x)) := Heap.get_push_self _ _
  have k2 := Keeps.push [] (H.push (some (.cells true (Flat.enc x)))) (some (.cells true (Flat.enc y)))
  have g2 : ((H.push (some (.cells true (Flat.enc x)))).push (some (.cells true (Flat.enc y)))).get (H.next + 1) = some (.cells true (Flat.enc y)) := by
    have := Heap.get_push_self (H.push (some (.cells true (Flat.enc x)))) (some (.cells true (Flat.enc y)))
    rw [Heap.next_push'] at this
    exact this
  have g1' := k2.get g1 (by simp)
  refine h _ (k1.trans k2 (by simp)) (fun H3 k3 => ⟨k3.get g1' (by simp), k3.get g2 (by simp)⟩) (Heap.get_lt g2)
theorem sameIm_ok {H : Heap} {x y : Im} (h : ImAt H x) (h' : ImAt H y) (hl : x.types.xs.length ≤ 100000000) (hf : x.first.xs.length ≤ 100000000) (hi : x.ins.xs.length ≤ 100000000) (hu : x.outs.xs.length ≤ 100000000) (hc : x.code.xs.length ≤ 100000000) (Q : V → Heap → Prop) (hQ : ∀ H', Keeps [] H H' → Q (.bool (decide (x.p = y.p))) H') : wp (A_book_SameImage [.agg (Flat.enc x).toArray, .agg (Flat.enc y).toArray]) Q H := by
  show wp (F_book_SameImage (.agg (Flat.enc x).toArray) (.agg (Flat.enc y).toArray)) Q H
  have ho := im_one x
  have ho2 := im_one y
  unfold F_book_SameImage
  (try simp (maxSteps := 1000000) (disch := first | omega | (simp only [Z3]; omega) | (simp; done) | assumption | decide | (refine not_not_intro ?_; assumption)) only [Z1, cellP_get, cellG_cells, wp_st1g, stG_c, eq_self, true_and, wp_stng, stnG_ok, wp_ldng, ldG_ok, wp_newcg, Heap.get_push_eq, Heap.get_push_lt, Heap.get_set_eq, Heap.get_set_ne', Heap.next_push', Heap.next_set', Heap.set_push_lt, Heap.set_push_eq, Heap.set_set, fld1_agg, fldn_agg, ext_tuple, outV_nil, outV_two, outV_three, outV_four, chk_ld1g, chkO_int, chkO_bool, chkO_str, chkO_ptr, chkO_slc, chkO_map, List.set_cons_zero, List.set_cons_succ, List.length_cons, List.length_nil, List.drop_succ_cons, List.drop_zero, List.take_succ_cons, List.take_zero, List.nil_append, List.cons_append, splice, isOne_int, isOne_str, isOne_bool, isOne_slice, isOne_pointer, isOne_map, condM_nf, condM_nef, gd_nef, gdf_nef, pick_nef, build_eq, fillA_nil, fillA_one, fillA_agg, Option.map_some, resv_one, resv_two, freeIn_nil, fillA_slc, fillA_int, fillA_str, fillA_bool, fillA_ptr, fillA_map])
  (try simp (maxSteps := 1000000) (disch := first | omega | (simp only [Z3]; omega) | (simp; done) | assumption | decide | (refine not_not_intro ?_; assumption)) only [Z1, Z2, splice, enc_im])
  rw [← enc_im, ← enc_im]
  refine two_ims fun H2 k2 g2 hlt => ?_
  obtain ⟨g2a, g2b⟩ := g2 _ (Keeps.refl _ _)
  rw [enc_im] at g2a g2b
  have h1 := h.keep0 k2
  have h2 := h'.keep0 k2
  have lx := h.code.len
  have ly := h'.code.len
  have no : ¬ x.p = y.p → Q (.bool false) H2 := fun q => by have := hQ H2 k2; rw [decide_eq_false q] at this; exact this
  by_cases c0 : x.name = y.name
  case neg =>
    (try simp (maxSteps := 1000000) (disch := first | omega | (simp only [Z3]; omega) | (simp; done) | assumption | decide | (refine not_not_intro ?_; assumption)) only [Z1, Z2, splice, g2a, g2b, decide_eq_false c0])
    exact no (fun q => c0 (congrArg PIm.name q))
  (try simp (maxSteps := 1000000) (disch := first | omega | (simp only [Z3]; omega) | (simp; done) | assumption | decide | (refine not_not_intro ?_; assumption)) only [Z1, Z2, splice, g2a, g2b, decide_eq_true c0])
  refine bkInts_ok h1.types h2.types (by omega) _ ?_
  by_cases c1 : x.types.xs = y.types.xs
  case neg =>
    (try simp (maxSteps := 1000000) (disch := first | omega | (simp only [Z3]; omega) | (simp; done) | assumption | decide | (refine not_not_intro ?_; assumption)) only [Z1, Z2, splice, decide_eq_false c1])
    exact no (fun q => c1 (congrArg PIm.types q))
  (try simp (maxSteps := 1000000) (disch := first | omega | (simp only [Z3]; omega) | (simp; done) | assumption | decide | (refine not_not_intro ?_; assumption)) only [Z1, Z2, splice, decide_eq_true c1, g2a, g2b])
  refine bkNums_ok h1.first h2.first (by omega) _ ?_
  by_cases c2 : x.first.xs = y.first.xs
  case neg =>
    (try simp (maxSteps := 1000000) (disch := first | omega | (simp only [Z3]; omega) | (simp; done) | assumption | decide | (refine not_not_intro ?_; assumption)) only [Z1, Z2, splice, decide_eq_false c2])
    exact no (fun q => c2 (congrArg PIm.first q))
  (try simp (maxSteps := 1000000) (disch := first | omega | (simp only [Z3]; omega) | (simp; done) | assumption | decide | (refine not_not_intro ?_; assumption)) only [Z1, Z2, splice, decide_eq_true c2, g2a, g2b])
  refine bkInts_ok h1.ins h2.ins (by omega) _ ?_
  by_cases c3 : x.ins.xs = y.ins.xs
  case neg =>
    (try simp (maxSteps := 1000000) (disch := first | omega | (simp only [Z3]; omega) | (simp; done) | assumption | decide | (refine not_not_intro ?_; assumption)) only [Z1, Z2, splice, decide_eq_false c3])
    exact no (fun q => c3 (congrArg PIm.ins q))
  (try simp (maxSteps := 1000000) (disch := first | omega | (simp only [Z3]; omega) | (simp; done) | assumption | decide | (refine not_not_intro ?_; assumption)) only [Z1, Z2, splice, decide_eq_true c3, g2a, g2b])
  refine bkInts_ok h1.outs h2.outs (by omega) _ ?_
  by_cases c4 : x.outs.xs = y.outs.xs
  case neg =>
    (try simp (maxSteps := 1000000) (disch := first | omega | (simp only [Z3]; omega) | (simp; done) | assumption | decide | (refine not_not_intro ?_; assumption)) only [Z1, Z2, splice, decide_eq_false c4])
    exact no (fun q => c4 (congrArg PIm.outs q))
  by_cases c5 : (x.code.xs.length : Int) = y.code.xs.length
  case neg =>
    (try simp (maxSteps := 1000000) (disch := first | omega | (simp only [Z3]; omega) | (simp; done) | assumption | decide | (refine not_not_intro ?_; assumption)) only [Z1, Z2, splice, decide_eq_true c4, g2a, g2b, lx, ly, decide_eq_false c5])
    exact no (fun q => c5 (by rw [show x.code.xs = y.code.xs from congrArg PIm.code q]))
  (try simp (maxSteps := 1000000) (disch := first | omega | (simp only [Z3]; omega) | (simp; done) | assumption | decide | (refine not_not_intro ?_; assumption)) only [Z1, Z2, splice, decide_eq_true c4, g2a, g2b, lx, ly, decide_eq_true c5, book_SameImage_k4])
  refine wp_loop (Inv := fun k vs H' => ∃ (j : Nat), k = x.code.xs.length - j ∧ j ≤ x.code.xs.length ∧ vs = [ptr H.next 0, ptr (H.next + 1) 0, i64 j] ∧ H' = H2 ∧ (∀ i, i < j → x.code.xs.getD i default = y.code.xs.getD i default)) (n := x.code.xs.length) (by unfold FUEL; omega)
    ⟨0, by omega, by omega, rfl, rfl, by omega⟩ ?_
  rintro k vs H' ⟨j, hk, hj, rfl, he, hsame⟩
  rw [he]; clear he H'
  by_cases hlt2 : j < x.code.xs.length
  case neg =>
    have hcode : x.code.xs = y.code.xs := by
      apply List.ext_getElem (by omega)
      intro i h1 h2
      have := hsame i (by omega)
      rwa [List.getD_eq_getElem?_getD, List.getElem?_eq_getElem h1, List.getD_eq_getElem?_getD, List.getElem?_eq_getElem h2] at this
    have hq := hQ H2 k2
    rw [decide_eq_true (show x.p = y.p by unfold Im.p; rw [c0, c1, c2, c3, c4, hcode])] at hq
    (try simp (maxSteps := 1000000) (disch := first | omega | (simp only [Z3]; omega) | (simp; done) | assumption | decide | (refine not_not_intro ?_; assumption)) only [Z1, Z2, splice, book_SameImage_l2, g2a, lx, book_SameImage_k3])
    exact hq
  have a1 := h1.code.addr' (n := 4) rfl (k := .i64) (i := j) (by omega) (by omega)
  rw [Int.toNat_natCast] at a1
  have d1 := fun Q => h1.code.ldn' (Q := Q) (n := 4) rfl hlt2 default
  have a2 := h2.code.addr' (n := 4) rfl (k := .i64) (i := j) (by omega) (by omega)
  rw [Int.toNat_natCast] at a2
  have d2 := fun Q => h2.code.ldn' (Q := Q) (n := 4) rfl (show j < y.code.xs.length by omega) default
  by_cases he : x.code.xs.getD j default = y.code.xs.getD j default
  · (try simp (maxSteps := 1000000) (disch := first | omega | (simp only [Z3]; omega) | (simp; done) | assumption | decide | (refine not_not_intro ?_; assumption)) only [Z1, cellP_get, cellG_cells, wp_st1g, stG_c, eq_self, true_and, wp_stng, stnG_ok, ldG_ok, wp_newcg, wp_boxg, Heap.get_push_eq, Heap.get_push_lt, Heap.get_set_eq, Heap.get_set_ne', Heap.next_push', Heap.next_set', Heap.set_push_lt, Heap.set_push_eq, Heap.set_set, fld1_agg, fldn_agg, ext_tuple, outV_nil, outV_two, outV_three, outV_four, chk_ld1g, chkO_int, chkO_bool, chkO_str, chkO_ptr, chkO_slc, chkO_map, List.set_cons_zero, List.set_cons_succ, List.length_cons, List.length_nil, List.drop_succ_cons, List.drop_zero, List.take_succ_cons, List.take_zero, List.nil_append, List.cons_append, splice, isOne_int, isOne_str, isOne_bool, isOne_slice, isOne_pointer, isOne_map, condM_nf, condM_nef, gd_nef, gdf_nef, pick_nef, build_eq, fillA_nil, fillA_one, fillA_agg, Option.map_some, resv_one, resv_two, freeIn_nil, fillA_slc, fillA_int, fillA_str, fillA_bool, fillA_ptr, fillA_map, book_SameImage_l2, g2a, g2b, lx, book_SameImage_k1, a1, a2, d1, d2, eq_ins, not_neg, he, decide_true, Bool.not_true, book_SameImage_k0])
    refine ⟨x.code.xs.length - (j + 1), by omega, j + 1, rfl, by omega, by push_cast; rfl, fun i hi => ?_⟩
    rcases Nat.lt_or_eq_of_le (Nat.lt_succ_iff.1 hi) with q | rfl
    · exact hsame i q
    · exact he
  · (try simp (maxSteps := 1000000) (disch := first | omega | (simp only [Z3]; omega) | (simp; done) | assumption | decide | (refine not_not_intro ?_; assumption)) only [Z1, cellP_get, cellG_cells, wp_st1g, stG_c, eq_self, true_and, wp_stng, stnG_ok, ldG_ok, wp_newcg, wp_boxg, Heap.get_push_eq, Heap.get_push_lt, Heap.get_set_eq, Heap.get_set_ne', Heap.next_push', Heap.next_set', Heap.set_push_lt, Heap.set_push_eq, Heap.set_set, fld1_agg, fldn_agg, ext_tuple, outV_nil, outV_two, outV_three, outV_four, chk_ld1g, chkO_int, chkO_bool, chkO_str, chkO_ptr, chkO_slc, chkO_map, List.set_cons_zero, List.set_cons_succ, List.length_cons, List.length_nil, List.drop_succ_cons, List.drop_zero, List.take_succ_cons, List.take_zero, List.nil_append, List.cons_append, splice, isOne_int, isOne_str, isOne_bool, isOne_slice, isOne_pointer, isOne_map, condM_nf, condM_nef, gd_nef, gdf_nef, pick_nef, build_eq, fillA_nil, fillA_one, fillA_agg, Option.map_some, resv_one, resv_two, freeIn_nil, fillA_slc, fillA_int, fillA_str, fillA_bool, fillA_ptr, fillA_map, book_SameImage_l2, g2a, g2b, lx, book_SameImage_k1, a1, a2, d1, d2, eq_ins, not_neg, decide_eq_false he, Bool.not_false])
    exact no (fun q => he (by rw [show x.code.xs = y.code.xs from congrArg PIm.code q]))
end Go.AM.Cap
