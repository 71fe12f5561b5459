import Derived.Test.YtbnjeldcndpdoaaPnO
import Derived.Test.YtbnjeldcndpdoaaAmMap
set_option linter.all false
/- points: PointsForce, whole -/
set_option maxHeartbeats 8000000
namespace Go.AM.Cap
open Go.AM Go.Proofs

theorem chk_skip (H : Heap) : chk (ret skipV) H skipV = true := by rw [chk_ret]; rfl
theorem out_at {H : Heap} {w : V} {B : Bk} (ho : Own H w ((outS B).map i64)) {i : Nat} (hi : i < B.ls.length) (hout : (B.ls.getD i default).out = true) :
    ∃ b, iaddrS 1 w (i64 (nOut B.ls i : Nat)) = some (ptr b (nOut B.ls i)) ∧ ∀ H', Keeps [] H H' → cellG (H'.get b) (nOut B.ls i) = some (i64 (valueS B (i : Int))) := by
  obtain ⟨h1, h2⟩ := ofN_at hi hout
  have hl : nOut B.ls i < ((outS B).map i64).length := by rw [List.length_map]; unfold outS; rw [List.length_map]; exact h1
  obtain ⟨b, e1, e2⟩ := ho.idx (k := .i64) hl
  refine ⟨b, e1, fun H' k => ?_⟩
  have hv : ((outS B).map i64)[nOut B.ls i] = i64 (valueS B (i : Int)) := by
    rw [List.getElem_map]
    unfold outS
    rw [List.getElem_map]
    have : (ofN B.ls true)[nOut B.ls i] = i := by
      have := h2
      rw [List.getD_eq_getElem?_getD, List.getElem?_eq_getElem h1] at this
      exact this
    rw [this]
  rw [hv] at e2
  rw [cellP_get] at e2
  cases hg : H.get b with
  | none => rw [hg] at e2; cases e2
  | some z => rw [k.get hg (by simp)]; rw [hg] at e2; exact e2
theorem force_out {H0 H : Heap} {x y : BL} {C : Bk} {lv : V} {ls : List Pt} {at_ v : Int} {G : List V → M V} (hl0 : Sl H0 lv ls) (hn : ls.length ≤ 64) (t : Two H0 H x (C.wf [(at_, v)]) y C) (hfo : C.fo = []) (hls : C.ls = ls)
    (Q : Out → Heap → Prop) (hQ : ∀ H', Two H0 H' x (C.wf [(at_, v)]) y C → Q (.brk 2 [ptr x.p 0, ptr y.p 0, i64 at_]) H') :
    wp (loopM FUEL (law19_PointsForce_l9 GD G) [ptr x.p 0, ptr y.p 0, i64 at_, i64 v, i64 0, lv, i64 ls.length, i64 0]) Q H := by
  refine wp_loop (Inv := fun k vs H' => ∃ (i : Nat), k = ls.length - i ∧ i ≤ ls.length ∧ vs = [ptr x.p 0, ptr y.p 0, i64 at_, i64 v, i64 (nOut ls i : Nat), lv, i64 ls.length, i64 i] ∧ Two H0 H' x (C.wf [(at_, v)]) y C) (n := ls.length) (by unfold FUEL; omega)
    ⟨0, by omega, by omega, rfl, t⟩ ?_
  clear t H
  rintro k vs H ⟨i, hk, hi, rfl, t⟩
  by_cases h : i < ls.length
  case neg =>
    (try simp (maxSteps := 1000000) (disch := first | omega | (simp only [Z3]; omega) | (simp; done) | assumption | decide | (refine not_not_intro ?_; assumption)) only [Z1, Z2, splice, law19_PointsForce_l9])
    exact hQ _ t
  have hno : nOut ls i ≤ 64 := by
    have : nOut ls i ≤ i := by
      unfold nOut
      exact Nat.le_trans (List.length_filter_le _ _) (by simp)
    omega
  have hsu := nOut_succ ls i
  obtain ⟨q1, q2⟩ := sl_get (hl0.keep0 t.a.k) (n := 2) rfl h
  have hval := fun p : Int => value_wf (B := C) hfo (at_ := at_) (v := v) p
  generalize hpp : ls.getD i default = p at *
  have next : ∀ {H' : Heap} (o : Int), o = ((nOut ls (i + 1) : Nat) : Int) → Two H0 H' x (C.wf [(at_, v)]) y C → ∀ R : Out → Heap → Prop, (∀ vs' H', (∃ k', k' < k ∧ ∃ (i : Nat), k' = ls.length - i ∧ i ≤ ls.length ∧ vs' = [ptr x.p 0, ptr y.p 0, i64 at_, i64 v, i64 (nOut ls i : Nat), lv, i64 ls.length, i64 i] ∧ Two H0 H' x (C.wf [(at_, v)]) y C) → R (.nxt vs') H') →
      wp (law19_PointsForce_k7 GD G [ptr x.p 0, ptr y.p 0, i64 at_, i64 v, i64 o, lv, i64 ls.length, i64 i]) R H' := fun o ho t' R hR => by
    (try simp (maxSteps := 1000000) (disch := first | omega | (simp only [Z3]; omega) | (simp; done) | assumption | decide | (refine not_not_intro ?_; assumption)) only [Z1, Z2, splice, law19_PointsForce_k7])
    exact hR _ _ ⟨ls.length - (i + 1), by omega, i + 1, rfl, by omega, by rw [ho]; rfl, t'⟩
  (try simp (maxSteps := 1000000) (disch := first | omega | (simp only [Z3]; omega) | (simp; done) | assumption | decide | (refine not_not_intro ?_; assumption)) only [Z1, cellP_get, cellG_cells, wp_st1g, stG_c, eq_self, true_and, wp_stng, stnG_ok, ldG_ok, wp_newcg, wp_boxg, Heap.get_push_eq, Heap.get_push_lt, Heap.get_set_eq, Heap.get_set_ne', Heap.next_push', Heap.next_set', Heap.set_push_lt, Heap.set_push_eq, Heap.set_set, fld1_agg, fldn_agg, ext_tuple, outV_nil, outV_two, outV_three, outV_four, chk_ld1g, chkO_int, chkO_bool, chkO_str, chkO_ptr, chkO_slc, chkO_map, List.set_cons_zero, List.set_cons_succ, List.length_cons, List.length_nil, List.drop_succ_cons, List.drop_zero, List.take_succ_cons, List.take_zero, List.nil_append, List.cons_append, splice, isOne_int, isOne_str, isOne_bool, isOne_slice, isOne_pointer, isOne_map, condM_nf, condM_nef, gd_nef, gdf_nef, pick_nef, build_eq, fillA_nil, fillA_one, fillA_agg, Option.map_some, resv_one, resv_two, freeIn_nil, fillA_slc, fillA_int, fillA_str, fillA_bool, fillA_ptr, fillA_map, law19_PointsForce_l9, law19_PointsForce_k8, q1, q2, enc_pt])
  (try simp (maxSteps := 1000000) (disch := first | omega | (simp only [Z3]; omega) | (simp; done) | assumption | decide | (refine not_not_intro ?_; assumption)) only [Z1, Z2, splice])
  have k1 := Keeps.push [] H (some (.cells true [i64 p.typ, .bool p.out]))
  have t1 := t.keep0 k1
  generalize H.push (some (.cells true [i64 p.typ, .bool p.out])) = H1 at *
  cases hpo : p.out with
  | false =>
    rw [hpo] at hsu
    simp only [Bool.false_eq_true, if_false, Nat.add_zero] at hsu
    (try simp (maxSteps := 1000000) (disch := first | omega | (simp only [Z3]; omega) | (simp; done) | assumption | decide | (refine not_not_intro ?_; assumption)) only [Z1, Z2, splice, Bool.not_false])
    exact next _ (by rw [hsu]) t1 _ (fun _ _ h => h)
  | true =>
  rw [hpo] at hsu
  simp only [if_true] at hsu
  have hlt : i < C.ls.length := by rw [hls]; exact h
  have hout : (C.ls.getD i default).out = true := by rw [hls, hpp]; exact hpo
  by_cases hat : (i : Int) = at_
  · (try simp (maxSteps := 1000000) (disch := first | omega | (simp only [Z3]; omega) | (simp; done) | assumption | decide | (refine not_not_intro ?_; assumption)) only [Z1, Z2, splice, Bool.not_true, law19_PointsForce_k6, decide_eq_true hat])
    refine outputs_ok t1.a.b _ fun w H2 ow k2 _ => ?_
    have t2 := t1.keep0 k2
    obtain ⟨b, e1, e2⟩ := out_at (B := C.wf [(at_, v)]) ow hlt hout
    have e2' := e2 H2 (Keeps.refl _ _)
    rw [hval, if_pos hat] at e2'
    have el : (C.wf [(at_, v)]).ls = ls := hls
    rw [el] at e1 e2'
    (try simp (maxSteps := 1000000) (disch := first | omega | (simp only [Z3]; omega) | (simp; done) | assumption | decide | (refine not_not_intro ?_; assumption)) only [Z1, Z2, splice, e1, e2', chk_skip, law19_PointsForce_k5])
    exact next ((nOut ls i : Int) + 1) (by rw [hsu]; rfl) t2 _ (fun _ _ h => h)
  · (try simp (maxSteps := 1000000) (disch := first | omega | (simp only [Z3]; omega) | (simp; done) | assumption | decide | (refine not_not_intro ?_; assumption)) only [Z1, Z2, splice, Bool.not_true, law19_PointsForce_k6, decide_eq_false hat])
    refine outputs_ok t1.a.b _ fun w H2 ow k2 _ => ?_
    have t2 := t1.keep0 k2
    obtain ⟨b, e1, e2⟩ := out_at (B := C.wf [(at_, v)]) ow hlt hout
    have e2' := e2 H2 (Keeps.refl _ _)
    rw [hval, if_neg hat] at e2'
    have el : (C.wf [(at_, v)]).ls = ls := hls
    rw [el] at e1 e2'
    (try simp (maxSteps := 1000000) (disch := first | omega | (simp only [Z3]; omega) | (simp; done) | assumption | decide | (refine not_not_intro ?_; assumption)) only [Z1, Z2, splice, e1, e2'])
    refine outputs_ok t2.b _ fun w3 H3 ow3 k3 _ => ?_
    have t3 := t2.keep0 k3
    obtain ⟨b3, e3, e4⟩ := out_at ow3 hlt hout
    have e4' := e4 H3 (Keeps.refl _ _)
    rw [hls] at e3 e4'
    have e2'' := e2 H3 k3
    rw [hval, if_neg hat, el] at e2''
    (try simp (maxSteps := 1000000) (disch := first | omega | (simp only [Z3]; omega) | (simp; done) | assumption | decide | (refine not_not_intro ?_; assumption)) only [Z1, Z2, splice, e3, e4', e2'', chk_skip, law19_PointsForce_k5])
    exact next ((nOut ls i : Int) + 1) (by rw [hsu]; rfl) t3 _ (fun _ _ h => h)
end Go.AM.Cap
