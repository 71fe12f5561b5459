import Derived.Test.YtbnjeldcndpdoaaPnU
import Derived.Test.YtbnjeldcndpdoaaAmMap
set_option linter.all false
/- points: the document's end, Commit, Drop, Outputs, Forced -/
set_option maxHeartbeats 8000000
namespace Go.AM.Cap
open Go.AM Go.Proofs

def updR (part : Int) (done : Bool) (vs : List Int) (e : Stg) : List Int := if e.part = part ∧ done = true then vs.set e.point.toNat e.n else vs
def endR (R : Rk) (part : Int) (done : Bool) : Rk × Int :=
  if ¬ (0 ≤ part ∧ part < 8) then (R, 1) else ({ R with vs := R.ss.foldl (updR part done) R.vs, ss := R.ss.filter fun e => decide (e.part ≠ part) }, 0)
theorem updR_len (part : Int) (done : Bool) (e : Stg) (vs : List Int) : (updR part done vs e).length = vs.length := by unfold updR; split <;> simp
def outR (R : Rk) : List Int := (ofN R.ls true).map fun i : Nat => valueR R (i : Int)
def forcedR (R : Rk) : List Int := ((List.range R.ls.length).filter fun i => R.fb.getD i false).map fun i : Nat => (i : Int)

section
variable {H : Heap} {x : RL} {R : Rk}
theorem endR_ok (h : RbR H x R) (part : Int) (done : Bool) (Q : V → Heap → Prop) (hQ : ∀ x' H', RbR H' x' (endR R part done).1 → Tn x H x' H' → Q (i64 (endR R part done).2) H') : wp (A_ref19_Bank_end [ptr x.p 0, i64 part, .bool done]) Q H := by
  show wp (F_ref19_Bank_end (ptr x.p 0) (i64 part) (.bool done)) Q H
  unfold endR at hQ
  by_cases c1 : part < 0
  · rw [if_pos (by omega)] at hQ
    (try simp (maxSteps := 1000000) (disch := first | omega | (simp only [Z3]; omega) | (simp; done) | assumption | decide | (refine not_not_intro ?_; assumption)) only [Z1, Z2, splice, F_ref19_Bank_end, decide_eq_true c1])
    exact hQ _ _ h (Tn.refl _ _)
  by_cases c2 : part ≥ 8
  · rw [if_pos (by omega)] at hQ
    (try simp (maxSteps := 1000000) (disch := first | omega | (simp only [Z3]; omega) | (simp; done) | assumption | decide | (refine not_not_intro ?_; assumption)) only [Z1, Z2, splice, F_ref19_Bank_end, decide_eq_false c1, decide_eq_true c2])
    exact hQ _ _ h (Tn.refl _ _)
  rw [if_neg (by omega)] at hQ
  have hssm := h.ssm
  (try simp (maxSteps := 1000000) (disch := first | omega | (simp only [Z3]; omega) | (simp; done) | assumption | decide | (refine not_not_intro ?_; assumption)) only [Z1, Z2, splice, F_ref19_Bank_end, decide_eq_false c1, decide_eq_false c2, ref19_Bank_end_k4])
  refine wp_loop (Inv := fun k vs H' => ∃ (i : Nat) (w : V), k = R.ss.length - i ∧ i ≤ R.ss.length ∧ vs = [ptr x.p 0, i64 part, .bool done, w, i64 i] ∧ RbR H' x { R with vs := (R.ss.take i).foldl (updR part done) R.vs } ∧ Keeps [x.va] H H' ∧ OwnF H' w ((R.ss.take i).filter fun e => decide (e.part ≠ part)) ∧ ∀ b ∈ vb w, H.next ≤ b) (n := R.ss.length) (by unfold FUEL; omega)
    ⟨0, _, by omega, by omega, rfl, h, Keeps.refl _ _, OwnF.nil _, by simp⟩ ?_
  rintro k vs H' ⟨i, w, hk, hi, rfl, hb, kk, ow, fw⟩
  have ho := hb.obj
  have hl := hb.ss.len
  simp only at ho hl
  have hva := h.low x.va (by simp [RL.foot])
  have hnx := kk.next
  by_cases hlt : i < R.ss.length
  case neg =>
    have : i = R.ss.length := by omega
    subst this
    rw [List.take_length] at hb ow
    have hlp := h.low x.p (by simp [RL.foot])
    have huo := ow.isOne
    (try simp (maxSteps := 1000000) (disch := first | omega | (simp only [Z3]; omega) | (simp; done) | assumption | decide | (refine not_not_intro ?_; assumption)) only [Z1, Z2, splice, ref19_Bank_end_l2, ho, hl, ref19_Bank_end_k3, huo])
    have ks : Keeps [x.p] H' (H'.set x.p (some (.cells true [x.lv, x.gv, slc x.va 0 1 R.ls.length R.ls.length, slc x.fa 0 1 R.ls.length R.ls.length, slc x.ta 0 1 R.ls.length R.ls.length, w]))) := keeps_set (Keeps.refl _ _) (.inl (by simp))
    have hwn : ∀ b ∈ vb w, b ∉ x.wr := fun b hb' hm => by
      have := fw b hb'
      have := h.low b (by simp only [RL.wr, List.mem_cons, List.not_mem_nil, or_false] at hm; simp only [RL.foot, List.mem_cons]; rcases hm with q | q | q | q <;> simp [q])
      omega
    have hfl : (R.ss.filter fun e => decide (e.part ≠ part)).length ≤ 1000 := by
      have := List.length_filter_le (fun e : Stg => decide (e.part ≠ part)) R.ss
      omega
    obtain ⟨n1, n2, n3, n4, n5, n6⟩ := h.ne
    have ap : ∀ b ∈ vb x.lv ++ (vb x.gv ++ vb x.sv), b ∉ [x.p] := fun b hb' hm => h.ap b hb' (by simp [RL.wr] at hm ⊢; simp [hm])
    refine hQ { x with sv := w } _ ⟨Heap.get_set_self (Heap.get_lt ho), hb.pts.keep ks (fun b hb' => ap b (by simp [hb'])), hb.grs.keep ks (fun b hb' => ap b (by simp [hb'])), ks.get hb.vs (by simpa using n1.symm), ks.get hb.fb (by simpa using n2.symm), ks.get hb.tv (by simpa using n3.symm), (ow.keep ks (fun b hb' hm => hwn b hb' (by simp at hm; simp [RL.wr, hm]))).sl, hb.lv, hb.lf, hb.lt, hb.small, hb.gsm, hfl, fun e he => h.rs e (List.mem_filter.1 he).1, h.dis, fun b hb' hm => ?_⟩ ⟨rfl, (kk.mono (by simp [RL.wr])).trans (ks.mono (by simp [RL.wr])) (fun _ _ h => h), fun b hb' => ?_⟩
    · simp only [List.mem_append] at hb'
      rcases hb' with q | q | q
      · exact h.ap b (by simp [q]) hm
      · exact h.ap b (by simp [q]) hm
      · exact hwn b q hm
    · simp only [RL.foot, List.mem_cons, List.mem_append] at hb' ⊢
      rcases hb' with q | q | q | q | q | q | q
      · simp [q]
      · simp [q]
      · simp [q]
      · simp [q]
      · simp [q]
      · simp [q]
      · exact .inr (fw b q)
  obtain ⟨q1, q2⟩ := sl_get hb.ss (n := 3) rfl hlt
  have c0 := hb.ss.cell' (n := 3) rfl (off := 0) hlt (by omega) default
  have c1' := hb.ss.cell' (n := 3) rfl (off := 1) hlt (by omega) default
  have c2' := hb.ss.cell' (n := 3) rfl (off := 2) hlt (by omega) default
  rw [cellP_get] at c0 c1' c2'
  rw [Nat.add_zero] at c0
  have htk : R.ss.take (i + 1) = R.ss.take i ++ [R.ss.getD i default] := by
    rw [List.take_succ, List.getElem?_eq_getElem hlt, List.getD_eq_getElem?_getD, List.getElem?_eq_getElem hlt]; rfl
  have hmem : R.ss.getD i default ∈ R.ss := by
    rw [List.getD_eq_getElem?_getD, List.getElem?_eq_getElem hlt]; exact List.getElem_mem _
  have hri := h.rs _ hmem
  generalize R.ss.getD i default = e at *
  have d0 : cellG (H'.get (slB x.sv)) (slO x.sv + i * 3) = some (i64 e.part) := c0
  have d1 : cellG (H'.get (slB x.sv)) (slO x.sv + i * 3 + 1) = some (i64 e.point) := c1'
  have d2 : cellG (H'.get (slB x.sv)) (slO x.sv + i * 3 + 2) = some (i64 e.n) := c2'
  by_cases cp : e.part = part
  rotate_left
  · -- another partition's
    (try simp (maxSteps := 1000000) (disch := first | omega | (simp only [Z3]; omega) | (simp; done) | assumption | decide | (refine not_not_intro ?_; assumption)) only [Z1, cellP_get, cellG_cells, wp_st1g, stG_c, eq_self, true_and, wp_stng, stnG_ok, ldG_ok, wp_newcg, wp_boxg, Heap.get_push_eq, Heap.get_push_lt, Heap.get_set_eq, Heap.get_set_ne', Heap.next_push', Heap.next_set', Heap.set_push_lt, Heap.set_push_eq, Heap.set_set, fld1_agg, fldn_agg, ext_tuple, outV_nil, outV_two, outV_three, outV_four, chk_ld1g, chkO_int, chkO_bool, chkO_str, chkO_ptr, chkO_slc, chkO_map, List.set_cons_zero, List.set_cons_succ, List.length_cons, List.length_nil, List.drop_succ_cons, List.drop_zero, List.take_succ_cons, List.take_zero, List.nil_append, List.cons_append, splice, isOne_int, isOne_str, isOne_bool, isOne_slice, isOne_pointer, isOne_map, condM_nf, condM_nef, gd_nef, gdf_nef, pick_nef, build_eq, fillA_nil, fillA_one, fillA_agg, Option.map_some, resv_one, resv_two, freeIn_nil, fillA_slc, fillA_int, fillA_str, fillA_bool, fillA_ptr, fillA_map, ref19_Bank_end_l2, ho, hl, ref19_Bank_end_k1, q1, d0, q2, enc_stg])
    refine ownF_apps (α := Stg) (ys := [e]) rfl ow (by decide) (by rfl) (by rfl) (by have := List.length_filter_le (fun e : Stg => decide (e.part ≠ part)) (R.ss.take i); rw [List.length_take] at this; omega) (by have := List.length_filter_le (fun e : Stg => decide (e.part ≠ part)) (R.ss.take i); rw [List.length_take] at this; omega) fun u H3 ou k3 fu => ?_
    (try simp (maxSteps := 1000000) (disch := first | omega | (simp only [Z3]; omega) | (simp; done) | assumption | decide | (refine not_not_intro ?_; assumption)) only [Z1, Z2, splice, ref19_Bank_end_k0])
    refine ⟨R.ss.length - (i + 1), by omega, i + 1, u, rfl, by omega, rfl, ?_, kk.trans k3 (fun b hb' hm => by have := fw b hm; omega), ?_, fun b hb' => ?_⟩
    · have e1 : (R.ss.take (i + 1)).foldl (updR part done) R.vs = (R.ss.take i).foldl (updR part done) R.vs := by
        rw [htk, List.foldl_append]
        show updR part done _ e = _
        unfold updR; rw [if_neg (fun q => cp q.1)]
      rw [e1]
      exact hb.keep k3 (fun b hb' hm => by have := fw b hm; have := h.low b hb'; omega)
    · rw [htk, List.filter_append, List.filter_cons_of_pos (by simpa using cp)]
      exact ou
    · rcases fu b hb' with q | q
      · exact fw b q
      · omega
  have e3 : (R.ss.take (i + 1)).filter (fun e => decide (e.part ≠ part)) = (R.ss.take i).filter (fun e => decide (e.part ≠ part)) := by
    rw [htk, List.filter_append, List.filter_cons_of_neg (by simpa using cp), List.filter_nil, List.append_nil]
  cases done with
  | false =>
    (try simp (maxSteps := 1000000) (disch := first | omega | (simp only [Z3]; omega) | (simp; done) | assumption | decide | (refine not_not_intro ?_; assumption)) only [Z1, Z2, splice, ref19_Bank_end_l2, ho, hl, ref19_Bank_end_k1, q1, d0, ref19_Bank_end_k0])
    refine ⟨R.ss.length - (i + 1), by omega, i + 1, w, rfl, by omega, rfl, ?_, kk, by rw [e3]; exact ow, fw⟩
    have e1 : (R.ss.take (i + 1)).foldl (updR part false) R.vs = (R.ss.take i).foldl (updR part false) R.vs := by
      rw [htk, List.foldl_append]
      show updR part false _ e = _
      unfold updR; rw [if_neg (fun q => by cases q.2)]
    rw [e1]; exact hb
  | true =>
    have hv := hb.vs
    have hvl := hb.lv
    simp only at hv hvl
    have hel := encs_length ((R.ss.take i).foldl (updR part true) R.vs)
    rw [show Flat.size Int = 1 from rfl, Nat.mul_one] at hel
    have r1 := hri.1
    have r2 := hri.2
    (try simp (maxSteps := 1000000) (disch := first | omega | (simp only [Z3]; omega) | (simp; done) | assumption | decide | (refine not_not_intro ?_; assumption)) only [Z1, Z2, splice, ref19_Bank_end_l2, ho, hl, ref19_Bank_end_k1, q1, d0, d1, d2, iaddrS_slc, Nat.mul_one, hv])
    rw [set_int (by omega)]
    (try simp (maxSteps := 1000000) (disch := first | omega | (simp only [Z3]; omega) | (simp; done) | assumption | decide | (refine not_not_intro ?_; assumption)) only [Z1, Z2, splice, ref19_Bank_end_k0])
    have k1 : Keeps [x.va] H' (H'.set x.va (some (.cells true (encs (((R.ss.take i).foldl (updR part true) R.vs).set e.point.toNat e.n))))) := keeps_set (Keeps.refl _ _) (.inl (by simp))
    have e1 : (R.ss.take (i + 1)).foldl (updR part true) R.vs = ((R.ss.take i).foldl (updR part true) R.vs).set e.point.toNat e.n := by
      rw [htk, List.foldl_append]
      show updR part true _ e = _
      unfold updR; rw [if_pos ⟨cp, rfl⟩]
    refine ⟨R.ss.length - (i + 1), by omega, i + 1, w, rfl, by omega, rfl, ?_, kk.trans k1 (fun _ _ h => h), by rw [e3]; exact ow.keep k1 (fun b hb' hm => by have := fw b hb'; simp at hm; omega), fw⟩
    rw [e1]
    exact hb.putV _ k1 (Heap.get_set_self (Heap.get_lt hv)) (by simpa using hvl)
theorem commitR_ok (h : RbR H x R) (part : Int) (Q : V → Heap → Prop) (hQ : ∀ x' H', RbR H' x' (endR R part true).1 → Tn x H x' H' → Q (i64 (endR R part true).2) H') : wp (A_ref19_Bank_Commit [ptr x.p 0, i64 part]) Q H := by
  show wp (F_ref19_Bank_Commit (ptr x.p 0) (i64 part)) Q H
  (try simp (maxSteps := 1000000) (disch := first | omega | (simp only [Z3]; omega) | (simp; done) | assumption | decide | (refine not_not_intro ?_; assumption)) only [Z1, Z2, splice, F_ref19_Bank_Commit])
  refine endR_ok h part true _ fun x' H' h' t => ?_
  (try simp (maxSteps := 1000000) (disch := first | omega | (simp only [Z3]; omega) | (simp; done) | assumption | decide | (refine not_not_intro ?_; assumption)) only [Z1, Z2, splice])
  exact hQ _ _ h' t
theorem dropR_ok (h : RbR H x R) (part : Int) (Q : V → Heap → Prop) (hQ : ∀ x' H', RbR H' x' (endR R part false).1 → Tn x H x' H' → Q (i64 (endR R part false).2) H') : wp (A_ref19_Bank_Drop [ptr x.p 0, i64 part]) Q H := by
  show wp (F_ref19_Bank_Drop (ptr x.p 0) (i64 part)) Q H
  (try simp (maxSteps := 1000000) (disch := first | omega | (simp only [Z3]; omega) | (simp; done) | assumption | decide | (refine not_not_intro ?_; assumption)) only [Z1, Z2, splice, F_ref19_Bank_Drop])
  refine endR_ok h part false _ fun x' H' h' t => ?_
  (try simp (maxSteps := 1000000) (disch := first | omega | (simp only [Z3]; omega) | (simp; done) | assumption | decide | (refine not_not_intro ?_; assumption)) only [Z1, Z2, splice])
  exact hQ _ _ h' t
theorem outputsR_ok (h : RbR H x R) (Q : V → Heap → Prop) (hQ : ∀ v H', Own H' v ((outR R).map i64) → Keeps [] H H' → (∀ b ∈ vb v, H.next ≤ b) → Q v H') : wp (A_ref19_Bank_Outputs [ptr x.p 0]) Q H := by
  show wp (F_ref19_Bank_Outputs (ptr x.p 0)) Q H
  have hsm := h.small
  (try simp (maxSteps := 1000000) (disch := first | omega | (simp only [Z3]; omega) | (simp; done) | assumption | decide | (refine not_not_intro ?_; assumption)) only [Z1, Z2, splice, F_ref19_Bank_Outputs])
  refine wp_loop (Inv := fun k vs H' => ∃ (i : Nat) (v : V), k = R.ls.length - i ∧ i ≤ R.ls.length ∧ vs = [ptr x.p 0, v, i64 i] ∧ Own H' v ((((List.range i).filter fun j => (R.ls.getD j default).out == true).map fun i : Nat => valueR R (i : Int)).map i64) ∧ Keeps [] H H' ∧ (∀ b ∈ vb v, H.next ≤ b)) (n := R.ls.length) (by unfold FUEL; omega)
    ⟨0, _, by omega, by omega, rfl, Own.nil _, Keeps.refl _ _, by simp⟩ ?_
  rintro k vs H' ⟨i, v, hk, hi, rfl, hw, kk, fw⟩
  have hb := h.keep0 kk
  have ho := hb.obj
  have hl := hb.pts.len
  by_cases hlt : i < R.ls.length
  case neg =>
    have : i = R.ls.length := by omega
    subst this
    (try simp (maxSteps := 1000000) (disch := first | omega | (simp only [Z3]; omega) | (simp; done) | assumption | decide | (refine not_not_intro ?_; assumption)) only [Z1, Z2, splice, ref19_Bank_Outputs_l2, ho, hl, ref19_Bank_Outputs_k3])
    exact hQ _ _ hw kk fw
  have hll : ((((List.range i).filter fun j => (R.ls.getD j default).out == true).map fun i : Nat => valueR R (i : Int)).map i64).length ≤ 64 := by
    have := List.length_filter_le (fun j => (R.ls.getD j default).out == true) (List.range i)
    rw [List.length_range] at this
    rw [List.length_map, List.length_map]; omega
  obtain ⟨q1, q2⟩ := sl_get hb.pts (n := 2) rfl hlt
  have c1 := hb.pts.cell' (n := 2) rfl (off := 1) hlt (by omega) default
  rw [cellP_get] at c1
  generalize hgg : R.ls.getD i default = g at *
  have c1' : cellG (H'.get (slB x.lv)) (slO x.lv + i * 2 + 1) = some (.bool g.out) := c1
  cases go : g.out with
  | false =>
    rw [go] at c1'
    have e : (List.range (i + 1)).filter (fun j => (R.ls.getD j default).out == true) = ((List.range i).filter fun j => (R.ls.getD j default).out == true) := by
      rw [ofN_snoc, hgg, go, if_neg (by decide), List.append_nil]
    (try simp (maxSteps := 1000000) (disch := first | omega | (simp only [Z3]; omega) | (simp; done) | assumption | decide | (refine not_not_intro ?_; assumption)) only [Z1, Z2, splice, ref19_Bank_Outputs_l2, ho, hl, ref19_Bank_Outputs_k1, q1, c1', ref19_Bank_Outputs_k0])
    exact ⟨R.ls.length - (i + 1), by omega, i + 1, v, rfl, by omega, rfl, by rw [e]; exact hw, kk, fw⟩
  | true =>
    rw [go] at c1'
    have e : (List.range (i + 1)).filter (fun j => (R.ls.getD j default).out == true) = ((List.range i).filter fun j => (R.ls.getD j default).out == true) ++ [i] := by
      rw [ofN_snoc, hgg, go, if_pos (by decide)]
    (try simp (maxSteps := 1000000) (disch := first | omega | (simp only [Z3]; omega) | (simp; done) | assumption | decide | (refine not_not_intro ?_; assumption)) only [Z1, Z2, splice, ref19_Bank_Outputs_l2, ho, hl, ref19_Bank_Outputs_k1, q1, c1'])
    refine valueR_ok hb (i : Int) (by omega) (by omega) _ ?_
    (try simp (maxSteps := 1000000) (disch := first | omega | (simp only [Z3]; omega) | (simp; done) | assumption | decide | (refine not_not_intro ?_; assumption)) only [Z1, Z2, splice])
    refine wp_app (new := [i64 (valueR R (i : Int))]) hw (by rfl) (by rfl) (by omega) (by rfl) (by rfl) (by omega) (by omega) fun c H2 o2 k2 f2 => ?_
    (try simp (maxSteps := 1000000) (disch := first | omega | (simp only [Z3]; omega) | (simp; done) | assumption | decide | (refine not_not_intro ?_; assumption)) only [Z1, Z2, splice, ref19_Bank_Outputs_k0])
    refine ⟨R.ls.length - (i + 1), by omega, i + 1, _, rfl, by omega, rfl, ?_, kk.trans k2 (fun b hb hm => by have := fw b hm; omega), fun c hc => by have := kk.next; simp at hc f2; omega⟩
    rw [e, List.map_append, List.map_append]
    exact o2
theorem forcedR_ok (h : RbR H x R) (Q : V → Heap → Prop) (hQ : ∀ v H', Own H' v ((forcedR R).map i64) → Keeps [] H H' → (∀ b ∈ vb v, H.next ≤ b) → Q v H') : wp (A_ref19_Bank_Forced [ptr x.p 0]) Q H := by
  show wp (F_ref19_Bank_Forced (ptr x.p 0)) Q H
  have hsm := h.small
  (try simp (maxSteps := 1000000) (disch := first | omega | (simp only [Z3]; omega) | (simp; done) | assumption | decide | (refine not_not_intro ?_; assumption)) only [Z1, Z2, splice, F_ref19_Bank_Forced])
  refine wp_loop (Inv := fun k vs H' => ∃ (i : Nat) (v : V), k = R.ls.length - i ∧ i ≤ R.ls.length ∧ vs = [ptr x.p 0, v, i64 i] ∧ Own H' v ((((List.range i).filter fun j => R.fb.getD j false).map fun i : Nat => (i : Int)).map i64) ∧ Keeps [] H H' ∧ (∀ b ∈ vb v, H.next ≤ b)) (n := R.ls.length) (by unfold FUEL; omega)
    ⟨0, _, by omega, by omega, rfl, Own.nil _, Keeps.refl _ _, by simp⟩ ?_
  rintro k vs H' ⟨i, v, hk, hi, rfl, hw, kk, fw⟩
  have hb := h.keep0 kk
  have ho := hb.obj
  have hl := hb.pts.len
  by_cases hlt : i < R.ls.length
  case neg =>
    have : i = R.ls.length := by omega
    subst this
    (try simp (maxSteps := 1000000) (disch := first | omega | (simp only [Z3]; omega) | (simp; done) | assumption | decide | (refine not_not_intro ?_; assumption)) only [Z1, Z2, splice, ref19_Bank_Forced_l2, ho, hl, ref19_Bank_Forced_k3])
    exact hQ _ _ hw kk fw
  have hll : ((((List.range i).filter fun j => R.fb.getD j false).map fun i : Nat => (i : Int)).map i64).length ≤ 64 := by
    have := List.length_filter_le (fun j => R.fb.getD j false) (List.range i)
    rw [List.length_range] at this
    rw [List.length_map, List.length_map]; omega
  have lf := h.lf
  have cf := cell_bool hb.fb (i := i) (by omega)
  cases go : R.fb.getD i false with
  | false =>
    rw [go] at cf
    have e : (List.range (i + 1)).filter (fun j => R.fb.getD j false) = ((List.range i).filter fun j => R.fb.getD j false) := by
      rw [ofN_snoc, go, if_neg (by decide), List.append_nil]
    (try simp (maxSteps := 1000000) (disch := first | omega | (simp only [Z3]; omega) | (simp; done) | assumption | decide | (refine not_not_intro ?_; assumption)) only [Z1, Z2, splice, ref19_Bank_Forced_l2, ho, hl, ref19_Bank_Forced_k1, iaddrS_slc, Nat.mul_one, Int.toNat_natCast, cf, ref19_Bank_Forced_k0])
    exact ⟨R.ls.length - (i + 1), by omega, i + 1, v, rfl, by omega, rfl, by rw [e]; exact hw, kk, fw⟩
  | true =>
    rw [go] at cf
    have e : (List.range (i + 1)).filter (fun j => R.fb.getD j false) = ((List.range i).filter fun j => R.fb.getD j false) ++ [i] := by
      rw [ofN_snoc, go, if_pos rfl]
    (try simp (maxSteps := 1000000) (disch := first | omega | (simp only [Z3]; omega) | (simp; done) | assumption | decide | (refine not_not_intro ?_; assumption)) only [Z1, Z2, splice, ref19_Bank_Forced_l2, ho, hl, ref19_Bank_Forced_k1, iaddrS_slc, Nat.mul_one, Int.toNat_natCast, cf])
    refine wp_app (new := [i64 (i : Int)]) hw (by rfl) (by rfl) (by omega) (by rfl) (by rfl) (by omega) (by omega) fun c H2 o2 k2 f2 => ?_
    (try simp (maxSteps := 1000000) (disch := first | omega | (simp only [Z3]; omega) | (simp; done) | assumption | decide | (refine not_not_intro ?_; assumption)) only [Z1, Z2, splice, ref19_Bank_Forced_k0])
    refine ⟨R.ls.length - (i + 1), by omega, i + 1, _, rfl, by omega, rfl, ?_, kk.trans k2 (fun b hb hm => by have := fw b hm; omega), fun c hc => by have := kk.next; simp at hc f2; omega⟩
    rw [e, List.map_append, List.map_append]
    exact o2
end
end Go.AM.Cap
