import Derived.Test.YtbnjeldcndpdoaaPnN
import Derived.Test.YtbnjeldcndpdoaaPnL
import Derived.Test.YtbnjeldcndpdoaaAmMap
set_option linter.all false
/- points: PointsForce on the machine -/
set_option maxHeartbeats 8000000
namespace Go.AM.Cap
open Go.AM Go.Proofs

/-- Forced at a bank in which nothing is forced -/
def forced0F (args : List V) : M V := fun H => match args with
  | [.pointer (some ⟨p, o, none⟩)] => match H.cell p (o + 3) with
    | some (.map (some m)) => match H.get m with
      | some (.map true []) => some (.slice none 0 0, H)
      | _ => none
    | _ => none
  | _ => none
theorem forced0_ok {H : Heap} {x : BL} {B : Bk} (h : BankR H x B) (hf : B.fo = []) (Q : V → Heap → Prop) (hQ : Q (.slice none 0 0) H) : wp (forced0F [ptr x.p 0]) Q H := by
  refine ⟨_, H, ?_, hQ⟩
  have h1 := h.obj
  have h2 := h.fo
  rw [hf] at h2
  have hc : H.cell x.p (0 + 3) = some (.map (some x.fm)) := by
    unfold Heap.cell; rw [h1]; rfl
  unfold forced0F
  simp only [hc, h2, List.map_nil]
theorem u64_at (a : Int) (n : Nat) (hn : 0 < n) (hn2 : n ≤ 100000000) : ∃ (k : Nat) (m : Int), k < n ∧ cvi .u64 (i64 a) = some (.int .u64 m) ∧ cvi .u64 (i64 n) = some (.int .u64 n) ∧ bin .rem (.int .u64 m) (.int .u64 n) = some (.int .u64 (k : Int)) ∧ cvi .i64 (.int .u64 (k : Int)) = some (i64 (k : Int)) := by
  have hu : IntKind.u64.wrap (n : Int) = n := by
    simp [IntKind.wrap, IntKind.signed, IntKind.bits]; omega
  have h0 : 0 ≤ IntKind.u64.wrap a := by simp [IntKind.wrap, IntKind.signed, IntKind.bits]; omega
  have hm0 : 0 ≤ IntKind.u64.wrap a % (n : Int) := Int.emod_nonneg _ (by omega)
  have hm1 : IntKind.u64.wrap a % (n : Int) < n := Int.emod_lt_of_pos _ (by omega)
  have ek : (((IntKind.u64.wrap a % (n : Int)).toNat : Nat) : Int) = IntKind.u64.wrap a % (n : Int) := Int.toNat_of_nonneg hm0
  refine ⟨(IntKind.u64.wrap a % (n : Int)).toNat, IntKind.u64.wrap a, by omega, rfl, by rw [cvi_int, hu], by rw [ek]; exact int_remn h0 (by omega), by rw [ek, cvi_int, i64_in (by omega) (by omega)]⟩
theorem and_one (n : Int) : ∃ v : Int, (v = 0 ∨ v = 1) ∧ bin .and (i64 n) (i64 1) = some (i64 v) := by
  have e : bin .and (i64 n) (i64 1) = some (Value.int .i64 (IntKind.i64.wrap (((BitVec.ofInt 64 n) &&& (BitVec.ofInt 64 1)).toNat : Int))) := rfl
  have h1 : (BitVec.ofInt 64 1).toNat = 1 := rfl
  have h2 : ((BitVec.ofInt 64 n) &&& (BitVec.ofInt 64 1)).toNat = (BitVec.ofInt 64 n).toNat % 2 := by
    rw [BitVec.toNat_and, h1, Nat.and_one_is_mod]
  refine ⟨(((BitVec.ofInt 64 n).toNat % 2 : Nat) : Int), by omega, ?_⟩
  rw [e, h2, i64_in (by omega) (by omega)]
/-- the calls -/
theorem force_acts {H0 H : Heap} {x y : BL} {C : Bk} {av pv : V} {acts : List QAct} {at_ v : Int} {G : List V → M V} (ha0 : Acts H0 av acts) (t : Two H0 H x (C.wf [(at_, v)]) y C) (hfo : C.fo = [])
    (Q : Out → Heap → Prop) (hQ : ∀ H' C', C'.fo = [] → C'.ls = C.ls → Two H0 H' x (C'.wf [(at_, v)]) y C' → Q (.brk 0 [pv, ptr x.p 0, ptr y.p 0, i64 at_, i64 v]) H') :
    wp (loopM FUEL (law19_PointsForce_l4 GD G) [av, pv, ptr x.p 0, ptr y.p 0, i64 at_, i64 v, i64 0]) Q H := by
  generalize hls : C.ls = ls at hQ
  refine wp_loop (Inv := fun k vs H' => ∃ (i : Nat) (C' : Bk), k = 100 - i ∧ i ≤ 100 ∧ i ≤ acts.length ∧ vs = [av, pv, ptr x.p 0, ptr y.p 0, i64 at_, i64 v, i64 i] ∧ Two H0 H' x (C'.wf [(at_, v)]) y C' ∧ C'.fo = [] ∧ C'.ls = ls) (n := 100) (by unfold FUEL; omega)
    ⟨0, C, by omega, by omega, by omega, rfl, t, hfo, hls⟩ ?_
  clear t hfo hls C H
  rintro k vs H ⟨i, C, hk, hi, hi2, rfl, t, hfo, hls⟩
  have ha := ha0.keep0 t.a.k
  have hal := ha.out.len
  by_cases h : i < acts.length
  case neg =>
    (try simp (maxSteps := 1000000) (disch := first | omega | (simp only [Z3]; omega) | (simp; done) | assumption | decide | (refine not_not_intro ?_; assumption)) only [Z1, Z2, splice, law19_PointsForce_l4, hal])
    exact hQ _ _ hfo hls t
  by_cases h100 : i < 100
  case neg =>
    (try simp (maxSteps := 1000000) (disch := first | omega | (simp only [Z3]; omega) | (simp; done) | assumption | decide | (refine not_not_intro ?_; assumption)) only [Z1, Z2, splice, law19_PointsForce_l4, hal])
    exact hQ _ _ hfo hls t
  have hin0 := ha0.at h
  have hax := t.a.act ha0 h
  have hay : ∀ b ∈ _root_.Go.AM.vb (acts.getD i default).vv.v, b ≠ y.va := fun b hb e => by
    have := hin0.lt b hb
    have := t.low y.va (by simp [BL.foot])
    omega
  obtain ⟨q1, q2⟩ := sl_get ha.out (n := 5) rfl h
  have c0 := ha.out.cell' (n := 5) rfl (off := 0) h (by omega) default
  rw [cellP_get] at c0
  simp only [Nat.add_zero] at c0
  have c2 : ∀ H', Keeps [] H0 H' → cellG (H'.get (slB av)) (slO av + i * 5 + 2) = some (i64 (acts.getD i default).point) := fun H' k => by
    have := (ha0.out.keep0 k).cell' (n := 5) rfl (off := 2) h (by omega) default
    rw [cellP_get] at this
    exact this
  have c0' : ∀ H', Keeps [] H0 H' → cellG (H'.get (slB av)) (slO av + i * 5) = some (i64 (acts.getD i default).kind) := fun H' k => by
    have := (ha0.out.keep0 k).cell' (n := 5) rfl (off := 0) h (by omega) default
    rw [cellP_get] at this
    exact this
  have q2' : ∀ H', Keeps [] H0 H' → ∀ {Q : V → Heap → Prop}, wp (ldn 5 (ptr (slB av) (slO av + i * 5))) Q H' ↔ Q (.agg (Flat.enc (acts.getD i default)).toArray) H' := fun H' k => (sl_get (ha0.out.keep0 k) (n := 5) rfl h).2
  have c0H := c0' H t.a.k
  generalize hac : acts.getD i default = a at *
  have hc := amg_range a.kind 7 (by omega) (by omega)
  have next : ∀ {H' : Heap} {C' : Bk}, Two H0 H' x (C'.wf [(at_, v)]) y C' → C'.fo = [] → C'.ls = ls → ∀ R : Out → Heap → Prop, (∀ vs' H', (∃ k', k' < k ∧ ∃ (i : Nat) (C' : Bk), k' = 100 - i ∧ i ≤ 100 ∧ i ≤ acts.length ∧ vs' = [av, pv, ptr x.p 0, ptr y.p 0, i64 at_, i64 v, i64 i] ∧ Two H0 H' x (C'.wf [(at_, v)]) y C' ∧ C'.fo = [] ∧ C'.ls = ls) → R (.nxt vs') H') →
      wp (law19_PointsForce_k2 GD G [av, pv, ptr x.p 0, ptr y.p 0, i64 at_, i64 v, i64 i]) R H' := fun t' f' l' R hR => by
    (try simp (maxSteps := 1000000) (disch := first | omega | (simp only [Z3]; omega) | (simp; done) | assumption | decide | (refine not_not_intro ?_; assumption)) only [Z1, Z2, splice, law19_PointsForce_k2])
    exact hR _ _ ⟨100 - (i + 1), by omega, i + 1, _, rfl, by omega, by omega, rfl, t', f', l'⟩
  by_cases hk4 : amg a.kind 7 > 4
  · (try simp (maxSteps := 1000000) (disch := first | omega | (simp only [Z3]; omega) | (simp; done) | assumption | decide | (refine not_not_intro ?_; assumption)) only [Z1, Z2, splice, law19_PointsForce_l4, hal, law19_PointsForce_k3, q1, c0H, law19_among_eq, decide_eq_true hk4])
    exact next t hfo hls _ (fun _ _ h => h)
  have hk4' : amg a.kind 7 ≤ 4 := by omega
  obtain ⟨d1, d2, d3, d4⟩ := do_wf (B := C) (f := [(at_, v)]) (a := a) hk4'
  have dfo : (doS C a).1.fo = [] := by rw [doS_fo hk4']; exact hfo
  have dls : (doS C a).1.ls = ls := by rw [doS_ls]; exact hls
  obtain ⟨r1, r2, r3⟩ := read_wf (B := C) hfo (at_ := at_) (v := v) (part := a.part) (point := a.point)
  have hagg : (Value.agg (Flat.enc a).toArray : V) = a.agg := rfl
  (try simp (maxSteps := 1000000) (disch := first | omega | (simp only [Z3]; omega) | (simp; done) | assumption | decide | (refine not_not_intro ?_; assumption)) only [Z1, cellP_get, cellG_cells, wp_st1g, stG_c, eq_self, true_and, wp_stng, stnG_ok, ldG_ok, wp_newcg, wp_boxg, Heap.get_push_eq, Heap.get_push_lt, Heap.get_set_eq, Heap.get_set_ne', Heap.next_push', Heap.next_set', Heap.set_push_lt, Heap.set_push_eq, Heap.set_set, fld1_agg, fldn_agg, ext_tuple, outV_nil, outV_two, outV_three, outV_four, chk_ld1g, chkO_int, chkO_bool, chkO_str, chkO_ptr, chkO_slc, chkO_map, List.set_cons_zero, List.set_cons_succ, List.length_cons, List.length_nil, List.drop_succ_cons, List.drop_zero, List.take_succ_cons, List.take_zero, List.nil_append, List.cons_append, splice, isOne_int, isOne_str, isOne_bool, isOne_slice, isOne_pointer, isOne_map, condM_nf, condM_nef, gd_nef, gdf_nef, pick_nef, build_eq, fillA_nil, fillA_one, fillA_agg, Option.map_some, resv_one, resv_two, freeIn_nil, fillA_slc, fillA_int, fillA_str, fillA_bool, fillA_ptr, fillA_map, law19_PointsForce_l4, hal, law19_PointsForce_k3, q1, c0H, law19_among_eq, decide_eq_false hk4, law19_PointsForce_k1, q2' H t.a.k])
  rw [hagg]
  refine do_ok t.a.b a (hin0.keep0 t.a.k) hax _ fun H2 b2 k2 => ?_
  rw [d1] at b2
  have t2 := t.turnA b2 k2
  (try simp (maxSteps := 1000000) (disch := first | omega | (simp only [Z3]; omega) | (simp; done) | assumption | decide | (refine not_not_intro ?_; assumption)) only [Z1, cellP_get, cellG_cells, wp_st1g, stG_c, eq_self, true_and, wp_stng, stnG_ok, ldG_ok, wp_newcg, wp_boxg, Heap.get_push_eq, Heap.get_push_lt, Heap.get_set_eq, Heap.get_set_ne', Heap.next_push', Heap.next_set', Heap.set_push_lt, Heap.set_push_eq, Heap.set_set, fld1_agg, fldn_agg, ext_tuple, outV_nil, outV_two, outV_three, outV_four, chk_ld1g, chkO_int, chkO_bool, chkO_str, chkO_ptr, chkO_slc, chkO_map, List.set_cons_zero, List.set_cons_succ, List.length_cons, List.length_nil, List.drop_succ_cons, List.drop_zero, List.take_succ_cons, List.take_zero, List.nil_append, List.cons_append, splice, isOne_int, isOne_str, isOne_bool, isOne_slice, isOne_pointer, isOne_map, condM_nf, condM_nef, gd_nef, gdf_nef, pick_nef, build_eq, fillA_nil, fillA_one, fillA_agg, Option.map_some, resv_one, resv_two, freeIn_nil, fillA_slc, fillA_int, fillA_str, fillA_bool, fillA_ptr, fillA_map, q2' H2 t2.a.k, q1])
  rw [hagg]
  refine do_ok t2.b a (hin0.keep0 t2.a.k) hay _ fun H3 b3 k3 => ?_
  have t3 := t2.turnB b3 k3
  have c2' := c2 H3 t3.a.k
  have c0'' := c0' H3 t3.a.k
  rw [d2]
  by_cases hpt : a.point = at_
  · -- the point itself
    by_cases hk1 : amg a.kind 7 = 1
    · obtain ⟨e1, e2⟩ := d4 hk1
      by_cases he : (doS C a).2.2 = 0
      · have hv : (doS (C.wf [(at_, v)]) a).2.1 = v := by
          rw [e2]; exact r3 hpt (by rw [← he, e1])
        (try simp (maxSteps := 1000000) (disch := first | omega | (simp only [Z3]; omega) | (simp; done) | assumption | decide | (refine not_not_intro ?_; assumption)) only [Z1, Z2, splice, q1, c2', c0'', decide_eq_true hpt, law19_PointsForce_k0, law19_among_eq, decide_eq_true hk1, decide_eq_true he, decide_eq_true hv])
        exact next t3 dfo dls _ (fun _ _ h => h)
      · (try simp (maxSteps := 1000000) (disch := first | omega | (simp only [Z3]; omega) | (simp; done) | assumption | decide | (refine not_not_intro ?_; assumption)) only [Z1, Z2, splice, q1, c2', c0'', decide_eq_true hpt, law19_PointsForce_k0, law19_among_eq, decide_eq_true hk1, decide_eq_false he])
        exact next t3 dfo dls _ (fun _ _ h => h)
    · (try simp (maxSteps := 1000000) (disch := first | omega | (simp only [Z3]; omega) | (simp; done) | assumption | decide | (refine not_not_intro ?_; assumption)) only [Z1, Z2, splice, q1, c2', c0'', decide_eq_true hpt, law19_PointsForce_k0, law19_among_eq, decide_eq_false hk1])
      exact next t3 dfo dls _ (fun _ _ h => h)
  · have hxy : (doS (C.wf [(at_, v)]) a).2.1 = (doS C a).2.1 := by
      by_cases hk1 : amg a.kind 7 = 1
      · obtain ⟨e1, e2⟩ := d4 hk1
        rw [e1, e2]; exact r2 hpt
      · exact d3 hk1
    by_cases hk1 : amg a.kind 7 = 1
    · (try simp (maxSteps := 1000000) (disch := first | omega | (simp only [Z3]; omega) | (simp; done) | assumption | decide | (refine not_not_intro ?_; assumption)) only [Z1, Z2, splice, q1, c2', c0'', decide_eq_false hpt, decide_eq_true hxy, law19_PointsForce_k0, law19_among_eq, decide_eq_true hk1])
      exact next t3 dfo dls _ (fun _ _ h => h)
    · (try simp (maxSteps := 1000000) (disch := first | omega | (simp only [Z3]; omega) | (simp; done) | assumption | decide | (refine not_not_intro ?_; assumption)) only [Z1, Z2, splice, q1, c2', c0'', decide_eq_false hpt, decide_eq_true hxy, law19_PointsForce_k0, law19_among_eq, decide_eq_false hk1])
      exact next t3 dfo dls _ (fun _ _ h => h)
end Go.AM.Cap
