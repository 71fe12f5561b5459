import Derived.Test.YtcmimkacafphkaaGreatDoorCoRe
import Derived.Test.YtcmimkacafphkaaGreatDoorAmOpenF
set_option linter.all false
/- code: the document's May on the machine -/
set_option maxHeartbeats 16000000
namespace Go.AM.Cap
open Go.AM Go.Proofs

theorem rmay_ok {H : Heap} {x : Im} (h : ImAt H x) (hl : x.types.xs.length ≤ 100000000) (hc : x.code.xs.length ≤ 100000000) (i : Ins) (Q : V → Heap → Prop) (hQ : ∀ H' b, Keeps [] H H' → (b = true ↔ MayP x.types.xs x.code.xs.length i) → Q (.bool b) H') : wp (A_ref13_May [.agg (Flat.enc x).toArray, .agg (Flat.enc i).toArray]) Q H := by
  show wp (F_ref13_May (.agg (Flat.enc x).toArray) (.agg (Flat.enc i).toArray)) Q H
  have hne : ∀ {p : Prop}, ¬ p → ((false = true) ↔ p) := fun q => ⟨Bool.noConfusion, fun e => (q e).elim⟩
  have hye : ∀ {p : Prop}, p → ((true = true) ↔ p) := fun q => ⟨fun _ => q, fun _ => rfl⟩
  have ek : ∀ a b : Bool, notIf false (eqK .b (.bool a) (.bool b)) = some (.bool (a == b)) := fun _ _ => rfl
  have ho := im_one x
  have ho2 := ins_one i
  have hlen := h.code.len
  unfold F_ref13_May
  (try simp (maxSteps := 1000000) (disch := first | omega | (simp only [Z3]; omega) | (simp; done) | assumption | decide | (refine not_not_intro ?_; assumption)) only [Z1, cellP_get, cellG_cells, wp_st1g, stG_c, eq_self, true_and, wp_stng, stnG_ok, wp_ldng, ldG_ok, wp_newcg, Heap.get_push_eq, Heap.get_push_lt, Heap.get_set_eq, Heap.get_set_ne', Heap.next_push', Heap.next_set', Heap.set_push_lt, Heap.set_push_eq, Heap.set_set, fld1_agg, fldn_agg, ext_tuple, outV_nil, outV_two, outV_three, outV_four, chk_ld1g, chkO_int, chkO_bool, chkO_str, chkO_ptr, chkO_slc, chkO_map, List.set_cons_zero, List.set_cons_succ, List.length_cons, List.length_nil, List.drop_succ_cons, List.drop_zero, List.take_succ_cons, List.take_zero, List.nil_append, List.cons_append, splice, isOne_int, isOne_str, isOne_bool, isOne_slice, isOne_pointer, isOne_map, condM_nf, condM_nef, gd_nef, gdf_nef, pick_nef, build_eq, fillA_nil, fillA_one, fillA_agg, Option.map_some, resv_one, resv_two, freeIn_nil, fillA_slc, fillA_int, fillA_str, fillA_bool, fillA_ptr, fillA_map])
  (try simp (maxSteps := 1000000) (disch := first | omega | (simp only [Z3]; omega) | (simp; done) | assumption | decide | (refine not_not_intro ?_; assumption)) only [Z1, Z2, splice, enc_im, enc_ins])
  rw [← enc_im, ← enc_ins]
  refine two_boxes fun H2 k2 g2 hlt => ?_
  obtain ⟨g2a, g2b⟩ := g2 _ (Keeps.refl _ _)
  rw [enc_im] at g2a
  rw [enc_ins] at g2b
  have hat := h.keep0 k2
  by_cases o1 : i.op = 1
  · by_cases b0 : i.b = 0
    · (try simp (maxSteps := 1000000) (disch := first | omega | (simp only [Z3]; omega) | (simp; done) | assumption | decide | (refine not_not_intro ?_; assumption)) only [Z1, Z2, splice, g2b, decide_eq_true o1, decide_eq_true b0, ref13_May_k4, ref04_Fits_eq])
      exact hQ _ _ k2 (by rw [may_1 o1]; simp [b0])
    · (try simp (maxSteps := 1000000) (disch := first | omega | (simp only [Z3]; omega) | (simp; done) | assumption | decide | (refine not_not_intro ?_; assumption)) only [Z1, Z2, splice, g2b, decide_eq_true o1, decide_eq_false b0, ref13_May_k4])
      exact hQ _ _ k2 (hne (by rw [may_1 o1]; exact fun q => b0 q.1))
  by_cases n0 : i.n = 0
  case neg =>
    (try simp (maxSteps := 1000000) (disch := first | omega | (simp only [Z3]; omega) | (simp; done) | assumption | decide | (refine not_not_intro ?_; assumption)) only [Z1, Z2, splice, g2b, decide_eq_false o1, decide_eq_false n0])
    refine hQ _ _ k2 (hne ?_)
    rintro ⟨k, hk, e, _, _, h3, _⟩
    have hk0 : k ≠ 0 := by omega
    have : (rulesT.getD k default).n = false := by
      rcases (show k = 1 ∨ k = 2 ∨ k = 3 ∨ k = 4 ∨ k = 5 ∨ k = 6 ∨ k = 7 ∨ k = 8 ∨ k = 9 ∨ k = 10 ∨ k = 11 by omega) with rfl | rfl | rfl | rfl | rfl | rfl | rfl | rfl | rfl | rfl | rfl <;> rfl
    rw [this] at h3
    rcases h3 with h3 | h3
    · cases h3
    · exact n0 h3
  by_cases o2 : i.op = 2 ∨ i.op = 3
  · have hm := may_23 (types := x.types.xs) (n := x.code.xs.length) o2
    have o2' : decide (i.op = 2) = true ∨ (decide (i.op = 2) = false ∧ decide (i.op = 3) = true) := by
      rcases o2 with q | q
      · exact .inl (decide_eq_true q)
      · exact .inr ⟨decide_eq_false (by omega), decide_eq_true q⟩
    by_cases b0 : i.b = 0
    · have fin : ∀ (H' : Heap) (b : Bool), Keeps [] H2 H' → (b = true ↔ SameP x.types.xs i.a 1) → Q (.bool b) H' := fun H' b k hb => hQ _ _ (k2.trans k (by simp)) (by rw [hm, hb]; simp [b0, n0])
      rcases o2' with q | ⟨q, q'⟩
      · (try simp (maxSteps := 1000000) (disch := first | omega | (simp only [Z3]; omega) | (simp; done) | assumption | decide | (refine not_not_intro ?_; assumption)) only [Z1, Z2, splice, g2a, g2b, decide_eq_false o1, decide_eq_true n0, q, decide_eq_true b0, ref13_May_k4, ref13_May_k2])
        rw [← enc_im]
        refine rsame_ok hat hl _ 1 (by omega) (by omega) _ fun H3 b k3 hb => ?_
        (try simp (maxSteps := 1000000) (disch := first | omega | (simp only [Z3]; omega) | (simp; done) | assumption | decide | (refine not_not_intro ?_; assumption)) only [Z1, Z2, splice])
        exact fin _ _ k3 hb
      · (try simp (maxSteps := 1000000) (disch := first | omega | (simp only [Z3]; omega) | (simp; done) | assumption | decide | (refine not_not_intro ?_; assumption)) only [Z1, Z2, splice, g2a, g2b, decide_eq_false o1, decide_eq_true n0, q, q', decide_eq_true b0, ref13_May_k4, ref13_May_k2])
        rw [← enc_im]
        refine rsame_ok hat hl _ 1 (by omega) (by omega) _ fun H3 b k3 hb => ?_
        (try simp (maxSteps := 1000000) (disch := first | omega | (simp only [Z3]; omega) | (simp; done) | assumption | decide | (refine not_not_intro ?_; assumption)) only [Z1, Z2, splice])
        exact fin _ _ k3 hb
    · have no := hQ _ _ k2 (hne (by rw [hm]; exact fun q => b0 q.1))
      rcases o2' with q | ⟨q, q'⟩
      · (try simp (maxSteps := 1000000) (disch := first | omega | (simp only [Z3]; omega) | (simp; done) | assumption | decide | (refine not_not_intro ?_; assumption)) only [Z1, Z2, splice, g2a, g2b, decide_eq_false o1, decide_eq_true n0, q, decide_eq_false b0, ref13_May_k4, ref13_May_k2])
        exact no
      · (try simp (maxSteps := 1000000) (disch := first | omega | (simp only [Z3]; omega) | (simp; done) | assumption | decide | (refine not_not_intro ?_; assumption)) only [Z1, Z2, splice, g2a, g2b, decide_eq_false o1, decide_eq_true n0, q, q', decide_eq_false b0, ref13_May_k4, ref13_May_k2])
        exact no
  have n2 : ¬ i.op = 2 := fun q => o2 (.inl q)
  have n3 : ¬ i.op = 3 := fun q => o2 (.inr q)
  by_cases o4 : i.op = 4 ∨ i.op = 5
  · have hm := may_45 (types := x.types.xs) (n := x.code.xs.length) o4
    have o4' : decide (i.op = 4) = true ∨ (decide (i.op = 4) = false ∧ decide (i.op = 5) = true) := by
      rcases o4 with q | q
      · exact .inl (decide_eq_true q)
      · exact .inr ⟨decide_eq_false (by omega), decide_eq_true q⟩
    by_cases b1 : i.b ≥ 1
    case neg =>
      have no := hQ _ _ k2 (hne (by rw [hm]; omega))
      rcases o4' with q | ⟨q, q'⟩
      · (try simp (maxSteps := 1000000) (disch := first | omega | (simp only [Z3]; omega) | (simp; done) | assumption | decide | (refine not_not_intro ?_; assumption)) only [Z1, Z2, splice, g2a, g2b, decide_eq_false o1, decide_eq_true n0, decide_eq_false n2, decide_eq_false n3, q, decide_eq_false b1, ref13_May_k4, ref13_May_k2, ref13_May_k1])
        exact no
      · (try simp (maxSteps := 1000000) (disch := first | omega | (simp only [Z3]; omega) | (simp; done) | assumption | decide | (refine not_not_intro ?_; assumption)) only [Z1, Z2, splice, g2a, g2b, decide_eq_false o1, decide_eq_true n0, decide_eq_false n2, decide_eq_false n3, q, q', decide_eq_false b1, ref13_May_k4, ref13_May_k2, ref13_May_k1])
        exact no
    by_cases b2 : i.b ≤ 32
    case neg =>
      have no := hQ _ _ k2 (hne (by rw [hm]; omega))
      rcases o4' with q | ⟨q, q'⟩
      · (try simp (maxSteps := 1000000) (disch := first | omega | (simp only [Z3]; omega) | (simp; done) | assumption | decide | (refine not_not_intro ?_; assumption)) only [Z1, Z2, splice, g2a, g2b, decide_eq_false o1, decide_eq_true n0, decide_eq_false n2, decide_eq_false n3, q, decide_eq_true b1, decide_eq_false b2, ref13_May_k4, ref13_May_k2, ref13_May_k1])
        exact no
      · (try simp (maxSteps := 1000000) (disch := first | omega | (simp only [Z3]; omega) | (simp; done) | assumption | decide | (refine not_not_intro ?_; assumption)) only [Z1, Z2, splice, g2a, g2b, decide_eq_false o1, decide_eq_true n0, decide_eq_false n2, decide_eq_false n3, q, q', decide_eq_true b1, decide_eq_false b2, ref13_May_k4, ref13_May_k2, ref13_May_k1])
        exact no
    have fin : ∀ (H' : Heap) (b : Bool), Keeps [] H2 H' → (b = true ↔ SameP x.types.xs i.a i.b) → Q (.bool b) H' := fun H' b k hb => hQ _ _ (k2.trans k (by simp)) (by rw [hm, hb]; simp only [n0, true_and]; exact ⟨fun q => ⟨b1, b2, q⟩, fun q => q.2.2⟩)
    rcases o4' with q | ⟨q, q'⟩
    · (try simp (maxSteps := 1000000) (disch := first | omega | (simp only [Z3]; omega) | (simp; done) | assumption | decide | (refine not_not_intro ?_; assumption)) only [Z1, Z2, splice, g2a, g2b, decide_eq_false o1, decide_eq_true n0, decide_eq_false n2, decide_eq_false n3, q, decide_eq_true b1, decide_eq_true b2, ref13_May_k4, ref13_May_k2, ref13_May_k1])
      rw [← enc_im]
      refine rsame_ok hat hl _ _ (by omega) (by omega) _ fun H3 b k3 hb => ?_
      (try simp (maxSteps := 1000000) (disch := first | omega | (simp only [Z3]; omega) | (simp; done) | assumption | decide | (refine not_not_intro ?_; assumption)) only [Z1, Z2, splice])
      exact fin _ _ k3 hb
    · (try simp (maxSteps := 1000000) (disch := first | omega | (simp only [Z3]; omega) | (simp; done) | assumption | decide | (refine not_not_intro ?_; assumption)) only [Z1, Z2, splice, g2a, g2b, decide_eq_false o1, decide_eq_true n0, decide_eq_false n2, decide_eq_false n3, q, q', decide_eq_true b1, decide_eq_true b2, ref13_May_k4, ref13_May_k2, ref13_May_k1])
      rw [← enc_im]
      refine rsame_ok hat hl _ _ (by omega) (by omega) _ fun H3 b k3 hb => ?_
      (try simp (maxSteps := 1000000) (disch := first | omega | (simp only [Z3]; omega) | (simp; done) | assumption | decide | (refine not_not_intro ?_; assumption)) only [Z1, Z2, splice])
      exact fin _ _ k3 hb
  have n4 : ¬ i.op = 4 := fun q => o4 (.inl q)
  have n5 : ¬ i.op = 5 := fun q => o4 (.inr q)
  by_cases o6 : i.op = 6
  · (try simp (maxSteps := 1000000) (disch := first | omega | (simp only [Z3]; omega) | (simp; done) | assumption | decide | (refine not_not_intro ?_; assumption)) only [Z1, Z2, splice, g2a, g2b, decide_eq_false o1, decide_eq_true n0, decide_eq_false n2, decide_eq_false n3, decide_eq_false n4, decide_eq_false n5, decide_eq_true o6, ref13_May_k4, ref13_May_k2, ref13_May_k1, rhas_eq])
    exact hQ _ _ k2 (by rw [may_6 o6]; simp [n0])
  by_cases o7 : i.op = 7
  · (try simp (maxSteps := 1000000) (disch := first | omega | (simp only [Z3]; omega) | (simp; done) | assumption | decide | (refine not_not_intro ?_; assumption)) only [Z1, Z2, splice, g2a, g2b, decide_eq_false o1, decide_eq_true n0, decide_eq_false n2, decide_eq_false n3, decide_eq_false n4, decide_eq_false n5, decide_eq_false o6, decide_eq_true o7, ref13_May_k4, ref13_May_k2, ref13_May_k1, rhas_eq])
    exact hQ _ _ k2 (by rw [may_7 o7]; simp [n0])
  by_cases o8 : i.op = 8
  · have hm := may_8 (types := x.types.xs) (n := x.code.xs.length) o8
    by_cases ta : 1 ≤ i.a ∧ i.a ≤ 4
    case neg =>
      (try simp (maxSteps := 1000000) (disch := first | omega | (simp only [Z3]; omega) | (simp; done) | assumption | decide | (refine not_not_intro ?_; assumption)) only [Z1, Z2, splice, g2a, g2b, decide_eq_false o1, decide_eq_true n0, decide_eq_false n2, decide_eq_false n3, decide_eq_false n4, decide_eq_false n5, decide_eq_false o6, decide_eq_false o7, decide_eq_true o8, ref13_May_k4, ref13_May_k2, ref13_May_k1, ref04_Type_eq, decide_eq_false ta])
      exact hQ _ _ k2 (hne (by rw [hm]; exact fun q => ta q.2.1))
    by_cases tb : 1 ≤ i.b ∧ i.b ≤ 4
    case neg =>
      (try simp (maxSteps := 1000000) (disch := first | omega | (simp only [Z3]; omega) | (simp; done) | assumption | decide | (refine not_not_intro ?_; assumption)) only [Z1, Z2, splice, g2a, g2b, decide_eq_false o1, decide_eq_true n0, decide_eq_false n2, decide_eq_false n3, decide_eq_false n4, decide_eq_false n5, decide_eq_false o6, decide_eq_false o7, decide_eq_true o8, ref13_May_k4, ref13_May_k2, ref13_May_k1, ref04_Type_eq, decide_eq_true ta, decide_eq_false tb])
      exact hQ _ _ k2 (hne (by rw [hm]; exact fun q => tb q.2.2.1))
    (try simp (maxSteps := 1000000) (disch := first | omega | (simp only [Z3]; omega) | (simp; done) | assumption | decide | (refine not_not_intro ?_; assumption)) only [Z1, Z2, splice, g2a, g2b, decide_eq_false o1, decide_eq_true n0, decide_eq_false n2, decide_eq_false n3, decide_eq_false n4, decide_eq_false n5, decide_eq_false o6, decide_eq_false o7, decide_eq_true o8, ref13_May_k4, ref13_May_k2, ref13_May_k1, ref04_Type_eq, decide_eq_true ta, decide_eq_true tb, ek])
    refine hQ _ _ k2 ?_
    rw [hm]
    simp only [n0, ta, tb, true_and, and_self, beq_iff_eq]
    by_cases q1 : i.a = 1 <;> by_cases q2 : i.b = 1 <;> simp [q1, q2]
  by_cases o9 : i.op = 9 ∨ i.op = 10
  · have hm := may_9 (types := x.types.xs) (n := x.code.xs.length) o9
    have o9' : decide (i.op = 9) = true ∨ (decide (i.op = 9) = false ∧ decide (i.op = 10) = true) := by
      rcases o9 with q | q
      · exact .inl (decide_eq_true q)
      · exact .inr ⟨decide_eq_false (by omega), decide_eq_true q⟩
    by_cases b0 : i.b = 0
    case neg =>
      have no := hQ _ _ k2 (hne (by rw [hm]; exact fun q => b0 q.1))
      rcases o9' with q | ⟨q, q'⟩
      · (try simp (maxSteps := 1000000) (disch := first | omega | (simp only [Z3]; omega) | (simp; done) | assumption | decide | (refine not_not_intro ?_; assumption)) only [Z1, Z2, splice, g2a, g2b, decide_eq_false o1, decide_eq_true n0, decide_eq_false n2, decide_eq_false n3, decide_eq_false n4, decide_eq_false n5, decide_eq_false o6, decide_eq_false o7, decide_eq_false o8, q, decide_eq_false b0, ref13_May_k4, ref13_May_k2, ref13_May_k1, ref13_May_k0])
        exact no
      · (try simp (maxSteps := 1000000) (disch := first | omega | (simp only [Z3]; omega) | (simp; done) | assumption | decide | (refine not_not_intro ?_; assumption)) only [Z1, Z2, splice, g2a, g2b, decide_eq_false o1, decide_eq_true n0, decide_eq_false n2, decide_eq_false n3, decide_eq_false n4, decide_eq_false n5, decide_eq_false o6, decide_eq_false o7, decide_eq_false o8, q, q', decide_eq_false b0, ref13_May_k4, ref13_May_k2, ref13_May_k1, ref13_May_k0])
        exact no
    by_cases a0 : i.a ≥ 0
    case neg =>
      have no := hQ _ _ k2 (hne (by rw [hm]; exact fun q => a0 q.2.2.1))
      rcases o9' with q | ⟨q, q'⟩
      · (try simp (maxSteps := 1000000) (disch := first | omega | (simp only [Z3]; omega) | (simp; done) | assumption | decide | (refine not_not_intro ?_; assumption)) only [Z1, Z2, splice, g2a, g2b, decide_eq_false o1, decide_eq_true n0, decide_eq_false n2, decide_eq_false n3, decide_eq_false n4, decide_eq_false n5, decide_eq_false o6, decide_eq_false o7, decide_eq_false o8, q, decide_eq_true b0, decide_eq_false a0, ref13_May_k4, ref13_May_k2, ref13_May_k1, ref13_May_k0])
        exact no
      · (try simp (maxSteps := 1000000) (disch := first | omega | (simp only [Z3]; omega) | (simp; done) | assumption | decide | (refine not_not_intro ?_; assumption)) only [Z1, Z2, splice, g2a, g2b, decide_eq_false o1, decide_eq_true n0, decide_eq_false n2, decide_eq_false n3, decide_eq_false n4, decide_eq_false n5, decide_eq_false o6, decide_eq_false o7, decide_eq_false o8, q, q', decide_eq_true b0, decide_eq_false a0, ref13_May_k4, ref13_May_k2, ref13_May_k1, ref13_May_k0])
        exact no
    have fin := hQ _ (decide (i.a < x.code.xs.length)) k2 (by rw [hm, decide_eq_true_eq]; exact ⟨fun q => ⟨b0, n0, a0, q⟩, fun q => q.2.2.2⟩)
    rcases o9' with q | ⟨q, q'⟩
    · (try simp (maxSteps := 1000000) (disch := first | omega | (simp only [Z3]; omega) | (simp; done) | assumption | decide | (refine not_not_intro ?_; assumption)) only [Z1, Z2, splice, g2a, g2b, decide_eq_false o1, decide_eq_true n0, decide_eq_false n2, decide_eq_false n3, decide_eq_false n4, decide_eq_false n5, decide_eq_false o6, decide_eq_false o7, decide_eq_false o8, q, decide_eq_true b0, decide_eq_true a0, ref13_May_k4, ref13_May_k2, ref13_May_k1, ref13_May_k0, hlen])
      exact fin
    · (try simp (maxSteps := 1000000) (disch := first | omega | (simp only [Z3]; omega) | (simp; done) | assumption | decide | (refine not_not_intro ?_; assumption)) only [Z1, Z2, splice, g2a, g2b, decide_eq_false o1, decide_eq_true n0, decide_eq_false n2, decide_eq_false n3, decide_eq_false n4, decide_eq_false n5, decide_eq_false o6, decide_eq_false o7, decide_eq_false o8, q, q', decide_eq_true b0, decide_eq_true a0, ref13_May_k4, ref13_May_k2, ref13_May_k1, ref13_May_k0, hlen])
      exact fin
  have n9 : ¬ i.op = 9 := fun q => o9 (.inl q)
  have n10 : ¬ i.op = 10 := fun q => o9 (.inr q)
  by_cases o11 : i.op = 11
  · (try simp (maxSteps := 1000000) (disch := first | omega | (simp only [Z3]; omega) | (simp; done) | assumption | decide | (refine not_not_intro ?_; assumption)) only [Z1, Z2, splice, g2a, g2b, decide_eq_false o1, decide_eq_true n0, decide_eq_false n2, decide_eq_false n3, decide_eq_false n4, decide_eq_false n5, decide_eq_false o6, decide_eq_false o7, decide_eq_false o8, decide_eq_false n9, decide_eq_false n10, decide_eq_true o11, ref13_May_k4, ref13_May_k2, ref13_May_k1, ref13_May_k0])
    rw [← enc_im]
    refine rblock_ok hat hl _ _ _ fun H3 b k3 hb => ?_
    (try simp (maxSteps := 1000000) (disch := first | omega | (simp only [Z3]; omega) | (simp; done) | assumption | decide | (refine not_not_intro ?_; assumption)) only [Z1, Z2, splice])
    exact hQ _ _ (k2.trans k3 (by simp)) (by rw [may_11 o11, hb]; simp [n0])
  by_cases o12 : i.op = 12
  · have hm := may_12 (types := x.types.xs) (n := x.code.xs.length) o12
    by_cases a0 : i.a = 0
    · (try simp (maxSteps := 1000000) (disch := first | omega | (simp only [Z3]; omega) | (simp; done) | assumption | decide | (refine not_not_intro ?_; assumption)) only [Z1, Z2, splice, g2a, g2b, decide_eq_false o1, decide_eq_true n0, decide_eq_false n2, decide_eq_false n3, decide_eq_false n4, decide_eq_false n5, decide_eq_false o6, decide_eq_false o7, decide_eq_false o8, decide_eq_false n9, decide_eq_false n10, decide_eq_false o11, decide_eq_true o12, decide_eq_true a0, ref13_May_k4, ref13_May_k2, ref13_May_k1, ref13_May_k0])
      exact hQ _ _ k2 (by rw [hm, decide_eq_true_eq]; exact ⟨fun q => ⟨n0, a0, q⟩, fun q => q.2.2⟩)
    · (try simp (maxSteps := 1000000) (disch := first | omega | (simp only [Z3]; omega) | (simp; done) | assumption | decide | (refine not_not_intro ?_; assumption)) only [Z1, Z2, splice, g2a, g2b, decide_eq_false o1, decide_eq_true n0, decide_eq_false n2, decide_eq_false n3, decide_eq_false n4, decide_eq_false n5, decide_eq_false o6, decide_eq_false o7, decide_eq_false o8, decide_eq_false n9, decide_eq_false n10, decide_eq_false o11, decide_eq_true o12, decide_eq_false a0, ref13_May_k4, ref13_May_k2, ref13_May_k1, ref13_May_k0])
      exact hQ _ _ k2 (hne (by rw [hm]; exact fun q => a0 q.2.1))
  (try simp (maxSteps := 1000000) (disch := first | omega | (simp only [Z3]; omega) | (simp; done) | assumption | decide | (refine not_not_intro ?_; assumption)) only [Z1, Z2, splice, g2a, g2b, decide_eq_false o1, decide_eq_true n0, decide_eq_false n2, decide_eq_false n3, decide_eq_false n4, decide_eq_false n5, decide_eq_false o6, decide_eq_false o7, decide_eq_false o8, decide_eq_false n9, decide_eq_false n10, decide_eq_false o11, decide_eq_false o12, ref13_May_k4, ref13_May_k2, ref13_May_k1, ref13_May_k0, ref13_May_k3])
  refine hQ _ _ k2 (hne ?_)
  rintro ⟨k, hk, e, _⟩
  omega
end Go.AM.Cap
