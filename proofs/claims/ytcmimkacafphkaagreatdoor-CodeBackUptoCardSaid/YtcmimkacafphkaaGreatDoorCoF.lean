import Derived.Test.YtcmimkacafphkaaGreatDoorCoE
import Derived.Test.YtcmimkacafphkaaGreatDoorAmOpenF
set_option linter.all false
/- code: rules; may -/
set_option maxHeartbeats 8000000
namespace Go.AM.Cap
open Go.AM Go.Proofs

structure Rule where
  a : Bool
  b : Bool
  n : Bool
  f : Nat
instance : Inhabited Rule := ⟨⟨false, false, false, 0⟩⟩
instance : Flat Rule := ⟨4, fun x => [.bool x.a, .bool x.b, .bool x.n, .func (.func x.f) #[] #[]], fun _ => rfl, fun _ => rfl, by decide⟩
theorem enc_rule (x : Rule) : Flat.enc x = [.bool x.a, .bool x.b, .bool x.n, .func (.func x.f) #[] #[]] := rfl
theorem rule_one (x : Rule) : ([.bool x.a, .bool x.b, .bool x.n, .func (.func x.f) #[] #[]] : List V).all Value.isOne = true := rfl
def rulesT : List Rule := [⟨true, false, true, fid_code_rules_4⟩, ⟨true, false, false, fid_code_rules_1⟩, ⟨true, false, false, fid_code_rules_1⟩, ⟨true, true, false, fid_code_rules_2⟩, ⟨true, true, false, fid_code_rules_2⟩, ⟨true, true, false, fid_code_rules_5⟩, ⟨true, true, false, fid_code_rules_6⟩, ⟨true, true, false, fid_code_rules_7⟩, ⟨true, false, false, fid_code_rules_3⟩, ⟨true, false, false, fid_code_rules_3⟩, ⟨true, true, false, fid_code_rules_8⟩, ⟨false, false, false, fid_code_rules_9⟩]
def ruleTbl : Calls' := ovr [(fid_code_rules_1, A_code_rules_1), (fid_code_rules_2, A_code_rules_2), (fid_code_rules_3, A_code_rules_3), (fid_code_rules_4, A_code_rules_4), (fid_code_rules_5, A_code_rules_5), (fid_code_rules_6, A_code_rules_6), (fid_code_rules_7, A_code_rules_7), (fid_code_rules_8, A_code_rules_8), (fid_code_rules_9, A_code_rules_9)] noC
theorem ins_one (i : Ins) : ([i64 i.op, i64 i.a, i64 i.b, i64 i.n] : List V).all Value.isOne = true := rfl
/-- what a rule asks -/
def AskP (types : List Int) (len : Nat) (f : Nat) (i : Ins) : Prop :=
  if f = fid_code_rules_1 then ∃ l, cellsS types i.a 1 = some l
  else if f = fid_code_rules_2 then 1 ≤ i.b ∧ i.b ≤ 32 ∧ ∃ l, cellsS types i.a i.b = some l ∧ ∀ t ∈ l, t = l.getD 0 0
  else if f = fid_code_rules_3 then 0 ≤ i.a ∧ i.a < len
  else if f = fid_code_rules_4 then fits i.a i.n
  else if f = fid_code_rules_5 then opS i.a i.b 2 = true
  else if f = fid_code_rules_6 then opS i.a i.b 1 = true
  else if f = fid_code_rules_7 then (1 ≤ i.a ∧ i.a ≤ 4) ∧ (1 ≤ i.b ∧ i.b ≤ 4) ∧ (i.a = 1 ↔ i.b = 1)
  else if f = fid_code_rules_8 then ∃ l, fieldsS i.a = some l ∧ cellsS types i.b l.length = some l
  else True
/-- the two arguments in blocks of their own -/
theorem two_boxes {H : Heap} {x : Im} {i : Ins} {P : Heap → Prop}
    (h : ∀ H2, Keeps [] H H2 → (∀ H3, Keeps [] H2 H3 → H3.get H.next = some (.cells true (Flat.enc x)) ∧ H3.get (H.next + 1) = some (.cells true (Flat.enc i))) → H.next + 1 < H2.next → P H2) : P ((H.push (some (.cells true (Flat.enc x)))).push (some (.cells true (Flat.enc i)))) := by
  have k1 : Keeps [] H (H.push (some (.cells true (Flat.enc x)))) := keeps_push (Keeps.refl _ _)
  have g1 : (H.push (some (.cells true (Flat.enc x)))).get H.next = some (.cells true (Flat.enc x)) := Heap.get_push_self _ _
  have k2 := Keeps.push [] (H.push (some (.cells true (Flat.enc x)))) (some (.cells true (Flat.enc i)))
  have g2 : ((H.push (some (.cells true (Flat.enc x)))).push (some (.cells true (Flat.enc i)))).get (H.next + 1) = some (.cells true (Flat.enc i)) := by
    have := Heap.get_push_self (H.push (some (.cells true (Flat.enc x)))) (some (.cells true (Flat.enc i)))
    rw [Heap.next_push'] at this
    exact this
  have g1' := k2.get g1 (by simp)
  refine h _ (k1.trans k2 (by simp)) (fun H3 k3 => ⟨k3.get g1' (by simp), k3.get g2 (by simp)⟩) (Heap.get_lt g2)
theorem ask1 {H : Heap} {x : Im} (h : ImAt H x) (hl : x.types.xs.length ≤ 1000000000) (hc : x.code.xs.length ≤ 1000000000) (i : Ins) (Q : V → Heap → Prop) (hQ : ∀ H' b, Keeps [] H H' → (b = true ↔ AskP x.types.xs x.code.xs.length fid_code_rules_1 i) → Q (.bool b) H') : wp (A_code_rules_1 [.agg (Flat.enc x).toArray, .agg (Flat.enc i).toArray]) Q H := by
  show wp (F_code_rules_1 (.agg (Flat.enc x).toArray) (.agg (Flat.enc i).toArray)) Q H
  have ho := im_one x
  have ho2 := ins_one i
  have hne : ∀ {p : Prop}, ¬ p → ((false = true) ↔ p) := fun q => ⟨Bool.noConfusion, fun e => (q e).elim⟩
  have hye : ∀ {p : Prop}, p → ((true = true) ↔ p) := fun q => ⟨fun _ => q, fun _ => rfl⟩
  unfold F_code_rules_1
  (try simp (maxSteps := 1000000) (disch := first | omega | (simp only [Z3]; omega) | (simp; done) | assumption | decide | (refine not_not_intro ?_; assumption)) only [Z1, cellP_get, cellG_cells, wp_st1g, stG_c, eq_self, true_and, wp_stng, stnG_ok, wp_ldng, ldG_ok, wp_newcg, Heap.get_push_eq, Heap.get_push_lt, Heap.get_set_eq, Heap.get_set_ne', Heap.next_push', Heap.next_set', Heap.set_push_lt, Heap.set_push_eq, Heap.set_set, fld1_agg, fldn_agg, ext_tuple, outV_nil, outV_two, outV_three, outV_four, chk_ld1g, chkO_int, chkO_bool, chkO_str, chkO_ptr, chkO_slc, chkO_map, List.set_cons_zero, List.set_cons_succ, List.length_cons, List.length_nil, List.drop_succ_cons, List.drop_zero, List.take_succ_cons, List.take_zero, List.nil_append, List.cons_append, splice, isOne_int, isOne_str, isOne_bool, isOne_slice, isOne_pointer, isOne_map, condM_nf, condM_nef, gd_nef, gdf_nef, pick_nef, build_eq, fillA_nil, fillA_one, fillA_agg, Option.map_some, resv_one, resv_two, freeIn_nil, fillA_slc, fillA_int, fillA_str, fillA_bool, fillA_ptr, fillA_map])
  (try simp (maxSteps := 1000000) (disch := first | omega | (simp only [Z3]; omega) | (simp; done) | assumption | decide | (refine not_not_intro ?_; assumption)) only [Z1, Z2, splice, enc_im, enc_ins])
  rw [← enc_im, ← enc_ins]
  refine two_boxes fun H2 k2 g2 hlt => ?_
  obtain ⟨g2a, g2b⟩ := g2 _ (Keeps.refl _ _)
  (try simp (maxSteps := 1000000) (disch := first | omega | (simp only [Z3]; omega) | (simp; done) | assumption | decide | (refine not_not_intro ?_; assumption)) only [Z1, Z2, splice, g2a, g2b, enc_im, enc_ins])
  rw [← enc_im]
  refine cells_ok (h.keep0 k2) hl _ _ (by omega) (by omega) _ (fun H3 k3 hn => ?_) (fun H3 v l k3 hs hv hnil => ?_)
  · (try simp (maxSteps := 1000000) (disch := first | omega | (simp only [Z3]; omega) | (simp; done) | assumption | decide | (refine not_not_intro ?_; assumption)) only [Z1, Z2, splice, show isNil .s (.slice none 0 0 : V) = some true from rfl, notIf, Bool.not_true])
    exact hQ _ _ (k2.trans k3 (by simp)) (hne (by unfold AskP; rw [if_pos rfl, hn]; simp))
  · (try simp (maxSteps := 1000000) (disch := first | omega | (simp only [Z3]; omega) | (simp; done) | assumption | decide | (refine not_not_intro ?_; assumption)) only [Z1, Z2, splice, hnil, notIf])
    exact hQ _ _ (k2.trans k3 (by simp)) (hye (by unfold AskP; rw [if_pos rfl]; exact ⟨l, hs⟩))
theorem cells_len {types : List Int} {a m : Int} {l : List Int} (h : cellsS types a m = some l) (hm : 0 ≤ m) : l.length = m.toNat ∧ l = (types.drop a.toNat).take m.toNat ∧ 0 ≤ a ∧ a < types.length ∧ m ≤ types.length - a := by
  unfold cellsS at h
  by_cases q : a < 0 ∨ a ≥ types.length ∨ m > types.length - a
  · rw [if_pos q] at h; cases h
  · rw [if_neg q] at h
    cases h
    refine ⟨?_, rfl, by omega, by omega, by omega⟩
    rw [List.length_take, List.length_drop]
    omega
theorem ask2 {H : Heap} {x : Im} (h : ImAt H x) (hl : x.types.xs.length ≤ 1000000000) (hc : x.code.xs.length ≤ 1000000000) (i : Ins) (Q : V → Heap → Prop) (hQ : ∀ H' b, Keeps [] H H' → (b = true ↔ AskP x.types.xs x.code.xs.length fid_code_rules_2 i) → Q (.bool b) H') : wp (A_code_rules_2 [.agg (Flat.enc x).toArray, .agg (Flat.enc i).toArray]) Q H := by
  show wp (F_code_rules_2 (.agg (Flat.enc x).toArray) (.agg (Flat.enc i).toArray)) Q H
  have ho := im_one x
  have ho2 := ins_one i
  have hne : ∀ {p : Prop}, ¬ p → ((false = true) ↔ p) := fun q => ⟨Bool.noConfusion, fun e => (q e).elim⟩
  have hye : ∀ {p : Prop}, p → ((true = true) ↔ p) := fun q => ⟨fun _ => q, fun _ => rfl⟩
  unfold F_code_rules_2
  (try simp (maxSteps := 1000000) (disch := first | omega | (simp only [Z3]; omega) | (simp; done) | assumption | decide | (refine not_not_intro ?_; assumption)) only [Z1, cellP_get, cellG_cells, wp_st1g, stG_c, eq_self, true_and, wp_stng, stnG_ok, wp_ldng, ldG_ok, wp_newcg, Heap.get_push_eq, Heap.get_push_lt, Heap.get_set_eq, Heap.get_set_ne', Heap.next_push', Heap.next_set', Heap.set_push_lt, Heap.set_push_eq, Heap.set_set, fld1_agg, fldn_agg, ext_tuple, outV_nil, outV_two, outV_three, outV_four, chk_ld1g, chkO_int, chkO_bool, chkO_str, chkO_ptr, chkO_slc, chkO_map, List.set_cons_zero, List.set_cons_succ, List.length_cons, List.length_nil, List.drop_succ_cons, List.drop_zero, List.take_succ_cons, List.take_zero, List.nil_append, List.cons_append, splice, isOne_int, isOne_str, isOne_bool, isOne_slice, isOne_pointer, isOne_map, condM_nf, condM_nef, gd_nef, gdf_nef, pick_nef, build_eq, fillA_nil, fillA_one, fillA_agg, Option.map_some, resv_one, resv_two, freeIn_nil, fillA_slc, fillA_int, fillA_str, fillA_bool, fillA_ptr, fillA_map])
  (try simp (maxSteps := 1000000) (disch := first | omega | (simp only [Z3]; omega) | (simp; done) | assumption | decide | (refine not_not_intro ?_; assumption)) only [Z1, Z2, splice, enc_im, enc_ins])
  rw [← enc_im, ← enc_ins]
  refine two_boxes fun H2 k2 g2 hlt => ?_
  obtain ⟨g2a, g2b⟩ := g2 _ (Keeps.refl _ _)
  rw [enc_im] at g2a
  rw [enc_ins] at g2b
  by_cases b1 : i.b < 1
  · (try simp (maxSteps := 1000000) (disch := first | omega | (simp only [Z3]; omega) | (simp; done) | assumption | decide | (refine not_not_intro ?_; assumption)) only [Z1, Z2, splice, g2b, decide_eq_true b1])
    exact hQ _ _ k2 (hne (by unfold AskP; rw [if_neg (by decide)]; rw [if_pos rfl]; omega))
  by_cases b2 : i.b > 32
  · (try simp (maxSteps := 1000000) (disch := first | omega | (simp only [Z3]; omega) | (simp; done) | assumption | decide | (refine not_not_intro ?_; assumption)) only [Z1, Z2, splice, g2b, decide_eq_false b1, decide_eq_true b2])
    exact hQ _ _ k2 (hne (by unfold AskP; rw [if_neg (by decide)]; rw [if_pos rfl]; omega))
  (try simp (maxSteps := 1000000) (disch := first | omega | (simp only [Z3]; omega) | (simp; done) | assumption | decide | (refine not_not_intro ?_; assumption)) only [Z1, Z2, splice, g2b, decide_eq_false b1, decide_eq_false b2, code_rules_2_k0, g2a])
  rw [← enc_im]
  refine cells_ok (h.keep0 k2) hl _ _ (by omega) (by omega) _ (fun H3 k3 hn => ?_) (fun H3 v l k3 hs hv hnil => ?_)
  · (try simp (maxSteps := 1000000) (disch := first | omega | (simp only [Z3]; omega) | (simp; done) | assumption | decide | (refine not_not_intro ?_; assumption)) only [Z1, Z2, splice, show isNil .s (.slice none 0 0 : V) = some true from rfl, notIf, Bool.not_true])
    have k23 := k2.trans k3 (by simp)
    exact hQ _ _ (by (repeat (first | exact Keeps.refl _ _ | assumption | apply keeps_push | refine keeps_set ?_ (by simp; omega)))) (hne (by unfold AskP; rw [if_neg (by decide)]; rw [if_pos rfl]; rw [hn]; simp))
  · obtain ⟨e1, e2, e3, e4, e5⟩ := cells_len hs (by omega)
    have hone := hv.isOne
    (try simp (maxSteps := 1000000) (disch := first | omega | (simp only [Z3]; omega) | (simp; done) | assumption | decide | (refine not_not_intro ?_; assumption)) only [Z1, Z2, splice, hnil, notIf, hone, Bool.not_false])
    have k4 : Keeps [] H3 (H3.push (some (.cells true [v]))) := keeps_push (Keeps.refl _ _)
    have g4 : (H3.push (some (.cells true [v]))).get H3.next = some (.cells true [v]) := Heap.get_push_self _ _
    generalize H3.push (some (.cells true [v])) = H4 at *
    have k24 : Keeps [] H H4 := (k2.trans k3 (by simp)).trans k4 (by simp)
    show wp (F_slices_ContainsFunc_S_int_int _ v (.func (.func fid_code_rules_2_1) #[] #[ptr H3.next 0])) _ H4
    unfold F_slices_ContainsFunc_S_int_int
    (try simp (maxSteps := 1000000) (disch := first | omega | (simp only [Z3]; omega) | (simp; done) | assumption | decide | (refine not_not_intro ?_; assumption)) only [Z1, Z2, splice])
    refine idxI_ok (hv.keep0 k4) (by omega) (fun t => decide (t ≠ l.getD 0 default)) (fun H5 t Q' k5 hq => ?_) _ fun H5 k5 => ?_
    · show wp (F_code_rules_2_1 (i64 t) (ptr H3.next 0)) Q' H5
      have g5 := k5.get g4 (by simp)
      have v5 := (hv.keep0 k4).keep0 k5
      have a1 := v5.addr1 rfl (k := .i64) (i := 0) (by omega) (by omega)
      have d1 := v5.cell1 rfl (i := 0) (by omega) default
      have hq' := hq _ (Keeps.refl _ _)
      rw [show (0 : Int).toNat = 0 from rfl, Nat.add_zero] at a1
      rw [Nat.add_zero] at d1
      (try simp (maxSteps := 1000000) (disch := first | omega | (simp only [Z3]; omega) | (simp; done) | assumption | decide | (refine not_not_intro ?_; assumption)) only [Z1, Z2, splice, F_code_rules_2_1, g5, a1, d1])
      exact hq'
    · have k25 := k24.trans k5 (by simp)
      cases hi : idxP (fun t => decide (t ≠ l.getD 0 default)) l with
      | none =>
        (try simp (maxSteps := 1000000) (disch := first | omega | (simp only [Z3]; omega) | (simp; done) | assumption | decide | (refine not_not_intro ?_; assumption)) only [Z1, Z2, splice, idxV])
        refine hQ _ _ k25 (hye ?_)
        unfold AskP; rw [if_neg (by decide)]; rw [if_pos rfl]
        refine ⟨by omega, by omega, l, hs, fun t ht => ?_⟩
        have := idxP_none.1 hi t ht
        simpa using this
      | some j =>
        (try simp (maxSteps := 1000000) (disch := first | omega | (simp only [Z3]; omega) | (simp; done) | assumption | decide | (refine not_not_intro ?_; assumption)) only [Z1, Z2, splice, idxV])
        refine hQ _ _ k25 (hne ?_)
        unfold AskP; rw [if_neg (by decide)]; rw [if_pos rfl]
        rintro ⟨_, _, l', hs', hall⟩
        rw [hs] at hs'
        cases hs'
        have := idxP_spec (d := default) hi
        have h2 := hall _ (getD_mem' (d := default) this.1)
        have h3 := of_decide_eq_true this.2.1
        exact h3 h2
theorem ask3 {H : Heap} {x : Im} (h : ImAt H x) (hl : x.types.xs.length ≤ 1000000000) (hc : x.code.xs.length ≤ 1000000000) (i : Ins) (Q : V → Heap → Prop) (hQ : ∀ H' b, Keeps [] H H' → (b = true ↔ AskP x.types.xs x.code.xs.length fid_code_rules_3 i) → Q (.bool b) H') : wp (A_code_rules_3 [.agg (Flat.enc x).toArray, .agg (Flat.enc i).toArray]) Q H := by
  show wp (F_code_rules_3 (.agg (Flat.enc x).toArray) (.agg (Flat.enc i).toArray)) Q H
  have ho := im_one x
  have ho2 := ins_one i
  have hne : ∀ {p : Prop}, ¬ p → ((false = true) ↔ p) := fun q => ⟨Bool.noConfusion, fun e => (q e).elim⟩
  have hye : ∀ {p : Prop}, p → ((true = true) ↔ p) := fun q => ⟨fun _ => q, fun _ => rfl⟩
  unfold F_code_rules_3
  (try simp (maxSteps := 1000000) (disch := first | omega | (simp only [Z3]; omega) | (simp; done) | assumption | decide | (refine not_not_intro ?_; assumption)) only [Z1, cellP_get, cellG_cells, wp_st1g, stG_c, eq_self, true_and, wp_stng, stnG_ok, wp_ldng, ldG_ok, wp_newcg, Heap.get_push_eq, Heap.get_push_lt, Heap.get_set_eq, Heap.get_set_ne', Heap.next_push', Heap.next_set', Heap.set_push_lt, Heap.set_push_eq, Heap.set_set, fld1_agg, fldn_agg, ext_tuple, outV_nil, outV_two, outV_three, outV_four, chk_ld1g, chkO_int, chkO_bool, chkO_str, chkO_ptr, chkO_slc, chkO_map, List.set_cons_zero, List.set_cons_succ, List.length_cons, List.length_nil, List.drop_succ_cons, List.drop_zero, List.take_succ_cons, List.take_zero, List.nil_append, List.cons_append, splice, isOne_int, isOne_str, isOne_bool, isOne_slice, isOne_pointer, isOne_map, condM_nf, condM_nef, gd_nef, gdf_nef, pick_nef, build_eq, fillA_nil, fillA_one, fillA_agg, Option.map_some, resv_one, resv_two, freeIn_nil, fillA_slc, fillA_int, fillA_str, fillA_bool, fillA_ptr, fillA_map])
  (try simp (maxSteps := 1000000) (disch := first | omega | (simp only [Z3]; omega) | (simp; done) | assumption | decide | (refine not_not_intro ?_; assumption)) only [Z1, Z2, splice, enc_im, enc_ins])
  rw [← enc_im, ← enc_ins]
  refine two_boxes fun H2 k2 g2 hlt => ?_
  obtain ⟨g2a, g2b⟩ := g2 _ (Keeps.refl _ _)
  rw [enc_im] at g2a
  rw [enc_ins] at g2b
  have hlen := h.code.len
  by_cases b1 : i.a ≥ 0
  case neg =>
    (try simp (maxSteps := 1000000) (disch := first | omega | (simp only [Z3]; omega) | (simp; done) | assumption | decide | (refine not_not_intro ?_; assumption)) only [Z1, Z2, splice, g2b, decide_eq_false b1])
    exact hQ _ _ k2 (hne (by unfold AskP; rw [if_neg (by decide)]; rw [if_neg (by decide)]; rw [if_pos rfl]; omega))
  by_cases b2 : i.a < x.code.xs.length
  · (try simp (maxSteps := 1000000) (disch := first | omega | (simp only [Z3]; omega) | (simp; done) | assumption | decide | (refine not_not_intro ?_; assumption)) only [Z1, Z2, splice, g2a, g2b, decide_eq_true b1, decide_eq_true b2, hlen])
    exact hQ _ _ k2 (hye (by unfold AskP; rw [if_neg (by decide)]; rw [if_neg (by decide)]; rw [if_pos rfl]; omega))
  · (try simp (maxSteps := 1000000) (disch := first | omega | (simp only [Z3]; omega) | (simp; done) | assumption | decide | (refine not_not_intro ?_; assumption)) only [Z1, Z2, splice, g2a, g2b, decide_eq_true b1, decide_eq_false b2, hlen])
    exact hQ _ _ k2 (hne (by unfold AskP; rw [if_neg (by decide)]; rw [if_neg (by decide)]; rw [if_pos rfl]; omega))
theorem ask4 {H : Heap} {x : Im} (h : ImAt H x) (hl : x.types.xs.length ≤ 1000000000) (hc : x.code.xs.length ≤ 1000000000) (i : Ins) (Q : V → Heap → Prop) (hQ : ∀ H' b, Keeps [] H H' → (b = true ↔ AskP x.types.xs x.code.xs.length fid_code_rules_4 i) → Q (.bool b) H') : wp (A_code_rules_4 [.agg (Flat.enc x).toArray, .agg (Flat.enc i).toArray]) Q H := by
  show wp (F_code_rules_4 (.agg (Flat.enc x).toArray) (.agg (Flat.enc i).toArray)) Q H
  have ho := im_one x
  have ho2 := ins_one i
  have hne : ∀ {p : Prop}, ¬ p → ((false = true) ↔ p) := fun q => ⟨Bool.noConfusion, fun e => (q e).elim⟩
  have hye : ∀ {p : Prop}, p → ((true = true) ↔ p) := fun q => ⟨fun _ => q, fun _ => rfl⟩
  unfold F_code_rules_4
  (try simp (maxSteps := 1000000) (disch := first | omega | (simp only [Z3]; omega) | (simp; done) | assumption | decide | (refine not_not_intro ?_; assumption)) only [Z1, cellP_get, cellG_cells, wp_st1g, stG_c, eq_self, true_and, wp_stng, stnG_ok, wp_ldng, ldG_ok, wp_newcg, Heap.get_push_eq, Heap.get_push_lt, Heap.get_set_eq, Heap.get_set_ne', Heap.next_push', Heap.next_set', Heap.set_push_lt, Heap.set_push_eq, Heap.set_set, fld1_agg, fldn_agg, ext_tuple, outV_nil, outV_two, outV_three, outV_four, chk_ld1g, chkO_int, chkO_bool, chkO_str, chkO_ptr, chkO_slc, chkO_map, List.set_cons_zero, List.set_cons_succ, List.length_cons, List.length_nil, List.drop_succ_cons, List.drop_zero, List.take_succ_cons, List.take_zero, List.nil_append, List.cons_append, splice, isOne_int, isOne_str, isOne_bool, isOne_slice, isOne_pointer, isOne_map, condM_nf, condM_nef, gd_nef, gdf_nef, pick_nef, build_eq, fillA_nil, fillA_one, fillA_agg, Option.map_some, resv_one, resv_two, freeIn_nil, fillA_slc, fillA_int, fillA_str, fillA_bool, fillA_ptr, fillA_map])
  (try simp (maxSteps := 1000000) (disch := first | omega | (simp only [Z3]; omega) | (simp; done) | assumption | decide | (refine not_not_intro ?_; assumption)) only [Z1, Z2, splice, enc_im, enc_ins])
  rw [← enc_im, ← enc_ins]
  refine two_boxes fun H2 k2 g2 hlt => ?_
  obtain ⟨g2a, g2b⟩ := g2 _ (Keeps.refl _ _)
  rw [enc_im] at g2a
  rw [enc_ins] at g2b
  (try simp (maxSteps := 1000000) (disch := first | omega | (simp only [Z3]; omega) | (simp; done) | assumption | decide | (refine not_not_intro ?_; assumption)) only [Z1, Z2, splice, g2a, g2b, num_Fits_eq])
  refine hQ _ _ k2 ?_
  unfold AskP; rw [if_neg (by decide)]; rw [if_neg (by decide)]; rw [if_neg (by decide)]; rw [if_pos rfl]
  simp
theorem ask5 {H : Heap} {x : Im} (h : ImAt H x) (hl : x.types.xs.length ≤ 1000000000) (hc : x.code.xs.length ≤ 1000000000) (i : Ins) (Q : V → Heap → Prop) (hQ : ∀ H' b, Keeps [] H H' → (b = true ↔ AskP x.types.xs x.code.xs.length fid_code_rules_5 i) → Q (.bool b) H') : wp (A_code_rules_5 [.agg (Flat.enc x).toArray, .agg (Flat.enc i).toArray]) Q H := by
  show wp (F_code_rules_5 (.agg (Flat.enc x).toArray) (.agg (Flat.enc i).toArray)) Q H
  have ho := im_one x
  have ho2 := ins_one i
  have hne : ∀ {p : Prop}, ¬ p → ((false = true) ↔ p) := fun q => ⟨Bool.noConfusion, fun e => (q e).elim⟩
  have hye : ∀ {p : Prop}, p → ((true = true) ↔ p) := fun q => ⟨fun _ => q, fun _ => rfl⟩
  unfold F_code_rules_5
  (try simp (maxSteps := 1000000) (disch := first | omega | (simp only [Z3]; omega) | (simp; done) | assumption | decide | (refine not_not_intro ?_; assumption)) only [Z1, cellP_get, cellG_cells, wp_st1g, stG_c, eq_self, true_and, wp_stng, stnG_ok, wp_ldng, ldG_ok, wp_newcg, Heap.get_push_eq, Heap.get_push_lt, Heap.get_set_eq, Heap.get_set_ne', Heap.next_push', Heap.next_set', Heap.set_push_lt, Heap.set_push_eq, Heap.set_set, fld1_agg, fldn_agg, ext_tuple, outV_nil, outV_two, outV_three, outV_four, chk_ld1g, chkO_int, chkO_bool, chkO_str, chkO_ptr, chkO_slc, chkO_map, List.set_cons_zero, List.set_cons_succ, List.length_cons, List.length_nil, List.drop_succ_cons, List.drop_zero, List.take_succ_cons, List.take_zero, List.nil_append, List.cons_append, splice, isOne_int, isOne_str, isOne_bool, isOne_slice, isOne_pointer, isOne_map, condM_nf, condM_nef, gd_nef, gdf_nef, pick_nef, build_eq, fillA_nil, fillA_one, fillA_agg, Option.map_some, resv_one, resv_two, freeIn_nil, fillA_slc, fillA_int, fillA_str, fillA_bool, fillA_ptr, fillA_map])
  (try simp (maxSteps := 1000000) (disch := first | omega | (simp only [Z3]; omega) | (simp; done) | assumption | decide | (refine not_not_intro ?_; assumption)) only [Z1, Z2, splice, enc_im, enc_ins])
  rw [← enc_im, ← enc_ins]
  refine two_boxes fun H2 k2 g2 hlt => ?_
  obtain ⟨g2a, g2b⟩ := g2 _ (Keeps.refl _ _)
  rw [enc_im] at g2a
  rw [enc_ins] at g2b
  (try simp (maxSteps := 1000000) (disch := first | omega | (simp only [Z3]; omega) | (simp; done) | assumption | decide | (refine not_not_intro ?_; assumption)) only [Z1, Z2, splice, g2a, g2b])
  refine two_ok _ _ _ fun H3 r e k3 he => ?_
  (try simp (maxSteps := 1000000) (disch := first | omega | (simp only [Z3]; omega) | (simp; done) | assumption | decide | (refine not_not_intro ?_; assumption)) only [Z1, Z2, splice])
  refine hQ _ _ (k2.trans k3 (by simp)) ?_
  unfold AskP; rw [if_neg (by decide)]; rw [if_neg (by decide)]; rw [if_neg (by decide)]; rw [if_neg (by decide)]; rw [if_pos rfl]
  rw [← he]
  simp
theorem ask6 {H : Heap} {x : Im} (h : ImAt H x) (hl : x.types.xs.length ≤ 1000000000) (hc : x.code.xs.length ≤ 1000000000) (i : Ins) (Q : V → Heap → Prop) (hQ : ∀ H' b, Keeps [] H H' → (b = true ↔ AskP x.types.xs x.code.xs.length fid_code_rules_6 i) → Q (.bool b) H') : wp (A_code_rules_6 [.agg (Flat.enc x).toArray, .agg (Flat.enc i).toArray]) Q H := by
  show wp (F_code_rules_6 (.agg (Flat.enc x).toArray) (.agg (Flat.enc i).toArray)) Q H
  have ho := im_one x
  have ho2 := ins_one i
  have hne : ∀ {p : Prop}, ¬ p → ((false = true) ↔ p) := fun q => ⟨Bool.noConfusion, fun e => (q e).elim⟩
  have hye : ∀ {p : Prop}, p → ((true = true) ↔ p) := fun q => ⟨fun _ => q, fun _ => rfl⟩
  unfold F_code_rules_6
  (try simp (maxSteps := 1000000) (disch := first | omega | (simp only [Z3]; omega) | (simp; done) | assumption | decide | (refine not_not_intro ?_; assumption)) only [Z1, cellP_get, cellG_cells, wp_st1g, stG_c, eq_self, true_and, wp_stng, stnG_ok, wp_ldng, ldG_ok, wp_newcg, Heap.get_push_eq, Heap.get_push_lt, Heap.get_set_eq, Heap.get_set_ne', Heap.next_push', Heap.next_set', Heap.set_push_lt, Heap.set_push_eq, Heap.set_set, fld1_agg, fldn_agg, ext_tuple, outV_nil, outV_two, outV_three, outV_four, chk_ld1g, chkO_int, chkO_bool, chkO_str, chkO_ptr, chkO_slc, chkO_map, List.set_cons_zero, List.set_cons_succ, List.length_cons, List.length_nil, List.drop_succ_cons, List.drop_zero, List.take_succ_cons, List.take_zero, List.nil_append, List.cons_append, splice, isOne_int, isOne_str, isOne_bool, isOne_slice, isOne_pointer, isOne_map, condM_nf, condM_nef, gd_nef, gdf_nef, pick_nef, build_eq, fillA_nil, fillA_one, fillA_agg, Option.map_some, resv_one, resv_two, freeIn_nil, fillA_slc, fillA_int, fillA_str, fillA_bool, fillA_ptr, fillA_map])
  (try simp (maxSteps := 1000000) (disch := first | omega | (simp only [Z3]; omega) | (simp; done) | assumption | decide | (refine not_not_intro ?_; assumption)) only [Z1, Z2, splice, enc_im, enc_ins])
  rw [← enc_im, ← enc_ins]
  refine two_boxes fun H2 k2 g2 hlt => ?_
  obtain ⟨g2a, g2b⟩ := g2 _ (Keeps.refl _ _)
  rw [enc_im] at g2a
  rw [enc_ins] at g2b
  (try simp (maxSteps := 1000000) (disch := first | omega | (simp only [Z3]; omega) | (simp; done) | assumption | decide | (refine not_not_intro ?_; assumption)) only [Z1, Z2, splice, g2a, g2b])
  refine one_ok' _ _ _ fun H3 r e k3 he => ?_
  (try simp (maxSteps := 1000000) (disch := first | omega | (simp only [Z3]; omega) | (simp; done) | assumption | decide | (refine not_not_intro ?_; assumption)) only [Z1, Z2, splice])
  refine hQ _ _ (k2.trans k3 (by simp)) ?_
  unfold AskP; rw [if_neg (by decide)]; rw [if_neg (by decide)]; rw [if_neg (by decide)]; rw [if_neg (by decide)]; rw [if_neg (by decide)]; rw [if_pos rfl]
  rw [← he]
  simp
theorem ask7 {H : Heap} {x : Im} (h : ImAt H x) (hl : x.types.xs.length ≤ 1000000000) (hc : x.code.xs.length ≤ 1000000000) (i : Ins) (Q : V → Heap → Prop) (hQ : ∀ H' b, Keeps [] H H' → (b = true ↔ AskP x.types.xs x.code.xs.length fid_code_rules_7 i) → Q (.bool b) H') : wp (A_code_rules_7 [.agg (Flat.enc x).toArray, .agg (Flat.enc i).toArray]) Q H := by
  show wp (F_code_rules_7 (.agg (Flat.enc x).toArray) (.agg (Flat.enc i).toArray)) Q H
  have ho := im_one x
  have ho2 := ins_one i
  have hne : ∀ {p : Prop}, ¬ p → ((false = true) ↔ p) := fun q => ⟨Bool.noConfusion, fun e => (q e).elim⟩
  have hye : ∀ {p : Prop}, p → ((true = true) ↔ p) := fun q => ⟨fun _ => q, fun _ => rfl⟩
  unfold F_code_rules_7
  (try simp (maxSteps := 1000000) (disch := first | omega | (simp only [Z3]; omega) | (simp; done) | assumption | decide | (refine not_not_intro ?_; assumption)) only [Z1, cellP_get, cellG_cells, wp_st1g, stG_c, eq_self, true_and, wp_stng, stnG_ok, wp_ldng, ldG_ok, wp_newcg, Heap.get_push_eq, Heap.get_push_lt, Heap.get_set_eq, Heap.get_set_ne', Heap.next_push', Heap.next_set', Heap.set_push_lt, Heap.set_push_eq, Heap.set_set, fld1_agg, fldn_agg, ext_tuple, outV_nil, outV_two, outV_three, outV_four, chk_ld1g, chkO_int, chkO_bool, chkO_str, chkO_ptr, chkO_slc, chkO_map, List.set_cons_zero, List.set_cons_succ, List.length_cons, List.length_nil, List.drop_succ_cons, List.drop_zero, List.take_succ_cons, List.take_zero, List.nil_append, List.cons_append, splice, isOne_int, isOne_str, isOne_bool, isOne_slice, isOne_pointer, isOne_map, condM_nf, condM_nef, gd_nef, gdf_nef, pick_nef, build_eq, fillA_nil, fillA_one, fillA_agg, Option.map_some, resv_one, resv_two, freeIn_nil, fillA_slc, fillA_int, fillA_str, fillA_bool, fillA_ptr, fillA_map])
  (try simp (maxSteps := 1000000) (disch := first | omega | (simp only [Z3]; omega) | (simp; done) | assumption | decide | (refine not_not_intro ?_; assumption)) only [Z1, Z2, splice, enc_im, enc_ins])
  rw [← enc_im, ← enc_ins]
  refine two_boxes fun H2 k2 g2 hlt => ?_
  obtain ⟨g2a, g2b⟩ := g2 _ (Keeps.refl _ _)
  rw [enc_im] at g2a
  rw [enc_ins] at g2b
  (try simp (maxSteps := 1000000) (disch := first | omega | (simp only [Z3]; omega) | (simp; done) | assumption | decide | (refine not_not_intro ?_; assumption)) only [Z1, Z2, splice, g2a, g2b])
  refine convert_ok _ _ _ fun r e he => ?_
  (try simp (maxSteps := 1000000) (disch := first | omega | (simp only [Z3]; omega) | (simp; done) | assumption | decide | (refine not_not_intro ?_; assumption)) only [Z1, Z2, splice])
  refine hQ _ _ k2 ?_
  unfold AskP; rw [if_neg (by decide)]; rw [if_neg (by decide)]; rw [if_neg (by decide)]; rw [if_neg (by decide)]; rw [if_neg (by decide)]; rw [if_neg (by decide)]; rw [if_pos rfl]
  rw [← he]
  simp
theorem fields_len {k : Int} {l : List Int} (h : fieldsS k = some l) : l.length ≤ 6 := by
  unfold fieldsS at h
  repeat' split at h
  all_goals first | (cases h; decide) | cases h
theorem fields_pos {k : Int} {l : List Int} (h : fieldsS k = some l) : 1 ≤ l.length := by
  unfold fieldsS at h
  repeat' split at h
  all_goals first | (cases h; decide) | cases h
theorem ask8 {H : Heap} {x : Im} (h : ImAt H x) (hl : x.types.xs.length ≤ 1000000000) (hc : x.code.xs.length ≤ 1000000000) (i : Ins) (Q : V → Heap → Prop) (hQ : ∀ H' b, Keeps [] H H' → (b = true ↔ AskP x.types.xs x.code.xs.length fid_code_rules_8 i) → Q (.bool b) H') : wp (A_code_rules_8 [.agg (Flat.enc x).toArray, .agg (Flat.enc i).toArray]) Q H := by
  show wp (F_code_rules_8 (.agg (Flat.enc x).toArray) (.agg (Flat.enc i).toArray)) Q H
  have ho := im_one x
  have ho2 := ins_one i
  have hne : ∀ {p : Prop}, ¬ p → ((false = true) ↔ p) := fun q => ⟨Bool.noConfusion, fun e => (q e).elim⟩
  have hye : ∀ {p : Prop}, p → ((true = true) ↔ p) := fun q => ⟨fun _ => q, fun _ => rfl⟩
  unfold F_code_rules_8
  (try simp (maxSteps := 1000000) (disch := first | omega | (simp only [Z3]; omega) | (simp; done) | assumption | decide | (refine not_not_intro ?_; assumption)) only [Z1, cellP_get, cellG_cells, wp_st1g, stG_c, eq_self, true_and, wp_stng, stnG_ok, wp_ldng, ldG_ok, wp_newcg, Heap.get_push_eq, Heap.get_push_lt, Heap.get_set_eq, Heap.get_set_ne', Heap.next_push', Heap.next_set', Heap.set_push_lt, Heap.set_push_eq, Heap.set_set, fld1_agg, fldn_agg, ext_tuple, outV_nil, outV_two, outV_three, outV_four, chk_ld1g, chkO_int, chkO_bool, chkO_str, chkO_ptr, chkO_slc, chkO_map, List.set_cons_zero, List.set_cons_succ, List.length_cons, List.length_nil, List.drop_succ_cons, List.drop_zero, List.take_succ_cons, List.take_zero, List.nil_append, List.cons_append, splice, isOne_int, isOne_str, isOne_bool, isOne_slice, isOne_pointer, isOne_map, condM_nf, condM_nef, gd_nef, gdf_nef, pick_nef, build_eq, fillA_nil, fillA_one, fillA_agg, Option.map_some, resv_one, resv_two, freeIn_nil, fillA_slc, fillA_int, fillA_str, fillA_bool, fillA_ptr, fillA_map])
  (try simp (maxSteps := 1000000) (disch := first | omega | (simp only [Z3]; omega) | (simp; done) | assumption | decide | (refine not_not_intro ?_; assumption)) only [Z1, Z2, splice, enc_im, enc_ins])
  rw [← enc_im, ← enc_ins]
  refine two_boxes fun H2 k2 g2 hlt => ?_
  obtain ⟨g2a, g2b⟩ := g2 _ (Keeps.refl _ _)
  rw [enc_im] at g2a
  rw [enc_ins] at g2b
  (try simp (maxSteps := 1000000) (disch := first | omega | (simp only [Z3]; omega) | (simp; done) | assumption | decide | (refine not_not_intro ?_; assumption)) only [Z1, Z2, splice, g2a, g2b])
  refine fields_ok _ _ (fun H3 k3 hn => ?_) (fun H3 v fs k3 hs hv => ?_)
  · have g3a := k3.get g2a (by simp)
    have g3b := k3.get g2b (by simp)
    (try simp (maxSteps := 1000000) (disch := first | omega | (simp only [Z3]; omega) | (simp; done) | assumption | decide | (refine not_not_intro ?_; assumption)) only [Z1, Z2, splice, g3a, g3b])
    rw [← enc_im]
    refine cells_ok ((h.keep0 k2).keep0 k3) hl _ _ (by omega) (by omega) _ (fun H4 k4 _ => ?_) (fun H4 w l k4 _ _ _ => ?_)
    all_goals
      (try simp (maxSteps := 1000000) (disch := first | omega | (simp only [Z3]; omega) | (simp; done) | assumption | decide | (refine not_not_intro ?_; assumption)) only [Z1, Z2, splice])
      refine hQ _ _ ((k2.trans k3 (by simp)).trans k4 (by simp)) (hne ?_)
      unfold AskP; rw [if_neg (by decide)]; rw [if_neg (by decide)]; rw [if_neg (by decide)]; rw [if_neg (by decide)]; rw [if_neg (by decide)]; rw [if_neg (by decide)]; rw [if_neg (by decide)]; rw [if_pos rfl]
      rw [hn]
      simp
  · have g3a := k3.get g2a (by simp)
    have g3b := k3.get g2b (by simp)
    have hlen := hv.len
    have hfl : fs.length ≤ 6 := by
      have := fields_len hs
      rwa [List.length_map] at this
    (try simp (maxSteps := 1000000) (disch := first | omega | (simp only [Z3]; omega) | (simp; done) | assumption | decide | (refine not_not_intro ?_; assumption)) only [Z1, Z2, splice, g3a, g3b, hlen])
    rw [← enc_im]
    refine cells_ok ((h.keep0 k2).keep0 k3) hl _ _ (by omega) (by omega) _ (fun H4 k4 hn => ?_) (fun H4 w l k4 hs2 hw _ => ?_)
    · (try simp (maxSteps := 1000000) (disch := first | omega | (simp only [Z3]; omega) | (simp; done) | assumption | decide | (refine not_not_intro ?_; assumption)) only [Z1, Z2, splice])
      have hv4 := hv.keep0 k4
      refine eqF_ok (l := []) (Sl.nil H4) hv4 (by simp) (by omega) _ fun H5 k5 => ?_
      have hfp := fields_pos hs
      rw [List.length_map] at hfp
      have : ¬ ([] : List Int) = fs.map Fd.type := fun q => by have := congrArg List.length q; simp at this; omega
      rw [decide_eq_false this]
      (try simp (maxSteps := 1000000) (disch := first | omega | (simp only [Z3]; omega) | (simp; done) | assumption | decide | (refine not_not_intro ?_; assumption)) only [Z1, Z2, splice])
      refine hQ _ _ (((k2.trans k3 (by simp)).trans k4 (by simp)).trans k5 (by simp)) (hne ?_)
      unfold AskP; rw [if_neg (by decide)]; rw [if_neg (by decide)]; rw [if_neg (by decide)]; rw [if_neg (by decide)]; rw [if_neg (by decide)]; rw [if_neg (by decide)]; rw [if_neg (by decide)]; rw [if_pos rfl]
      rw [hs]
      rintro ⟨l, e, e2⟩
      cases e
      rw [List.length_map] at e2
      rw [hn] at e2
      cases e2
    · obtain ⟨e1, e2, e3, e4, e5⟩ := cells_len hs2 (by omega)
      (try simp (maxSteps := 1000000) (disch := first | omega | (simp only [Z3]; omega) | (simp; done) | assumption | decide | (refine not_not_intro ?_; assumption)) only [Z1, Z2, splice])
      refine eqF_ok hw (hv.keep0 k4) (by omega) (by omega) _ fun H5 k5 => ?_
      (try simp (maxSteps := 1000000) (disch := first | omega | (simp only [Z3]; omega) | (simp; done) | assumption | decide | (refine not_not_intro ?_; assumption)) only [Z1, Z2, splice])
      refine hQ _ _ (((k2.trans k3 (by simp)).trans k4 (by simp)).trans k5 (by simp)) ?_
      unfold AskP; rw [if_neg (by decide)]; rw [if_neg (by decide)]; rw [if_neg (by decide)]; rw [if_neg (by decide)]; rw [if_neg (by decide)]; rw [if_neg (by decide)]; rw [if_neg (by decide)]; rw [if_pos rfl]
      rw [hs]
      simp only [decide_eq_true_eq, Option.some.injEq, exists_eq_left', List.length_map, hs2]
theorem ask9 {H : Heap} {x : Im} (h : ImAt H x) (hl : x.types.xs.length ≤ 1000000000) (hc : x.code.xs.length ≤ 1000000000) (i : Ins) (Q : V → Heap → Prop) (hQ : ∀ H' b, Keeps [] H H' → (b = true ↔ AskP x.types.xs x.code.xs.length fid_code_rules_9 i) → Q (.bool b) H') : wp (A_code_rules_9 [.agg (Flat.enc x).toArray, .agg (Flat.enc i).toArray]) Q H := by
  show wp (F_code_rules_9 (.agg (Flat.enc x).toArray) (.agg (Flat.enc i).toArray)) Q H
  have ho := im_one x
  have ho2 := ins_one i
  have hne : ∀ {p : Prop}, ¬ p → ((false = true) ↔ p) := fun q => ⟨Bool.noConfusion, fun e => (q e).elim⟩
  have hye : ∀ {p : Prop}, p → ((true = true) ↔ p) := fun q => ⟨fun _ => q, fun _ => rfl⟩
  unfold F_code_rules_9
  (try simp (maxSteps := 1000000) (disch := first | omega | (simp only [Z3]; omega) | (simp; done) | assumption | decide | (refine not_not_intro ?_; assumption)) only [Z1, cellP_get, cellG_cells, wp_st1g, stG_c, eq_self, true_and, wp_stng, stnG_ok, wp_ldng, ldG_ok, wp_newcg, Heap.get_push_eq, Heap.get_push_lt, Heap.get_set_eq, Heap.get_set_ne', Heap.next_push', Heap.next_set', Heap.set_push_lt, Heap.set_push_eq, Heap.set_set, fld1_agg, fldn_agg, ext_tuple, outV_nil, outV_two, outV_three, outV_four, chk_ld1g, chkO_int, chkO_bool, chkO_str, chkO_ptr, chkO_slc, chkO_map, List.set_cons_zero, List.set_cons_succ, List.length_cons, List.length_nil, List.drop_succ_cons, List.drop_zero, List.take_succ_cons, List.take_zero, List.nil_append, List.cons_append, splice, isOne_int, isOne_str, isOne_bool, isOne_slice, isOne_pointer, isOne_map, condM_nf, condM_nef, gd_nef, gdf_nef, pick_nef, build_eq, fillA_nil, fillA_one, fillA_agg, Option.map_some, resv_one, resv_two, freeIn_nil, fillA_slc, fillA_int, fillA_str, fillA_bool, fillA_ptr, fillA_map])
  (try simp (maxSteps := 1000000) (disch := first | omega | (simp only [Z3]; omega) | (simp; done) | assumption | decide | (refine not_not_intro ?_; assumption)) only [Z1, Z2, splice, enc_im, enc_ins])
  rw [← enc_im, ← enc_ins]
  refine two_boxes fun H2 k2 g2 hlt => ?_
  obtain ⟨g2a, g2b⟩ := g2 _ (Keeps.refl _ _)
  rw [enc_im] at g2a
  rw [enc_ins] at g2b
  (try simp (maxSteps := 1000000) (disch := first | omega | (simp only [Z3]; omega) | (simp; done) | assumption | decide | (refine not_not_intro ?_; assumption)) only [Z1, Z2, splice])
  exact hQ _ _ k2 (hye (by unfold AskP; rw [if_neg (by decide)]; rw [if_neg (by decide)]; rw [if_neg (by decide)]; rw [if_neg (by decide)]; rw [if_neg (by decide)]; rw [if_neg (by decide)]; rw [if_neg (by decide)]; rw [if_neg (by decide)]; trivial))
end Go.AM.Cap
