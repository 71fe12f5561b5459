import Derived.Test.YtcmimkacafphkaaGreatDoorCoF
import Derived.Test.YtcmimkacafphkaaGreatDoorAmOpenF
set_option linter.all false
/- code: may; which instruction may not be -/
set_option maxHeartbeats 16000000
namespace Go.AM.Cap
open Go.AM Go.Proofs

theorem ask_all {H : Heap} {x : Im} (h : ImAt H x) (hl : x.types.xs.length ≤ 1000000000) (hc : x.code.xs.length ≤ 1000000000) (i : Ins) (r : Rule) (hr : r ∈ rulesT) (Q : V → Heap → Prop) (hQ : ∀ H' b, Keeps [] H H' → (b = true ↔ AskP x.types.xs x.code.xs.length r.f i) → Q (.bool b) H') : wp (callM ruleTbl (.func (.func r.f) #[] #[]) [.agg (Flat.enc x).toArray, .agg (Flat.enc i).toArray]) Q H := by
  simp only [rulesT, List.mem_cons, List.not_mem_nil, or_false] at hr
  rcases hr with rfl | rfl | rfl | rfl | rfl | rfl | rfl | rfl | rfl | rfl | rfl | rfl
  · exact ask4 h hl hc i Q hQ
  · exact ask1 h hl hc i Q hQ
  · exact ask1 h hl hc i Q hQ
  · exact ask2 h hl hc i Q hQ
  · exact ask2 h hl hc i Q hQ
  · exact ask5 h hl hc i Q hQ
  · exact ask6 h hl hc i Q hQ
  · exact ask7 h hl hc i Q hQ
  · exact ask3 h hl hc i Q hQ
  · exact ask3 h hl hc i Q hQ
  · exact ask8 h hl hc i Q hQ
  · exact ask9 h hl hc i Q hQ
/-- may an instruction be? -/
def MayP (types : List Int) (len : Nat) (i : Ins) : Prop := ∃ k : Nat, k < 12 ∧ i.op = (k : Int) + 1 ∧ ((rulesT.getD k default).a = true ∨ i.a = 0) ∧ ((rulesT.getD k default).b = true ∨ i.b = 0) ∧ ((rulesT.getD k default).n = true ∨ i.n = 0) ∧ AskP types len (rulesT.getD k default).f i
open Classical in
noncomputable def mayB (types : List Int) (len : Nat) (i : Ins) : Bool := decide (MayP types len i)
theorem mayB_iff {types : List Int} {len : Nat} {i : Ins} : mayB types len i = true ↔ MayP types len i := by unfold mayB; simp
theorem rules_ok {H : Heap} (Q : V → Heap → Prop) (hQ : ∀ H' v, Keeps [] H H' → Sl H' v rulesT → Q v H') : wp (A_code_rules []) Q H := by
  show wp F_code_rules Q H
  unfold F_code_rules
  (try simp (maxSteps := 1000000) (disch := first | omega | (simp only [Z3]; omega) | (simp; done) | assumption | decide | (refine not_not_intro ?_; assumption)) only [Z1, Z2, splice])
  refine (wp_bslc (by rfl) (cs := encs rulesT) (by rfl)).mpr ?_
  refine hQ _ _ (by (repeat (first | exact Keeps.refl _ _ | assumption | apply keeps_push | refine keeps_set ?_ (by simp; omega)))) (.inr ⟨_, 0, 4, 12, rfl, Nat.le_refl _, Heap.get_lt (Heap.get_push_self _ _), .inr ⟨true, _, Heap.get_push_self _ _, by decide, rfl⟩, .inr rfl⟩)
theorem imMay_ok {H : Heap} {x : Im} {lv : V} (h : ImAt H x) (hv : Sl H lv rulesT) (hl : x.types.xs.length ≤ 1000000000) (hc : x.code.xs.length ≤ 1000000000) (i : Ins) (Q : V → Heap → Prop) (hQ : ∀ H', Keeps [] H H' → Q (.bool (mayB x.types.xs x.code.xs.length i)) H') : wp (A_code_may [.agg (Flat.enc x).toArray, .agg (Flat.enc i).toArray, lv]) Q H := by
  show wp (F_code_may (.agg (Flat.enc x).toArray) (.agg (Flat.enc i).toArray) lv) Q H
  have ho := im_one x
  have ho2 := ins_one i
  have hlen : lenSlc lv = some (i64 12) := hv.len
  have no : ∀ H', Keeps [] H H' → ¬ MayP x.types.xs x.code.xs.length i → Q (.bool false) H' := fun H' hk hm => by
    have := hQ H' hk
    rwa [show mayB x.types.xs x.code.xs.length i = false from by rw [← Bool.not_eq_true, mayB_iff]; exact hm] at this
  have yes : ∀ H', Keeps [] H H' → MayP x.types.xs x.code.xs.length i → Q (.bool true) H' := fun H' hk hm => by
    have := hQ H' hk
    rwa [mayB_iff.2 hm] at this
  unfold F_code_may
  (try simp (maxSteps := 1000000) (disch := first | omega | (simp only [Z3]; omega) | (simp; done) | assumption | decide | (refine not_not_intro ?_; assumption)) only [Z1, cellP_get, cellG_cells, wp_st1g, stG_c, eq_self, true_and, wp_stng, stnG_ok, wp_ldng, ldG_ok, wp_newcg, Heap.get_push_eq, Heap.get_push_lt, Heap.get_set_eq, Heap.get_set_ne', Heap.next_push', Heap.next_set', Heap.set_push_lt, Heap.set_push_eq, Heap.set_set, fld1_agg, fldn_agg, ext_tuple, outV_nil, outV_two, outV_three, outV_four, chk_ld1g, chkO_int, chkO_bool, chkO_str, chkO_ptr, chkO_slc, chkO_map, List.set_cons_zero, List.set_cons_succ, List.length_cons, List.length_nil, List.drop_succ_cons, List.drop_zero, List.take_succ_cons, List.take_zero, List.nil_append, List.cons_append, splice, isOne_int, isOne_str, isOne_bool, isOne_slice, isOne_pointer, isOne_map, condM_nf, condM_nef, gd_nef, gdf_nef, pick_nef, build_eq, fillA_nil, fillA_one, fillA_agg, Option.map_some, resv_one, resv_two, freeIn_nil, fillA_slc, fillA_int, fillA_str, fillA_bool, fillA_ptr, fillA_map])
  (try simp (maxSteps := 1000000) (disch := first | omega | (simp only [Z3]; omega) | (simp; done) | assumption | decide | (refine not_not_intro ?_; assumption)) only [Z1, Z2, splice, enc_im, enc_ins])
  rw [← enc_im, ← enc_ins]
  refine two_boxes fun H2 k2 g2 hlt => ?_
  obtain ⟨g2a, g2b⟩ := g2 _ (Keeps.refl _ _)
  rw [enc_im] at g2a
  rw [enc_ins] at g2b
  by_cases b1 : i.op < 1
  · (try simp (maxSteps := 1000000) (disch := first | omega | (simp only [Z3]; omega) | (simp; done) | assumption | decide | (refine not_not_intro ?_; assumption)) only [Z1, Z2, splice, g2b, decide_eq_true b1])
    exact no _ k2 (by rintro ⟨k, _, e, _⟩; omega)
  by_cases b2 : i.op > 12
  · (try simp (maxSteps := 1000000) (disch := first | omega | (simp only [Z3]; omega) | (simp; done) | assumption | decide | (refine not_not_intro ?_; assumption)) only [Z1, Z2, splice, g2b, decide_eq_false b1, decide_eq_true b2, hlen])
    exact no _ k2 (by rintro ⟨k, _, e, _⟩; omega)
  obtain ⟨k, hk⟩ : ∃ k : Nat, i.op = (k : Int) + 1 := ⟨(i.op - 1).toNat, by omega⟩
  have hk12 : k < rulesT.length := by show k < 12; omega
  have hsub : i.op - 1 = (k : Int) := by omega
  have v2 := hv.keep0 k2
  have a1 := v2.addr' (n := 4) rfl (k := .i64) (i := (k : Int)) (by omega) (by omega)
  rw [Int.toNat_natCast] at a1
  have r1 := fun Q => v2.ldn' (Q := Q) (n := 4) rfl hk12 default
  have hone := rule_one (rulesT.getD k default)
  have hmem : rulesT.getD k default ∈ rulesT := getD_mem' hk12
  have hM : MayP x.types.xs x.code.xs.length i ↔ ((rulesT.getD k default).a = true ∨ i.a = 0) ∧ ((rulesT.getD k default).b = true ∨ i.b = 0) ∧ ((rulesT.getD k default).n = true ∨ i.n = 0) ∧ AskP x.types.xs x.code.xs.length (rulesT.getD k default).f i := by
    refine ⟨?_, fun q => ⟨k, by omega, hk, q⟩⟩
    rintro ⟨k', _, e, q⟩
    have : k' = k := by omega
    subst this
    exact q
  generalize rulesT.getD k default = r at *
  have st1 := keeps_push (x := some (.cells true (Flat.enc r))) k2
  have g3 : (H2.push (some (.cells true [.bool r.a, .bool r.b, .bool r.n, .func (.func r.f) #[] #[]]))).get H2.next = some (.cells true [.bool r.a, .bool r.b, .bool r.n, .func (.func r.f) #[] #[]]) := Heap.get_push_self _ _
  have g3' := g2 (H2.push (some (.cells true [.bool r.a, .bool r.b, .bool r.n, .func (.func r.f) #[] #[]]))) (keeps_push (Keeps.refl _ _))
  obtain ⟨g3a, g3b⟩ := g3'
  rw [enc_im] at g3a
  rw [enc_ins] at g3b
  (try simp (maxSteps := 1000000) (disch := first | omega | (simp only [Z3]; omega) | (simp; done) | assumption | decide | (refine not_not_intro ?_; assumption)) only [Z1, cellP_get, cellG_cells, wp_st1g, stG_c, eq_self, true_and, wp_stng, stnG_ok, ldG_ok, wp_newcg, wp_boxg, Heap.get_push_eq, Heap.get_push_lt, Heap.get_set_eq, Heap.get_set_ne', Heap.next_push', Heap.next_set', Heap.set_push_lt, Heap.set_push_eq, Heap.set_set, fld1_agg, fldn_agg, ext_tuple, outV_nil, outV_two, outV_three, outV_four, chk_ld1g, chkO_int, chkO_bool, chkO_str, chkO_ptr, chkO_slc, chkO_map, List.set_cons_zero, List.set_cons_succ, List.length_cons, List.length_nil, List.drop_succ_cons, List.drop_zero, List.take_succ_cons, List.take_zero, List.nil_append, List.cons_append, splice, isOne_int, isOne_str, isOne_bool, isOne_slice, isOne_pointer, isOne_map, condM_nf, condM_nef, gd_nef, gdf_nef, pick_nef, build_eq, fillA_nil, fillA_one, fillA_agg, Option.map_some, resv_one, resv_two, freeIn_nil, fillA_slc, fillA_int, fillA_str, fillA_bool, fillA_ptr, fillA_map, g2b, decide_eq_false b1, decide_eq_false b2, hlen, code_may_k0, hsub, a1, r1, enc_rule])
  (try simp (maxSteps := 1000000) (disch := first | omega | (simp only [Z3]; omega) | (simp; done) | assumption | decide | (refine not_not_intro ?_; assumption)) only [Z1, Z2, splice])
  rw [enc_rule] at st1
  generalize H2.push (some (.cells true [.bool r.a, .bool r.b, .bool r.n, .func (.func r.f) #[] #[]])) = H3 at *
  have h3 := h.keep0 st1
  have fin : ∀ H4 b, Keeps [] H3 H4 → (b = true ↔ AskP x.types.xs x.code.xs.length r.f i) → (r.a = true ∨ i.a = 0) → (r.b = true ∨ i.b = 0) → (r.n = true ∨ i.n = 0) → Q (.bool b) H4 := fun H4 b k4 hb p1 p2 p3 => by
    cases b with
    | true => exact yes _ (st1.trans k4 (by simp)) (hM.2 ⟨p1, p2, p3, hb.1 rfl⟩)
    | false => exact no _ (st1.trans k4 (by simp)) (fun q => by have := hb.2 (hM.1 q).2.2.2; cases this)
  obtain ⟨ra, rb, rn, rf⟩ := r
  simp only at g3 hM fin
  have pk : ∀ (p : Prop) [Decidable p], p → decide p = true := fun p _ q => decide_eq_true q
  by_cases pa : ra = true ∨ i.a = 0
  case neg =>
    have h1 : ra = false := by cases ra <;> simp_all
    have h2 : ¬ i.a = 0 := fun q => pa (.inr q)
    subst h1
    (try simp (maxSteps := 1000000) (disch := first | omega | (simp only [Z3]; omega) | (simp; done) | assumption | decide | (refine not_not_intro ?_; assumption)) only [Z1, Z2, splice, g3, g3a, g3b, decide_eq_false h2])
    exact no _ st1 (fun q => pa (hM.1 q).1)
  by_cases pb : rb = true ∨ i.b = 0
  case neg =>
    have h1 : rb = false := by cases rb <;> simp_all
    have h2 : ¬ i.b = 0 := fun q => pb (.inr q)
    subst h1
    rcases pa with rfl | pa
    · (try simp (maxSteps := 1000000) (disch := first | omega | (simp only [Z3]; omega) | (simp; done) | assumption | decide | (refine not_not_intro ?_; assumption)) only [Z1, Z2, splice, g3, g3a, g3b, decide_eq_false h2])
      exact no _ st1 (fun q => pb (hM.1 q).2.1)
    · cases ra
      all_goals
        (try simp (maxSteps := 1000000) (disch := first | omega | (simp only [Z3]; omega) | (simp; done) | assumption | decide | (refine not_not_intro ?_; assumption)) only [Z1, Z2, splice, g3, g3a, g3b, decide_eq_false h2, decide_eq_true pa])
        exact no _ st1 (fun q => pb (hM.1 q).2.1)
  by_cases pn : rn = true ∨ i.n = 0
  case neg =>
    have h1 : rn = false := by cases rn <;> simp_all
    have h2 : ¬ i.n = 0 := fun q => pn (.inr q)
    subst h1
    cases ra <;> cases rb
    all_goals
      have aa : false = true → decide (i.a = 0) = true := Bool.noConfusion
      have bb : false = true → decide (i.b = 0) = true := Bool.noConfusion
      (try have aa := decide_eq_true (show i.a = 0 by simpa using pa))
      (try have bb := decide_eq_true (show i.b = 0 by simpa using pb))
      (try simp (maxSteps := 1000000) (disch := first | omega | (simp only [Z3]; omega) | (simp; done) | assumption | decide | (refine not_not_intro ?_; assumption)) only [Z1, Z2, splice, g3, g3a, g3b, decide_eq_false h2, aa, bb])
      exact no _ st1 (fun q => pn (hM.1 q).2.2.1)
  cases ra <;> cases rb <;> cases rn
  all_goals
    have aa : false = true → decide (i.a = 0) = true := Bool.noConfusion
    have bb : false = true → decide (i.b = 0) = true := Bool.noConfusion
    have nn : false = true → decide (i.n = 0) = true := Bool.noConfusion
    (try have aa := decide_eq_true (show i.a = 0 by simpa using pa))
    (try have bb := decide_eq_true (show i.b = 0 by simpa using pb))
    (try have nn := decide_eq_true (show i.n = 0 by simpa using pn))
    (try simp (maxSteps := 1000000) (disch := first | omega | (simp only [Z3]; omega) | (simp; done) | assumption | decide | (refine not_not_intro ?_; assumption)) only [Z1, Z2, splice, g3, g3a, g3b, aa, bb, nn])
    refine ask_all h3 hl hc i _ hmem _ fun H4 b k4 hb => ?_
    (try simp (maxSteps := 1000000) (disch := first | omega | (simp only [Z3]; omega) | (simp; done) | assumption | decide | (refine not_not_intro ?_; assumption)) only [Z1, Z2, splice])
    exact fin _ _ k4 hb pa pb pn
end Go.AM.Cap
