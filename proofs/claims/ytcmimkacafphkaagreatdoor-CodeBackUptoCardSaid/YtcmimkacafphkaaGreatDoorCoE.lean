import Derived.Test.YtcmimkacafphkaaGreatDoorCoD
import Derived.Test.YtcmimkacafphkaaGreatDoorCoA
import Derived.Test.YtcmimkacafphkaaGreatDoorAmOpenF
set_option linter.all false
/- code: what asks a list; rules -/
set_option maxHeartbeats 8000000
namespace Go.AM.Cap
open Go.AM Go.Proofs

theorem idxI_ok {S : Calls'} {f : V} {H : Heap} {v : V} {l : List Int} (h : Sl H v l) (hl : l.length ≤ 1000000000) (p : Int → Bool) (hp : ∀ (H2 : Heap) (x : Int) (Q : V → Heap → Prop), Keeps [] H H2 → (∀ H', Keeps [] H2 H' → Q (.bool (p x)) H') → wp (callM (ovr [] S) f [i64 x]) Q H2)
    (Q : V → Heap → Prop) (hQ : ∀ H', Keeps [] H H' → Q (i64 (idxV (idxP p l))) H') : wp (A_slices_IndexFunc_S_int_int S [v, f]) Q H := by
  show wp (F_slices_IndexFunc_S_int_int S v f) Q H
  have hlen := h.len
  (try simp (maxSteps := 1000000) (disch := first | omega | (simp only [Z3]; omega) | (simp; done) | assumption | decide | (refine not_not_intro ?_; assumption)) only [Z1, Z2, splice, F_slices_IndexFunc_S_int_int, hlen])
  refine wp_loop (Inv := fun k vs H' => ∃ j : Nat, k = l.length - j ∧ j ≤ l.length ∧ vs = [v, f, i64 l.length, i64 j] ∧ Keeps [] H H' ∧ (∀ i, i < j → p (l.getD i default) = false)) (n := l.length) (by unfold FUEL; omega)
    ⟨0, by omega, by omega, rfl, Keeps.refl _ _, by omega⟩ ?_
  rintro k vs H1 ⟨j, hk, hj, rfl, hk1, hn⟩
  by_cases hlt : j < l.length
  case neg =>
    have : j = l.length := by omega
    subst this
    have e : idxV (idxP p l) = -1 := by rw [none_of hn]; rfl
    (try simp (maxSteps := 1000000) (disch := first | omega | (simp only [Z3]; omega) | (simp; done) | assumption | decide | (refine not_not_intro ?_; assumption)) only [Z1, Z2, splice, slices_IndexFunc_S_int_int_l2, slices_IndexFunc_S_int_int_k3])
    rw [e] at hQ
    exact hQ _ hk1
  have a1 := (h.keep0 hk1).addr1 rfl (k := .i64) (i := j) (by omega) (by omega)
  rw [Int.toNat_natCast] at a1
  have d1 := (h.keep0 hk1).cell1 rfl hlt default
  (try simp (maxSteps := 1000000) (disch := first | omega | (simp only [Z3]; omega) | (simp; done) | assumption | decide | (refine not_not_intro ?_; assumption)) only [Z1, Z2, splice, slices_IndexFunc_S_int_int_l2, slices_IndexFunc_S_int_int_k1, a1, d1])
  refine hp H1 _ _ hk1 fun H2 k2 => ?_
  cases hq : p (l.getD j default) with
  | true =>
    have e : idxV (idxP p l) = j := by rw [idxP_some hlt hq hn]; rfl
    rw [e] at hQ
    (try simp (maxSteps := 1000000) (disch := first | omega | (simp only [Z3]; omega) | (simp; done) | assumption | decide | (refine not_not_intro ?_; assumption)) only [Z1, Z2, splice])
    exact hQ _ (hk1.trans k2 (by simp))
  | false =>
    (try simp (maxSteps := 1000000) (disch := first | omega | (simp only [Z3]; omega) | (simp; done) | assumption | decide | (refine not_not_intro ?_; assumption)) only [Z1, Z2, splice, slices_IndexFunc_S_int_int_k0])
    refine ⟨l.length - (j + 1), by omega, j + 1, rfl, by omega, by push_cast; rfl, hk1.trans k2 (by simp), fun i hi => ?_⟩
    rcases Nat.lt_or_eq_of_le (Nat.lt_succ_iff.1 hi) with q | rfl
    · exact hn i q
    · exact hq
theorem idxN_ok {S : Calls'} {f : V} {H : Heap} {v : V} {l : List Ins} (h : Sl H v l) (hl : l.length ≤ 1000000000) (p : Ins → Bool) (hp : ∀ (H2 : Heap) (x : Ins) (Q : V → Heap → Prop), Keeps [] H H2 → (∀ H', Keeps [] H2 H' → Q (.bool (p x)) H') → wp (callM (ovr [] S) f [.agg (Flat.enc x).toArray]) Q H2)
    (Q : V → Heap → Prop) (hQ : ∀ H', Keeps [] H H' → Q (i64 (idxV (idxP p l))) H') : wp (A_slices_IndexFunc_S_api_Instr_api_Instr S [v, f]) Q H := by
  show wp (F_slices_IndexFunc_S_api_Instr_api_Instr S v f) Q H
  have hlen := h.len
  (try simp (maxSteps := 1000000) (disch := first | omega | (simp only [Z3]; omega) | (simp; done) | assumption | decide | (refine not_not_intro ?_; assumption)) only [Z1, Z2, splice, F_slices_IndexFunc_S_api_Instr_api_Instr, hlen])
  refine wp_loop (Inv := fun k vs H' => ∃ j : Nat, k = l.length - j ∧ j ≤ l.length ∧ vs = [v, f, i64 l.length, i64 j] ∧ Keeps [] H H' ∧ (∀ i, i < j → p (l.getD i default) = false)) (n := l.length) (by unfold FUEL; omega)
    ⟨0, by omega, by omega, rfl, Keeps.refl _ _, by omega⟩ ?_
  rintro k vs H1 ⟨j, hk, hj, rfl, hk1, hn⟩
  by_cases hlt : j < l.length
  case neg =>
    have : j = l.length := by omega
    subst this
    have e : idxV (idxP p l) = -1 := by rw [none_of hn]; rfl
    (try simp (maxSteps := 1000000) (disch := first | omega | (simp only [Z3]; omega) | (simp; done) | assumption | decide | (refine not_not_intro ?_; assumption)) only [Z1, Z2, splice, slices_IndexFunc_S_api_Instr_api_Instr_l2, slices_IndexFunc_S_api_Instr_api_Instr_k3])
    rw [e] at hQ
    exact hQ _ hk1
  have a1 := (h.keep0 hk1).addr' (n := 4) rfl (k := .i64) (i := j) (by omega) (by omega)
  rw [Int.toNat_natCast] at a1
  have d1 := fun Q => (h.keep0 hk1).ldn' (Q := Q) (n := 4) rfl hlt default
  (try simp (maxSteps := 1000000) (disch := first | omega | (simp only [Z3]; omega) | (simp; done) | assumption | decide | (refine not_not_intro ?_; assumption)) only [Z1, cellP_get, cellG_cells, wp_st1g, stG_c, eq_self, true_and, wp_stng, stnG_ok, ldG_ok, wp_newcg, wp_boxg, Heap.get_push_eq, Heap.get_push_lt, Heap.get_set_eq, Heap.get_set_ne', Heap.next_push', Heap.next_set', Heap.set_push_lt, Heap.set_push_eq, Heap.set_set, fld1_agg, fldn_agg, ext_tuple, outV_nil, outV_two, outV_three, outV_four, chk_ld1g, chkO_int, chkO_bool, chkO_str, chkO_ptr, chkO_slc, chkO_map, List.set_cons_zero, List.set_cons_succ, List.length_cons, List.length_nil, List.drop_succ_cons, List.drop_zero, List.take_succ_cons, List.take_zero, List.nil_append, List.cons_append, splice, isOne_int, isOne_str, isOne_bool, isOne_slice, isOne_pointer, isOne_map, condM_nf, condM_nef, gd_nef, gdf_nef, pick_nef, build_eq, fillA_nil, fillA_one, fillA_agg, Option.map_some, resv_one, resv_two, freeIn_nil, fillA_slc, fillA_int, fillA_str, fillA_bool, fillA_ptr, fillA_map, slices_IndexFunc_S_api_Instr_api_Instr_l2, slices_IndexFunc_S_api_Instr_api_Instr_k1, a1, d1])
  refine hp H1 _ _ hk1 fun H2 k2 => ?_
  cases hq : p (l.getD j default) with
  | true =>
    have e : idxV (idxP p l) = j := by rw [idxP_some hlt hq hn]; rfl
    rw [e] at hQ
    (try simp (maxSteps := 1000000) (disch := first | omega | (simp only [Z3]; omega) | (simp; done) | assumption | decide | (refine not_not_intro ?_; assumption)) only [Z1, Z2, splice])
    exact hQ _ (hk1.trans k2 (by simp))
  | false =>
    (try simp (maxSteps := 1000000) (disch := first | omega | (simp only [Z3]; omega) | (simp; done) | assumption | decide | (refine not_not_intro ?_; assumption)) only [Z1, Z2, splice, slices_IndexFunc_S_api_Instr_api_Instr_k0])
    refine ⟨l.length - (j + 1), by omega, j + 1, rfl, by omega, by push_cast; rfl, hk1.trans k2 (by simp), fun i hi => ?_⟩
    rcases Nat.lt_or_eq_of_le (Nat.lt_succ_iff.1 hi) with q | rfl
    · exact hn i q
    · exact hq
theorem fd_one (f : Fd) : ([.string f.name, i64 f.type, .bool f.set] : List V).all Value.isOne = true := rfl
theorem eqF_ok {H : Heap} {v w : V} {l : List Int} {fs : List Fd} (h : Sl H v l) (hf : Sl H w fs) (hl : l.length ≤ 1000000000) (hl2 : fs.length ≤ 1000000000)
    (Q : V → Heap → Prop) (hQ : ∀ H', Keeps [] H H' → Q (.bool (decide (l = fs.map Fd.type))) H') : wp (A_slices_EqualFunc_S_int_S_typed_Field_int_typed_Field (ovr [(fid_code_rules_8_1, A_code_rules_8_1)] noC) [v, w, .func (.func fid_code_rules_8_1) #[] #[]]) Q H := by
  show wp (F_slices_EqualFunc_S_int_S_typed_Field_int_typed_Field _ v w (.func (.func fid_code_rules_8_1) #[] #[])) Q H
  have hlen := h.len
  have hlen2 := hf.len
  by_cases hne : l.length = fs.length
  case neg =>
    have : ¬ l = fs.map Fd.type := fun q => hne (by rw [q, List.length_map])
    rw [decide_eq_false this] at hQ
    (try simp (maxSteps := 1000000) (disch := first | omega | (simp only [Z3]; omega) | (simp; done) | assumption | decide | (refine not_not_intro ?_; assumption)) only [Z1, Z2, splice, F_slices_EqualFunc_S_int_S_typed_Field_int_typed_Field, hlen, hlen2])
    exact hQ _ (Keeps.refl _ _)
  (try simp (maxSteps := 1000000) (disch := first | omega | (simp only [Z3]; omega) | (simp; done) | assumption | decide | (refine not_not_intro ?_; assumption)) only [Z1, Z2, splice, F_slices_EqualFunc_S_int_S_typed_Field_int_typed_Field, hlen, hlen2, slices_EqualFunc_S_int_S_typed_Field_int_typed_Field_k4])
  refine wp_loop (Inv := fun k vs H' => ∃ j : Nat, k = l.length - j ∧ j ≤ l.length ∧ vs = [w, .func (.func fid_code_rules_8_1) #[] #[], v, i64 l.length, i64 j] ∧ Keeps [] H H' ∧ (∀ i, i < j → l.getD i default = (fs.getD i default).type)) (n := l.length) (by unfold FUEL; omega)
    ⟨0, by omega, by omega, rfl, Keeps.refl _ _, by omega⟩ ?_
  rintro k vs H1 ⟨j, hk, hj, rfl, hk1, hn⟩
  by_cases hlt : j < l.length
  case neg =>
    have : j = l.length := by omega
    subst this
    have e : l = fs.map Fd.type := by
      apply List.ext_getElem (by rw [List.length_map]; exact hne)
      intro i h1 h2
      have := hn i h1
      rw [List.getD_eq_getElem?_getD, List.getD_eq_getElem?_getD, List.getElem?_eq_getElem h1, List.getElem?_eq_getElem (by omega)] at this
      simpa using this
    rw [decide_eq_true e] at hQ
    (try simp (maxSteps := 1000000) (disch := first | omega | (simp only [Z3]; omega) | (simp; done) | assumption | decide | (refine not_not_intro ?_; assumption)) only [Z1, Z2, splice, slices_EqualFunc_S_int_S_typed_Field_int_typed_Field_l2, slices_EqualFunc_S_int_S_typed_Field_int_typed_Field_k3])
    exact hQ _ hk1
  have hlt2 : j < fs.length := by omega
  have a1 := (h.keep0 hk1).addr1 rfl (k := .i64) (i := j) (by omega) (by omega)
  rw [Int.toNat_natCast] at a1
  have d1 := (h.keep0 hk1).cell1 rfl hlt default
  have a2 := (hf.keep0 hk1).addr' (n := 3) rfl (k := .i64) (i := j) (by omega) (by omega)
  rw [Int.toNat_natCast] at a2
  have d2 := fun Q => (hf.keep0 hk1).ldn' (Q := Q) (n := 3) rfl hlt2 default
  have hnj : ∀ q : l.getD j default = (fs.getD j default).type, ∀ i, i < j + 1 → l.getD i default = (fs.getD i default).type := fun q i hi => by
    rcases Nat.lt_or_eq_of_le (Nat.lt_succ_iff.1 hi) with q2 | rfl
    · exact hn i q2
    · exact q
  have hbad : ¬ l.getD j default = (fs.getD j default).type → ¬ l = fs.map Fd.type := fun q e => q (by
    subst e
    rw [List.getD_eq_getElem?_getD, List.getD_eq_getElem?_getD, List.getElem?_map, List.getElem?_eq_getElem hlt2]
    rfl)
  have ho := fd_one (fs.getD j default)
  generalize l.getD j default = x at *
  generalize fs.getD j default = y at *
  (try simp (maxSteps := 1000000) (disch := first | omega | (simp only [Z3]; omega) | (simp; done) | assumption | decide | (refine not_not_intro ?_; assumption)) only [Z1, cellP_get, cellG_cells, wp_st1g, stG_c, eq_self, true_and, wp_stng, stnG_ok, ldG_ok, wp_newcg, wp_boxg, Heap.get_push_eq, Heap.get_push_lt, Heap.get_set_eq, Heap.get_set_ne', Heap.next_push', Heap.next_set', Heap.set_push_lt, Heap.set_push_eq, Heap.set_set, fld1_agg, fldn_agg, ext_tuple, outV_nil, outV_two, outV_three, outV_four, chk_ld1g, chkO_int, chkO_bool, chkO_str, chkO_ptr, chkO_slc, chkO_map, List.set_cons_zero, List.set_cons_succ, List.length_cons, List.length_nil, List.drop_succ_cons, List.drop_zero, List.take_succ_cons, List.take_zero, List.nil_append, List.cons_append, splice, isOne_int, isOne_str, isOne_bool, isOne_slice, isOne_pointer, isOne_map, condM_nf, condM_nef, gd_nef, gdf_nef, pick_nef, build_eq, fillA_nil, fillA_one, fillA_agg, Option.map_some, resv_one, resv_two, freeIn_nil, fillA_slc, fillA_int, fillA_str, fillA_bool, fillA_ptr, fillA_map, slices_EqualFunc_S_int_S_typed_Field_int_typed_Field_l2, slices_EqualFunc_S_int_S_typed_Field_int_typed_Field_k1, a1, d1, a2, d2, enc_fd])
  (try simp (maxSteps := 1000000) (disch := first | omega | (simp only [Z3]; omega) | (simp; done) | assumption | decide | (refine not_not_intro ?_; assumption)) only [Z1, Z2, splice])
  show wp (A_code_rules_8_1 [i64 x, .agg #[.string y.name, i64 y.type, .bool y.set]]) _ _
  show wp (F_code_rules_8_1 (i64 x) (.agg #[.string y.name, i64 y.type, .bool y.set])) _ _
  by_cases q : x = y.type
  · (try simp (maxSteps := 1000000) (disch := first | omega | (simp only [Z3]; omega) | (simp; done) | assumption | decide | (refine not_not_intro ?_; assumption)) only [Z1, Z2, splice, F_code_rules_8_1, decide_eq_true q, slices_EqualFunc_S_int_S_typed_Field_int_typed_Field_k0])
    refine ⟨l.length - (j + 1), by omega, j + 1, rfl, by omega, by push_cast; rfl, ?_, hnj q⟩
    (repeat (first | exact Keeps.refl _ _ | assumption | apply keeps_push | refine keeps_set ?_ (by simp; omega)))
  · rw [decide_eq_false (hbad q)] at hQ
    (try simp (maxSteps := 1000000) (disch := first | omega | (simp only [Z3]; omega) | (simp; done) | assumption | decide | (refine not_not_intro ?_; assumption)) only [Z1, Z2, splice, F_code_rules_8_1, decide_eq_false q])
    exact hQ _ (by (repeat (first | exact Keeps.refl _ _ | assumption | apply keeps_push | refine keeps_set ?_ (by simp; omega))))
end Go.AM.Cap
