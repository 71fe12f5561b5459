/- ports: Frame, Undo, Waits, New of the program -/
import Derived.Test.YteekfnhhjmcohaaPoE
set_option linter.all false
set_option maxHeartbeats 8000000
namespace Go.AM.Cap
open Go.AM Go.Proofs

/-- the first i of a list are turned -/
def upd (f : Nat → PSt → PSt) (st : List PSt) (i : Nat) : List PSt := (List.range st.length).map fun j => if j < i then f j (st.getD j default) else st.getD j default
theorem upd_length (f : Nat → PSt → PSt) (st : List PSt) (i : Nat) : (upd f st i).length = st.length := by simp [upd]
theorem upd_get? (f : Nat → PSt → PSt) (st : List PSt) (i j : Nat) (hj : j < st.length) : (upd f st i)[j]? = some (if j < i then f j (st.getD j default) else st.getD j default) := by
  simp [upd, hj]
theorem upd_zero (f : Nat → PSt → PSt) (st : List PSt) : upd f st 0 = st := by
  apply List.ext_getElem?
  intro j
  by_cases hj : j < st.length
  · rw [upd_get? f st 0 j hj, if_neg (by omega), List.getD_eq_getElem?_getD, List.getElem?_eq_getElem hj]; rfl
  · rw [List.getElem?_eq_none (by rw [upd_length]; omega), List.getElem?_eq_none (by omega)]
theorem upd_get (f : Nat → PSt → PSt) (st : List PSt) (i : Nat) (hi : i < st.length) : (upd f st i).getD i default = st.getD i default := by
  rw [List.getD_eq_getElem?_getD, upd_get? f st i i hi, if_neg (by omega)]; rfl
theorem upd_step (f : Nat → PSt → PSt) (st : List PSt) (i : Nat) (hi : i < st.length) : (upd f st i).set i (f i (st.getD i default)) = upd f st (i + 1) := by
  apply List.ext_getElem?
  intro j
  by_cases hj : j < st.length
  · rw [upd_get? f st (i + 1) j hj]
    by_cases hji : j = i
    · subst hji
      rw [List.getElem?_set_self (by rw [upd_length]; exact hi), if_pos (by omega)]
    · rw [List.getElem?_set_ne (fun e => hji e.symm), upd_get? f st i j hj]
      by_cases h : j < i
      · rw [if_pos h, if_pos (by omega)]
      · rw [if_neg h, if_neg (by omega)]
  · rw [List.getElem?_eq_none (by rw [List.length_set, upd_length]; omega), List.getElem?_eq_none (by rw [upd_length]; omega)]
theorem upd_skip (f : Nat → PSt → PSt) (st : List PSt) (i : Nat) (hi : i < st.length) (h : f i (st.getD i default) = st.getD i default) : upd f st (i + 1) = upd f st i := by
  rw [← upd_step f st i hi, h]
  apply List.ext_getElem?
  intro j
  by_cases hji : j = i
  · subst hji
    rw [List.getElem?_set_self (by rw [upd_length]; exact hi), upd_get? f st j j hi, if_neg (by omega)]
  · rw [List.getElem?_set_ne (fun e => hji e.symm)]

def frameF (ls : List Port) (j : Nat) (x : PSt) : PSt := frameP (ls.getD j default) x
def frameAll (ls : List Port) (st : List PSt) : List PSt := upd (frameF ls) st st.length
def undoF (ls : List Port) (part : Int) (j : Nat) (x : PSt) : PSt := if (ls.getD j default).src = part then { x with s := [] } else x
def undoAll (ls : List Port) (part : Int) (st : List PSt) : List PSt := upd (undoF ls part) st st.length

theorem ports_Frame_ok {H : Heap} {p sb : Nat} {lv : V} {ls : List Port} {gs : List GS} (h : BoxV H p lv sb ls gs) (Q : V → Heap → Prop)
    (hQ : ∀ gs' H' v, Turn H H' p lv sb ls gs gs' (frameAll ls (gs.map GS.st)) → Q v H') : wp (A_ports_Box_Frame [ptr p 0]) Q H := by
  show wp (F_ports_Box_Frame (ptr p 0)) Q H
  have hlen := h.len
  have hstl : (gs.map GS.st).length = ls.length := by rw [List.length_map, hlen]
  have hll := h.ports.len
  have hsm := h.small
  (try simp (maxSteps := 1000000) (disch := first | omega | (simp only [Heap.next_push', Heap.next_set']; omega) | (simp; done) | assumption | decide | (refine not_not_intro ?_; assumption)) only [at_zero, at_succ, wp_bnd, wp_lift, wpO_some, wp_ret, nx_nxt, nx_brk, nx_ret, unblk_nxt, unblk_ret, unblk_brk, finM_nxt, finM_ret, outV_one, condM_t, condM_f, condM_dt, condM_df, gd_t, gd_f, gdf_t, gdf_f, gd_skip, gd_dt, gd_df, gdf_dt, gdf_df, pick_t, pick_f, pick_dt, pick_df, not_t, not_f, not_dec, isNil_ptr, isNil_ptr', isNil_pnil, isNil_pnil', nilck_ptr, faddr_ptr, Nat.zero_add, Nat.add_zero, wp_ld1, lenStr_str, lenSlc_slice, strV_str, i64_add, i64_sub, i64_mul, i64_in, int_eqd, int_ned, int_lss, int_leq, int_gtr, int_geq, str_eqd, str_ned, if_true, wp_bndH, wp_withH, wp_need, enc_int, enc_str, enc_byte, enc_bool, List.getElem?_cons_zero, List.getElem?_cons_succ, cellP_get, cellG_cells, wp_st1g, stG_c, eq_self, true_and, wp_stng, stnG_ok, wp_ldng, ldG_ok, wp_newcg, wp_boxg, Heap.get_push_eq, Heap.get_push_lt, Heap.get_set_eq, Heap.get_set_ne', Heap.next_push', Heap.next_set', Heap.set_push_lt, Heap.set_push_eq, Heap.set_set, fld1_agg, fldn_agg, ext_tuple, outV_nil, outV_two, outV_three, outV_four, chk_ld1g, chkO_int, chkO_bool, chkO_str, chkO_ptr, chkO_slc, chkO_map, List.set_cons_zero, List.set_cons_succ, List.length_cons, List.length_nil, List.drop_succ_cons, List.drop_zero, List.take_succ_cons, List.take_zero, List.nil_append, List.cons_append, splice, isOne_int, isOne_str, isOne_bool, isOne_slice, isOne_pointer, isOne_map, condM_nf, condM_nef, gd_nef, gdf_nef, pick_nef, build_eq, fillA_nil, fillA_one, fillA_agg, Option.map_some, resv_one, resv_two, freeIn_nil, fillA_slc, fillA_int, fillA_str, fillA_bool, fillA_ptr, fillA_map, F_ports_Box_Frame, h.obj, hll])
  refine wp_loop (Inv := fun k vs H' => ∃ (i : Nat) (gs1 : List GS), k = ls.length - i ∧ i ≤ ls.length ∧ vs = [ptr p 0, lv, i64 ls.length, i64 i] ∧ Turn H H' p lv sb ls gs gs1 (upd (frameF ls) (gs.map GS.st) i)) (n := ls.length) (by unfold FUEL; omega)
    ⟨0, gs, by omega, by omega, rfl, by rw [upd_zero]; exact Turn.refl h (Keeps.refl _ _)⟩ ?_
  rintro k vs H' ⟨i, gs1, hk, hi, rfl, ht⟩
  have h1 := ht.box
  by_cases hlt : i < ls.length
  · have hi1 : i < gs1.length := by rw [h1.len]; exact hlt
    obtain ⟨g, hg, hgst⟩ := port_facts h1 hi1
    rw [ht.st, upd_get _ _ _ (by omega)] at hgst
    have hport : wrongP (ls.getD i default) = 0 := h1.good _ (by rw [List.getD_eq_getElem?_getD, List.getElem?_eq_getElem hlt]; exact List.getElem_mem hlt)
    have hp := Heap.get_lt h1.obj
    have hobj := h1.obj
    (try simp (maxSteps := 1000000) (disch := first | omega | (simp only [Heap.next_push', Heap.next_set']; omega) | (simp; done) | assumption | decide | (refine not_not_intro ?_; assumption)) only [at_zero, at_succ, wp_bnd, wp_lift, wpO_some, wp_ret, nx_nxt, nx_brk, nx_ret, unblk_nxt, unblk_ret, unblk_brk, finM_nxt, finM_ret, outV_one, condM_t, condM_f, condM_dt, condM_df, gd_t, gd_f, gdf_t, gdf_f, gd_skip, gd_dt, gd_df, gdf_dt, gdf_df, pick_t, pick_f, pick_dt, pick_df, not_t, not_f, not_dec, isNil_ptr, isNil_ptr', isNil_pnil, isNil_pnil', nilck_ptr, faddr_ptr, Nat.zero_add, Nat.add_zero, wp_ld1, lenStr_str, lenSlc_slice, strV_str, i64_add, i64_sub, i64_mul, i64_in, int_eqd, int_ned, int_lss, int_leq, int_gtr, int_geq, str_eqd, str_ned, if_true, wp_bndH, wp_withH, wp_need, enc_int, enc_str, enc_byte, enc_bool, List.getElem?_cons_zero, List.getElem?_cons_succ, cellP_get, cellG_cells, wp_st1g, stG_c, eq_self, true_and, wp_stng, stnG_ok, wp_ldng, ldG_ok, wp_newcg, wp_boxg, Heap.get_push_eq, Heap.get_push_lt, Heap.get_set_eq, Heap.get_set_ne', Heap.next_push', Heap.next_set', Heap.set_push_lt, Heap.set_push_eq, Heap.set_set, fld1_agg, fldn_agg, ext_tuple, outV_nil, outV_two, outV_three, outV_four, chk_ld1g, chkO_int, chkO_bool, chkO_str, chkO_ptr, chkO_slc, chkO_map, List.set_cons_zero, List.set_cons_succ, List.length_cons, List.length_nil, List.drop_succ_cons, List.drop_zero, List.take_succ_cons, List.take_zero, List.nil_append, List.cons_append, splice, isOne_int, isOne_str, isOne_bool, isOne_slice, isOne_pointer, isOne_map, condM_nf, condM_nef, gd_nef, gdf_nef, pick_nef, build_eq, fillA_nil, fillA_one, fillA_agg, Option.map_some, resv_one, resv_two, freeIn_nil, fillA_slc, fillA_int, fillA_str, fillA_bool, fillA_ptr, fillA_map, ports_Box_Frame_l2, ports_Box_Frame_k1, h1.ports.addr' (n := 5) rfl, h1.ports.ldn' (n := 5) rfl _ default, Int.toNat_natCast, enc_port, hobj, iaddrS_slc])
    refine ports_frame_ok (h1.keep0 (Keeps.push _ _ _)) hg (ls.getD i default) hport _ fun gs2 H2 v t2 => ?_
    have t3 := ht.trans (t2.before (Keeps.push _ _ _))
    rw [ht.st, ← hgst] at t3
    have e := upd_step (frameF ls) (gs.map GS.st) i (by omega)
    rw [frameF] at e
    rw [e] at t3
    (try simp (maxSteps := 1000000) (disch := first | omega | (simp only [Heap.next_push', Heap.next_set']; omega) | (simp; done) | assumption | decide | (refine not_not_intro ?_; assumption)) only [at_zero, at_succ, wp_bnd, wp_lift, wpO_some, wp_ret, nx_nxt, nx_brk, nx_ret, unblk_nxt, unblk_ret, unblk_brk, finM_nxt, finM_ret, outV_one, condM_t, condM_f, condM_dt, condM_df, gd_t, gd_f, gdf_t, gdf_f, gd_skip, gd_dt, gd_df, gdf_dt, gdf_df, pick_t, pick_f, pick_dt, pick_df, not_t, not_f, not_dec, isNil_ptr, isNil_ptr', isNil_pnil, isNil_pnil', nilck_ptr, faddr_ptr, Nat.zero_add, Nat.add_zero, wp_ld1, lenStr_str, lenSlc_slice, strV_str, i64_add, i64_sub, i64_mul, i64_in, int_eqd, int_ned, int_lss, int_leq, int_gtr, int_geq, str_eqd, str_ned, if_true, wp_bndH, wp_withH, wp_need, enc_int, enc_str, enc_byte, enc_bool, List.getElem?_cons_zero, List.getElem?_cons_succ, cellP_get, cellG_cells, wp_st1g, stG_c, eq_self, true_and, wp_stng, stnG_ok, wp_ldng, ldG_ok, wp_newcg, wp_boxg, Heap.get_push_eq, Heap.get_push_lt, Heap.get_set_eq, Heap.get_set_ne', Heap.next_push', Heap.next_set', Heap.set_push_lt, Heap.set_push_eq, Heap.set_set, fld1_agg, fldn_agg, ext_tuple, outV_nil, outV_two, outV_three, outV_four, chk_ld1g, chkO_int, chkO_bool, chkO_str, chkO_ptr, chkO_slc, chkO_map, List.set_cons_zero, List.set_cons_succ, List.length_cons, List.length_nil, List.drop_succ_cons, List.drop_zero, List.take_succ_cons, List.take_zero, List.nil_append, List.cons_append, splice, isOne_int, isOne_str, isOne_bool, isOne_slice, isOne_pointer, isOne_map, condM_nf, condM_nef, gd_nef, gdf_nef, pick_nef, build_eq, fillA_nil, fillA_one, fillA_agg, Option.map_some, resv_one, resv_two, freeIn_nil, fillA_slc, fillA_int, fillA_str, fillA_bool, fillA_ptr, fillA_map, ports_Box_Frame_k0])
    exact ⟨ls.length - (i + 1), by omega, i + 1, gs2, rfl, by omega, rfl, t3⟩
  · have : i = ls.length := by omega
    subst this
    (try simp (maxSteps := 1000000) (disch := first | omega | (simp only [Heap.next_push', Heap.next_set']; omega) | (simp; done) | assumption | decide | (refine not_not_intro ?_; assumption)) only [at_zero, at_succ, wp_bnd, wp_lift, wpO_some, wp_ret, nx_nxt, nx_brk, nx_ret, unblk_nxt, unblk_ret, unblk_brk, finM_nxt, finM_ret, outV_one, condM_t, condM_f, condM_dt, condM_df, gd_t, gd_f, gdf_t, gdf_f, gd_skip, gd_dt, gd_df, gdf_dt, gdf_df, pick_t, pick_f, pick_dt, pick_df, not_t, not_f, not_dec, isNil_ptr, isNil_ptr', isNil_pnil, isNil_pnil', nilck_ptr, faddr_ptr, Nat.zero_add, Nat.add_zero, wp_ld1, lenStr_str, lenSlc_slice, strV_str, i64_add, i64_sub, i64_mul, i64_in, int_eqd, int_ned, int_lss, int_leq, int_gtr, int_geq, str_eqd, str_ned, if_true, wp_bndH, wp_withH, wp_need, enc_int, enc_str, enc_byte, enc_bool, List.getElem?_cons_zero, List.getElem?_cons_succ, cellP_get, cellG_cells, wp_st1g, stG_c, eq_self, true_and, wp_stng, stnG_ok, wp_ldng, ldG_ok, wp_newcg, wp_boxg, Heap.get_push_eq, Heap.get_push_lt, Heap.get_set_eq, Heap.get_set_ne', Heap.next_push', Heap.next_set', Heap.set_push_lt, Heap.set_push_eq, Heap.set_set, fld1_agg, fldn_agg, ext_tuple, outV_nil, outV_two, outV_three, outV_four, chk_ld1g, chkO_int, chkO_bool, chkO_str, chkO_ptr, chkO_slc, chkO_map, List.set_cons_zero, List.set_cons_succ, List.length_cons, List.length_nil, List.drop_succ_cons, List.drop_zero, List.take_succ_cons, List.take_zero, List.nil_append, List.cons_append, splice, isOne_int, isOne_str, isOne_bool, isOne_slice, isOne_pointer, isOne_map, condM_nf, condM_nef, gd_nef, gdf_nef, pick_nef, build_eq, fillA_nil, fillA_one, fillA_agg, Option.map_some, resv_one, resv_two, freeIn_nil, fillA_slc, fillA_int, fillA_str, fillA_bool, fillA_ptr, fillA_map, ports_Box_Frame_l2])
    refine hQ gs1 _ _ ?_
    rw [frameAll, hstl]
    exact ht

theorem ports_Undo_ok {H : Heap} {p sb : Nat} {lv : V} {ls : List Port} {gs : List GS} (h : BoxV H p lv sb ls gs) (part : Int) (Q : V → Heap → Prop)
    (hbad : ¬ (0 ≤ part ∧ part < 8) → Q (i64 1) H) (hQ : 0 ≤ part ∧ part < 8 → ∀ gs' H', Turn H H' p lv sb ls gs gs' (undoAll ls part (gs.map GS.st)) → Q (i64 0) H') : wp (A_ports_Box_Undo [ptr p 0, i64 part]) Q H := by
  show wp (F_ports_Box_Undo (ptr p 0) (i64 part)) Q H
  have hlen := h.len
  have hstl : (gs.map GS.st).length = ls.length := by rw [List.length_map, hlen]
  have hll := h.ports.len
  have hsm := h.small
  by_cases hb : 0 ≤ part ∧ part < 8
  case neg =>
    (try simp (maxSteps := 1000000) (disch := first | omega | (simp only [Heap.next_push', Heap.next_set']; omega) | (simp; done) | assumption | decide | (refine not_not_intro ?_; assumption)) only [at_zero, at_succ, wp_bnd, wp_lift, wpO_some, wp_ret, nx_nxt, nx_brk, nx_ret, unblk_nxt, unblk_ret, unblk_brk, finM_nxt, finM_ret, outV_one, condM_t, condM_f, condM_dt, condM_df, gd_t, gd_f, gdf_t, gdf_f, gd_skip, gd_dt, gd_df, gdf_dt, gdf_df, pick_t, pick_f, pick_dt, pick_df, not_t, not_f, not_dec, isNil_ptr, isNil_ptr', isNil_pnil, isNil_pnil', nilck_ptr, faddr_ptr, Nat.zero_add, Nat.add_zero, wp_ld1, lenStr_str, lenSlc_slice, strV_str, i64_add, i64_sub, i64_mul, i64_in, int_eqd, int_ned, int_lss, int_leq, int_gtr, int_geq, str_eqd, str_ned, if_true, wp_bndH, wp_withH, wp_need, enc_int, enc_str, enc_byte, enc_bool, List.getElem?_cons_zero, List.getElem?_cons_succ, cellP_get, cellG_cells, wp_st1g, stG_c, eq_self, true_and, wp_stng, stnG_ok, wp_ldng, ldG_ok, wp_newcg, wp_boxg, Heap.get_push_eq, Heap.get_push_lt, Heap.get_set_eq, Heap.get_set_ne', Heap.next_push', Heap.next_set', Heap.set_push_lt, Heap.set_push_eq, Heap.set_set, fld1_agg, fldn_agg, ext_tuple, outV_nil, outV_two, outV_three, outV_four, chk_ld1g, chkO_int, chkO_bool, chkO_str, chkO_ptr, chkO_slc, chkO_map, List.set_cons_zero, List.set_cons_succ, List.length_cons, List.length_nil, List.drop_succ_cons, List.drop_zero, List.take_succ_cons, List.take_zero, List.nil_append, List.cons_append, splice, isOne_int, isOne_str, isOne_bool, isOne_slice, isOne_pointer, isOne_map, condM_nf, condM_nef, gd_nef, gdf_nef, pick_nef, build_eq, fillA_nil, fillA_one, fillA_agg, Option.map_some, resv_one, resv_two, freeIn_nil, fillA_slc, fillA_int, fillA_str, fillA_bool, fillA_ptr, fillA_map, F_ports_Box_Undo, ports_there_eq])
    exact hbad hb
  (try simp (maxSteps := 1000000) (disch := first | omega | (simp only [Heap.next_push', Heap.next_set']; omega) | (simp; done) | assumption | decide | (refine not_not_intro ?_; assumption)) only [at_zero, at_succ, wp_bnd, wp_lift, wpO_some, wp_ret, nx_nxt, nx_brk, nx_ret, unblk_nxt, unblk_ret, unblk_brk, finM_nxt, finM_ret, outV_one, condM_t, condM_f, condM_dt, condM_df, gd_t, gd_f, gdf_t, gdf_f, gd_skip, gd_dt, gd_df, gdf_dt, gdf_df, pick_t, pick_f, pick_dt, pick_df, not_t, not_f, not_dec, isNil_ptr, isNil_ptr', isNil_pnil, isNil_pnil', nilck_ptr, faddr_ptr, Nat.zero_add, Nat.add_zero, wp_ld1, lenStr_str, lenSlc_slice, strV_str, i64_add, i64_sub, i64_mul, i64_in, int_eqd, int_ned, int_lss, int_leq, int_gtr, int_geq, str_eqd, str_ned, if_true, wp_bndH, wp_withH, wp_need, enc_int, enc_str, enc_byte, enc_bool, List.getElem?_cons_zero, List.getElem?_cons_succ, cellP_get, cellG_cells, wp_st1g, stG_c, eq_self, true_and, wp_stng, stnG_ok, wp_ldng, ldG_ok, wp_newcg, wp_boxg, Heap.get_push_eq, Heap.get_push_lt, Heap.get_set_eq, Heap.get_set_ne', Heap.next_push', Heap.next_set', Heap.set_push_lt, Heap.set_push_eq, Heap.set_set, fld1_agg, fldn_agg, ext_tuple, outV_nil, outV_two, outV_three, outV_four, chk_ld1g, chkO_int, chkO_bool, chkO_str, chkO_ptr, chkO_slc, chkO_map, List.set_cons_zero, List.set_cons_succ, List.length_cons, List.length_nil, List.drop_succ_cons, List.drop_zero, List.take_succ_cons, List.take_zero, List.nil_append, List.cons_append, splice, isOne_int, isOne_str, isOne_bool, isOne_slice, isOne_pointer, isOne_map, condM_nf, condM_nef, gd_nef, gdf_nef, pick_nef, build_eq, fillA_nil, fillA_one, fillA_agg, Option.map_some, resv_one, resv_two, freeIn_nil, fillA_slc, fillA_int, fillA_str, fillA_bool, fillA_ptr, fillA_map, F_ports_Box_Undo, ports_there_eq, ports_Box_Undo_k4, h.obj, hll])
  refine wp_loop (Inv := fun k vs H' => ∃ (i : Nat) (gs1 : List GS), k = ls.length - i ∧ i ≤ ls.length ∧ vs = [ptr p 0, i64 part, lv, i64 ls.length, i64 i] ∧ Turn H H' p lv sb ls gs gs1 (upd (undoF ls part) (gs.map GS.st) i)) (n := ls.length) (by unfold FUEL; omega)
    ⟨0, gs, by omega, by omega, rfl, by rw [upd_zero]; exact Turn.refl h (Keeps.refl _ _)⟩ ?_
  rintro k vs H' ⟨i, gs1, hk, hi, rfl, ht⟩
  have h1 := ht.box
  by_cases hlt : i < ls.length
  · have hi1 : i < gs1.length := by rw [h1.len]; exact hlt
    obtain ⟨g, hg, hgst⟩ := port_facts h1 hi1
    rw [ht.st, upd_get _ _ _ (by omega)] at hgst
    have hp := Heap.get_lt h1.obj
    have hobj := h1.obj
    have hst1 := h1.states
    have hsl := Heap.get_lt hst1
    rw [← gs_self hg] at hst1
    have hup : undoF ls part i ((gs.map GS.st).getD i default) = if (ls.getD i default).src = part then { g.st with s := [] } else g.st := by rw [undoF, hgst]
    by_cases hsrc : (ls.getD i default).src = part
    · (try simp (maxSteps := 1000000) (disch := first | omega | (simp only [Heap.next_push', Heap.next_set']; omega) | (simp; done) | assumption | decide | (refine not_not_intro ?_; assumption)) only [at_zero, at_succ, wp_bnd, wp_lift, wpO_some, wp_ret, nx_nxt, nx_brk, nx_ret, unblk_nxt, unblk_ret, unblk_brk, finM_nxt, finM_ret, outV_one, condM_t, condM_f, condM_dt, condM_df, gd_t, gd_f, gdf_t, gdf_f, gd_skip, gd_dt, gd_df, gdf_dt, gdf_df, pick_t, pick_f, pick_dt, pick_df, not_t, not_f, not_dec, isNil_ptr, isNil_ptr', isNil_pnil, isNil_pnil', nilck_ptr, faddr_ptr, Nat.zero_add, Nat.add_zero, wp_ld1, lenStr_str, lenSlc_slice, strV_str, i64_add, i64_sub, i64_mul, i64_in, int_eqd, int_ned, int_lss, int_leq, int_gtr, int_geq, str_eqd, str_ned, if_true, wp_bndH, wp_withH, wp_need, enc_int, enc_str, enc_byte, enc_bool, List.getElem?_cons_zero, List.getElem?_cons_succ, cellP_get, cellG_cells, wp_st1g, stG_c, eq_self, true_and, wp_stng, stnG_ok, wp_ldng, ldG_ok, wp_newcg, wp_boxg, Heap.get_push_eq, Heap.get_push_lt, Heap.get_set_eq, Heap.get_set_ne', Heap.next_push', Heap.next_set', Heap.set_push_lt, Heap.set_push_eq, Heap.set_set, fld1_agg, fldn_agg, ext_tuple, outV_nil, outV_two, outV_three, outV_four, chk_ld1g, chkO_int, chkO_bool, chkO_str, chkO_ptr, chkO_slc, chkO_map, List.set_cons_zero, List.set_cons_succ, List.length_cons, List.length_nil, List.drop_succ_cons, List.drop_zero, List.take_succ_cons, List.take_zero, List.nil_append, List.cons_append, splice, isOne_int, isOne_str, isOne_bool, isOne_slice, isOne_pointer, isOne_map, condM_nf, condM_nef, gd_nef, gdf_nef, pick_nef, build_eq, fillA_nil, fillA_one, fillA_agg, Option.map_some, resv_one, resv_two, freeIn_nil, fillA_slc, fillA_int, fillA_str, fillA_bool, fillA_ptr, fillA_map, ports_Box_Undo_l2, ports_Box_Undo_k1, h1.ports.addr' (n := 5) rfl, h1.ports.ldn' (n := 5) rfl _ default, Int.toNat_natCast, enc_port, hobj, iaddrS_slc, hst1, stG_gs0, gs_set0, ports_Box_Undo_k0])
      rw [if_pos hsrc] at hup
      have t2 := (h1.keep0 (Keeps.push [] H' (some (.cells true [i64 (ls.getD i default).kind, i64 (ls.getD i default).src, i64 (ls.getD i default).dst, i64 (ls.getD i default).typ, i64 (ls.getD i default).cap])))).put (g' := { g with S := ⟨none, 0, 0⟩, s := [] }) hg (Keeps.refl _ _) (cs := encs (gs1.set i { g with S := ⟨none, 0, 0⟩ })) (gs_cong rfl) (Seg.nil _) ((h1.segT _ _ hg).keep (Keeps.push [] _ _) (by simp)) (by intro b hb; simp [SV.v] at hb)
        (by
          intro b hb
          simp only [GS.fp, List.mem_append] at hb
          rcases hb with hb | hb
          · simp [SV.v] at hb
          · left; simp [GS.fp, hb]) ⟨by simp, (h1.sz _ _ hg).2⟩
      have t3 := ht.trans (t2.before (Keeps.push _ _ _))
      rw [ht.st] at t3
      have e := upd_step (undoF ls part) (gs.map GS.st) i (by omega)
      rw [hup] at e
      have e2 : (upd (undoF ls part) (gs.map GS.st) i).set i (GS.st { g with S := ⟨none, 0, 0⟩, s := [] }) = upd (undoF ls part) (gs.map GS.st) (i + 1) := e
      rw [e2, Heap.set_push_lt hsl] at t3
      exact ⟨ls.length - (i + 1), by omega, i + 1, _, rfl, by omega, rfl, t3⟩
    · (try simp (maxSteps := 1000000) (disch := first | omega | (simp only [Heap.next_push', Heap.next_set']; omega) | (simp; done) | assumption | decide | (refine not_not_intro ?_; assumption)) only [at_zero, at_succ, wp_bnd, wp_lift, wpO_some, wp_ret, nx_nxt, nx_brk, nx_ret, unblk_nxt, unblk_ret, unblk_brk, finM_nxt, finM_ret, outV_one, condM_t, condM_f, condM_dt, condM_df, gd_t, gd_f, gdf_t, gdf_f, gd_skip, gd_dt, gd_df, gdf_dt, gdf_df, pick_t, pick_f, pick_dt, pick_df, not_t, not_f, not_dec, isNil_ptr, isNil_ptr', isNil_pnil, isNil_pnil', nilck_ptr, faddr_ptr, Nat.zero_add, Nat.add_zero, wp_ld1, lenStr_str, lenSlc_slice, strV_str, i64_add, i64_sub, i64_mul, i64_in, int_eqd, int_ned, int_lss, int_leq, int_gtr, int_geq, str_eqd, str_ned, if_true, wp_bndH, wp_withH, wp_need, enc_int, enc_str, enc_byte, enc_bool, List.getElem?_cons_zero, List.getElem?_cons_succ, cellP_get, cellG_cells, wp_st1g, stG_c, eq_self, true_and, wp_stng, stnG_ok, wp_ldng, ldG_ok, wp_newcg, wp_boxg, Heap.get_push_eq, Heap.get_push_lt, Heap.get_set_eq, Heap.get_set_ne', Heap.next_push', Heap.next_set', Heap.set_push_lt, Heap.set_push_eq, Heap.set_set, fld1_agg, fldn_agg, ext_tuple, outV_nil, outV_two, outV_three, outV_four, chk_ld1g, chkO_int, chkO_bool, chkO_str, chkO_ptr, chkO_slc, chkO_map, List.set_cons_zero, List.set_cons_succ, List.length_cons, List.length_nil, List.drop_succ_cons, List.drop_zero, List.take_succ_cons, List.take_zero, List.nil_append, List.cons_append, splice, isOne_int, isOne_str, isOne_bool, isOne_slice, isOne_pointer, isOne_map, condM_nf, condM_nef, gd_nef, gdf_nef, pick_nef, build_eq, fillA_nil, fillA_one, fillA_agg, Option.map_some, resv_one, resv_two, freeIn_nil, fillA_slc, fillA_int, fillA_str, fillA_bool, fillA_ptr, fillA_map, ports_Box_Undo_l2, ports_Box_Undo_k1, h1.ports.addr' (n := 5) rfl, h1.ports.ldn' (n := 5) rfl _ default, Int.toNat_natCast, enc_port, hobj, iaddrS_slc, hst1, ports_Box_Undo_k0])
      rw [if_neg hsrc, ← hgst] at hup
      refine ⟨ls.length - (i + 1), by omega, i + 1, gs1, rfl, by omega, rfl, ?_⟩
      rw [upd_skip _ _ _ (by omega) hup]
      exact ht.after (Keeps.push _ _ _)
  · have : i = ls.length := by omega
    subst this
    (try simp (maxSteps := 1000000) (disch := first | omega | (simp only [Heap.next_push', Heap.next_set']; omega) | (simp; done) | assumption | decide | (refine not_not_intro ?_; assumption)) only [at_zero, at_succ, wp_bnd, wp_lift, wpO_some, wp_ret, nx_nxt, nx_brk, nx_ret, unblk_nxt, unblk_ret, unblk_brk, finM_nxt, finM_ret, outV_one, condM_t, condM_f, condM_dt, condM_df, gd_t, gd_f, gdf_t, gdf_f, gd_skip, gd_dt, gd_df, gdf_dt, gdf_df, pick_t, pick_f, pick_dt, pick_df, not_t, not_f, not_dec, isNil_ptr, isNil_ptr', isNil_pnil, isNil_pnil', nilck_ptr, faddr_ptr, Nat.zero_add, Nat.add_zero, wp_ld1, lenStr_str, lenSlc_slice, strV_str, i64_add, i64_sub, i64_mul, i64_in, int_eqd, int_ned, int_lss, int_leq, int_gtr, int_geq, str_eqd, str_ned, if_true, wp_bndH, wp_withH, wp_need, enc_int, enc_str, enc_byte, enc_bool, List.getElem?_cons_zero, List.getElem?_cons_succ, cellP_get, cellG_cells, wp_st1g, stG_c, eq_self, true_and, wp_stng, stnG_ok, wp_ldng, ldG_ok, wp_newcg, wp_boxg, Heap.get_push_eq, Heap.get_push_lt, Heap.get_set_eq, Heap.get_set_ne', Heap.next_push', Heap.next_set', Heap.set_push_lt, Heap.set_push_eq, Heap.set_set, fld1_agg, fldn_agg, ext_tuple, outV_nil, outV_two, outV_three, outV_four, chk_ld1g, chkO_int, chkO_bool, chkO_str, chkO_ptr, chkO_slc, chkO_map, List.set_cons_zero, List.set_cons_succ, List.length_cons, List.length_nil, List.drop_succ_cons, List.drop_zero, List.take_succ_cons, List.take_zero, List.nil_append, List.cons_append, splice, isOne_int, isOne_str, isOne_bool, isOne_slice, isOne_pointer, isOne_map, condM_nf, condM_nef, gd_nef, gdf_nef, pick_nef, build_eq, fillA_nil, fillA_one, fillA_agg, Option.map_some, resv_one, resv_two, freeIn_nil, fillA_slc, fillA_int, fillA_str, fillA_bool, fillA_ptr, fillA_map, ports_Box_Undo_l2, ports_Box_Undo_k3])
    refine hQ hb gs1 _ ?_
    rw [undoAll, hstl]
    exact ht

def waitsS (st : List PSt) (port : Int) : Int × Int × Int × Int := if 0 ≤ port ∧ port < st.length then (((stAt st port).s.length : Int), ((stAt st port).t.length : Int), (stAt st port).lost, 0) else (0, 0, 0, 1)
theorem ports_Waits_ok {H : Heap} {p sb : Nat} {lv : V} {ls : List Port} {gs : List GS} (h : BoxV H p lv sb ls gs) (port : Int) (Q : V → Heap → Prop)
    (hQ : ∀ H', Keeps [] H H' → Q (.tuple #[i64 (waitsS (gs.map GS.st) port).1, i64 (waitsS (gs.map GS.st) port).2.1, i64 (waitsS (gs.map GS.st) port).2.2.1, i64 (waitsS (gs.map GS.st) port).2.2.2]) H') : wp (A_ports_Box_Waits [ptr p 0, i64 port]) Q H := by
  show wp (F_ports_Box_Waits (ptr p 0) (i64 port)) Q H
  simp only [F_ports_Box_Waits, wp_bnd]
  have hlen := h.len
  refine ports_port_ok h 0 port _ (fun hb H1 k1 => ?_) (fun hb H1 k1 => ?_)
  · rw [waitsS, if_neg (by rw [List.length_map]; unfold okP at hb; omega)] at hQ
    (try simp (maxSteps := 1000000) (disch := first | omega | (simp only [Heap.next_push', Heap.next_set']; omega) | (simp; done) | assumption | decide | (refine not_not_intro ?_; assumption)) only [at_zero, at_succ, wp_bnd, wp_lift, wpO_some, wp_ret, nx_nxt, nx_brk, nx_ret, unblk_nxt, unblk_ret, unblk_brk, finM_nxt, finM_ret, outV_one, condM_t, condM_f, condM_dt, condM_df, gd_t, gd_f, gdf_t, gdf_f, gd_skip, gd_dt, gd_df, gdf_dt, gdf_df, pick_t, pick_f, pick_dt, pick_df, not_t, not_f, not_dec, isNil_ptr, isNil_ptr', isNil_pnil, isNil_pnil', nilck_ptr, faddr_ptr, Nat.zero_add, Nat.add_zero, wp_ld1, lenStr_str, lenSlc_slice, strV_str, i64_add, i64_sub, i64_mul, i64_in, int_eqd, int_ned, int_lss, int_leq, int_gtr, int_geq, str_eqd, str_ned, if_true, wp_bndH, wp_withH, wp_need, enc_int, enc_str, enc_byte, enc_bool, List.getElem?_cons_zero, List.getElem?_cons_succ, cellP_get, cellG_cells, wp_st1g, stG_c, eq_self, true_and, wp_stng, stnG_ok, wp_ldng, ldG_ok, wp_newcg, wp_boxg, Heap.get_push_eq, Heap.get_push_lt, Heap.get_set_eq, Heap.get_set_ne', Heap.next_push', Heap.next_set', Heap.set_push_lt, Heap.set_push_eq, Heap.set_set, fld1_agg, fldn_agg, ext_tuple, outV_nil, outV_two, outV_three, outV_four, chk_ld1g, chkO_int, chkO_bool, chkO_str, chkO_ptr, chkO_slc, chkO_map, List.set_cons_zero, List.set_cons_succ, List.length_cons, List.length_nil, List.drop_succ_cons, List.drop_zero, List.take_succ_cons, List.take_zero, List.nil_append, List.cons_append, splice, isOne_int, isOne_str, isOne_bool, isOne_slice, isOne_pointer, isOne_map, condM_nf, condM_nef, gd_nef, gdf_nef, pick_nef, build_eq, fillA_nil, fillA_one, fillA_agg, Option.map_some, resv_one, resv_two, freeIn_nil, fillA_slc, fillA_int, fillA_str, fillA_bool, fillA_ptr, fillA_map, zeroPort])
    exact hQ _ (k1.trans (Keeps.push _ _ _) (fun _ _ h => h))
  · have ⟨ha, hb', hc, hd⟩ := hb
    obtain ⟨g, hg, hst, hgd⟩ := st_at (gs := gs) hc (by omega)
    rw [waitsS, if_pos (by rw [List.length_map]; omega), hst] at hQ
    have h1 := h.keep0 k1
    have hst1 := h1.states
    have hsl := Heap.get_lt hst1
    have hi : port.toNat < gs.length := by omega
    rw [← gs_self hg] at hst1
    have hlS : lenSlc g.S.v = some (i64 g.s.length) := by have := (h.segS _ _ hg).len; rwa [List.length_map] at this
    have hlT : lenSlc g.T.v = some (i64 g.t.length) := by have := (h.segT _ _ hg).len; rwa [List.length_map] at this
    (try simp (maxSteps := 1000000) (disch := first | omega | (simp only [Heap.next_push', Heap.next_set']; omega) | (simp; done) | assumption | decide | (refine not_not_intro ?_; assumption)) only [at_zero, at_succ, wp_bnd, wp_lift, wpO_some, wp_ret, nx_nxt, nx_brk, nx_ret, unblk_nxt, unblk_ret, unblk_brk, finM_nxt, finM_ret, outV_one, condM_t, condM_f, condM_dt, condM_df, gd_t, gd_f, gdf_t, gdf_f, gd_skip, gd_dt, gd_df, gdf_dt, gdf_df, pick_t, pick_f, pick_dt, pick_df, not_t, not_f, not_dec, isNil_ptr, isNil_ptr', isNil_pnil, isNil_pnil', nilck_ptr, faddr_ptr, Nat.zero_add, Nat.add_zero, wp_ld1, lenStr_str, lenSlc_slice, strV_str, i64_add, i64_sub, i64_mul, i64_in, int_eqd, int_ned, int_lss, int_leq, int_gtr, int_geq, str_eqd, str_ned, if_true, wp_bndH, wp_withH, wp_need, enc_int, enc_str, enc_byte, enc_bool, List.getElem?_cons_zero, List.getElem?_cons_succ, cellP_get, cellG_cells, wp_st1g, stG_c, eq_self, true_and, wp_stng, stnG_ok, wp_ldng, ldG_ok, wp_newcg, wp_boxg, Heap.get_push_eq, Heap.get_push_lt, Heap.get_set_eq, Heap.get_set_ne', Heap.next_push', Heap.next_set', Heap.set_push_lt, Heap.set_push_eq, Heap.set_set, fld1_agg, fldn_agg, ext_tuple, outV_nil, outV_two, outV_three, outV_four, chk_ld1g, chkO_int, chkO_bool, chkO_str, chkO_ptr, chkO_slc, chkO_map, List.set_cons_zero, List.set_cons_succ, List.length_cons, List.length_nil, List.drop_succ_cons, List.drop_zero, List.take_succ_cons, List.take_zero, List.nil_append, List.cons_append, splice, isOne_int, isOne_str, isOne_bool, isOne_slice, isOne_pointer, isOne_map, condM_nf, condM_nef, gd_nef, gdf_nef, pick_nef, build_eq, fillA_nil, fillA_one, fillA_agg, Option.map_some, resv_one, resv_two, freeIn_nil, fillA_slc, fillA_int, fillA_str, fillA_bool, fillA_ptr, fillA_map, portAt_agg, ports_Box_Waits_k0, hst1, gs_get0, gs_get1, gs_get3, hlS, hlT])
    exact hQ _ (k1.trans (Keeps.push _ _ _) (fun _ _ h => h))
end Go.AM.Cap
