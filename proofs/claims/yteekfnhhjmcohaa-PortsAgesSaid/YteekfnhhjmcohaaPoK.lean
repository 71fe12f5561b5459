/- ports: what holds of a box's states at all times; the chapter's example; two boxes -/
import Derived.Test.YteekfnhhjmcohaaPoJ
set_option linter.all false
set_option maxHeartbeats 8000000
namespace Go.AM.Cap
open Go.AM Go.Proofs

def okP1 (q : Port) (x : PSt) : Prop := (q.kind = 2 → (x.t.length : Int) ≤ q.cap) ∧ w64 x.lost = x.lost
theorem okSt_set {ls : List Port} {st : List PSt} (h : okSt ls st) (hl : st.length = ls.length) (i : Nat) (x : PSt) (hx : i < ls.length → okP1 (ls.getD i default) x) : okSt ls (st.set i x) := by
  intro j hj
  by_cases e : j = i
  · subst e
    rw [show (st.set j x).getD j default = x by rw [List.getD_eq_getElem?_getD, List.getElem?_set_self (by omega)]; rfl]
    exact hx hj
  · rw [show (st.set i x).getD j default = st.getD j default by rw [List.getD_eq_getElem?_getD, List.getElem?_set_ne (fun q => e q.symm), ← List.getD_eq_getElem?_getD]]
    exact h j hj
theorem okSt_upd {ls : List Port} {st : List PSt} (h : okSt ls st) (hl : st.length = ls.length) (f : Nat → PSt → PSt) (hf : ∀ i, i < ls.length → okP1 (ls.getD i default) (st.getD i default) → okP1 (ls.getD i default) (f i (st.getD i default))) (n : Nat) : okSt ls (upd f st n) := by
  intro j hj
  rw [show (upd f st n).getD j default = if j < n then f j (st.getD j default) else st.getD j default by rw [List.getD_eq_getElem?_getD, upd_get? f st n j (by omega)]; rfl]
  show okP1 _ (if j < n then f j (st.getD j default) else st.getD j default)
  split
  · exact hf j hj (h j hj)
  · exact h j hj
theorem w64_idem2 (n : Int) : w64 (w64 n) = w64 n := by have := w64_w64 n 0; simpa using this
theorem okSt_send {ls : List Port} {st : List PSt} (h : okSt ls st) (hl : st.length = ls.length) (part port n : Int) : okSt ls (sendS ls st part port n).1 := by
  unfold sendS
  split
  · exact h
  rename_i hp
  have hp2 : okP ls part port := Decidable.not_not.mp hp
  have hi : port.toNat < ls.length := by unfold okP at hp2; omega
  have h1 : okP1 (portAt ls port) (stAt st port) := h _ hi
  split
  · exact h
  split
  · exact h
  split
  · exact okSt_set h hl _ _ fun _ => h1
  split
  · exact okSt_set h hl _ _ fun _ => ⟨h1.1, w64_idem2 _⟩
  · exact okSt_set h hl _ _ fun _ => h1
theorem okSt_recv {ls : List Port} {st : List PSt} (h : okSt ls st) (hl : st.length = ls.length) (part port : Int) : okSt ls (recvS ls st part port).1 := by
  unfold recvS
  split
  · exact h
  rename_i hp
  have hp2 : okP ls part port := Decidable.not_not.mp hp
  have hi : port.toNat < ls.length := by unfold okP at hp2; omega
  have h1 : okP1 (portAt ls port) (stAt st port) := h _ hi
  split
  · exact h
  split
  · exact h
  split
  · exact h
  · exact okSt_set h hl _ _ fun _ => ⟨fun q => by have := h1.1 q; show (((stAt st port).t.drop 1).length : Int) ≤ (portAt ls port).cap; rw [List.length_drop]; omega, h1.2⟩
theorem okP1_frame {q : Port} {x : PSt} (h : okP1 q x) (hk : q.kind = 1 ∨ (q.kind = 2 ∧ 1 ≤ q.cap ∧ q.cap ≤ 16)) : okP1 q (frameP q x) := by
  unfold frameP
  split
  · refine ⟨fun _ => ?_, w64_idem2 _⟩
    have : ((x.t ++ x.s).take q.cap.toNat).length ≤ q.cap.toNat := by rw [List.length_take]; omega
    show (((x.t ++ x.s).take q.cap.toNat).length : Int) ≤ q.cap
    omega
  rename_i h2
  split
  · exact ⟨fun e => absurd e h2, h.2⟩
  split
  · exact ⟨fun e => absurd e h2, h.2⟩
  · exact ⟨fun e => absurd e h2, h.2⟩
theorem good_at {ls : List Port} (hg : ∀ q ∈ ls, wrongP q = 0) {i : Nat} (hi : i < ls.length) : wrongP (ls.getD i default) = 0 := hg _ (by rw [List.getD_eq_getElem?_getD, List.getElem?_eq_getElem hi]; exact List.getElem_mem hi)
theorem okSt_frame {ls : List Port} {st : List PSt} (h : okSt ls st) (hl : st.length = ls.length) (hg : ∀ q ∈ ls, wrongP q = 0) : okSt ls (frameAll ls st) :=
  okSt_upd h hl _ (fun i hi hx => okP1_frame hx (good_kind (good_at hg hi))) _
theorem okSt_undo {ls : List Port} {st : List PSt} (h : okSt ls st) (hl : st.length = ls.length) (part : Int) : okSt ls (undoAll ls part st) :=
  okSt_upd h hl _ (fun i hi hx => by unfold undoF; split; exact hx; exact hx) _
theorem okSt_new (ls : List Port) (hg : ∀ q ∈ ls, wrongP q = 0) : okSt ls (List.replicate ls.length st0) := by
  intro i hi
  rw [show (List.replicate ls.length st0).getD i default = st0 by rw [List.getD_eq_getElem?_getD, List.getElem?_replicate, if_pos hi]; rfl]
  refine ⟨fun hk => ?_, by decide⟩
  have := good_kind (good_at hg hi)
  show (0 : Int) ≤ (ls.getD i default).cap
  omega

/-- a number from 0 to n - 1 -/
def amongI (x n : Int) : Int := (w64 (x.tmod n + n)).tmod n
theorem among_eq (x n : Int) (hn : n ≠ 0) : A_law20_among [i64 x, i64 n] = ret (i64 (amongI x n)) := eq_ret fun H => by
  show wp (F_law20_among (i64 x) (i64 n)) _ H
  (try simp (maxSteps := 1000000) (disch := first | omega | (simp only [Heap.next_push', Heap.next_set']; omega) | (simp; done) | assumption | decide | (refine not_not_intro ?_; assumption)) only [at_zero, at_succ, wp_bnd, wp_lift, wpO_some, wp_ret, nx_nxt, nx_brk, nx_ret, unblk_nxt, unblk_ret, unblk_brk, finM_nxt, finM_ret, outV_one, condM_t, condM_f, condM_dt, condM_df, gd_t, gd_f, gdf_t, gdf_f, gd_skip, gd_dt, gd_df, gdf_dt, gdf_df, pick_t, pick_f, pick_dt, pick_df, not_t, not_f, not_dec, isNil_ptr, isNil_ptr', isNil_pnil, isNil_pnil', nilck_ptr, faddr_ptr, Nat.zero_add, Nat.add_zero, wp_ld1, lenStr_str, lenSlc_slice, strV_str, i64_add, i64_sub, i64_mul, i64_in, int_eqd, int_ned, int_lss, int_leq, int_gtr, int_geq, str_eqd, str_ned, if_true, wp_bndH, wp_withH, wp_need, enc_int, enc_str, enc_byte, enc_bool, List.getElem?_cons_zero, List.getElem?_cons_succ, cellP_get, cellG_cells, wp_st1g, stG_c, eq_self, true_and, wp_stng, stnG_ok, wp_ldng, ldG_ok, wp_newcg, wp_boxg, Heap.get_push_eq, Heap.get_push_lt, Heap.get_set_eq, Heap.get_set_ne', Heap.next_push', Heap.next_set', Heap.set_push_lt, Heap.set_push_eq, Heap.set_set, fld1_agg, fldn_agg, ext_tuple, outV_nil, outV_two, outV_three, outV_four, chk_ld1g, chkO_int, chkO_bool, chkO_str, chkO_ptr, chkO_slc, chkO_map, List.set_cons_zero, List.set_cons_succ, List.length_cons, List.length_nil, List.drop_succ_cons, List.drop_zero, List.take_succ_cons, List.take_zero, List.nil_append, List.cons_append, splice, isOne_int, isOne_str, isOne_bool, isOne_slice, isOne_pointer, isOne_map, condM_nf, condM_nef, gd_nef, gdf_nef, pick_nef, build_eq, fillA_nil, fillA_one, fillA_agg, Option.map_some, resv_one, resv_two, freeIn_nil, fillA_slc, fillA_int, fillA_str, fillA_bool, fillA_ptr, fillA_map, F_law20_among, int_rem])
  exact ⟨rfl, trivial⟩
theorem amongI_range (x n : Int) (h0 : 0 < n) (h1 : n ≤ 1000000) : 0 ≤ amongI x n ∧ amongI x n < n := by
  have a := Int.lt_tmod_of_pos x h0
  have b := Int.tmod_lt_of_pos x h0
  unfold amongI
  rw [w64_idem (x.tmod n + n) (by omega)]
  exact ⟨Int.tmod_nonneg _ (by omega), Int.tmod_lt_of_pos _ h0⟩

def exP : Port := ⟨2, 0, 1, 2, 2⟩
theorem works_ok (H : Heap) (Q : V → Heap → Prop) (hQ : ∀ H', Keeps [] H H' → Q (.bool true) H') : wp (A_law20_works []) Q H := by
  show wp F_law20_works Q H
  (try simp (maxSteps := 1000000) (disch := first | omega | (simp only [Heap.next_push', Heap.next_set']; omega) | (simp; done) | assumption | decide | (refine not_not_intro ?_; assumption)) only [at_zero, at_succ, wp_bnd, wp_lift, wpO_some, wp_ret, nx_nxt, nx_brk, nx_ret, unblk_nxt, unblk_ret, unblk_brk, finM_nxt, finM_ret, outV_one, condM_t, condM_f, condM_dt, condM_df, gd_t, gd_f, gdf_t, gdf_f, gd_skip, gd_dt, gd_df, gdf_dt, gdf_df, pick_t, pick_f, pick_dt, pick_df, not_t, not_f, not_dec, isNil_ptr, isNil_ptr', isNil_pnil, isNil_pnil', nilck_ptr, faddr_ptr, Nat.zero_add, Nat.add_zero, wp_ld1, lenStr_str, lenSlc_slice, strV_str, i64_add, i64_sub, i64_mul, i64_in, int_eqd, int_ned, int_lss, int_leq, int_gtr, int_geq, str_eqd, str_ned, if_true, wp_bndH, wp_withH, wp_need, enc_int, enc_str, enc_byte, enc_bool, List.getElem?_cons_zero, List.getElem?_cons_succ, cellP_get, cellG_cells, wp_st1g, stG_c, eq_self, true_and, wp_stng, stnG_ok, wp_ldng, ldG_ok, wp_newcg, wp_boxg, Heap.get_push_eq, Heap.get_push_lt, Heap.get_set_eq, Heap.get_set_ne', Heap.next_push', Heap.next_set', Heap.set_push_lt, Heap.set_push_eq, Heap.set_set, fld1_agg, fldn_agg, ext_tuple, outV_nil, outV_two, outV_three, outV_four, chk_ld1g, chkO_int, chkO_bool, chkO_str, chkO_ptr, chkO_slc, chkO_map, List.set_cons_zero, List.set_cons_succ, List.length_cons, List.length_nil, List.drop_succ_cons, List.drop_zero, List.take_succ_cons, List.take_zero, List.nil_append, List.cons_append, splice, isOne_int, isOne_str, isOne_bool, isOne_slice, isOne_pointer, isOne_map, condM_nf, condM_nef, gd_nef, gdf_nef, pick_nef, build_eq, fillA_nil, fillA_one, fillA_agg, Option.map_some, resv_one, resv_two, freeIn_nil, fillA_slc, fillA_int, fillA_str, fillA_bool, fillA_ptr, fillA_map, F_law20_works])
  refine (wp_bslc (cs := encs [exP]) (by decide) (by rfl)).mpr ?_
  have k1 := Keeps.push [] H (some (.cells true (encs [exP])))
  have hs : Sl (H.push (some (.cells true (encs [exP])))) (slc H.next 0 5 1 1) [exP] := .inr ⟨_, _, _, _, rfl, Nat.le_refl _, Heap.get_lt (Heap.get_push_self _ _), .inr ⟨_, _, Heap.get_push_self _ _, by decide, rfl⟩, .inr rfl⟩
  (try simp (maxSteps := 1000000) (disch := first | omega | (simp only [Heap.next_push', Heap.next_set']; omega) | (simp; done) | assumption | decide | (refine not_not_intro ?_; assumption)) only [at_zero, at_succ, wp_bnd, wp_lift, wpO_some, wp_ret, nx_nxt, nx_brk, nx_ret, unblk_nxt, unblk_ret, unblk_brk, finM_nxt, finM_ret, outV_one, condM_t, condM_f, condM_dt, condM_df, gd_t, gd_f, gdf_t, gdf_f, gd_skip, gd_dt, gd_df, gdf_dt, gdf_df, pick_t, pick_f, pick_dt, pick_df, not_t, not_f, not_dec, isNil_ptr, isNil_ptr', isNil_pnil, isNil_pnil', nilck_ptr, faddr_ptr, Nat.zero_add, Nat.add_zero, wp_ld1, lenStr_str, lenSlc_slice, strV_str, i64_add, i64_sub, i64_mul, i64_in, int_eqd, int_ned, int_lss, int_leq, int_gtr, int_geq, str_eqd, str_ned, if_true, wp_bndH, wp_withH, wp_need, enc_int, enc_str, enc_byte, enc_bool, List.getElem?_cons_zero, List.getElem?_cons_succ, cellP_get, cellG_cells, wp_st1g, stG_c, eq_self, true_and, wp_stng, stnG_ok, wp_ldng, ldG_ok, wp_newcg, wp_boxg, Heap.get_push_eq, Heap.get_push_lt, Heap.get_set_eq, Heap.get_set_ne', Heap.next_push', Heap.next_set', Heap.set_push_lt, Heap.set_push_eq, Heap.set_set, fld1_agg, fldn_agg, ext_tuple, outV_nil, outV_two, outV_three, outV_four, chk_ld1g, chkO_int, chkO_bool, chkO_str, chkO_ptr, chkO_slc, chkO_map, List.set_cons_zero, List.set_cons_succ, List.length_cons, List.length_nil, List.drop_succ_cons, List.drop_zero, List.take_succ_cons, List.take_zero, List.nil_append, List.cons_append, splice, isOne_int, isOne_str, isOne_bool, isOne_slice, isOne_pointer, isOne_map, condM_nf, condM_nef, gd_nef, gdf_nef, pick_nef, build_eq, fillA_nil, fillA_one, fillA_agg, Option.map_some, resv_one, resv_two, freeIn_nil, fillA_slc, fillA_int, fillA_str, fillA_bool, fillA_ptr, fillA_map])
  refine ports_New_ok hs _ (fun h => absurd (by decide) h) fun _ p w sb gs H1 hb hst k2 hf => ?_
  have k12 := k1.trans k2 (fun _ _ h => h)
  (try simp (maxSteps := 1000000) (disch := first | omega | (simp only [Heap.next_push', Heap.next_set']; omega) | (simp; done) | assumption | decide | (refine not_not_intro ?_; assumption)) only [at_zero, at_succ, wp_bnd, wp_lift, wpO_some, wp_ret, nx_nxt, nx_brk, nx_ret, unblk_nxt, unblk_ret, unblk_brk, finM_nxt, finM_ret, outV_one, condM_t, condM_f, condM_dt, condM_df, gd_t, gd_f, gdf_t, gdf_f, gd_skip, gd_dt, gd_df, gdf_dt, gdf_df, pick_t, pick_f, pick_dt, pick_df, not_t, not_f, not_dec, isNil_ptr, isNil_ptr', isNil_pnil, isNil_pnil', nilck_ptr, faddr_ptr, Nat.zero_add, Nat.add_zero, wp_ld1, lenStr_str, lenSlc_slice, strV_str, i64_add, i64_sub, i64_mul, i64_in, int_eqd, int_ned, int_lss, int_leq, int_gtr, int_geq, str_eqd, str_ned, if_true, wp_bndH, wp_withH, wp_need, enc_int, enc_str, enc_byte, enc_bool, List.getElem?_cons_zero, List.getElem?_cons_succ, cellP_get, cellG_cells, wp_st1g, stG_c, eq_self, true_and, wp_stng, stnG_ok, wp_ldng, ldG_ok, wp_newcg, wp_boxg, Heap.get_push_eq, Heap.get_push_lt, Heap.get_set_eq, Heap.get_set_ne', Heap.next_push', Heap.next_set', Heap.set_push_lt, Heap.set_push_eq, Heap.set_set, fld1_agg, fldn_agg, ext_tuple, outV_nil, outV_two, outV_three, outV_four, chk_ld1g, chkO_int, chkO_bool, chkO_str, chkO_ptr, chkO_slc, chkO_map, List.set_cons_zero, List.set_cons_succ, List.length_cons, List.length_nil, List.drop_succ_cons, List.drop_zero, List.take_succ_cons, List.take_zero, List.nil_append, List.cons_append, splice, isOne_int, isOne_str, isOne_bool, isOne_slice, isOne_pointer, isOne_map, condM_nf, condM_nef, gd_nef, gdf_nef, pick_nef, build_eq, fillA_nil, fillA_one, fillA_agg, Option.map_some, resv_one, resv_two, freeIn_nil, fillA_slc, fillA_int, fillA_str, fillA_bool, fillA_ptr, fillA_map])
  refine ports_Send_ok hb 0 0 5 _ fun gs1 H2 t1 => ?_
  rw [hst] at t1 ⊢
  rw [show sendS [exP] (List.replicate [exP].length st0) 0 0 5 = ([⟨[5], [], 0, 0⟩], 0) by decide] at t1 ⊢
  (try simp (maxSteps := 1000000) (disch := first | omega | (simp only [Heap.next_push', Heap.next_set']; omega) | (simp; done) | assumption | decide | (refine not_not_intro ?_; assumption)) only [at_zero, at_succ, wp_bnd, wp_lift, wpO_some, wp_ret, nx_nxt, nx_brk, nx_ret, unblk_nxt, unblk_ret, unblk_brk, finM_nxt, finM_ret, outV_one, condM_t, condM_f, condM_dt, condM_df, gd_t, gd_f, gdf_t, gdf_f, gd_skip, gd_dt, gd_df, gdf_dt, gdf_df, pick_t, pick_f, pick_dt, pick_df, not_t, not_f, not_dec, isNil_ptr, isNil_ptr', isNil_pnil, isNil_pnil', nilck_ptr, faddr_ptr, Nat.zero_add, Nat.add_zero, wp_ld1, lenStr_str, lenSlc_slice, strV_str, i64_add, i64_sub, i64_mul, i64_in, int_eqd, int_ned, int_lss, int_leq, int_gtr, int_geq, str_eqd, str_ned, if_true, wp_bndH, wp_withH, wp_need, enc_int, enc_str, enc_byte, enc_bool, List.getElem?_cons_zero, List.getElem?_cons_succ, cellP_get, cellG_cells, wp_st1g, stG_c, eq_self, true_and, wp_stng, stnG_ok, wp_ldng, ldG_ok, wp_newcg, wp_boxg, Heap.get_push_eq, Heap.get_push_lt, Heap.get_set_eq, Heap.get_set_ne', Heap.next_push', Heap.next_set', Heap.set_push_lt, Heap.set_push_eq, Heap.set_set, fld1_agg, fldn_agg, ext_tuple, outV_nil, outV_two, outV_three, outV_four, chk_ld1g, chkO_int, chkO_bool, chkO_str, chkO_ptr, chkO_slc, chkO_map, List.set_cons_zero, List.set_cons_succ, List.length_cons, List.length_nil, List.drop_succ_cons, List.drop_zero, List.take_succ_cons, List.take_zero, List.nil_append, List.cons_append, splice, isOne_int, isOne_str, isOne_bool, isOne_slice, isOne_pointer, isOne_map, condM_nf, condM_nef, gd_nef, gdf_nef, pick_nef, build_eq, fillA_nil, fillA_one, fillA_agg, Option.map_some, resv_one, resv_two, freeIn_nil, fillA_slc, fillA_int, fillA_str, fillA_bool, fillA_ptr, fillA_map])
  refine ports_Send_ok t1.box 0 0 6 _ fun gs2 H3 t2 => ?_
  rw [t1.st] at t2 ⊢
  rw [show sendS [exP] [⟨[5], [], 0, 0⟩] 0 0 6 = ([⟨[5, 6], [], 0, 0⟩], 0) by decide] at t2 ⊢
  (try simp (maxSteps := 1000000) (disch := first | omega | (simp only [Heap.next_push', Heap.next_set']; omega) | (simp; done) | assumption | decide | (refine not_not_intro ?_; assumption)) only [at_zero, at_succ, wp_bnd, wp_lift, wpO_some, wp_ret, nx_nxt, nx_brk, nx_ret, unblk_nxt, unblk_ret, unblk_brk, finM_nxt, finM_ret, outV_one, condM_t, condM_f, condM_dt, condM_df, gd_t, gd_f, gdf_t, gdf_f, gd_skip, gd_dt, gd_df, gdf_dt, gdf_df, pick_t, pick_f, pick_dt, pick_df, not_t, not_f, not_dec, isNil_ptr, isNil_ptr', isNil_pnil, isNil_pnil', nilck_ptr, faddr_ptr, Nat.zero_add, Nat.add_zero, wp_ld1, lenStr_str, lenSlc_slice, strV_str, i64_add, i64_sub, i64_mul, i64_in, int_eqd, int_ned, int_lss, int_leq, int_gtr, int_geq, str_eqd, str_ned, if_true, wp_bndH, wp_withH, wp_need, enc_int, enc_str, enc_byte, enc_bool, List.getElem?_cons_zero, List.getElem?_cons_succ, cellP_get, cellG_cells, wp_st1g, stG_c, eq_self, true_and, wp_stng, stnG_ok, wp_ldng, ldG_ok, wp_newcg, wp_boxg, Heap.get_push_eq, Heap.get_push_lt, Heap.get_set_eq, Heap.get_set_ne', Heap.next_push', Heap.next_set', Heap.set_push_lt, Heap.set_push_eq, Heap.set_set, fld1_agg, fldn_agg, ext_tuple, outV_nil, outV_two, outV_three, outV_four, chk_ld1g, chkO_int, chkO_bool, chkO_str, chkO_ptr, chkO_slc, chkO_map, List.set_cons_zero, List.set_cons_succ, List.length_cons, List.length_nil, List.drop_succ_cons, List.drop_zero, List.take_succ_cons, List.take_zero, List.nil_append, List.cons_append, splice, isOne_int, isOne_str, isOne_bool, isOne_slice, isOne_pointer, isOne_map, condM_nf, condM_nef, gd_nef, gdf_nef, pick_nef, build_eq, fillA_nil, fillA_one, fillA_agg, Option.map_some, resv_one, resv_two, freeIn_nil, fillA_slc, fillA_int, fillA_str, fillA_bool, fillA_ptr, fillA_map])
  refine ports_Send_ok t2.box 0 0 7 _ fun gs3 H4 t3 => ?_
  rw [t2.st] at t3 ⊢
  rw [show sendS [exP] [⟨[5, 6], [], 0, 0⟩] 0 0 7 = ([⟨[5, 6], [], 0, 1⟩], 2) by decide] at t3 ⊢
  (try simp (maxSteps := 1000000) (disch := first | omega | (simp only [Heap.next_push', Heap.next_set']; omega) | (simp; done) | assumption | decide | (refine not_not_intro ?_; assumption)) only [at_zero, at_succ, wp_bnd, wp_lift, wpO_some, wp_ret, nx_nxt, nx_brk, nx_ret, unblk_nxt, unblk_ret, unblk_brk, finM_nxt, finM_ret, outV_one, condM_t, condM_f, condM_dt, condM_df, gd_t, gd_f, gdf_t, gdf_f, gd_skip, gd_dt, gd_df, gdf_dt, gdf_df, pick_t, pick_f, pick_dt, pick_df, not_t, not_f, not_dec, isNil_ptr, isNil_ptr', isNil_pnil, isNil_pnil', nilck_ptr, faddr_ptr, Nat.zero_add, Nat.add_zero, wp_ld1, lenStr_str, lenSlc_slice, strV_str, i64_add, i64_sub, i64_mul, i64_in, int_eqd, int_ned, int_lss, int_leq, int_gtr, int_geq, str_eqd, str_ned, if_true, wp_bndH, wp_withH, wp_need, enc_int, enc_str, enc_byte, enc_bool, List.getElem?_cons_zero, List.getElem?_cons_succ, cellP_get, cellG_cells, wp_st1g, stG_c, eq_self, true_and, wp_stng, stnG_ok, wp_ldng, ldG_ok, wp_newcg, wp_boxg, Heap.get_push_eq, Heap.get_push_lt, Heap.get_set_eq, Heap.get_set_ne', Heap.next_push', Heap.next_set', Heap.set_push_lt, Heap.set_push_eq, Heap.set_set, fld1_agg, fldn_agg, ext_tuple, outV_nil, outV_two, outV_three, outV_four, chk_ld1g, chkO_int, chkO_bool, chkO_str, chkO_ptr, chkO_slc, chkO_map, List.set_cons_zero, List.set_cons_succ, List.length_cons, List.length_nil, List.drop_succ_cons, List.drop_zero, List.take_succ_cons, List.take_zero, List.nil_append, List.cons_append, splice, isOne_int, isOne_str, isOne_bool, isOne_slice, isOne_pointer, isOne_map, condM_nf, condM_nef, gd_nef, gdf_nef, pick_nef, build_eq, fillA_nil, fillA_one, fillA_agg, Option.map_some, resv_one, resv_two, freeIn_nil, fillA_slc, fillA_int, fillA_str, fillA_bool, fillA_ptr, fillA_map, law20_works_k1])
  refine ports_Recv_ok t3.box 1 0 _ fun gs4 H5 t4 => ?_
  rw [t3.st] at t4 ⊢
  rw [show recvS [exP] [⟨[5, 6], [], 0, 1⟩] 1 0 = ([⟨[5, 6], [], 0, 1⟩], 0, 0, 5) by decide] at t4 ⊢
  (try simp (maxSteps := 1000000) (disch := first | omega | (simp only [Heap.next_push', Heap.next_set']; omega) | (simp; done) | assumption | decide | (refine not_not_intro ?_; assumption)) only [at_zero, at_succ, wp_bnd, wp_lift, wpO_some, wp_ret, nx_nxt, nx_brk, nx_ret, unblk_nxt, unblk_ret, unblk_brk, finM_nxt, finM_ret, outV_one, condM_t, condM_f, condM_dt, condM_df, gd_t, gd_f, gdf_t, gdf_f, gd_skip, gd_dt, gd_df, gdf_dt, gdf_df, pick_t, pick_f, pick_dt, pick_df, not_t, not_f, not_dec, isNil_ptr, isNil_ptr', isNil_pnil, isNil_pnil', nilck_ptr, faddr_ptr, Nat.zero_add, Nat.add_zero, wp_ld1, lenStr_str, lenSlc_slice, strV_str, i64_add, i64_sub, i64_mul, i64_in, int_eqd, int_ned, int_lss, int_leq, int_gtr, int_geq, str_eqd, str_ned, if_true, wp_bndH, wp_withH, wp_need, enc_int, enc_str, enc_byte, enc_bool, List.getElem?_cons_zero, List.getElem?_cons_succ, cellP_get, cellG_cells, wp_st1g, stG_c, eq_self, true_and, wp_stng, stnG_ok, wp_ldng, ldG_ok, wp_newcg, wp_boxg, Heap.get_push_eq, Heap.get_push_lt, Heap.get_set_eq, Heap.get_set_ne', Heap.next_push', Heap.next_set', Heap.set_push_lt, Heap.set_push_eq, Heap.set_set, fld1_agg, fldn_agg, ext_tuple, outV_nil, outV_two, outV_three, outV_four, chk_ld1g, chkO_int, chkO_bool, chkO_str, chkO_ptr, chkO_slc, chkO_map, List.set_cons_zero, List.set_cons_succ, List.length_cons, List.length_nil, List.drop_succ_cons, List.drop_zero, List.take_succ_cons, List.take_zero, List.nil_append, List.cons_append, splice, isOne_int, isOne_str, isOne_bool, isOne_slice, isOne_pointer, isOne_map, condM_nf, condM_nef, gd_nef, gdf_nef, pick_nef, build_eq, fillA_nil, fillA_one, fillA_agg, Option.map_some, resv_one, resv_two, freeIn_nil, fillA_slc, fillA_int, fillA_str, fillA_bool, fillA_ptr, fillA_map, law20_works_k0])
  refine ports_Frame_ok t4.box _ fun gs5 H6 v t5 => ?_
  rw [t4.st] at t5
  rw [show frameAll [exP] [⟨[5, 6], [], 0, 1⟩] = [⟨[], [5, 6], 0, 1⟩] by decide] at t5
  (try simp (maxSteps := 1000000) (disch := first | omega | (simp only [Heap.next_push', Heap.next_set']; omega) | (simp; done) | assumption | decide | (refine not_not_intro ?_; assumption)) only [at_zero, at_succ, wp_bnd, wp_lift, wpO_some, wp_ret, nx_nxt, nx_brk, nx_ret, unblk_nxt, unblk_ret, unblk_brk, finM_nxt, finM_ret, outV_one, condM_t, condM_f, condM_dt, condM_df, gd_t, gd_f, gdf_t, gdf_f, gd_skip, gd_dt, gd_df, gdf_dt, gdf_df, pick_t, pick_f, pick_dt, pick_df, not_t, not_f, not_dec, isNil_ptr, isNil_ptr', isNil_pnil, isNil_pnil', nilck_ptr, faddr_ptr, Nat.zero_add, Nat.add_zero, wp_ld1, lenStr_str, lenSlc_slice, strV_str, i64_add, i64_sub, i64_mul, i64_in, int_eqd, int_ned, int_lss, int_leq, int_gtr, int_geq, str_eqd, str_ned, if_true, wp_bndH, wp_withH, wp_need, enc_int, enc_str, enc_byte, enc_bool, List.getElem?_cons_zero, List.getElem?_cons_succ, cellP_get, cellG_cells, wp_st1g, stG_c, eq_self, true_and, wp_stng, stnG_ok, wp_ldng, ldG_ok, wp_newcg, wp_boxg, Heap.get_push_eq, Heap.get_push_lt, Heap.get_set_eq, Heap.get_set_ne', Heap.next_push', Heap.next_set', Heap.set_push_lt, Heap.set_push_eq, Heap.set_set, fld1_agg, fldn_agg, ext_tuple, outV_nil, outV_two, outV_three, outV_four, chk_ld1g, chkO_int, chkO_bool, chkO_str, chkO_ptr, chkO_slc, chkO_map, List.set_cons_zero, List.set_cons_succ, List.length_cons, List.length_nil, List.drop_succ_cons, List.drop_zero, List.take_succ_cons, List.take_zero, List.nil_append, List.cons_append, splice, isOne_int, isOne_str, isOne_bool, isOne_slice, isOne_pointer, isOne_map, condM_nf, condM_nef, gd_nef, gdf_nef, pick_nef, build_eq, fillA_nil, fillA_one, fillA_agg, Option.map_some, resv_one, resv_two, freeIn_nil, fillA_slc, fillA_int, fillA_str, fillA_bool, fillA_ptr, fillA_map])
  refine ports_Recv_ok t5.box 1 0 _ fun gs6 H7 t6 => ?_
  rw [t5.st] at t6 ⊢
  rw [show recvS [exP] [⟨[], [5, 6], 0, 1⟩] 1 0 = ([⟨[], [6], 0, 1⟩], 5, 0, 0) by decide] at t6 ⊢
  (try simp (maxSteps := 1000000) (disch := first | omega | (simp only [Heap.next_push', Heap.next_set']; omega) | (simp; done) | assumption | decide | (refine not_not_intro ?_; assumption)) only [at_zero, at_succ, wp_bnd, wp_lift, wpO_some, wp_ret, nx_nxt, nx_brk, nx_ret, unblk_nxt, unblk_ret, unblk_brk, finM_nxt, finM_ret, outV_one, condM_t, condM_f, condM_dt, condM_df, gd_t, gd_f, gdf_t, gdf_f, gd_skip, gd_dt, gd_df, gdf_dt, gdf_df, pick_t, pick_f, pick_dt, pick_df, not_t, not_f, not_dec, isNil_ptr, isNil_ptr', isNil_pnil, isNil_pnil', nilck_ptr, faddr_ptr, Nat.zero_add, Nat.add_zero, wp_ld1, lenStr_str, lenSlc_slice, strV_str, i64_add, i64_sub, i64_mul, i64_in, int_eqd, int_ned, int_lss, int_leq, int_gtr, int_geq, str_eqd, str_ned, if_true, wp_bndH, wp_withH, wp_need, enc_int, enc_str, enc_byte, enc_bool, List.getElem?_cons_zero, List.getElem?_cons_succ, cellP_get, cellG_cells, wp_st1g, stG_c, eq_self, true_and, wp_stng, stnG_ok, wp_ldng, ldG_ok, wp_newcg, wp_boxg, Heap.get_push_eq, Heap.get_push_lt, Heap.get_set_eq, Heap.get_set_ne', Heap.next_push', Heap.next_set', Heap.set_push_lt, Heap.set_push_eq, Heap.set_set, fld1_agg, fldn_agg, ext_tuple, outV_nil, outV_two, outV_three, outV_four, chk_ld1g, chkO_int, chkO_bool, chkO_str, chkO_ptr, chkO_slc, chkO_map, List.set_cons_zero, List.set_cons_succ, List.length_cons, List.length_nil, List.drop_succ_cons, List.drop_zero, List.take_succ_cons, List.take_zero, List.nil_append, List.cons_append, splice, isOne_int, isOne_str, isOne_bool, isOne_slice, isOne_pointer, isOne_map, condM_nf, condM_nef, gd_nef, gdf_nef, pick_nef, build_eq, fillA_nil, fillA_one, fillA_agg, Option.map_some, resv_one, resv_two, freeIn_nil, fillA_slc, fillA_int, fillA_str, fillA_bool, fillA_ptr, fillA_map])
  refine ports_Recv_ok t6.box 1 0 _ fun gs7 H8 t7 => ?_
  rw [t6.st] at t7 ⊢
  rw [show recvS [exP] [⟨[], [6], 0, 1⟩] 1 0 = ([⟨[], [], 0, 1⟩], 6, 0, 0) by decide] at t7 ⊢
  (try simp (maxSteps := 1000000) (disch := first | omega | (simp only [Heap.next_push', Heap.next_set']; omega) | (simp; done) | assumption | decide | (refine not_not_intro ?_; assumption)) only [at_zero, at_succ, wp_bnd, wp_lift, wpO_some, wp_ret, nx_nxt, nx_brk, nx_ret, unblk_nxt, unblk_ret, unblk_brk, finM_nxt, finM_ret, outV_one, condM_t, condM_f, condM_dt, condM_df, gd_t, gd_f, gdf_t, gdf_f, gd_skip, gd_dt, gd_df, gdf_dt, gdf_df, pick_t, pick_f, pick_dt, pick_df, not_t, not_f, not_dec, isNil_ptr, isNil_ptr', isNil_pnil, isNil_pnil', nilck_ptr, faddr_ptr, Nat.zero_add, Nat.add_zero, wp_ld1, lenStr_str, lenSlc_slice, strV_str, i64_add, i64_sub, i64_mul, i64_in, int_eqd, int_ned, int_lss, int_leq, int_gtr, int_geq, str_eqd, str_ned, if_true, wp_bndH, wp_withH, wp_need, enc_int, enc_str, enc_byte, enc_bool, List.getElem?_cons_zero, List.getElem?_cons_succ, cellP_get, cellG_cells, wp_st1g, stG_c, eq_self, true_and, wp_stng, stnG_ok, wp_ldng, ldG_ok, wp_newcg, wp_boxg, Heap.get_push_eq, Heap.get_push_lt, Heap.get_set_eq, Heap.get_set_ne', Heap.next_push', Heap.next_set', Heap.set_push_lt, Heap.set_push_eq, Heap.set_set, fld1_agg, fldn_agg, ext_tuple, outV_nil, outV_two, outV_three, outV_four, chk_ld1g, chkO_int, chkO_bool, chkO_str, chkO_ptr, chkO_slc, chkO_map, List.set_cons_zero, List.set_cons_succ, List.length_cons, List.length_nil, List.drop_succ_cons, List.drop_zero, List.take_succ_cons, List.take_zero, List.nil_append, List.cons_append, splice, isOne_int, isOne_str, isOne_bool, isOne_slice, isOne_pointer, isOne_map, condM_nf, condM_nef, gd_nef, gdf_nef, pick_nef, build_eq, fillA_nil, fillA_one, fillA_agg, Option.map_some, resv_one, resv_two, freeIn_nil, fillA_slc, fillA_int, fillA_str, fillA_bool, fillA_ptr, fillA_map])
  refine ports_Recv_ok t7.box 1 0 _ fun gs8 H9 t8 => ?_
  rw [t7.st] at t8 ⊢
  rw [show recvS [exP] [⟨[], [], 0, 1⟩] 1 0 = ([⟨[], [], 0, 1⟩], 0, 0, 5) by decide] at t8 ⊢
  (try simp (maxSteps := 1000000) (disch := first | omega | (simp only [Heap.next_push', Heap.next_set']; omega) | (simp; done) | assumption | decide | (refine not_not_intro ?_; assumption)) only [at_zero, at_succ, wp_bnd, wp_lift, wpO_some, wp_ret, nx_nxt, nx_brk, nx_ret, unblk_nxt, unblk_ret, unblk_brk, finM_nxt, finM_ret, outV_one, condM_t, condM_f, condM_dt, condM_df, gd_t, gd_f, gdf_t, gdf_f, gd_skip, gd_dt, gd_df, gdf_dt, gdf_df, pick_t, pick_f, pick_dt, pick_df, not_t, not_f, not_dec, isNil_ptr, isNil_ptr', isNil_pnil, isNil_pnil', nilck_ptr, faddr_ptr, Nat.zero_add, Nat.add_zero, wp_ld1, lenStr_str, lenSlc_slice, strV_str, i64_add, i64_sub, i64_mul, i64_in, int_eqd, int_ned, int_lss, int_leq, int_gtr, int_geq, str_eqd, str_ned, if_true, wp_bndH, wp_withH, wp_need, enc_int, enc_str, enc_byte, enc_bool, List.getElem?_cons_zero, List.getElem?_cons_succ, cellP_get, cellG_cells, wp_st1g, stG_c, eq_self, true_and, wp_stng, stnG_ok, wp_ldng, ldG_ok, wp_newcg, wp_boxg, Heap.get_push_eq, Heap.get_push_lt, Heap.get_set_eq, Heap.get_set_ne', Heap.next_push', Heap.next_set', Heap.set_push_lt, Heap.set_push_eq, Heap.set_set, fld1_agg, fldn_agg, ext_tuple, outV_nil, outV_two, outV_three, outV_four, chk_ld1g, chkO_int, chkO_bool, chkO_str, chkO_ptr, chkO_slc, chkO_map, List.set_cons_zero, List.set_cons_succ, List.length_cons, List.length_nil, List.drop_succ_cons, List.drop_zero, List.take_succ_cons, List.take_zero, List.nil_append, List.cons_append, splice, isOne_int, isOne_str, isOne_bool, isOne_slice, isOne_pointer, isOne_map, condM_nf, condM_nef, gd_nef, gdf_nef, pick_nef, build_eq, fillA_nil, fillA_one, fillA_agg, Option.map_some, resv_one, resv_two, freeIn_nil, fillA_slc, fillA_int, fillA_str, fillA_bool, fillA_ptr, fillA_map])
  refine ports_Waits_ok t8.box 0 _ fun H10 k10 => ?_
  rw [t8.st]
  rw [show waitsS [⟨[], [], 0, 1⟩] 0 = (0, 0, 1, 0) by decide]
  (try simp (maxSteps := 1000000) (disch := first | omega | (simp only [Heap.next_push', Heap.next_set']; omega) | (simp; done) | assumption | decide | (refine not_not_intro ?_; assumption)) only [at_zero, at_succ, wp_bnd, wp_lift, wpO_some, wp_ret, nx_nxt, nx_brk, nx_ret, unblk_nxt, unblk_ret, unblk_brk, finM_nxt, finM_ret, outV_one, condM_t, condM_f, condM_dt, condM_df, gd_t, gd_f, gdf_t, gdf_f, gd_skip, gd_dt, gd_df, gdf_dt, gdf_df, pick_t, pick_f, pick_dt, pick_df, not_t, not_f, not_dec, isNil_ptr, isNil_ptr', isNil_pnil, isNil_pnil', nilck_ptr, faddr_ptr, Nat.zero_add, Nat.add_zero, wp_ld1, lenStr_str, lenSlc_slice, strV_str, i64_add, i64_sub, i64_mul, i64_in, int_eqd, int_ned, int_lss, int_leq, int_gtr, int_geq, str_eqd, str_ned, if_true, wp_bndH, wp_withH, wp_need, enc_int, enc_str, enc_byte, enc_bool, List.getElem?_cons_zero, List.getElem?_cons_succ, cellP_get, cellG_cells, wp_st1g, stG_c, eq_self, true_and, wp_stng, stnG_ok, wp_ldng, ldG_ok, wp_newcg, wp_boxg, Heap.get_push_eq, Heap.get_push_lt, Heap.get_set_eq, Heap.get_set_ne', Heap.next_push', Heap.next_set', Heap.set_push_lt, Heap.set_push_eq, Heap.set_set, fld1_agg, fldn_agg, ext_tuple, outV_nil, outV_two, outV_three, outV_four, chk_ld1g, chkO_int, chkO_bool, chkO_str, chkO_ptr, chkO_slc, chkO_map, List.set_cons_zero, List.set_cons_succ, List.length_cons, List.length_nil, List.drop_succ_cons, List.drop_zero, List.take_succ_cons, List.take_zero, List.nil_append, List.cons_append, splice, isOne_int, isOne_str, isOne_bool, isOne_slice, isOne_pointer, isOne_map, condM_nf, condM_nef, gd_nef, gdf_nef, pick_nef, build_eq, fillA_nil, fillA_one, fillA_agg, Option.map_some, resv_one, resv_two, freeIn_nil, fillA_slc, fillA_int, fillA_str, fillA_bool, fillA_ptr, fillA_map])
  have T := t1.trans (t2.trans (t3.trans (t4.trans (t5.trans (t6.trans (t7.trans t8))))))
  have hn := k12.next
  exact hQ _ ((k12.trans T.keeps (fun b hb hm => by have := hf b hm; have := k1.next; omega)).trans k10 (fun _ _ h => h))

/-- two boxes of the same ports, both laid behind H0 -/
structure Duo (H0 H : Heap) (p sb : Nat) (lv : V) (p' sb' : Nat) (lv' : V) (ls : List Port) (gs gs' : List GS) : Prop where
  a : BoxV H p lv sb ls gs
  b : BoxV H p' lv' sb' ls gs'
  dis : ∀ x ∈ foot p sb lv gs, x ∉ foot p' sb' lv' gs'
  lowA : ∀ x ∈ foot p sb lv gs, H0.next ≤ x
  lowB : ∀ x ∈ foot p' sb' lv' gs', H0.next ≤ x
  k : Keeps [] H0 H
section
variable {H0 H H' : Heap} {p sb p' sb' : Nat} {lv lv' : V} {ls : List Port} {gs gs' gs1 : List GS} {st1 : List PSt}
theorem Duo.keep (d : Duo H0 H p sb lv p' sb' lv' ls gs gs') (hk : Keeps [] H H') : Duo H0 H' p sb lv p' sb' lv' ls gs gs' :=
  ⟨d.a.keep0 hk, d.b.keep0 hk, d.dis, d.lowA, d.lowB, d.k.trans hk (fun _ _ h => h)⟩
theorem Duo.swap (d : Duo H0 H p sb lv p' sb' lv' ls gs gs') : Duo H0 H p' sb' lv' p sb lv ls gs' gs := ⟨d.b, d.a, fun x h h' => d.dis x h' h, d.lowB, d.lowA, d.k⟩
theorem Duo.turnA (d : Duo H0 H p sb lv p' sb' lv' ls gs gs') (t : Turn H H' p lv sb ls gs gs1 st1) : Duo H0 H' p sb lv p' sb' lv' ls gs1 gs' := by
  have hn := d.k.next
  refine ⟨t.box, d.b.keep t.keeps (fun b hb hm => d.dis b hm hb), fun x hx hy => ?_, fun x hx => ?_, d.lowB, d.k.trans t.keeps (fun b hb hm => by have := d.lowA b hm; omega)⟩
  · rcases t.fresh x hx with q | q
    · exact d.dis x q hy
    · have := d.b.lt x hy; omega
  · rcases t.fresh x hx with q | q
    · exact d.lowA x q
    · omega
theorem Duo.turnB (d : Duo H0 H p sb lv p' sb' lv' ls gs gs') (t : Turn H H' p' lv' sb' ls gs' gs1 st1) : Duo H0 H' p sb lv p' sb' lv' ls gs gs1 := (d.swap.turnA t).swap
/-- a block beside a box stays as it is, and beside it -/
theorem Turn.aside (t : Turn H H' p lv sb ls gs gs1 st1) {L : Nat} {x : Blk} (hL : H.get L = some x) (hn : L ∉ foot p sb lv gs) : H'.get L = some x ∧ L ∉ foot p sb lv gs1 :=
  ⟨t.keeps.get hL hn, fun h => by rcases t.fresh L h with q | q; exact hn q; have := Heap.get_lt hL; omega⟩
theorem Turn.st_len (t : Turn H H' p lv sb ls gs gs1 st1) : st1.length = ls.length := by rw [← t.st, List.length_map, t.box.len]
theorem BoxV.st_len (h : BoxV H p lv sb ls gs) : (gs.map GS.st).length = ls.length := by rw [List.length_map, h.len]
end
end Go.AM.Cap
