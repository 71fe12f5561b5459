/- ports: Recv, Frame, Undo, Waits -/
import Derived.Test.YteekfnhhjmcohaaPoD
set_option linter.all false
set_option maxHeartbeats 8000000
namespace Go.AM.Cap
open Go.AM Go.Proofs

def recvS (ls : List Port) (st : List PSt) (part port : Int) : List PSt × Int × Int × Int :=
  if ¬ okP ls part port then (st, 0, 0, 1) else
  if (portAt ls port).dst ≠ part then (st, 0, 0, 200) else
  if (stAt st port).t.length = 0 then (st, 0, 0, 5) else
  if (portAt ls port).kind = 1 then (st, (stAt st port).t.getD 0 0, (stAt st port).age, 0)
  else (st.set port.toNat { stAt st port with t := (stAt st port).t.drop 1 }, (stAt st port).t.getD 0 0, 0, 0)

theorem ports_Recv_ok {H : Heap} {p sb : Nat} {lv : V} {ls : List Port} {gs : List GS} (h : BoxV H p lv sb ls gs) (part port : Int) (Q : V → Heap → Prop)
    (hQ : ∀ gs' H', Turn H H' p lv sb ls gs gs' (recvS ls (gs.map GS.st) part port).1 → Q (.tuple #[i64 (recvS ls (gs.map GS.st) part port).2.1, i64 (recvS ls (gs.map GS.st) part port).2.2.1, i64 (recvS ls (gs.map GS.st) part port).2.2.2]) H') : wp (A_ports_Box_Recv [ptr p 0, i64 part, i64 port]) Q H := by
  show wp (F_ports_Box_Recv (ptr p 0) (i64 part) (i64 port)) Q H
  simp only [F_ports_Box_Recv, wp_bnd]
  refine ports_port_ok h part port _ (fun hb H1 k1 => ?_) (fun hb H1 k1 => ?_)
  · (try simp (maxSteps := 1000000) (disch := first | omega | (simp only [Heap.next_push', Heap.next_set']; omega) | (simp; done) | assumption | decide | (refine not_not_intro ?_; assumption)) only [at_zero, at_succ, wp_bnd, wp_lift, wpO_some, wp_ret, nx_nxt, nx_brk, nx_ret, unblk_nxt, unblk_ret, unblk_brk, finM_nxt, finM_ret, outV_one, condM_t, condM_f, condM_dt, condM_df, gd_t, gd_f, gdf_t, gdf_f, gd_skip, gd_dt, gd_df, gdf_dt, gdf_df, pick_t, pick_f, pick_dt, pick_df, not_t, not_f, not_dec, isNil_ptr, isNil_ptr', isNil_pnil, isNil_pnil', nilck_ptr, faddr_ptr, Nat.zero_add, Nat.add_zero, wp_ld1, lenStr_str, lenSlc_slice, strV_str, i64_add, i64_sub, i64_mul, i64_in, int_eqd, int_ned, int_lss, int_leq, int_gtr, int_geq, str_eqd, str_ned, if_true, wp_bndH, wp_withH, wp_need, enc_int, enc_str, enc_byte, enc_bool, List.getElem?_cons_zero, List.getElem?_cons_succ, cellP_get, cellG_cells, wp_st1g, stG_c, eq_self, true_and, wp_stng, stnG_ok, wp_ldng, ldG_ok, wp_newcg, wp_boxg, Heap.get_push_eq, Heap.get_push_lt, Heap.get_set_eq, Heap.get_set_ne', Heap.next_push', Heap.next_set', Heap.set_push_lt, Heap.set_push_eq, Heap.set_set, fld1_agg, fldn_agg, ext_tuple, outV_nil, outV_two, outV_three, outV_four, chk_ld1g, chkO_int, chkO_bool, chkO_str, chkO_ptr, chkO_slc, chkO_map, List.set_cons_zero, List.set_cons_succ, List.length_cons, List.length_nil, List.drop_succ_cons, List.drop_zero, List.take_succ_cons, List.take_zero, List.nil_append, List.cons_append, splice, isOne_int, isOne_str, isOne_bool, isOne_slice, isOne_pointer, isOne_map, condM_nf, condM_nef, gd_nef, gdf_nef, pick_nef, build_eq, fillA_nil, fillA_one, fillA_agg, Option.map_some, resv_one, resv_two, freeIn_nil, fillA_slc, fillA_int, fillA_str, fillA_bool, fillA_ptr, fillA_map, zeroPort])
    rw [recvS, if_pos hb] at hQ
    exact hQ gs _ (Turn.refl h (k1.trans (Keeps.push _ _ _) (fun _ _ h => h)))
  have ⟨ha, hb', hc, hd⟩ := hb
  have hlen := h.len
  obtain ⟨g, hg, hst, hgd⟩ := st_at (gs := gs) hc (by omega)
  have hspec : recvS ls (gs.map GS.st) part port = if (portAt ls port).dst ≠ part then (gs.map GS.st, 0, 0, 200) else
    if g.t.length = 0 then (gs.map GS.st, 0, 0, 5) else
    if (portAt ls port).kind = 1 then (gs.map GS.st, g.t.getD 0 0, g.age, 0)
    else ((gs.map GS.st).set port.toNat { g.st with t := g.t.drop 1 }, g.t.getD 0 0, 0, 0) := by rw [recvS, if_neg (fun hn => hn hb), hst]; rfl
  have hi : port.toNat < gs.length := by omega
  have hsz := h.sz _ _ hg
  generalize hq : portAt ls port = q at *
  (try simp (maxSteps := 1000000) (disch := first | omega | (simp only [Heap.next_push', Heap.next_set']; omega) | (simp; done) | assumption | decide | (refine not_not_intro ?_; assumption)) only [at_zero, at_succ, wp_bnd, wp_lift, wpO_some, wp_ret, nx_nxt, nx_brk, nx_ret, unblk_nxt, unblk_ret, unblk_brk, finM_nxt, finM_ret, outV_one, condM_t, condM_f, condM_dt, condM_df, gd_t, gd_f, gdf_t, gdf_f, gd_skip, gd_dt, gd_df, gdf_dt, gdf_df, pick_t, pick_f, pick_dt, pick_df, not_t, not_f, not_dec, isNil_ptr, isNil_ptr', isNil_pnil, isNil_pnil', nilck_ptr, faddr_ptr, Nat.zero_add, Nat.add_zero, wp_ld1, lenStr_str, lenSlc_slice, strV_str, i64_add, i64_sub, i64_mul, i64_in, int_eqd, int_ned, int_lss, int_leq, int_gtr, int_geq, str_eqd, str_ned, if_true, wp_bndH, wp_withH, wp_need, enc_int, enc_str, enc_byte, enc_bool, List.getElem?_cons_zero, List.getElem?_cons_succ, cellP_get, cellG_cells, wp_st1g, stG_c, eq_self, true_and, wp_stng, stnG_ok, wp_ldng, ldG_ok, wp_newcg, wp_boxg, Heap.get_push_eq, Heap.get_push_lt, Heap.get_set_eq, Heap.get_set_ne', Heap.next_push', Heap.next_set', Heap.set_push_lt, Heap.set_push_eq, Heap.set_set, fld1_agg, fldn_agg, ext_tuple, outV_nil, outV_two, outV_three, outV_four, chk_ld1g, chkO_int, chkO_bool, chkO_str, chkO_ptr, chkO_slc, chkO_map, List.set_cons_zero, List.set_cons_succ, List.length_cons, List.length_nil, List.drop_succ_cons, List.drop_zero, List.take_succ_cons, List.take_zero, List.nil_append, List.cons_append, splice, isOne_int, isOne_str, isOne_bool, isOne_slice, isOne_pointer, isOne_map, condM_nf, condM_nef, gd_nef, gdf_nef, pick_nef, build_eq, fillA_nil, fillA_one, fillA_agg, Option.map_some, resv_one, resv_two, freeIn_nil, fillA_slc, fillA_int, fillA_str, fillA_bool, fillA_ptr, fillA_map, portAt_agg])
  have k2 : Keeps [] H (H1.push (some (.cells true [i64 q.kind, i64 q.src, i64 q.dst, i64 q.typ, i64 q.cap]))) := k1.trans (Keeps.push _ _ _) (fun _ _ h => h)
  have hq2 := Heap.get_push_self H1 (some (.cells true [i64 q.kind, i64 q.src, i64 q.dst, i64 q.typ, i64 q.cap]))
  generalize hH2 : H1.push (some (.cells true [i64 q.kind, i64 q.src, i64 q.dst, i64 q.typ, i64 q.cap])) = H2 at *
  have h2 := h.keep0 k2
  have hst2 := h2.states
  rw [← gs_self hg] at hst2
  have htl := h2.segT _ _ hg
  have hlT : lenSlc g.T.v = some (i64 g.t.length) := by have := htl.len; rwa [List.length_map] at this
  by_cases hdst : q.dst ≠ part
  · rw [if_pos hdst] at hspec
    (try simp (maxSteps := 1000000) (disch := first | omega | (simp only [Heap.next_push', Heap.next_set']; omega) | (simp; done) | assumption | decide | (refine not_not_intro ?_; assumption)) only [at_zero, at_succ, wp_bnd, wp_lift, wpO_some, wp_ret, nx_nxt, nx_brk, nx_ret, unblk_nxt, unblk_ret, unblk_brk, finM_nxt, finM_ret, outV_one, condM_t, condM_f, condM_dt, condM_df, gd_t, gd_f, gdf_t, gdf_f, gd_skip, gd_dt, gd_df, gdf_dt, gdf_df, pick_t, pick_f, pick_dt, pick_df, not_t, not_f, not_dec, isNil_ptr, isNil_ptr', isNil_pnil, isNil_pnil', nilck_ptr, faddr_ptr, Nat.zero_add, Nat.add_zero, wp_ld1, lenStr_str, lenSlc_slice, strV_str, i64_add, i64_sub, i64_mul, i64_in, int_eqd, int_ned, int_lss, int_leq, int_gtr, int_geq, str_eqd, str_ned, if_true, wp_bndH, wp_withH, wp_need, enc_int, enc_str, enc_byte, enc_bool, List.getElem?_cons_zero, List.getElem?_cons_succ, cellP_get, cellG_cells, wp_st1g, stG_c, eq_self, true_and, wp_stng, stnG_ok, wp_ldng, ldG_ok, wp_newcg, wp_boxg, Heap.get_push_eq, Heap.get_push_lt, Heap.get_set_eq, Heap.get_set_ne', Heap.next_push', Heap.next_set', Heap.set_push_lt, Heap.set_push_eq, Heap.set_set, fld1_agg, fldn_agg, ext_tuple, outV_nil, outV_two, outV_three, outV_four, chk_ld1g, chkO_int, chkO_bool, chkO_str, chkO_ptr, chkO_slc, chkO_map, List.set_cons_zero, List.set_cons_succ, List.length_cons, List.length_nil, List.drop_succ_cons, List.drop_zero, List.take_succ_cons, List.take_zero, List.nil_append, List.cons_append, splice, isOne_int, isOne_str, isOne_bool, isOne_slice, isOne_pointer, isOne_map, condM_nf, condM_nef, gd_nef, gdf_nef, pick_nef, build_eq, fillA_nil, fillA_one, fillA_agg, Option.map_some, resv_one, resv_two, freeIn_nil, fillA_slc, fillA_int, fillA_str, fillA_bool, fillA_ptr, fillA_map, hq2])
    rw [hspec] at hQ
    exact hQ gs _ (Turn.refl h k2)
  rw [if_neg hdst] at hspec
  by_cases ht0 : g.t.length = 0
  · rw [if_pos ht0] at hspec
    (try simp (maxSteps := 1000000) (disch := first | omega | (simp only [Heap.next_push', Heap.next_set']; omega) | (simp; done) | assumption | decide | (refine not_not_intro ?_; assumption)) only [at_zero, at_succ, wp_bnd, wp_lift, wpO_some, wp_ret, nx_nxt, nx_brk, nx_ret, unblk_nxt, unblk_ret, unblk_brk, finM_nxt, finM_ret, outV_one, condM_t, condM_f, condM_dt, condM_df, gd_t, gd_f, gdf_t, gdf_f, gd_skip, gd_dt, gd_df, gdf_dt, gdf_df, pick_t, pick_f, pick_dt, pick_df, not_t, not_f, not_dec, isNil_ptr, isNil_ptr', isNil_pnil, isNil_pnil', nilck_ptr, faddr_ptr, Nat.zero_add, Nat.add_zero, wp_ld1, lenStr_str, lenSlc_slice, strV_str, i64_add, i64_sub, i64_mul, i64_in, int_eqd, int_ned, int_lss, int_leq, int_gtr, int_geq, str_eqd, str_ned, if_true, wp_bndH, wp_withH, wp_need, enc_int, enc_str, enc_byte, enc_bool, List.getElem?_cons_zero, List.getElem?_cons_succ, cellP_get, cellG_cells, wp_st1g, stG_c, eq_self, true_and, wp_stng, stnG_ok, wp_ldng, ldG_ok, wp_newcg, wp_boxg, Heap.get_push_eq, Heap.get_push_lt, Heap.get_set_eq, Heap.get_set_ne', Heap.next_push', Heap.next_set', Heap.set_push_lt, Heap.set_push_eq, Heap.set_set, fld1_agg, fldn_agg, ext_tuple, outV_nil, outV_two, outV_three, outV_four, chk_ld1g, chkO_int, chkO_bool, chkO_str, chkO_ptr, chkO_slc, chkO_map, List.set_cons_zero, List.set_cons_succ, List.length_cons, List.length_nil, List.drop_succ_cons, List.drop_zero, List.take_succ_cons, List.take_zero, List.nil_append, List.cons_append, splice, isOne_int, isOne_str, isOne_bool, isOne_slice, isOne_pointer, isOne_map, condM_nf, condM_nef, gd_nef, gdf_nef, pick_nef, build_eq, fillA_nil, fillA_one, fillA_agg, Option.map_some, resv_one, resv_two, freeIn_nil, fillA_slc, fillA_int, fillA_str, fillA_bool, fillA_ptr, fillA_map, hq2, hst2, gs_get1, hlT])
    rw [hspec] at hQ
    exact hQ gs _ (Turn.refl h k2)
  rw [if_neg ht0] at hspec
  have hcell : cellP H2 (ptr (slB g.T.v) (slO g.T.v)) = some (i64 (g.t.getD 0 0)) := by
    have := htl.cell (i := 0) (by simp; omega)
    rw [Nat.add_zero] at this
    rw [this, List.getElem?_map, List.getD_eq_getElem?_getD, List.getElem?_eq_getElem (by omega)]; rfl
  have haddr : iaddrS 1 g.T.v (i64 0) = some (ptr (slB g.T.v) (slO g.T.v)) := by
    have := htl.addr (k := .i64) (i := 0) (by omega) (by simp; omega)
    simpa using this
  by_cases hk : q.kind = 1
  · rw [if_pos hk] at hspec
    (try simp (maxSteps := 1000000) (disch := first | omega | (simp only [Heap.next_push', Heap.next_set']; omega) | (simp; done) | assumption | decide | (refine not_not_intro ?_; assumption)) only [at_zero, at_succ, wp_bnd, wp_lift, wpO_some, wp_ret, nx_nxt, nx_brk, nx_ret, unblk_nxt, unblk_ret, unblk_brk, finM_nxt, finM_ret, outV_one, condM_t, condM_f, condM_dt, condM_df, gd_t, gd_f, gdf_t, gdf_f, gd_skip, gd_dt, gd_df, gdf_dt, gdf_df, pick_t, pick_f, pick_dt, pick_df, not_t, not_f, not_dec, isNil_ptr, isNil_ptr', isNil_pnil, isNil_pnil', nilck_ptr, faddr_ptr, Nat.zero_add, Nat.add_zero, wp_ld1, lenStr_str, lenSlc_slice, strV_str, i64_add, i64_sub, i64_mul, i64_in, int_eqd, int_ned, int_lss, int_leq, int_gtr, int_geq, str_eqd, str_ned, if_true, wp_bndH, wp_withH, wp_need, enc_int, enc_str, enc_byte, enc_bool, List.getElem?_cons_zero, List.getElem?_cons_succ, cellP_get, cellG_cells, wp_st1g, stG_c, eq_self, true_and, wp_stng, stnG_ok, wp_ldng, ldG_ok, wp_newcg, wp_boxg, Heap.get_push_eq, Heap.get_push_lt, Heap.get_set_eq, Heap.get_set_ne', Heap.next_push', Heap.next_set', Heap.set_push_lt, Heap.set_push_eq, Heap.set_set, fld1_agg, fldn_agg, ext_tuple, outV_nil, outV_two, outV_three, outV_four, chk_ld1g, chkO_int, chkO_bool, chkO_str, chkO_ptr, chkO_slc, chkO_map, List.set_cons_zero, List.set_cons_succ, List.length_cons, List.length_nil, List.drop_succ_cons, List.drop_zero, List.take_succ_cons, List.take_zero, List.nil_append, List.cons_append, splice, isOne_int, isOne_str, isOne_bool, isOne_slice, isOne_pointer, isOne_map, condM_nf, condM_nef, gd_nef, gdf_nef, pick_nef, build_eq, fillA_nil, fillA_one, fillA_agg, Option.map_some, resv_one, resv_two, freeIn_nil, fillA_slc, fillA_int, fillA_str, fillA_bool, fillA_ptr, fillA_map, hq2, hst2, gs_get1, gs_get2, hlT, haddr, hcell])
    rw [hspec] at hQ
    exact hQ gs _ (Turn.refl h k2)
  · rw [if_neg hk] at hspec
    obtain ⟨w, e1, s1, v1, o1⟩ := htl.sub (lo := some (i64 1)) (hi := none) (a := 1) (b := g.t.length) (by simp [bound]; omega) (fun c _ => by simp [bound]) (by omega) (by simp)
    obtain ⟨sv, rfl⟩ := Seg.sv s1
    (try simp (maxSteps := 1000000) (disch := first | omega | (simp only [Heap.next_push', Heap.next_set']; omega) | (simp; done) | assumption | decide | (refine not_not_intro ?_; assumption)) only [at_zero, at_succ, wp_bnd, wp_lift, wpO_some, wp_ret, nx_nxt, nx_brk, nx_ret, unblk_nxt, unblk_ret, unblk_brk, finM_nxt, finM_ret, outV_one, condM_t, condM_f, condM_dt, condM_df, gd_t, gd_f, gdf_t, gdf_f, gd_skip, gd_dt, gd_df, gdf_dt, gdf_df, pick_t, pick_f, pick_dt, pick_df, not_t, not_f, not_dec, isNil_ptr, isNil_ptr', isNil_pnil, isNil_pnil', nilck_ptr, faddr_ptr, Nat.zero_add, Nat.add_zero, wp_ld1, lenStr_str, lenSlc_slice, strV_str, i64_add, i64_sub, i64_mul, i64_in, int_eqd, int_ned, int_lss, int_leq, int_gtr, int_geq, str_eqd, str_ned, if_true, wp_bndH, wp_withH, wp_need, enc_int, enc_str, enc_byte, enc_bool, List.getElem?_cons_zero, List.getElem?_cons_succ, cellP_get, cellG_cells, wp_st1g, stG_c, eq_self, true_and, wp_stng, stnG_ok, wp_ldng, ldG_ok, wp_newcg, wp_boxg, Heap.get_push_eq, Heap.get_push_lt, Heap.get_set_eq, Heap.get_set_ne', Heap.next_push', Heap.next_set', Heap.set_push_lt, Heap.set_push_eq, Heap.set_set, fld1_agg, fldn_agg, ext_tuple, outV_nil, outV_two, outV_three, outV_four, chk_ld1g, chkO_int, chkO_bool, chkO_str, chkO_ptr, chkO_slc, chkO_map, List.set_cons_zero, List.set_cons_succ, List.length_cons, List.length_nil, List.drop_succ_cons, List.drop_zero, List.take_succ_cons, List.take_zero, List.nil_append, List.cons_append, splice, isOne_int, isOne_str, isOne_bool, isOne_slice, isOne_pointer, isOne_map, condM_nf, condM_nef, gd_nef, gdf_nef, pick_nef, build_eq, fillA_nil, fillA_one, fillA_agg, Option.map_some, resv_one, resv_two, freeIn_nil, fillA_slc, fillA_int, fillA_str, fillA_bool, fillA_ptr, fillA_map, hq2, hst2, gs_get1, hlT, haddr, hcell, ports_Box_Recv_k0, e1, stG_gs0, stG_gs1, stG_gs2, stG_gs3, SV.isOne, gs_set1v])
    rw [hspec] at hQ
    have e2 : ((g.t.map i64).drop 1).take (g.t.length - 1) = (g.t.drop 1).map i64 := by
      rw [List.take_of_length_le (by simp), List.map_drop]
    rw [e2] at s1
    refine hQ _ _ (h.put (g' := { g with T := sv, t := g.t.drop 1 }) hg (k2.mono (by simp)) (gs_cong rfl) ((h.segS _ _ hg).keep k2 (by simp)) s1 ?_ ?_ ⟨hsz.1, by simp; omega⟩)
    · intro b hb hb2
      exact h.dST _ _ hg b hb (v1 b hb2)
    · intro b hb
      simp only [GS.fp, List.mem_append] at hb
      left
      rcases hb with hb | hb
      · simp [GS.fp, hb]
      · simp [GS.fp, v1 b hb]

theorem maxV_int (k k' : IntKind) (x y : Int) : maxV (.int k x) (.int k' y) = some (.int k (if y > x then y else x)) := rfl
theorem minV_int (k k' : IntKind) (x y : Int) : minV (.int k x) (.int k' y) = some (.int k (if y < x then y else x)) := rfl

def frameP (q : Port) (x : PSt) : PSt :=
  if q.kind = 2 then { x with s := [], t := (x.t ++ x.s).take q.cap.toNat, lost := w64 (x.lost + if ((x.t ++ x.s).length : Int) - q.cap > 0 then ((x.t ++ x.s).length : Int) - q.cap else 0) } else
  if x.s.length > 0 then { x with s := [], t := x.s, age := 0 } else
  if x.t.length > 0 then { x with s := [], age := w64 (x.age + 1) } else { x with s := [] }

theorem port_facts {ls : List Port} {gs : List GS} {H : Heap} {p sb : Nat} {lv : V} (h : BoxV H p lv sb ls gs) {i : Nat} (hi : i < gs.length) : ∃ g : GS, gs[i]? = some g ∧ (gs.map GS.st).getD i default = g.st := by
  refine ⟨gs[i], List.getElem?_eq_getElem hi, ?_⟩
  rw [List.getD_eq_getElem?_getD, List.getElem?_map, List.getElem?_eq_getElem hi]; rfl

theorem ports_frame_ok {H : Heap} {p sb : Nat} {lv : V} {ls : List Port} {gs : List GS} (h : BoxV H p lv sb ls gs) {i : Nat} {g : GS} (hg : gs[i]? = some g) (q : Port) (hq : wrongP q = 0) (Q : V → Heap → Prop)
    (hQ : ∀ gs' H' v, Turn H H' p lv sb ls gs gs' ((gs.map GS.st).set i (frameP q g.st)) → Q v H') : wp (A_ports_state_frame [ptr sb (i * 4), q.agg]) Q H := by
  show wp (F_ports_state_frame (ptr sb (i * 4)) q.agg) Q H
  have hi : i < gs.length := by
    rcases Nat.lt_or_ge i gs.length with q | q
    · exact q
    · rw [List.getElem?_eq_none q] at hg; cases hg
  have hsz := h.sz _ _ hg
  have hkind := good_kind hq
  simp only [F_ports_state_frame, wp_bnd]
  refine (wp_boxg (by rfl)).mpr ?_
  have k2 : Keeps [] H (H.push (some (.cells true [i64 q.kind, i64 q.src, i64 q.dst, i64 q.typ, i64 q.cap]))) := Keeps.push _ _ _
  have hq2 := Heap.get_push_self H (some (.cells true [i64 q.kind, i64 q.src, i64 q.dst, i64 q.typ, i64 q.cap]))
  have hn2 : (H.push (some (.cells true [i64 q.kind, i64 q.src, i64 q.dst, i64 q.typ, i64 q.cap]))).next = H.next + 1 := by simp
  generalize hH2 : H.push (some (.cells true [i64 q.kind, i64 q.src, i64 q.dst, i64 q.typ, i64 q.cap])) = H2 at *
  have h2 := h.keep0 k2
  have hst2 := h2.states
  have hsbl : sb < H.next := h.lt sb (by simp [foot])
  rw [← gs_self hg] at hst2
  have hsl := h2.segS _ _ hg
  have htl := h2.segT _ _ hg
  have hlS : lenSlc g.S.v = some (i64 g.s.length) := by have := hsl.len; rwa [List.length_map] at this
  have hlT : lenSlc g.T.v = some (i64 g.t.length) := by have := htl.len; rwa [List.length_map] at this
  by_cases hk : q.kind = 2
  · have hf : frameP q g.st = { g.st with s := [], t := (g.t ++ g.s).take q.cap.toNat, lost := w64 (g.lost + if ((g.t ++ g.s).length : Int) - q.cap > 0 then ((g.t ++ g.s).length : Int) - q.cap else 0) } := by rw [frameP, if_pos hk]; rfl
    rw [hf] at hQ
    have hcap : 1 ≤ q.cap ∧ q.cap ≤ 16 := by omega
    (try simp (maxSteps := 1000000) (disch := first | omega | (simp only [Heap.next_push', Heap.next_set']; omega) | (simp; done) | assumption | decide | (refine not_not_intro ?_; assumption)) only [at_zero, at_succ, wp_bnd, wp_lift, wpO_some, wp_ret, nx_nxt, nx_brk, nx_ret, unblk_nxt, unblk_ret, unblk_brk, finM_nxt, finM_ret, outV_one, condM_t, condM_f, condM_dt, condM_df, gd_t, gd_f, gdf_t, gdf_f, gd_skip, gd_dt, gd_df, gdf_dt, gdf_df, pick_t, pick_f, pick_dt, pick_df, not_t, not_f, not_dec, isNil_ptr, isNil_ptr', isNil_pnil, isNil_pnil', nilck_ptr, faddr_ptr, Nat.zero_add, Nat.add_zero, wp_ld1, lenStr_str, lenSlc_slice, strV_str, i64_add, i64_sub, i64_mul, i64_in, int_eqd, int_ned, int_lss, int_leq, int_gtr, int_geq, str_eqd, str_ned, if_true, wp_bndH, wp_withH, wp_need, enc_int, enc_str, enc_byte, enc_bool, List.getElem?_cons_zero, List.getElem?_cons_succ, cellP_get, cellG_cells, wp_st1g, stG_c, eq_self, true_and, wp_stng, stnG_ok, wp_ldng, ldG_ok, wp_newcg, wp_boxg, Heap.get_push_eq, Heap.get_push_lt, Heap.get_set_eq, Heap.get_set_ne', Heap.next_push', Heap.next_set', Heap.set_push_lt, Heap.set_push_eq, Heap.set_set, fld1_agg, fldn_agg, ext_tuple, outV_nil, outV_two, outV_three, outV_four, chk_ld1g, chkO_int, chkO_bool, chkO_str, chkO_ptr, chkO_slc, chkO_map, List.set_cons_zero, List.set_cons_succ, List.length_cons, List.length_nil, List.drop_succ_cons, List.drop_zero, List.take_succ_cons, List.take_zero, List.nil_append, List.cons_append, splice, isOne_int, isOne_str, isOne_bool, isOne_slice, isOne_pointer, isOne_map, condM_nf, condM_nef, gd_nef, gdf_nef, pick_nef, build_eq, fillA_nil, fillA_one, fillA_agg, Option.map_some, resv_one, resv_two, freeIn_nil, fillA_slc, fillA_int, fillA_str, fillA_bool, fillA_ptr, fillA_map, hq2, hst2, gs_get0, gs_get1])
    refine seg_appV (new := g.s.map i64) htl (by have := hsl.form; exact this) hsl.cells (by simp) (by simp; omega) (by simp; omega) fun w H3 s3 k3 v3 _ => ?_
    obtain ⟨sv, rfl⟩ := Seg.sv s3
    have hown := h.own _ _ hg
    have hsb3 : H3.get sb = some (.cells true (encs (gs.set i g))) := by
      rw [k3.same sb (Heap.get_lt hst2) (fun hm => (hown sb (by simp [GS.fp, hm])).2.1 rfl)]; exact hst2
    have hq3 : H3.get H.next = some (.cells true [i64 q.kind, i64 q.src, i64 q.dst, i64 q.typ, i64 q.cap]) := by
      rw [k3.same H.next (by omega) (fun hm => by have := h.lt _ (fp_foot (p := p) (sb := sb) (lv := lv) hg (show H.next ∈ g.fp by simp [GS.fp, hm])); omega)]; exact hq2
    have hsl3 : sb < H3.next := Heap.get_lt hsb3
    have hql3 : H.next < H3.next := Heap.get_lt hq3
    have hsq : H.next ≠ sb := by omega
    have hls3 : lenSlc sv.v = some (i64 (g.t.length + g.s.length : Nat)) := by have := s3.len; rw [List.length_append, List.length_map, List.length_map] at this; exact this
    have hmin : ∃ m : Nat, (if q.cap < ((g.t.length + g.s.length : Nat) : Int) then q.cap else ((g.t.length + g.s.length : Nat) : Int)) = m ∧ m = min q.cap.toNat (g.t.length + g.s.length) := by
      refine ⟨min q.cap.toNat (g.t.length + g.s.length), ?_, rfl⟩
      split <;> omega
    obtain ⟨m, hm1, hm2⟩ := hmin
    obtain ⟨w2, e1, s4, v4, o4⟩ := s3.sub (lo := none) (hi := some (i64 m)) (a := 0) (b := m) (by simp [bound]) (fun c hc => by simp [bound]; simp at hc; omega) (by omega) (by simp; omega)
    obtain ⟨sv2, rfl⟩ := Seg.sv s4
    (try simp (maxSteps := 1000000) (disch := first | omega | (simp only [Heap.next_push', Heap.next_set']; omega) | (simp; done) | assumption | decide | (refine not_not_intro ?_; assumption)) only [at_zero, at_succ, wp_bnd, wp_lift, wpO_some, wp_ret, nx_nxt, nx_brk, nx_ret, unblk_nxt, unblk_ret, unblk_brk, finM_nxt, finM_ret, outV_one, condM_t, condM_f, condM_dt, condM_df, gd_t, gd_f, gdf_t, gdf_f, gd_skip, gd_dt, gd_df, gdf_dt, gdf_df, pick_t, pick_f, pick_dt, pick_df, not_t, not_f, not_dec, isNil_ptr, isNil_ptr', isNil_pnil, isNil_pnil', nilck_ptr, faddr_ptr, Nat.zero_add, Nat.add_zero, wp_ld1, lenStr_str, lenSlc_slice, strV_str, i64_add, i64_sub, i64_mul, i64_in, int_eqd, int_ned, int_lss, int_leq, int_gtr, int_geq, str_eqd, str_ned, if_true, wp_bndH, wp_withH, wp_need, enc_int, enc_str, enc_byte, enc_bool, List.getElem?_cons_zero, List.getElem?_cons_succ, cellP_get, cellG_cells, wp_st1g, stG_c, eq_self, true_and, wp_stng, stnG_ok, wp_ldng, ldG_ok, wp_newcg, wp_boxg, Heap.get_push_eq, Heap.get_push_lt, Heap.get_set_eq, Heap.get_set_ne', Heap.next_push', Heap.next_set', Heap.set_push_lt, Heap.set_push_eq, Heap.set_set, fld1_agg, fldn_agg, ext_tuple, outV_nil, outV_two, outV_three, outV_four, chk_ld1g, chkO_int, chkO_bool, chkO_str, chkO_ptr, chkO_slc, chkO_map, List.set_cons_zero, List.set_cons_succ, List.length_cons, List.length_nil, List.drop_succ_cons, List.drop_zero, List.take_succ_cons, List.take_zero, List.nil_append, List.cons_append, splice, isOne_int, isOne_str, isOne_bool, isOne_slice, isOne_pointer, isOne_map, condM_nf, condM_nef, gd_nef, gdf_nef, pick_nef, build_eq, fillA_nil, fillA_one, fillA_agg, Option.map_some, resv_one, resv_two, freeIn_nil, fillA_slc, fillA_int, fillA_str, fillA_bool, fillA_ptr, fillA_map, hsb3, hq3, stG_gs0, stG_gs1, stG_gs2, stG_gs3, SV.isOne, gs_set1v, gs_get3, gs_get1, gs_get0, hls3, maxV_int, minV_int, gs_set3, hm1, e1, ports_state_frame_k0, gs_set0])
    refine hQ _ _ _ (h.put (g' := { g with S := ⟨none, 0, 0⟩, T := sv2, s := [], t := (g.t ++ g.s).take q.cap.toNat, lost := w64 (g.lost + if ((g.t ++ g.s).length : Int) - q.cap > 0 then ((g.t ++ g.s).length : Int) - q.cap else 0) }) hg ?_ ?_ (Seg.nil _) ?_ ?_ ?_ ⟨by simp, by simp; omega⟩)
    · exact (k2.mono (by simp)).trans (k3.mono (S' := g.fp) (fun b hb => by simp [GS.fp, hb])) (fun _ _ h => h)
    · exact gs_cong (by simp only [enc_gs, List.length_append])
    · have e2 : (((g.t.map i64 ++ g.s.map i64).drop 0).take (m - 0)) = ((g.t ++ g.s).take q.cap.toNat).map i64 := by
        rw [List.drop_zero, Nat.sub_zero, ← List.map_append, ← List.map_take, hm2]
        congr 1
        rcases Nat.le_total q.cap.toNat (g.t.length + g.s.length) with q1 | q1
        · rw [Nat.min_eq_left q1]
        · rw [Nat.min_eq_right q1, List.take_of_length_le (by simp), List.take_of_length_le (by simp; omega)]
      rw [e2] at s4
      exact s4
    · intro b hb; simp [SV.v] at hb
    · intro b hb
      simp only [GS.fp, List.mem_append] at hb
      rcases hb with hb | hb
      · simp [SV.v] at hb
      · rcases v3 b (v4 b hb) with q1 | q1
        · right; omega
        · left; simp [GS.fp, q1]
  · by_cases hs0 : g.s.length > 0
    · have hf : frameP q g.st = { g.st with s := [], t := g.s, age := 0 } := by rw [frameP, if_neg hk, if_pos (show g.st.s.length > 0 from hs0)]; rfl
      rw [hf] at hQ
      (try simp (maxSteps := 1000000) (disch := first | omega | (simp only [Heap.next_push', Heap.next_set']; omega) | (simp; done) | assumption | decide | (refine not_not_intro ?_; assumption)) only [at_zero, at_succ, wp_bnd, wp_lift, wpO_some, wp_ret, nx_nxt, nx_brk, nx_ret, unblk_nxt, unblk_ret, unblk_brk, finM_nxt, finM_ret, outV_one, condM_t, condM_f, condM_dt, condM_df, gd_t, gd_f, gdf_t, gdf_f, gd_skip, gd_dt, gd_df, gdf_dt, gdf_df, pick_t, pick_f, pick_dt, pick_df, not_t, not_f, not_dec, isNil_ptr, isNil_ptr', isNil_pnil, isNil_pnil', nilck_ptr, faddr_ptr, Nat.zero_add, Nat.add_zero, wp_ld1, lenStr_str, lenSlc_slice, strV_str, i64_add, i64_sub, i64_mul, i64_in, int_eqd, int_ned, int_lss, int_leq, int_gtr, int_geq, str_eqd, str_ned, if_true, wp_bndH, wp_withH, wp_need, enc_int, enc_str, enc_byte, enc_bool, List.getElem?_cons_zero, List.getElem?_cons_succ, cellP_get, cellG_cells, wp_st1g, stG_c, eq_self, true_and, wp_stng, stnG_ok, wp_ldng, ldG_ok, wp_newcg, wp_boxg, Heap.get_push_eq, Heap.get_push_lt, Heap.get_set_eq, Heap.get_set_ne', Heap.next_push', Heap.next_set', Heap.set_push_lt, Heap.set_push_eq, Heap.set_set, fld1_agg, fldn_agg, ext_tuple, outV_nil, outV_two, outV_three, outV_four, chk_ld1g, chkO_int, chkO_bool, chkO_str, chkO_ptr, chkO_slc, chkO_map, List.set_cons_zero, List.set_cons_succ, List.length_cons, List.length_nil, List.drop_succ_cons, List.drop_zero, List.take_succ_cons, List.take_zero, List.nil_append, List.cons_append, splice, isOne_int, isOne_str, isOne_bool, isOne_slice, isOne_pointer, isOne_map, condM_nf, condM_nef, gd_nef, gdf_nef, pick_nef, build_eq, fillA_nil, fillA_one, fillA_agg, Option.map_some, resv_one, resv_two, freeIn_nil, fillA_slc, fillA_int, fillA_str, fillA_bool, fillA_ptr, fillA_map, hq2, hst2, gs_get0, hlS, stG_gs0, stG_gs1, stG_gs2, stG_gs3, SV.isOne, gs_set1v, gs_set2, ports_state_frame_k0, gs_set0])
      refine hQ _ _ _ (h.put (g' := { g with S := ⟨none, 0, 0⟩, T := g.S, s := [], t := g.s, age := 0 }) hg (k2.mono (by simp)) (gs_cong rfl) (Seg.nil _) hsl ?_ ?_ ⟨by simp, hsz.1⟩)
      · intro b hb; simp [SV.v] at hb
      · intro b hb
        simp only [GS.fp, List.mem_append] at hb
        rcases hb with hb | hb
        · simp [SV.v] at hb
        · left; simp [GS.fp, hb]
    · by_cases ht0 : g.t.length > 0
      · have hf : frameP q g.st = { g.st with s := [], age := w64 (g.age + 1) } := by rw [frameP, if_neg hk, if_neg (show ¬ g.st.s.length > 0 from hs0), if_pos (show g.st.t.length > 0 from ht0)]; rfl
        rw [hf] at hQ
        (try simp (maxSteps := 1000000) (disch := first | omega | (simp only [Heap.next_push', Heap.next_set']; omega) | (simp; done) | assumption | decide | (refine not_not_intro ?_; assumption)) only [at_zero, at_succ, wp_bnd, wp_lift, wpO_some, wp_ret, nx_nxt, nx_brk, nx_ret, unblk_nxt, unblk_ret, unblk_brk, finM_nxt, finM_ret, outV_one, condM_t, condM_f, condM_dt, condM_df, gd_t, gd_f, gdf_t, gdf_f, gd_skip, gd_dt, gd_df, gdf_dt, gdf_df, pick_t, pick_f, pick_dt, pick_df, not_t, not_f, not_dec, isNil_ptr, isNil_ptr', isNil_pnil, isNil_pnil', nilck_ptr, faddr_ptr, Nat.zero_add, Nat.add_zero, wp_ld1, lenStr_str, lenSlc_slice, strV_str, i64_add, i64_sub, i64_mul, i64_in, int_eqd, int_ned, int_lss, int_leq, int_gtr, int_geq, str_eqd, str_ned, if_true, wp_bndH, wp_withH, wp_need, enc_int, enc_str, enc_byte, enc_bool, List.getElem?_cons_zero, List.getElem?_cons_succ, cellP_get, cellG_cells, wp_st1g, stG_c, eq_self, true_and, wp_stng, stnG_ok, wp_ldng, ldG_ok, wp_newcg, wp_boxg, Heap.get_push_eq, Heap.get_push_lt, Heap.get_set_eq, Heap.get_set_ne', Heap.next_push', Heap.next_set', Heap.set_push_lt, Heap.set_push_eq, Heap.set_set, fld1_agg, fldn_agg, ext_tuple, outV_nil, outV_two, outV_three, outV_four, chk_ld1g, chkO_int, chkO_bool, chkO_str, chkO_ptr, chkO_slc, chkO_map, List.set_cons_zero, List.set_cons_succ, List.length_cons, List.length_nil, List.drop_succ_cons, List.drop_zero, List.take_succ_cons, List.take_zero, List.nil_append, List.cons_append, splice, isOne_int, isOne_str, isOne_bool, isOne_slice, isOne_pointer, isOne_map, condM_nf, condM_nef, gd_nef, gdf_nef, pick_nef, build_eq, fillA_nil, fillA_one, fillA_agg, Option.map_some, resv_one, resv_two, freeIn_nil, fillA_slc, fillA_int, fillA_str, fillA_bool, fillA_ptr, fillA_map, hq2, hst2, gs_get0, gs_get1, gs_get2, hlS, hlT, stG_gs0, stG_gs1, stG_gs2, stG_gs3, SV.isOne, gs_set1v, gs_set2, ports_state_frame_k0, gs_set0])
        refine hQ _ _ _ (h.put (g' := { g with S := ⟨none, 0, 0⟩, s := [], age := w64 (g.age + 1) }) hg (k2.mono (by simp)) (gs_cong rfl) (Seg.nil _) htl ?_ ?_ ⟨by simp, hsz.2⟩)
        · intro b hb; simp [SV.v] at hb
        · intro b hb
          simp only [GS.fp, List.mem_append] at hb
          rcases hb with hb | hb
          · simp [SV.v] at hb
          · left; simp [GS.fp, hb]
      · have hf : frameP q g.st = { g.st with s := [] } := by rw [frameP, if_neg hk, if_neg (show ¬ g.st.s.length > 0 from hs0), if_neg (show ¬ g.st.t.length > 0 from ht0)]
        rw [hf] at hQ
        (try simp (maxSteps := 1000000) (disch := first | omega | (simp only [Heap.next_push', Heap.next_set']; omega) | (simp; done) | assumption | decide | (refine not_not_intro ?_; assumption)) only [at_zero, at_succ, wp_bnd, wp_lift, wpO_some, wp_ret, nx_nxt, nx_brk, nx_ret, unblk_nxt, unblk_ret, unblk_brk, finM_nxt, finM_ret, outV_one, condM_t, condM_f, condM_dt, condM_df, gd_t, gd_f, gdf_t, gdf_f, gd_skip, gd_dt, gd_df, gdf_dt, gdf_df, pick_t, pick_f, pick_dt, pick_df, not_t, not_f, not_dec, isNil_ptr, isNil_ptr', isNil_pnil, isNil_pnil', nilck_ptr, faddr_ptr, Nat.zero_add, Nat.add_zero, wp_ld1, lenStr_str, lenSlc_slice, strV_str, i64_add, i64_sub, i64_mul, i64_in, int_eqd, int_ned, int_lss, int_leq, int_gtr, int_geq, str_eqd, str_ned, if_true, wp_bndH, wp_withH, wp_need, enc_int, enc_str, enc_byte, enc_bool, List.getElem?_cons_zero, List.getElem?_cons_succ, cellP_get, cellG_cells, wp_st1g, stG_c, eq_self, true_and, wp_stng, stnG_ok, wp_ldng, ldG_ok, wp_newcg, wp_boxg, Heap.get_push_eq, Heap.get_push_lt, Heap.get_set_eq, Heap.get_set_ne', Heap.next_push', Heap.next_set', Heap.set_push_lt, Heap.set_push_eq, Heap.set_set, fld1_agg, fldn_agg, ext_tuple, outV_nil, outV_two, outV_three, outV_four, chk_ld1g, chkO_int, chkO_bool, chkO_str, chkO_ptr, chkO_slc, chkO_map, List.set_cons_zero, List.set_cons_succ, List.length_cons, List.length_nil, List.drop_succ_cons, List.drop_zero, List.take_succ_cons, List.take_zero, List.nil_append, List.cons_append, splice, isOne_int, isOne_str, isOne_bool, isOne_slice, isOne_pointer, isOne_map, condM_nf, condM_nef, gd_nef, gdf_nef, pick_nef, build_eq, fillA_nil, fillA_one, fillA_agg, Option.map_some, resv_one, resv_two, freeIn_nil, fillA_slc, fillA_int, fillA_str, fillA_bool, fillA_ptr, fillA_map, hq2, hst2, gs_get0, gs_get1, gs_get2, hlS, hlT, stG_gs0, stG_gs1, stG_gs2, stG_gs3, SV.isOne, gs_set1v, gs_set2, ports_state_frame_k0, gs_set0])
        refine hQ _ _ _ (h.put (g' := { g with S := ⟨none, 0, 0⟩, s := [] }) hg (k2.mono (by simp)) (gs_cong rfl) (Seg.nil _) htl ?_ ?_ ⟨by simp, hsz.2⟩)
        · intro b hb; simp [SV.v] at hb
        · intro b hb
          simp only [GS.fp, List.mem_append] at hb
          rcases hb with hb | hb
          · simp [SV.v] at hb
          · left; simp [GS.fp, hb]
end Go.AM.Cap
