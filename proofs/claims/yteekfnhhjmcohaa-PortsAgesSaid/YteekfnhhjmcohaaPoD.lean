/- ports: the program's calls of a box -/
import Derived.Test.YteekfnhhjmcohaaPoC
set_option linter.all false
set_option maxHeartbeats 8000000
namespace Go.AM.Cap
open Go.AM Go.Proofs

def okP (ls : List Port) (part port : Int) : Prop := 0 ≤ part ∧ part < 8 ∧ 0 ≤ port ∧ port < ls.length
instance (ls : List Port) (part port : Int) : Decidable (okP ls part port) := by unfold okP; exact inferInstance
abbrev portAt (ls : List Port) (port : Int) : Port := ls.getD port.toNat default
def zeroPort : Port := ⟨0, 0, 0, 0, 0⟩
abbrev w64 (n : Int) : Int := IntKind.i64.wrap n
theorem w64_w64 (n m : Int) : w64 (w64 n + m) = w64 (n + m) := by simp only [w64, IntKind.wrap_i64]; omega
theorem portAt_agg (q : Port) : Port.agg q = .agg #[i64 q.kind, i64 q.src, i64 q.dst, i64 q.typ, i64 q.cap] := rfl

theorem ports_port_ok {H : Heap} {p sb : Nat} {lv : V} {ls : List Port} {gs : List GS} (h : BoxV H p lv sb ls gs) (part port : Int) (Q : V → Heap → Prop)
    (hbad : ¬ okP ls part port → ∀ H', Keeps [] H H' → Q (.tuple #[zeroPort.agg, .pointer none]) H')
    (hQ : okP ls part port → ∀ H', Keeps [] H H' → Q (.tuple #[(portAt ls port).agg, ptr sb (port.toNat * 4)]) H') : wp (A_ports_Box_port [ptr p 0, i64 part, i64 port]) Q H := by
  show wp (F_ports_Box_port (ptr p 0) (i64 part) (i64 port)) Q H
  have hobj := h.obj
  have hlp := Heap.get_lt hobj
  have hll := h.ports.len
  have hlen := h.len
  have hl2 : Sl (H.push (some (.cells true [i64 0, i64 0, i64 0, i64 0, i64 0]))) lv ls := h.ports.keep0 (Keeps.push _ _ _)
  (repeat' (first | (simp (maxSteps := 1000000) (disch := first | omega | (simp only [Heap.next_push', Heap.next_set']; omega) | (simp; done) | assumption | decide | (refine not_not_intro ?_; assumption)) only [at_zero, at_succ, wp_bnd, wp_lift, wpO_some, wp_ret, nx_nxt, nx_brk, nx_ret, unblk_nxt, unblk_ret, unblk_brk, finM_nxt, finM_ret, outV_one, condM_t, condM_f, condM_dt, condM_df, gd_t, gd_f, gdf_t, gdf_f, gd_skip, gd_dt, gd_df, gdf_dt, gdf_df, pick_t, pick_f, pick_dt, pick_df, not_t, not_f, not_dec, isNil_ptr, isNil_ptr', isNil_pnil, isNil_pnil', nilck_ptr, faddr_ptr, Nat.zero_add, Nat.add_zero, wp_ld1, lenStr_str, lenSlc_slice, strV_str, i64_add, i64_sub, i64_mul, i64_in, int_eqd, int_ned, int_lss, int_leq, int_gtr, int_geq, str_eqd, str_ned, if_true, wp_bndH, wp_withH, wp_need, enc_int, enc_str, enc_byte, enc_bool, List.getElem?_cons_zero, List.getElem?_cons_succ, cellP_get, cellG_cells, wp_st1g, stG_c, eq_self, true_and, wp_stng, stnG_ok, wp_ldng, ldG_ok, wp_newcg, wp_boxg, Heap.get_push_eq, Heap.get_push_lt, Heap.get_set_eq, Heap.get_set_ne', Heap.next_push', Heap.next_set', Heap.set_push_lt, Heap.set_push_eq, Heap.set_set, fld1_agg, fldn_agg, ext_tuple, outV_nil, outV_two, outV_three, outV_four, chk_ld1g, chkO_int, chkO_bool, chkO_str, chkO_ptr, chkO_slc, chkO_map, List.set_cons_zero, List.set_cons_succ, List.length_cons, List.length_nil, List.drop_succ_cons, List.drop_zero, List.take_succ_cons, List.take_zero, List.nil_append, List.cons_append, splice, isOne_int, isOne_str, isOne_bool, isOne_slice, isOne_pointer, isOne_map, condM_nf, condM_nef, gd_nef, gdf_nef, pick_nef, build_eq, fillA_nil, fillA_one, fillA_agg, Option.map_some, resv_one, resv_two, freeIn_nil, fillA_slc, fillA_int, fillA_str, fillA_bool, fillA_ptr, fillA_map, F_ports_Box_port, ports_there_eq, hobj, hll, ports_Box_port_k0, hl2.addr' (n := 5) rfl, hl2.ldn' (n := 5) rfl _ default, enc_port, iaddrS_slc]) | (refine wp_cond_split (fun _ => ?_) (fun _ => ?_)) | (refine wp_gd_split (fun _ => ?_) (fun _ => ?_)) | (refine wp_gdf_split (fun _ => ?_) (fun _ => ?_)) | (refine wpO_pick_split (fun _ => ?_) (fun _ => ?_)) | (refine wp_cond_bs (fun _ => ?_) (fun _ => ?_)) | (refine wp_gd_bs (fun _ => ?_) (fun _ => ?_)) | (refine wp_gdf_bs (fun _ => ?_) (fun _ => ?_)) | (refine wpO_pick_bs (fun _ => ?_) (fun _ => ?_))))
  all_goals first | (have hb : ¬ okP ls part port := (by unfold okP; omega); exact hbad hb _ (Keeps.push _ _ _)) | (have hb : okP ls part port := (by unfold okP; omega); exact q_of (hQ hb _ (Keeps.push _ _ _)) (by simp [portAt_agg]))

def stAt (st : List PSt) (port : Int) : PSt := st.getD port.toNat default
def sendS (ls : List Port) (st : List PSt) (part port n : Int) : List PSt × Int :=
  if ¬ okP ls part port then (st, 1) else
  if (portAt ls port).src ≠ part then (st, 200) else
  if ¬ fits (portAt ls port).typ n then (st, 1) else
  if (portAt ls port).kind = 1 then (st.set port.toNat { stAt st port with s := [n] }, 0) else
  if (portAt ls port).cap ≤ (stAt st port).s.length then (st.set port.toNat { stAt st port with lost := w64 ((stAt st port).lost + 1) }, 2)
  else (st.set port.toNat { stAt st port with s := (stAt st port).s ++ [n] }, 0)

theorem st_at {gs : List GS} {port : Int} (h0 : 0 ≤ port) (h1 : port < gs.length) : ∃ g : GS, gs[port.toNat]? = some g ∧ stAt (gs.map GS.st) port = g.st ∧ gs.getD port.toNat default = g := by
  have hi : port.toNat < gs.length := by omega
  refine ⟨gs[port.toNat], List.getElem?_eq_getElem hi, ?_, ?_⟩
  · rw [stAt, List.getD_eq_getElem?_getD, List.getElem?_map, List.getElem?_eq_getElem hi]; rfl
  · rw [List.getD_eq_getElem?_getD, List.getElem?_eq_getElem hi]; rfl
theorem portAt_mem {ls : List Port} {port : Int} (h0 : 0 ≤ port) (h1 : port < ls.length) : portAt ls port ∈ ls := by
  have hi : port.toNat < ls.length := by omega
  rw [portAt, List.getD_eq_getElem?_getD, List.getElem?_eq_getElem hi]
  exact List.getElem_mem hi
theorem good_kind {q : Port} (h : wrongP q = 0) : q.kind = 1 ∨ (q.kind = 2 ∧ 1 ≤ q.cap ∧ q.cap ≤ 16) := by
  unfold wrongP at h
  split at h
  · omega
  · split at h
    · omega
    · split at h
      · omega
      · split at h
        · omega
        · split at h
          · omega
          · omega

theorem ports_Send_ok {H : Heap} {p sb : Nat} {lv : V} {ls : List Port} {gs : List GS} (h : BoxV H p lv sb ls gs) (part port n : Int) (Q : V → Heap → Prop)
    (hQ : ∀ gs' H', Turn H H' p lv sb ls gs gs' (sendS ls (gs.map GS.st) part port n).1 → Q (i64 (sendS ls (gs.map GS.st) part port n).2) H') : wp (A_ports_Box_Send [ptr p 0, i64 part, i64 port, i64 n]) Q H := by
  show wp (F_ports_Box_Send (ptr p 0) (i64 part) (i64 port) (i64 n)) Q H
  simp only [F_ports_Box_Send, wp_bnd]
  refine ports_port_ok h part port _ (fun hb H1 k1 => ?_) (fun hb H1 k1 => ?_)
  · (try simp (maxSteps := 1000000) (disch := first | omega | (simp only [Heap.next_push', Heap.next_set']; omega) | (simp; done) | assumption | decide | (refine not_not_intro ?_; assumption)) only [at_zero, at_succ, wp_bnd, wp_lift, wpO_some, wp_ret, nx_nxt, nx_brk, nx_ret, unblk_nxt, unblk_ret, unblk_brk, finM_nxt, finM_ret, outV_one, condM_t, condM_f, condM_dt, condM_df, gd_t, gd_f, gdf_t, gdf_f, gd_skip, gd_dt, gd_df, gdf_dt, gdf_df, pick_t, pick_f, pick_dt, pick_df, not_t, not_f, not_dec, isNil_ptr, isNil_ptr', isNil_pnil, isNil_pnil', nilck_ptr, faddr_ptr, Nat.zero_add, Nat.add_zero, wp_ld1, lenStr_str, lenSlc_slice, strV_str, i64_add, i64_sub, i64_mul, i64_in, int_eqd, int_ned, int_lss, int_leq, int_gtr, int_geq, str_eqd, str_ned, if_true, wp_bndH, wp_withH, wp_need, enc_int, enc_str, enc_byte, enc_bool, List.getElem?_cons_zero, List.getElem?_cons_succ, cellP_get, cellG_cells, wp_st1g, stG_c, eq_self, true_and, wp_stng, stnG_ok, wp_ldng, ldG_ok, wp_newcg, wp_boxg, Heap.get_push_eq, Heap.get_push_lt, Heap.get_set_eq, Heap.get_set_ne', Heap.next_push', Heap.next_set', Heap.set_push_lt, Heap.set_push_eq, Heap.set_set, fld1_agg, fldn_agg, ext_tuple, outV_nil, outV_two, outV_three, outV_four, chk_ld1g, chkO_int, chkO_bool, chkO_str, chkO_ptr, chkO_slc, chkO_map, List.set_cons_zero, List.set_cons_succ, List.length_cons, List.length_nil, List.drop_succ_cons, List.drop_zero, List.take_succ_cons, List.take_zero, List.nil_append, List.cons_append, splice, isOne_int, isOne_str, isOne_bool, isOne_slice, isOne_pointer, isOne_map, condM_nf, condM_nef, gd_nef, gdf_nef, pick_nef, build_eq, fillA_nil, fillA_one, fillA_agg, Option.map_some, resv_one, resv_two, freeIn_nil, fillA_slc, fillA_int, fillA_str, fillA_bool, fillA_ptr, fillA_map, zeroPort])
    rw [sendS, if_pos hb] at hQ
    exact hQ gs _ (Turn.refl h (k1.trans (Keeps.push _ _ _) (fun _ _ h => h)))
  have ⟨ha, hb', hc, hd⟩ := hb
  have hlen := h.len
  obtain ⟨g, hg, hst, hgd⟩ := st_at (gs := gs) hc (by omega)
  have hgood := good_kind (h.good _ (portAt_mem hc hd))
  have hspec : sendS ls (gs.map GS.st) part port n = if (portAt ls port).src ≠ part then (gs.map GS.st, 200) else
    if ¬ fits (portAt ls port).typ n then (gs.map GS.st, 1) else
    if (portAt ls port).kind = 1 then ((gs.map GS.st).set port.toNat { g.st with s := [n] }, 0) else
    if (portAt ls port).cap ≤ g.s.length then ((gs.map GS.st).set port.toNat { g.st with lost := w64 (g.lost + 1) }, 2)
    else ((gs.map GS.st).set port.toNat { g.st with s := g.s ++ [n] }, 0) := by rw [sendS, if_neg (fun hn => hn hb), hst]; rfl
  have h1 := h.keep0 k1
  have hst1 := h1.states
  have hlt1 := Heap.get_lt hst1
  have hi : port.toNat < gs.length := by omega
  have hel : (encs gs).length = gs.length * 4 := encs_length gs
  have hc0 : (encs gs)[port.toNat * 4]? = some g.S.v := by have := encs_get gs port.toNat 0 default hi (by decide); rw [hgd] at this; exact this
  have hc3 : (encs gs)[port.toNat * 4 + 3]? = some (i64 g.lost) := by have := encs_get gs port.toNat 3 default hi (by decide); rw [hgd] at this; exact this
  have hsz := h.sz _ _ hg
  (try simp (maxSteps := 1000000) (disch := first | omega | (simp only [Heap.next_push', Heap.next_set']; omega) | (simp; done) | assumption | decide | (refine not_not_intro ?_; assumption)) only [at_zero, at_succ, wp_bnd, wp_lift, wpO_some, wp_ret, nx_nxt, nx_brk, nx_ret, unblk_nxt, unblk_ret, unblk_brk, finM_nxt, finM_ret, outV_one, condM_t, condM_f, condM_dt, condM_df, gd_t, gd_f, gdf_t, gdf_f, gd_skip, gd_dt, gd_df, gdf_dt, gdf_df, pick_t, pick_f, pick_dt, pick_df, not_t, not_f, not_dec, isNil_ptr, isNil_ptr', isNil_pnil, isNil_pnil', nilck_ptr, faddr_ptr, Nat.zero_add, Nat.add_zero, wp_ld1, lenStr_str, lenSlc_slice, strV_str, i64_add, i64_sub, i64_mul, i64_in, int_eqd, int_ned, int_lss, int_leq, int_gtr, int_geq, str_eqd, str_ned, if_true, wp_bndH, wp_withH, wp_need, enc_int, enc_str, enc_byte, enc_bool, List.getElem?_cons_zero, List.getElem?_cons_succ, cellP_get, cellG_cells, wp_st1g, stG_c, eq_self, true_and, wp_stng, stnG_ok, wp_ldng, ldG_ok, wp_newcg, wp_boxg, Heap.get_push_eq, Heap.get_push_lt, Heap.get_set_eq, Heap.get_set_ne', Heap.next_push', Heap.next_set', Heap.set_push_lt, Heap.set_push_eq, Heap.set_set, fld1_agg, fldn_agg, ext_tuple, outV_nil, outV_two, outV_three, outV_four, chk_ld1g, chkO_int, chkO_bool, chkO_str, chkO_ptr, chkO_slc, chkO_map, List.set_cons_zero, List.set_cons_succ, List.length_cons, List.length_nil, List.drop_succ_cons, List.drop_zero, List.take_succ_cons, List.take_zero, List.nil_append, List.cons_append, splice, isOne_int, isOne_str, isOne_bool, isOne_slice, isOne_pointer, isOne_map, condM_nf, condM_nef, gd_nef, gdf_nef, pick_nef, build_eq, fillA_nil, fillA_one, fillA_agg, Option.map_some, resv_one, resv_two, freeIn_nil, fillA_slc, fillA_int, fillA_str, fillA_bool, fillA_ptr, fillA_map, portAt_agg])
  by_cases hsrc : (portAt ls port).src ≠ part
  · rw [if_pos hsrc] at hspec
    (try simp (maxSteps := 1000000) (disch := first | omega | (simp only [Heap.next_push', Heap.next_set']; omega) | (simp; done) | assumption | decide | (refine not_not_intro ?_; assumption)) only [at_zero, at_succ, wp_bnd, wp_lift, wpO_some, wp_ret, nx_nxt, nx_brk, nx_ret, unblk_nxt, unblk_ret, unblk_brk, finM_nxt, finM_ret, outV_one, condM_t, condM_f, condM_dt, condM_df, gd_t, gd_f, gdf_t, gdf_f, gd_skip, gd_dt, gd_df, gdf_dt, gdf_df, pick_t, pick_f, pick_dt, pick_df, not_t, not_f, not_dec, isNil_ptr, isNil_ptr', isNil_pnil, isNil_pnil', nilck_ptr, faddr_ptr, Nat.zero_add, Nat.add_zero, wp_ld1, lenStr_str, lenSlc_slice, strV_str, i64_add, i64_sub, i64_mul, i64_in, int_eqd, int_ned, int_lss, int_leq, int_gtr, int_geq, str_eqd, str_ned, if_true, wp_bndH, wp_withH, wp_need, enc_int, enc_str, enc_byte, enc_bool, List.getElem?_cons_zero, List.getElem?_cons_succ, cellP_get, cellG_cells, wp_st1g, stG_c, eq_self, true_and, wp_stng, stnG_ok, wp_ldng, ldG_ok, wp_newcg, wp_boxg, Heap.get_push_eq, Heap.get_push_lt, Heap.get_set_eq, Heap.get_set_ne', Heap.next_push', Heap.next_set', Heap.set_push_lt, Heap.set_push_eq, Heap.set_set, fld1_agg, fldn_agg, ext_tuple, outV_nil, outV_two, outV_three, outV_four, chk_ld1g, chkO_int, chkO_bool, chkO_str, chkO_ptr, chkO_slc, chkO_map, List.set_cons_zero, List.set_cons_succ, List.length_cons, List.length_nil, List.drop_succ_cons, List.drop_zero, List.take_succ_cons, List.take_zero, List.nil_append, List.cons_append, splice, isOne_int, isOne_str, isOne_bool, isOne_slice, isOne_pointer, isOne_map, condM_nf, condM_nef, gd_nef, gdf_nef, pick_nef, build_eq, fillA_nil, fillA_one, fillA_agg, Option.map_some, resv_one, resv_two, freeIn_nil, fillA_slc, fillA_int, fillA_str, fillA_bool, fillA_ptr, fillA_map])
    rw [hspec] at hQ
    exact hQ gs _ (Turn.refl h (k1.trans (Keeps.push _ _ _) (fun _ _ h => h)))
  rw [if_neg hsrc] at hspec
  (try simp (maxSteps := 1000000) (disch := first | omega | (simp only [Heap.next_push', Heap.next_set']; omega) | (simp; done) | assumption | decide | (refine not_not_intro ?_; assumption)) only [at_zero, at_succ, wp_bnd, wp_lift, wpO_some, wp_ret, nx_nxt, nx_brk, nx_ret, unblk_nxt, unblk_ret, unblk_brk, finM_nxt, finM_ret, outV_one, condM_t, condM_f, condM_dt, condM_df, gd_t, gd_f, gdf_t, gdf_f, gd_skip, gd_dt, gd_df, gdf_dt, gdf_df, pick_t, pick_f, pick_dt, pick_df, not_t, not_f, not_dec, isNil_ptr, isNil_ptr', isNil_pnil, isNil_pnil', nilck_ptr, faddr_ptr, Nat.zero_add, Nat.add_zero, wp_ld1, lenStr_str, lenSlc_slice, strV_str, i64_add, i64_sub, i64_mul, i64_in, int_eqd, int_ned, int_lss, int_leq, int_gtr, int_geq, str_eqd, str_ned, if_true, wp_bndH, wp_withH, wp_need, enc_int, enc_str, enc_byte, enc_bool, List.getElem?_cons_zero, List.getElem?_cons_succ, cellP_get, cellG_cells, wp_st1g, stG_c, eq_self, true_and, wp_stng, stnG_ok, wp_ldng, ldG_ok, wp_newcg, wp_boxg, Heap.get_push_eq, Heap.get_push_lt, Heap.get_set_eq, Heap.get_set_ne', Heap.next_push', Heap.next_set', Heap.set_push_lt, Heap.set_push_eq, Heap.set_set, fld1_agg, fldn_agg, ext_tuple, outV_nil, outV_two, outV_three, outV_four, chk_ld1g, chkO_int, chkO_bool, chkO_str, chkO_ptr, chkO_slc, chkO_map, List.set_cons_zero, List.set_cons_succ, List.length_cons, List.length_nil, List.drop_succ_cons, List.drop_zero, List.take_succ_cons, List.take_zero, List.nil_append, List.cons_append, splice, isOne_int, isOne_str, isOne_bool, isOne_slice, isOne_pointer, isOne_map, condM_nf, condM_nef, gd_nef, gdf_nef, pick_nef, build_eq, fillA_nil, fillA_one, fillA_agg, Option.map_some, resv_one, resv_two, freeIn_nil, fillA_slc, fillA_int, fillA_str, fillA_bool, fillA_ptr, fillA_map, num_Fits_eq])
  by_cases hf : fits (portAt ls port).typ n
  case neg =>
    rw [if_pos hf] at hspec
    (try simp (maxSteps := 1000000) (disch := first | omega | (simp only [Heap.next_push', Heap.next_set']; omega) | (simp; done) | assumption | decide | (refine not_not_intro ?_; assumption)) only [at_zero, at_succ, wp_bnd, wp_lift, wpO_some, wp_ret, nx_nxt, nx_brk, nx_ret, unblk_nxt, unblk_ret, unblk_brk, finM_nxt, finM_ret, outV_one, condM_t, condM_f, condM_dt, condM_df, gd_t, gd_f, gdf_t, gdf_f, gd_skip, gd_dt, gd_df, gdf_dt, gdf_df, pick_t, pick_f, pick_dt, pick_df, not_t, not_f, not_dec, isNil_ptr, isNil_ptr', isNil_pnil, isNil_pnil', nilck_ptr, faddr_ptr, Nat.zero_add, Nat.add_zero, wp_ld1, lenStr_str, lenSlc_slice, strV_str, i64_add, i64_sub, i64_mul, i64_in, int_eqd, int_ned, int_lss, int_leq, int_gtr, int_geq, str_eqd, str_ned, if_true, wp_bndH, wp_withH, wp_need, enc_int, enc_str, enc_byte, enc_bool, List.getElem?_cons_zero, List.getElem?_cons_succ, cellP_get, cellG_cells, wp_st1g, stG_c, eq_self, true_and, wp_stng, stnG_ok, wp_ldng, ldG_ok, wp_newcg, wp_boxg, Heap.get_push_eq, Heap.get_push_lt, Heap.get_set_eq, Heap.get_set_ne', Heap.next_push', Heap.next_set', Heap.set_push_lt, Heap.set_push_eq, Heap.set_set, fld1_agg, fldn_agg, ext_tuple, outV_nil, outV_two, outV_three, outV_four, chk_ld1g, chkO_int, chkO_bool, chkO_str, chkO_ptr, chkO_slc, chkO_map, List.set_cons_zero, List.set_cons_succ, List.length_cons, List.length_nil, List.drop_succ_cons, List.drop_zero, List.take_succ_cons, List.take_zero, List.nil_append, List.cons_append, splice, isOne_int, isOne_str, isOne_bool, isOne_slice, isOne_pointer, isOne_map, condM_nf, condM_nef, gd_nef, gdf_nef, pick_nef, build_eq, fillA_nil, fillA_one, fillA_agg, Option.map_some, resv_one, resv_two, freeIn_nil, fillA_slc, fillA_int, fillA_str, fillA_bool, fillA_ptr, fillA_map])
    rw [hspec] at hQ
    exact hQ gs _ (Turn.refl h (k1.trans (Keeps.push _ _ _) (fun _ _ h => h)))
  rw [if_neg (not_not_intro hf)] at hspec
  (try simp (maxSteps := 1000000) (disch := first | omega | (simp only [Heap.next_push', Heap.next_set']; omega) | (simp; done) | assumption | decide | (refine not_not_intro ?_; assumption)) only [at_zero, at_succ, wp_bnd, wp_lift, wpO_some, wp_ret, nx_nxt, nx_brk, nx_ret, unblk_nxt, unblk_ret, unblk_brk, finM_nxt, finM_ret, outV_one, condM_t, condM_f, condM_dt, condM_df, gd_t, gd_f, gdf_t, gdf_f, gd_skip, gd_dt, gd_df, gdf_dt, gdf_df, pick_t, pick_f, pick_dt, pick_df, not_t, not_f, not_dec, isNil_ptr, isNil_ptr', isNil_pnil, isNil_pnil', nilck_ptr, faddr_ptr, Nat.zero_add, Nat.add_zero, wp_ld1, lenStr_str, lenSlc_slice, strV_str, i64_add, i64_sub, i64_mul, i64_in, int_eqd, int_ned, int_lss, int_leq, int_gtr, int_geq, str_eqd, str_ned, if_true, wp_bndH, wp_withH, wp_need, enc_int, enc_str, enc_byte, enc_bool, List.getElem?_cons_zero, List.getElem?_cons_succ, cellP_get, cellG_cells, wp_st1g, stG_c, eq_self, true_and, wp_stng, stnG_ok, wp_ldng, ldG_ok, wp_newcg, wp_boxg, Heap.get_push_eq, Heap.get_push_lt, Heap.get_set_eq, Heap.get_set_ne', Heap.next_push', Heap.next_set', Heap.set_push_lt, Heap.set_push_eq, Heap.set_set, fld1_agg, fldn_agg, ext_tuple, outV_nil, outV_two, outV_three, outV_four, chk_ld1g, chkO_int, chkO_bool, chkO_str, chkO_ptr, chkO_slc, chkO_map, List.set_cons_zero, List.set_cons_succ, List.length_cons, List.length_nil, List.drop_succ_cons, List.drop_zero, List.take_succ_cons, List.take_zero, List.nil_append, List.cons_append, splice, isOne_int, isOne_str, isOne_bool, isOne_slice, isOne_pointer, isOne_map, condM_nf, condM_nef, gd_nef, gdf_nef, pick_nef, build_eq, fillA_nil, fillA_one, fillA_agg, Option.map_some, resv_one, resv_two, freeIn_nil, fillA_slc, fillA_int, fillA_str, fillA_bool, fillA_ptr, fillA_map])
  generalize hq : portAt ls port = q at *
  have k2 : Keeps [] H (H1.push (some (.cells true [i64 q.kind, i64 q.src, i64 q.dst, i64 q.typ, i64 q.cap]))) := k1.trans (Keeps.push _ _ _) (fun _ _ h => h)
  have h2 := h.keep0 k2
  have hn2 : (H1.push (some (.cells true [i64 q.kind, i64 q.src, i64 q.dst, i64 q.typ, i64 q.cap]))).next = H1.next + 1 := by simp
  have hst2 := h2.states
  have hq2 := Heap.get_push_self H1 (some (.cells true [i64 q.kind, i64 q.src, i64 q.dst, i64 q.typ, i64 q.cap]))
  have hn1 := k1.next
  generalize hH2 : H1.push (some (.cells true [i64 q.kind, i64 q.src, i64 q.dst, i64 q.typ, i64 q.cap])) = H2 at *
  have hsl := h.segS _ _ hg
  have htl := h.segT _ _ hg
  have hlS : lenSlc g.S.v = some (i64 g.s.length) := by have := hsl.len; rwa [List.length_map] at this
  have hset0 : ∀ v g', g'.S.v = v → g'.T = g.T → g'.age = g.age → g'.lost = g.lost → (encs gs).set (port.toNat * 4) v = encs (gs.set port.toNat g') := fun v g' e1 e2 e3 e4 =>
    encs_set gs port.toNat 0 v g' default hi (by decide) (by rw [hgd, enc_gs, enc_gs, ← e1, e2, e3, e4]; rfl)
  have hset3 : ∀ v : Int, (encs gs).set (port.toNat * 4 + 3) (i64 v) = encs (gs.set port.toNat { g with lost := v }) := fun v =>
    encs_set gs port.toNat 3 (i64 v) _ default hi (by decide) (by rw [hgd]; rfl)
  by_cases hk : q.kind = 1
  · rw [if_pos hk] at hspec
    rw [hspec] at hQ
    (try simp (maxSteps := 1000000) (disch := first | omega | (simp only [Heap.next_push', Heap.next_set']; omega) | (simp; done) | assumption | decide | (refine not_not_intro ?_; assumption)) only [at_zero, at_succ, wp_bnd, wp_lift, wpO_some, wp_ret, nx_nxt, nx_brk, nx_ret, unblk_nxt, unblk_ret, unblk_brk, finM_nxt, finM_ret, outV_one, condM_t, condM_f, condM_dt, condM_df, gd_t, gd_f, gdf_t, gdf_f, gd_skip, gd_dt, gd_df, gdf_dt, gdf_df, pick_t, pick_f, pick_dt, pick_df, not_t, not_f, not_dec, isNil_ptr, isNil_ptr', isNil_pnil, isNil_pnil', nilck_ptr, faddr_ptr, Nat.zero_add, Nat.add_zero, wp_ld1, lenStr_str, lenSlc_slice, strV_str, i64_add, i64_sub, i64_mul, i64_in, int_eqd, int_ned, int_lss, int_leq, int_gtr, int_geq, str_eqd, str_ned, if_true, wp_bndH, wp_withH, wp_need, enc_int, enc_str, enc_byte, enc_bool, List.getElem?_cons_zero, List.getElem?_cons_succ, cellP_get, cellG_cells, wp_st1g, stG_c, eq_self, true_and, wp_stng, stnG_ok, wp_ldng, ldG_ok, wp_newcg, wp_boxg, Heap.get_push_eq, Heap.get_push_lt, Heap.get_set_eq, Heap.get_set_ne', Heap.next_push', Heap.next_set', Heap.set_push_lt, Heap.set_push_eq, Heap.set_set, fld1_agg, fldn_agg, ext_tuple, outV_nil, outV_two, outV_three, outV_four, chk_ld1g, chkO_int, chkO_bool, chkO_str, chkO_ptr, chkO_slc, chkO_map, List.set_cons_zero, List.set_cons_succ, List.length_cons, List.length_nil, List.drop_succ_cons, List.drop_zero, List.take_succ_cons, List.take_zero, List.nil_append, List.cons_append, splice, isOne_int, isOne_str, isOne_bool, isOne_slice, isOne_pointer, isOne_map, condM_nf, condM_nef, gd_nef, gdf_nef, pick_nef, build_eq, fillA_nil, fillA_one, fillA_agg, Option.map_some, resv_one, resv_two, freeIn_nil, fillA_slc, fillA_int, fillA_str, fillA_bool, fillA_ptr, fillA_map])
    refine (wp_bslc (cs := [i64 n]) (by decide) (by rfl)).mpr ?_
    have hX := Heap.get_push_lt (x := some (.cells true [i64 n])) (Heap.get_lt hst2)
    (try simp (maxSteps := 1000000) (disch := first | omega | (simp only [Heap.next_push', Heap.next_set']; omega) | (simp; done) | assumption | decide | (refine not_not_intro ?_; assumption)) only [at_zero, at_succ, wp_bnd, wp_lift, wpO_some, wp_ret, nx_nxt, nx_brk, nx_ret, unblk_nxt, unblk_ret, unblk_brk, finM_nxt, finM_ret, outV_one, condM_t, condM_f, condM_dt, condM_df, gd_t, gd_f, gdf_t, gdf_f, gd_skip, gd_dt, gd_df, gdf_dt, gdf_df, pick_t, pick_f, pick_dt, pick_df, not_t, not_f, not_dec, isNil_ptr, isNil_ptr', isNil_pnil, isNil_pnil', nilck_ptr, faddr_ptr, Nat.zero_add, Nat.add_zero, wp_ld1, lenStr_str, lenSlc_slice, strV_str, i64_add, i64_sub, i64_mul, i64_in, int_eqd, int_ned, int_lss, int_leq, int_gtr, int_geq, str_eqd, str_ned, if_true, wp_bndH, wp_withH, wp_need, enc_int, enc_str, enc_byte, enc_bool, List.getElem?_cons_zero, List.getElem?_cons_succ, cellP_get, cellG_cells, wp_st1g, stG_c, eq_self, true_and, wp_stng, stnG_ok, wp_ldng, ldG_ok, wp_newcg, wp_boxg, Heap.get_push_eq, Heap.get_push_lt, Heap.get_set_eq, Heap.get_set_ne', Heap.next_push', Heap.next_set', Heap.set_push_eq, Heap.set_set, fld1_agg, fldn_agg, ext_tuple, outV_nil, outV_two, outV_three, outV_four, chk_ld1g, chkO_int, chkO_bool, chkO_str, chkO_ptr, chkO_slc, chkO_map, List.set_cons_zero, List.set_cons_succ, List.length_cons, List.length_nil, List.drop_succ_cons, List.drop_zero, List.take_succ_cons, List.take_zero, List.nil_append, List.cons_append, splice, isOne_int, isOne_str, isOne_bool, isOne_slice, isOne_pointer, isOne_map, condM_nf, condM_nef, gd_nef, gdf_nef, pick_nef, build_eq, fillA_nil, fillA_one, fillA_agg, Option.map_some, resv_one, resv_two, freeIn_nil, fillA_slc, fillA_int, fillA_str, fillA_bool, fillA_ptr, fillA_map, hX, hst2, hel, ports_Box_Send_k0])
    refine hQ _ _ (h.put (g' := { g with S := ⟨some ⟨H2.next, 0, some 1⟩, 1, 1⟩, s := [n] }) hg (keeps_push (k2.mono (by simp))) (hset0 _ _ rfl rfl rfl rfl) ?_ (htl.keep (keeps_push k2) (by simp)) ?_ ?_ ⟨by simp, hsz.2⟩)
    · exact Own.seg (.inr ⟨H2.next, rfl, Heap.get_push_self _ _⟩)
    · intro b hb hb2
      have := htl.lt b hb2
      simp [SV.v] at hb
      have := k2.next
      omega
    · intro b hb
      simp only [GS.fp, List.mem_append] at hb
      rcases hb with hb | hb
      · simp [SV.v] at hb
        have := k2.next
        right; omega
      · left; simp [GS.fp, hb]
  · rw [if_neg hk] at hspec
    (try simp (maxSteps := 1000000) (disch := first | omega | (simp only [Heap.next_push', Heap.next_set']; omega) | (simp; done) | assumption | decide | (refine not_not_intro ?_; assumption)) only [at_zero, at_succ, wp_bnd, wp_lift, wpO_some, wp_ret, nx_nxt, nx_brk, nx_ret, unblk_nxt, unblk_ret, unblk_brk, finM_nxt, finM_ret, outV_one, condM_t, condM_f, condM_dt, condM_df, gd_t, gd_f, gdf_t, gdf_f, gd_skip, gd_dt, gd_df, gdf_dt, gdf_df, pick_t, pick_f, pick_dt, pick_df, not_t, not_f, not_dec, isNil_ptr, isNil_ptr', isNil_pnil, isNil_pnil', nilck_ptr, faddr_ptr, Nat.zero_add, Nat.add_zero, wp_ld1, lenStr_str, lenSlc_slice, strV_str, i64_add, i64_sub, i64_mul, i64_in, int_eqd, int_ned, int_lss, int_leq, int_gtr, int_geq, str_eqd, str_ned, if_true, wp_bndH, wp_withH, wp_need, enc_int, enc_str, enc_byte, enc_bool, List.getElem?_cons_zero, List.getElem?_cons_succ, cellP_get, cellG_cells, wp_st1g, stG_c, eq_self, true_and, wp_stng, stnG_ok, wp_ldng, ldG_ok, wp_newcg, wp_boxg, Heap.get_push_eq, Heap.get_push_lt, Heap.get_set_eq, Heap.get_set_ne', Heap.next_push', Heap.next_set', Heap.set_push_lt, Heap.set_push_eq, Heap.set_set, fld1_agg, fldn_agg, ext_tuple, outV_nil, outV_two, outV_three, outV_four, chk_ld1g, chkO_int, chkO_bool, chkO_str, chkO_ptr, chkO_slc, chkO_map, List.set_cons_zero, List.set_cons_succ, List.length_cons, List.length_nil, List.drop_succ_cons, List.drop_zero, List.take_succ_cons, List.take_zero, List.nil_append, List.cons_append, splice, isOne_int, isOne_str, isOne_bool, isOne_slice, isOne_pointer, isOne_map, condM_nf, condM_nef, gd_nef, gdf_nef, pick_nef, build_eq, fillA_nil, fillA_one, fillA_agg, Option.map_some, resv_one, resv_two, freeIn_nil, fillA_slc, fillA_int, fillA_str, fillA_bool, fillA_ptr, fillA_map, hst2, hc0, hlS, hq2])
    by_cases hcap : q.cap ≤ g.s.length
    · rw [if_pos hcap] at hspec
      rw [hspec] at hQ
      (try simp (maxSteps := 1000000) (disch := first | omega | (simp only [Heap.next_push', Heap.next_set']; omega) | (simp; done) | assumption | decide | (refine not_not_intro ?_; assumption)) only [at_zero, at_succ, wp_bnd, wp_lift, wpO_some, wp_ret, nx_nxt, nx_brk, nx_ret, unblk_nxt, unblk_ret, unblk_brk, finM_nxt, finM_ret, outV_one, condM_t, condM_f, condM_dt, condM_df, gd_t, gd_f, gdf_t, gdf_f, gd_skip, gd_dt, gd_df, gdf_dt, gdf_df, pick_t, pick_f, pick_dt, pick_df, not_t, not_f, not_dec, isNil_ptr, isNil_ptr', isNil_pnil, isNil_pnil', nilck_ptr, faddr_ptr, Nat.zero_add, Nat.add_zero, wp_ld1, lenStr_str, lenSlc_slice, strV_str, i64_add, i64_sub, i64_mul, i64_in, int_eqd, int_ned, int_lss, int_leq, int_gtr, int_geq, str_eqd, str_ned, if_true, wp_bndH, wp_withH, wp_need, enc_int, enc_str, enc_byte, enc_bool, List.getElem?_cons_zero, List.getElem?_cons_succ, cellP_get, cellG_cells, wp_st1g, stG_c, eq_self, true_and, wp_stng, stnG_ok, wp_ldng, ldG_ok, wp_newcg, wp_boxg, Heap.get_push_eq, Heap.get_push_lt, Heap.get_set_eq, Heap.get_set_ne', Heap.next_push', Heap.next_set', Heap.set_push_lt, Heap.set_push_eq, Heap.set_set, fld1_agg, fldn_agg, ext_tuple, outV_nil, outV_two, outV_three, outV_four, chk_ld1g, chkO_int, chkO_bool, chkO_str, chkO_ptr, chkO_slc, chkO_map, List.set_cons_zero, List.set_cons_succ, List.length_cons, List.length_nil, List.drop_succ_cons, List.drop_zero, List.take_succ_cons, List.take_zero, List.nil_append, List.cons_append, splice, isOne_int, isOne_str, isOne_bool, isOne_slice, isOne_pointer, isOne_map, condM_nf, condM_nef, gd_nef, gdf_nef, pick_nef, build_eq, fillA_nil, fillA_one, fillA_agg, Option.map_some, resv_one, resv_two, freeIn_nil, fillA_slc, fillA_int, fillA_str, fillA_bool, fillA_ptr, fillA_map, hst2, hc3, hel])
      refine hQ _ _ (h.put (g' := { g with lost := w64 (g.lost + 1) }) hg (k2.mono (by simp)) (hset3 _) (hsl.keep k2 (by simp)) (htl.keep k2 (by simp)) (h.dST port.toNat g hg) (fun b hb => .inl hb) hsz)
    · rw [if_neg hcap] at hspec
      rw [hspec] at hQ
      (try simp (maxSteps := 1000000) (disch := first | omega | (simp only [Heap.next_push', Heap.next_set']; omega) | (simp; done) | assumption | decide | (refine not_not_intro ?_; assumption)) only [at_zero, at_succ, wp_bnd, wp_lift, wpO_some, wp_ret, nx_nxt, nx_brk, nx_ret, unblk_nxt, unblk_ret, unblk_brk, finM_nxt, finM_ret, outV_one, condM_t, condM_f, condM_dt, condM_df, gd_t, gd_f, gdf_t, gdf_f, gd_skip, gd_dt, gd_df, gdf_dt, gdf_df, pick_t, pick_f, pick_dt, pick_df, not_t, not_f, not_dec, isNil_ptr, isNil_ptr', isNil_pnil, isNil_pnil', nilck_ptr, faddr_ptr, Nat.zero_add, Nat.add_zero, wp_ld1, lenStr_str, lenSlc_slice, strV_str, i64_add, i64_sub, i64_mul, i64_in, int_eqd, int_ned, int_lss, int_leq, int_gtr, int_geq, str_eqd, str_ned, if_true, wp_bndH, wp_withH, wp_need, enc_int, enc_str, enc_byte, enc_bool, List.getElem?_cons_zero, List.getElem?_cons_succ, cellP_get, cellG_cells, wp_st1g, stG_c, eq_self, true_and, wp_stng, stnG_ok, wp_ldng, ldG_ok, wp_newcg, wp_boxg, Heap.get_push_eq, Heap.get_push_lt, Heap.get_set_eq, Heap.get_set_ne', Heap.next_push', Heap.next_set', Heap.set_push_lt, Heap.set_push_eq, Heap.set_set, fld1_agg, fldn_agg, ext_tuple, outV_nil, outV_two, outV_three, outV_four, chk_ld1g, chkO_int, chkO_bool, chkO_str, chkO_ptr, chkO_slc, chkO_map, List.set_cons_zero, List.set_cons_succ, List.length_cons, List.length_nil, List.drop_succ_cons, List.drop_zero, List.take_succ_cons, List.take_zero, List.nil_append, List.cons_append, splice, isOne_int, isOne_str, isOne_bool, isOne_slice, isOne_pointer, isOne_map, condM_nf, condM_nef, gd_nef, gdf_nef, pick_nef, build_eq, fillA_nil, fillA_one, fillA_agg, Option.map_some, resv_one, resv_two, freeIn_nil, fillA_slc, fillA_int, fillA_str, fillA_bool, fillA_ptr, fillA_map, hst2, hc0])
      refine seg_apps (new := [i64 n]) (hsl.keep k2 (by simp)) (by decide) (by rfl) (by omega) (by rfl) (by rfl) (by simp; omega) (by simp; omega) fun b H3 o3 k3 f3 => ?_
      have hsb3 : H3.get sb = some (.cells true (encs gs)) := by
        rw [k3.same sb (Heap.get_lt hst2) (fun hm => (h.own _ _ hg sb (by simp [GS.fp, hm])).2.1 rfl)]; exact hst2
      (try simp (maxSteps := 1000000) (disch := first | omega | (simp only [Heap.next_push', Heap.next_set']; omega) | (simp; done) | assumption | decide | (refine not_not_intro ?_; assumption)) only [at_zero, at_succ, wp_bnd, wp_lift, wpO_some, wp_ret, nx_nxt, nx_brk, nx_ret, unblk_nxt, unblk_ret, unblk_brk, finM_nxt, finM_ret, outV_one, condM_t, condM_f, condM_dt, condM_df, gd_t, gd_f, gdf_t, gdf_f, gd_skip, gd_dt, gd_df, gdf_dt, gdf_df, pick_t, pick_f, pick_dt, pick_df, not_t, not_f, not_dec, isNil_ptr, isNil_ptr', isNil_pnil, isNil_pnil', nilck_ptr, faddr_ptr, Nat.zero_add, Nat.add_zero, wp_ld1, lenStr_str, lenSlc_slice, strV_str, i64_add, i64_sub, i64_mul, i64_in, int_eqd, int_ned, int_lss, int_leq, int_gtr, int_geq, str_eqd, str_ned, if_true, wp_bndH, wp_withH, wp_need, enc_int, enc_str, enc_byte, enc_bool, List.getElem?_cons_zero, List.getElem?_cons_succ, cellP_get, cellG_cells, wp_st1g, stG_c, eq_self, true_and, wp_stng, stnG_ok, wp_ldng, ldG_ok, wp_newcg, wp_boxg, Heap.get_push_eq, Heap.get_push_lt, Heap.get_set_eq, Heap.get_set_ne', Heap.next_push', Heap.next_set', Heap.set_push_lt, Heap.set_push_eq, Heap.set_set, fld1_agg, fldn_agg, ext_tuple, outV_nil, outV_two, outV_three, outV_four, chk_ld1g, chkO_int, chkO_bool, chkO_str, chkO_ptr, chkO_slc, chkO_map, List.set_cons_zero, List.set_cons_succ, List.length_cons, List.length_nil, List.drop_succ_cons, List.drop_zero, List.take_succ_cons, List.take_zero, List.nil_append, List.cons_append, splice, isOne_int, isOne_str, isOne_bool, isOne_slice, isOne_pointer, isOne_map, condM_nf, condM_nef, gd_nef, gdf_nef, pick_nef, build_eq, fillA_nil, fillA_one, fillA_agg, Option.map_some, resv_one, resv_two, freeIn_nil, fillA_slc, fillA_int, fillA_str, fillA_bool, fillA_ptr, fillA_map, hsb3, hel, ports_Box_Send_k0])
      have k23 : Keeps g.fp H H3 := (k2.mono (by simp)).trans (k3.mono (S' := g.fp) (fun b hb => by simp [GS.fp, hb])) (fun _ _ h => h)
      have hn3 := k2.next
      refine hQ _ _ (h.put (g' := { g with S := ⟨some ⟨b, 0, some 1⟩, (g.s.map i64 ++ [i64 n]).length, (g.s.map i64 ++ [i64 n]).length⟩, s := g.s ++ [n] }) hg k23 (hset0 _ _ rfl rfl rfl rfl) ?_ ?_ ?_ ?_ ⟨by simp; omega, hsz.2⟩)
      · have := o3.seg
        rw [show (g.s ++ [n]).map i64 = g.s.map i64 ++ [i64 n] by simp]
        exact this
      · exact htl.keep ((k2.mono (S' := vb g.S.v) (by simp)).trans k3 (fun _ _ h => h)) (fun x hx hm => h.dST port.toNat g hg x hm hx)
      · intro x hx hx2
        have := htl.lt x hx2
        simp [SV.v] at hx
        omega
      · intro x hx
        simp only [GS.fp, List.mem_append] at hx
        rcases hx with hx | hx
        · simp [SV.v] at hx
          right; omega
        · left; simp [GS.fp, hx]
end Go.AM.Cap
