import Derived.Test.YteekfnhhjmcohaaPoU
import Derived.Test.YteekfnhhjmcohaaFun2
set_option linter.all false
/- ports: one way (the plain law) -/
set_option maxHeartbeats 8000000
namespace Go.AM.Cap
open Go.AM Go.Proofs

def sendX (q : Port) (n : Int) (x : PSt) : PSt :=
  if ¬ fits q.typ n then x else if q.kind = 1 then { x with s := [n] } else
  if q.cap ≤ x.s.length then { x with lost := w64 (x.lost + 1) } else { x with s := x.s ++ [n] }
def recvX (q : Port) (x : PSt) : PSt := if x.t.length = 0 then x else if q.kind = 1 then x else { x with t := x.t.drop 1 }
theorem st_self {st : List PSt} {i : Nat} (h : i < st.length) : st.getD i default = st[i] := by rw [List.getD_eq_getElem?_getD, List.getElem?_eq_getElem h]; rfl
theorem send_getD {ls : List Port} {st : List PSt} (hl : st.length = ls.length) (part port n : Int) {j : Nat} (hj : j < ls.length) :
    (sendS ls st part port n).1.getD j default = if okP ls part port ∧ (portAt ls port).src = part ∧ j = port.toNat then sendX (ls.getD j default) n (st.getD j default) else st.getD j default := by
  unfold sendS
  by_cases h1 : okP ls part port
  case neg => rw [if_pos h1, if_neg (fun h => h1 h.1)]
  rw [if_neg (not_not_intro h1)]
  by_cases h2 : (portAt ls port).src = part
  case neg => rw [if_pos h2, if_neg (fun h => h2 h.2.1)]
  rw [if_neg (not_not_intro h2)]
  by_cases h3 : j = port.toNat
  · subst h3
    rw [if_pos (c := okP ls part port ∧ (portAt ls port).src = part ∧ port.toNat = port.toNat) ⟨h1, h2, rfl⟩]
    unfold sendX
    by_cases h4 : fits (portAt ls port).typ n
    case neg => rw [if_pos h4, if_pos h4]
    rw [if_neg (not_not_intro h4), if_neg (not_not_intro h4)]
    by_cases h5 : (portAt ls port).kind = 1
    · rw [if_pos h5, if_pos h5]
      exact getD_set_self (by omega) _
    rw [if_neg h5, if_neg h5]
    by_cases h6 : (portAt ls port).cap ≤ (stAt st port).s.length
    · rw [if_pos h6, if_pos (c := (ls.getD port.toNat default).cap ≤ ((st.getD port.toNat default).s.length : Int)) h6]
      exact getD_set_self (by omega) _
    · rw [if_neg h6, if_neg (c := (ls.getD port.toNat default).cap ≤ ((st.getD port.toNat default).s.length : Int)) h6]
      exact getD_set_self (by omega) _
  · rw [if_neg (c := okP ls part port ∧ (portAt ls port).src = part ∧ j = port.toNat) (fun h => h3 h.2.2)]
    repeat' split
    all_goals first | rfl | exact getD_set_ne h3 _
theorem recv_getD {ls : List Port} {st : List PSt} (hl : st.length = ls.length) (part port : Int) {j : Nat} (hj : j < ls.length) :
    (recvS ls st part port).1.getD j default = if okP ls part port ∧ (portAt ls port).dst = part ∧ j = port.toNat then recvX (ls.getD j default) (st.getD j default) else st.getD j default := by
  unfold recvS
  by_cases h1 : okP ls part port
  case neg => rw [if_pos h1, if_neg (fun h => h1 h.1)]
  rw [if_neg (not_not_intro h1)]
  by_cases h2 : (portAt ls port).dst = part
  case neg => rw [if_pos h2, if_neg (fun h => h2 h.2.1)]
  rw [if_neg (not_not_intro h2)]
  by_cases h3 : j = port.toNat
  · subst h3
    rw [if_pos (c := okP ls part port ∧ (portAt ls port).dst = part ∧ port.toNat = port.toNat) ⟨h1, h2, rfl⟩]
    unfold recvX
    by_cases h4 : (stAt st port).t.length = 0
    · rw [if_pos h4, if_pos (c := (st.getD port.toNat default).t.length = 0) h4]
    rw [if_neg h4, if_neg (c := (st.getD port.toNat default).t.length = 0) h4]
    by_cases h5 : (portAt ls port).kind = 1
    · rw [if_pos h5, if_pos h5]
    rw [if_neg h5, if_neg h5]
    exact getD_set_self (by omega) _
  · rw [if_neg (c := okP ls part port ∧ (portAt ls port).dst = part ∧ j = port.toNat) (fun h => h3 h.2.2)]
    repeat' split
    all_goals first | rfl | exact getD_set_ne h3 _

/-- where something flows from who, and who itself -/
def Far (ls : List Port) (who x : Int) : Prop := x = who ∨ Reach ls who x
def Sim (ls : List Port) (who : Int) (q : Port) (x y : PSt) : Prop := ¬ Far ls who q.src → x.s = y.s ∧ (q.dst ≠ who → x.t = y.t ∧ x.age = y.age)
def Apart (ls : List Port) (who : Int) (st st' : List PSt) : Prop := ∀ i, i < ls.length → Sim ls who (ls.getD i default) (st.getD i default) (st'.getD i default)

theorem sim_send {ls : List Port} {who : Int} {q : Port} {x y : PSt} (h : Sim ls who q x y) (n : Int) : Sim ls who q (sendX q n x) (sendX q n y) := by
  intro hf
  obtain ⟨h1, h2⟩ := h hf
  unfold sendX
  rw [h1]
  split
  · exact ⟨h1, h2⟩
  split
  · exact ⟨rfl, h2⟩
  split
  · exact ⟨rfl, h2⟩
  · exact ⟨rfl, h2⟩
theorem recvX_s (q : Port) (x : PSt) : (recvX q x).s = x.s := by
  unfold recvX
  split
  · rfl
  split <;> rfl
theorem sim_recv {ls : List Port} {who : Int} {q : Port} {x y : PSt} (h : Sim ls who q x y) : Sim ls who q (recvX q x) (recvX q y) := by
  intro hf
  obtain ⟨h1, h2⟩ := h hf
  refine ⟨by rw [recvX_s, recvX_s, h1], fun hd => ?_⟩
  obtain ⟨h3, h4⟩ := h2 hd
  unfold recvX
  rw [h3]
  split
  · exact ⟨h3, h4⟩
  split
  · exact ⟨h3, h4⟩
  · exact ⟨rfl, h4⟩
theorem sim_frame {ls : List Port} {who : Int} {q : Port} {x y : PSt} (h : Sim ls who q x y) : Sim ls who q (frameP q x) (frameP q y) := by
  intro hf
  obtain ⟨h1, h2⟩ := h hf
  refine ⟨by rw [frameP_s, frameP_s], fun hd => ?_⟩
  obtain ⟨h3, h4⟩ := h2 hd
  unfold frameP
  rw [h1, h3]
  split
  · exact ⟨rfl, h4⟩
  split
  · exact ⟨rfl, rfl⟩
  split
  · exact ⟨rfl, by show w64 (x.age + 1) = w64 (y.age + 1); rw [h4]⟩
  · exact ⟨rfl, h4⟩
theorem doS_len {ls : List Port} {st : List PSt} (hl : st.length = ls.length) (a : Act) : (doS ls st a).1.length = ls.length := by
  unfold doS
  split
  · show (sendS ls st a.part a.port a.n).1.length = _
    unfold sendS
    repeat' split
    all_goals simp [hl]
  split
  · unfold recvS
    repeat' split
    all_goals simp [hl]
  split
  · show (frameAll ls st).length = _
    rw [frameAll, upd_length, hl]
  split
  · show (undoAll ls a.part st).length = _
    rw [undoAll, upd_length, hl]
  · exact hl

theorem apart_do {ls : List Port} {who : Int} {st st' : List PSt} (h : Apart ls who st st') (hl : st.length = ls.length) (hl' : st'.length = ls.length) (a : Act) : Apart ls who (doS ls st a).1 (doS ls st' a).1 := by
  intro j hj
  have hs := h j hj
  unfold doS
  split
  · show Sim ls who _ ((sendS ls st a.part a.port a.n).1.getD j default) ((sendS ls st' a.part a.port a.n).1.getD j default)
    rw [send_getD hl _ _ _ hj, send_getD hl' _ _ _ hj]
    split
    · exact sim_send hs _
    · exact hs
  split
  · rw [recv_getD hl _ _ hj, recv_getD hl' _ _ hj]
    split
    · exact sim_recv hs
    · exact hs
  split
  · show Sim ls who _ ((frameAll ls st).getD j default) ((frameAll ls st').getD j default)
    rw [frameAll, frameAll, upd_getD _ _ _ _ (by omega), upd_getD _ _ _ _ (by omega), if_pos (by omega), if_pos (by omega)]
    exact sim_frame hs
  split
  · show Sim ls who _ ((undoAll ls a.part st).getD j default) ((undoAll ls a.part st').getD j default)
    rw [undoAll, undoAll, upd_getD _ _ _ _ (by omega), upd_getD _ _ _ _ (by omega), if_pos (by omega), if_pos (by omega), undoF, undoF]
    split
    · exact fun hf => ⟨rfl, (hs hf).2⟩
    · exact hs
  · exact hs
/-- what who does -/
theorem apart_who {ls : List Port} {who : Int} {st st' : List PSt} (h : Apart ls who st st') (hl : st.length = ls.length) (a : Act) (ha : a.part = who) (hk : amongI a.kind 4 ≠ 2) : Apart ls who (doS ls st a).1 st' := by
  intro j hj
  have hs := h j hj
  unfold doS
  split
  · show Sim ls who _ ((sendS ls st a.part a.port a.n).1.getD j default) _
    rw [send_getD hl _ _ _ hj]
    split
    · rename_i hc
      obtain ⟨_, h2, h3⟩ := hc
      subst h3
      exact fun hf => absurd (.inl (h2.trans ha)) hf
    · exact hs
  split
  · rw [recv_getD hl _ _ hj]
    split
    · rename_i hc
      obtain ⟨_, h2, h3⟩ := hc
      subst h3
      intro hf
      refine ⟨?_, fun hd => absurd (h2.trans ha) hd⟩
      rw [recvX_s]; exact (hs hf).1
    · exact hs
  split
  · show Sim ls who _ ((undoAll ls a.part st).getD j default) _
    rw [undoAll, upd_getD _ _ _ _ (by omega), if_pos (by omega), undoF]
    split
    · rename_i hc
      exact fun hf => absurd (.inl (hc.trans ha)) hf
    · exact hs
  · exact hs
/-- the answers to one to whom nothing flows -/
theorem apart_res {ls : List Port} {who : Int} {st st' : List PSt} (h : Apart ls who st st') (a : Act) (ha : ¬ (amongI a.kind 4 ≠ 2 ∧ a.part = who)) (hr : ¬ Reach ls who a.part) : (doS ls st a).2 = (doS ls st' a).2 := by
  unfold doS
  by_cases c2 : amongI a.kind 4 = 2
  · rw [if_neg (by omega), if_neg (by omega), if_pos c2, if_neg (by omega), if_neg (by omega), if_pos c2]
  have hne : a.part ≠ who := fun e => ha ⟨c2, e⟩
  split
  · show ((0 : Int), (0 : Int), (sendS ls st a.part a.port a.n).2) = (0, 0, (sendS ls st' a.part a.port a.n).2)
    congr 2
    unfold sendS
    by_cases h1 : okP ls a.part a.port
    case neg => rw [if_pos h1, if_pos h1]
    rw [if_neg (not_not_intro h1), if_neg (not_not_intro h1)]
    by_cases h2 : (portAt ls a.port).src = a.part
    case neg => rw [if_pos h2, if_pos h2]
    rw [if_neg (not_not_intro h2), if_neg (not_not_intro h2)]
    have hi : a.port.toNat < ls.length := by unfold okP at h1; omega
    have hf : ¬ Far ls who (ls.getD a.port.toNat default).src := by
      rw [show (ls.getD a.port.toNat default).src = a.part from h2]
      exact fun q => q.elim hne hr
    have e : (stAt st a.port).s = (stAt st' a.port).s := (h _ hi hf).1
    rw [e]
    repeat' split
    all_goals rfl
  split
  · unfold recvS
    by_cases h1 : okP ls a.part a.port
    case neg => rw [if_pos h1, if_pos h1]
    rw [if_neg (not_not_intro h1), if_neg (not_not_intro h1)]
    by_cases h2 : (portAt ls a.port).dst = a.part
    case neg => rw [if_pos h2, if_pos h2]
    rw [if_neg (not_not_intro h2), if_neg (not_not_intro h2)]
    have hi : a.port.toNat < ls.length := by unfold okP at h1; omega
    have hmem : portAt ls a.port ∈ ls := portAt_mem (by unfold okP at h1; omega) (by unfold okP at h1; omega)
    have hf : ¬ Far ls who (ls.getD a.port.toNat default).src := by
      intro q
      apply hr
      rw [← h2]
      rcases q with q | q
      · exact .base _ hmem q
      · exact .step _ hmem q
    obtain ⟨e1, e2⟩ := h _ hi hf
    obtain ⟨e3, e4⟩ := e2 (by rw [show (ls.getD a.port.toNat default).dst = a.part from h2]; exact hne)
    have e3' : (stAt st a.port).t = (stAt st' a.port).t := e3
    have e4' : (stAt st a.port).age = (stAt st' a.port).age := e4
    rw [e3', e4']
    repeat' split
    all_goals rfl
  split <;> rfl
end Go.AM.Cap

/- ports: the law PortsApart -/
set_option maxHeartbeats 8000000
namespace Go.AM.Cap
open Go.AM Go.Proofs

def boolsOf (f : Nat → Bool) : List V := (List.range 8).map fun j => .bool (f j)
theorem boolsOf_get (f : Nat → Bool) {i : Nat} (h : i < 8) : (boolsOf f)[i]? = some (.bool (f i)) := by simp [boolsOf, h]
theorem boolsOf_set (f : Nat → Bool) (i : Nat) : (boolsOf f).set i (.bool true) = boolsOf (fun j => if j = i then true else f j) := by
  apply List.ext_getElem?
  intro j
  by_cases hj : j < 8
  · rw [boolsOf_get _ hj]
    by_cases e : j = i
    · subst e; rw [List.getElem?_set_self (by simp [boolsOf]; omega), if_pos rfl]
    · rw [List.getElem?_set_ne (fun q => e q.symm), boolsOf_get _ hj, if_neg e]
  · rw [List.getElem?_eq_none (by simp [boolsOf]; omega), List.getElem?_eq_none (by simp [boolsOf]; omega)]

theorem apart_loop {H0 H : Heap} {p sb p' sb' bb : Nat} {lv lv' av : V} {ls : List Port} {gs gs' : List GS} {acts : List Act} {who : Int} (f : Nat → Bool) (hf : ∀ j : Nat, j < 8 → (f j = true ↔ Reach ls who j)) (ha : Sl H0 av acts) (d : Duo H0 H p sb lv p' sb' lv' ls gs gs') (hs : Apart ls who (gs.map GS.st) (gs'.map GS.st))
    (hb : H.get bb = some (.cells true (boolsOf f))) (hbA : bb ∉ foot p sb lv gs) (hbB : bb ∉ foot p' sb' lv' gs') (Q : Out → Heap → Prop) (hQ : ∀ H', Q (.brk 2 []) H') :
    wp (loopM FUEL (law20_PortsApart_l7 noM) [av, i64 who, ptr p 0, ptr p' 0, slc bb 0 1 8 8, i64 0]) Q H := by
  refine wp_loop (Inv := fun k vs H' => ∃ (i : Nat) (gs gs' : List GS), k = 150 - i ∧ i ≤ 150 ∧ i ≤ acts.length ∧ vs = [av, i64 who, ptr p 0, ptr p' 0, slc bb 0 1 8 8, i64 i] ∧ Duo H0 H' p sb lv p' sb' lv' ls gs gs' ∧ Apart ls who (gs.map GS.st) (gs'.map GS.st) ∧ H'.get bb = some (.cells true (boolsOf f)) ∧ bb ∉ foot p sb lv gs ∧ bb ∉ foot p' sb' lv' gs') (n := 150) (by unfold FUEL; omega)
    ⟨0, gs, gs', by omega, by omega, by omega, rfl, d, hs, hb, hbA, hbB⟩ ?_
  clear d hs hb hbA hbB gs gs'
  rintro k vs H' ⟨i, gs, gs', hk, hi, hi2, rfl, d, hs, hb, hbA, hbB⟩
  have ha' := ha.keep0 d.k
  have hal := ha'.len
  by_cases h : i < acts.length
  case neg =>
    (try simp (maxSteps := 1000000) (disch := first | omega | (simp only [Heap.next_push', Heap.next_set']; omega) | (simp; done) | assumption | decide | (refine not_not_intro ?_; assumption)) only [at_zero, at_succ, wp_bnd, wp_lift, wpO_some, wp_ret, nx_nxt, nx_brk, nx_ret, unblk_nxt, unblk_ret, unblk_brk, finM_nxt, finM_ret, outV_one, condM_t, condM_f, condM_dt, condM_df, gd_t, gd_f, gdf_t, gdf_f, gd_skip, gd_dt, gd_df, gdf_dt, gdf_df, pick_t, pick_f, pick_dt, pick_df, not_t, not_f, not_dec, isNil_ptr, isNil_ptr', isNil_pnil, isNil_pnil', nilck_ptr, faddr_ptr, Nat.zero_add, Nat.add_zero, wp_ld1, lenStr_str, lenSlc_slice, strV_str, i64_add, i64_sub, i64_mul, i64_in, int_eqd, int_ned, int_lss, int_leq, int_gtr, int_geq, str_eqd, str_ned, if_true, wp_bndH, wp_withH, wp_need, enc_int, enc_str, enc_byte, enc_bool, List.getElem?_cons_zero, List.getElem?_cons_succ, cellP_get, cellG_cells, wp_st1g, stG_c, eq_self, true_and, wp_stng, stnG_ok, wp_ldng, ldG_ok, wp_newcg, wp_boxg, Heap.get_push_eq, Heap.get_push_lt, Heap.get_set_eq, Heap.get_set_ne', Heap.next_push', Heap.next_set', Heap.set_push_lt, Heap.set_push_eq, Heap.set_set, fld1_agg, fldn_agg, ext_tuple, outV_nil, outV_two, outV_three, outV_four, chk_ld1g, chkO_int, chkO_bool, chkO_str, chkO_ptr, chkO_slc, chkO_map, List.set_cons_zero, List.set_cons_succ, List.length_cons, List.length_nil, List.drop_succ_cons, List.drop_zero, List.take_succ_cons, List.take_zero, List.nil_append, List.cons_append, splice, isOne_int, isOne_str, isOne_bool, isOne_slice, isOne_pointer, isOne_map, condM_nf, condM_nef, gd_nef, gdf_nef, pick_nef, build_eq, fillA_nil, fillA_one, fillA_agg, Option.map_some, resv_one, resv_two, freeIn_nil, fillA_slc, fillA_int, fillA_str, fillA_bool, fillA_ptr, fillA_map, law20_PortsApart_l7, hal])
    exact hQ _
  by_cases h150 : i < 150
  case neg =>
    (try simp (maxSteps := 1000000) (disch := first | omega | (simp only [Heap.next_push', Heap.next_set']; omega) | (simp; done) | assumption | decide | (refine not_not_intro ?_; assumption)) only [at_zero, at_succ, wp_bnd, wp_lift, wpO_some, wp_ret, nx_nxt, nx_brk, nx_ret, unblk_nxt, unblk_ret, unblk_brk, finM_nxt, finM_ret, outV_one, condM_t, condM_f, condM_dt, condM_df, gd_t, gd_f, gdf_t, gdf_f, gd_skip, gd_dt, gd_df, gdf_dt, gdf_df, pick_t, pick_f, pick_dt, pick_df, not_t, not_f, not_dec, isNil_ptr, isNil_ptr', isNil_pnil, isNil_pnil', nilck_ptr, faddr_ptr, Nat.zero_add, Nat.add_zero, wp_ld1, lenStr_str, lenSlc_slice, strV_str, i64_add, i64_sub, i64_mul, i64_in, int_eqd, int_ned, int_lss, int_leq, int_gtr, int_geq, str_eqd, str_ned, if_true, wp_bndH, wp_withH, wp_need, enc_int, enc_str, enc_byte, enc_bool, List.getElem?_cons_zero, List.getElem?_cons_succ, cellP_get, cellG_cells, wp_st1g, stG_c, eq_self, true_and, wp_stng, stnG_ok, wp_ldng, ldG_ok, wp_newcg, wp_boxg, Heap.get_push_eq, Heap.get_push_lt, Heap.get_set_eq, Heap.get_set_ne', Heap.next_push', Heap.next_set', Heap.set_push_lt, Heap.set_push_eq, Heap.set_set, fld1_agg, fldn_agg, ext_tuple, outV_nil, outV_two, outV_three, outV_four, chk_ld1g, chkO_int, chkO_bool, chkO_str, chkO_ptr, chkO_slc, chkO_map, List.set_cons_zero, List.set_cons_succ, List.length_cons, List.length_nil, List.drop_succ_cons, List.drop_zero, List.take_succ_cons, List.take_zero, List.nil_append, List.cons_append, splice, isOne_int, isOne_str, isOne_bool, isOne_slice, isOne_pointer, isOne_map, condM_nf, condM_nef, gd_nef, gdf_nef, pick_nef, build_eq, fillA_nil, fillA_one, fillA_agg, Option.map_some, resv_one, resv_two, freeIn_nil, fillA_slc, fillA_int, fillA_str, fillA_bool, fillA_ptr, fillA_map, law20_PortsApart_l7, hal])
    exact hQ _
  generalize hac : acts.getD i default = a
  have hldn : ∀ {Q : V → Heap → Prop}, wp (ldn 4 (ptr (slB av) (slO av + i * 4))) Q H' ↔ Q (.agg [i64 a.kind, i64 a.part, i64 a.port, i64 a.n].toArray) H' := fun {Q} => by
    rw [ha'.ldn' (n := 4) rfl h default, hac]; rfl
  have hadd : iaddrS 4 av (i64 i) = some (ptr (slB av) (slO av + i * 4)) := by
    have := ha'.addr' (n := 4) rfl (k := .i64) (i := i) (by omega) (by omega)
    rwa [Int.toNat_natCast] at this
  have hbl := Heap.get_lt hb
  (try simp (maxSteps := 1000000) (disch := first | omega | (simp only [Heap.next_push', Heap.next_set']; omega) | (simp; done) | assumption | decide | (refine not_not_intro ?_; assumption)) only [at_zero, at_succ, wp_bnd, wp_lift, wpO_some, wp_ret, nx_nxt, nx_brk, nx_ret, unblk_nxt, unblk_ret, unblk_brk, finM_nxt, finM_ret, outV_one, condM_t, condM_f, condM_dt, condM_df, gd_t, gd_f, gdf_t, gdf_f, gd_skip, gd_dt, gd_df, gdf_dt, gdf_df, pick_t, pick_f, pick_dt, pick_df, not_t, not_f, not_dec, isNil_ptr, isNil_ptr', isNil_pnil, isNil_pnil', nilck_ptr, faddr_ptr, Nat.zero_add, Nat.add_zero, wp_ld1, lenStr_str, lenSlc_slice, strV_str, i64_add, i64_sub, i64_mul, i64_in, int_eqd, int_ned, int_lss, int_leq, int_gtr, int_geq, str_eqd, str_ned, if_true, wp_bndH, wp_withH, wp_need, enc_int, enc_str, enc_byte, enc_bool, List.getElem?_cons_zero, List.getElem?_cons_succ, cellP_get, cellG_cells, wp_st1g, stG_c, eq_self, true_and, wp_stng, stnG_ok, wp_ldng, ldG_ok, wp_newcg, wp_boxg, Heap.get_push_eq, Heap.get_push_lt, Heap.get_set_eq, Heap.get_set_ne', Heap.next_push', Heap.next_set', Heap.set_push_lt, Heap.set_push_eq, Heap.set_set, fld1_agg, fldn_agg, ext_tuple, outV_nil, outV_two, outV_three, outV_four, chk_ld1g, chkO_int, chkO_bool, chkO_str, chkO_ptr, chkO_slc, chkO_map, List.set_cons_zero, List.set_cons_succ, List.length_cons, List.length_nil, List.drop_succ_cons, List.drop_zero, List.take_succ_cons, List.take_zero, List.nil_append, List.cons_append, splice, isOne_int, isOne_str, isOne_bool, isOne_slice, isOne_pointer, isOne_map, condM_nf, condM_nef, gd_nef, gdf_nef, pick_nef, build_eq, fillA_nil, fillA_one, fillA_agg, Option.map_some, resv_one, resv_two, freeIn_nil, fillA_slc, fillA_int, fillA_str, fillA_bool, fillA_ptr, fillA_map, law20_PortsApart_l7, hal, law20_PortsApart_k6, hadd, hldn, among_eq])
  have k3 : Keeps [] H' (H'.push (some (.cells true [i64 a.kind, i64 a.part, i64 a.port, i64 a.n]))) := Keeps.push _ _ _
  have hL := Heap.get_push_self H' (some (.cells true [i64 a.kind, i64 a.part, i64 a.port, i64 a.n]))
  have hLa : H'.next ∉ foot p sb lv gs := fun hm => by have := d.a.lt _ hm; omega
  have hLb : H'.next ∉ foot p' sb' lv' gs' := fun hm => by have := d.b.lt _ hm; omega
  have hb3 := k3.get hb (by simp)
  generalize hH3 : H'.push (some (.cells true [i64 a.kind, i64 a.part, i64 a.port, i64 a.n])) = H3 at *
  generalize hLL : H'.next = L at *
  have d3 := d.keep k3
  have hlA := d.a.st_len
  have hlB := d.b.st_len
  by_cases hc : amongI a.kind 4 ≠ 2 ∧ a.part = who
  · obtain ⟨hc0, hc1⟩ := hc
    (try simp (maxSteps := 1000000) (disch := first | omega | (simp only [Heap.next_push', Heap.next_set']; omega) | (simp; done) | assumption | decide | (refine not_not_intro ?_; assumption)) only [at_zero, at_succ, wp_bnd, wp_lift, wpO_some, wp_ret, nx_nxt, nx_brk, nx_ret, unblk_nxt, unblk_ret, unblk_brk, finM_nxt, finM_ret, outV_one, condM_t, condM_f, condM_dt, condM_df, gd_t, gd_f, gdf_t, gdf_f, gd_skip, gd_dt, gd_df, gdf_dt, gdf_df, pick_t, pick_f, pick_dt, pick_df, not_t, not_f, not_dec, isNil_ptr, isNil_ptr', isNil_pnil, isNil_pnil', nilck_ptr, faddr_ptr, Nat.zero_add, Nat.add_zero, wp_ld1, lenStr_str, lenSlc_slice, strV_str, i64_add, i64_sub, i64_mul, i64_in, int_eqd, int_ned, int_lss, int_leq, int_gtr, int_geq, str_eqd, str_ned, if_true, wp_bndH, wp_withH, wp_need, enc_int, enc_str, enc_byte, enc_bool, List.getElem?_cons_zero, List.getElem?_cons_succ, cellP_get, cellG_cells, wp_st1g, stG_c, eq_self, true_and, wp_stng, stnG_ok, wp_ldng, ldG_ok, wp_newcg, wp_boxg, Heap.get_push_eq, Heap.get_push_lt, Heap.get_set_eq, Heap.get_set_ne', Heap.next_push', Heap.next_set', Heap.set_push_lt, Heap.set_push_eq, Heap.set_set, fld1_agg, fldn_agg, ext_tuple, outV_nil, outV_two, outV_three, outV_four, chk_ld1g, chkO_int, chkO_bool, chkO_str, chkO_ptr, chkO_slc, chkO_map, List.set_cons_zero, List.set_cons_succ, List.length_cons, List.length_nil, List.drop_succ_cons, List.drop_zero, List.take_succ_cons, List.take_zero, List.nil_append, List.cons_append, splice, isOne_int, isOne_str, isOne_bool, isOne_slice, isOne_pointer, isOne_map, condM_nf, condM_nef, gd_nef, gdf_nef, pick_nef, build_eq, fillA_nil, fillA_one, fillA_agg, Option.map_some, resv_one, resv_two, freeIn_nil, fillA_slc, fillA_int, fillA_str, fillA_bool, fillA_ptr, fillA_map, hL])
    refine do_ok d3.a a _ fun gs1 H4 t4 => ?_
    have d4 := d3.turnA t4
    obtain ⟨hb4, hbA4⟩ := t4.aside hb3 hbA
    (try simp (maxSteps := 1000000) (disch := first | omega | (simp only [Heap.next_push', Heap.next_set']; omega) | (simp; done) | assumption | decide | (refine not_not_intro ?_; assumption)) only [at_zero, at_succ, wp_bnd, wp_lift, wpO_some, wp_ret, nx_nxt, nx_brk, nx_ret, unblk_nxt, unblk_ret, unblk_brk, finM_nxt, finM_ret, outV_one, condM_t, condM_f, condM_dt, condM_df, gd_t, gd_f, gdf_t, gdf_f, gd_skip, gd_dt, gd_df, gdf_dt, gdf_df, pick_t, pick_f, pick_dt, pick_df, not_t, not_f, not_dec, isNil_ptr, isNil_ptr', isNil_pnil, isNil_pnil', nilck_ptr, faddr_ptr, Nat.zero_add, Nat.add_zero, wp_ld1, lenStr_str, lenSlc_slice, strV_str, i64_add, i64_sub, i64_mul, i64_in, int_eqd, int_ned, int_lss, int_leq, int_gtr, int_geq, str_eqd, str_ned, if_true, wp_bndH, wp_withH, wp_need, enc_int, enc_str, enc_byte, enc_bool, List.getElem?_cons_zero, List.getElem?_cons_succ, cellP_get, cellG_cells, wp_st1g, stG_c, eq_self, true_and, wp_stng, stnG_ok, wp_ldng, ldG_ok, wp_newcg, wp_boxg, Heap.get_push_eq, Heap.get_push_lt, Heap.get_set_eq, Heap.get_set_ne', Heap.next_push', Heap.next_set', Heap.set_push_lt, Heap.set_push_eq, Heap.set_set, fld1_agg, fldn_agg, ext_tuple, outV_nil, outV_two, outV_three, outV_four, chk_ld1g, chkO_int, chkO_bool, chkO_str, chkO_ptr, chkO_slc, chkO_map, List.set_cons_zero, List.set_cons_succ, List.length_cons, List.length_nil, List.drop_succ_cons, List.drop_zero, List.take_succ_cons, List.take_zero, List.nil_append, List.cons_append, splice, isOne_int, isOne_str, isOne_bool, isOne_slice, isOne_pointer, isOne_map, condM_nf, condM_nef, gd_nef, gdf_nef, pick_nef, build_eq, fillA_nil, fillA_one, fillA_agg, Option.map_some, resv_one, resv_two, freeIn_nil, fillA_slc, fillA_int, fillA_str, fillA_bool, fillA_ptr, fillA_map, law20_PortsApart_k5])
    exact ⟨150 - (i + 1), by omega, i + 1, gs1, gs', rfl, by omega, by omega, rfl, d4, by rw [t4.st]; exact apart_who hs hlA a hc1 hc0, hb4, hbA4, hbB⟩
  · have go : wp (law20_PortsApart_k4 noM [av, i64 who, ptr p 0, ptr p' 0, slc bb 0 1 8 8, i64 i, ptr L 0]) (fun b H5 => wp (nx (unblk 3 b) (law20_PortsApart_k5 noM)) (fun o H' => match o with
        | .nxt vs' => ∃ k', k' < k ∧ ∃ (i : Nat) (gs gs' : List GS), k' = 150 - i ∧ i ≤ 150 ∧ i ≤ acts.length ∧ vs' = [av, i64 who, ptr p 0, ptr p' 0, slc bb 0 1 8 8, i64 i] ∧ Duo H0 H' p sb lv p' sb' lv' ls gs gs' ∧ Apart ls who (gs.map GS.st) (gs'.map GS.st) ∧ H'.get bb = some (.cells true (boolsOf f)) ∧ bb ∉ foot p sb lv gs ∧ bb ∉ foot p' sb' lv' gs'
        | o => Q o H') H5) H3 := by
      (try simp (maxSteps := 1000000) (disch := first | omega | (simp only [Heap.next_push', Heap.next_set']; omega) | (simp; done) | assumption | decide | (refine not_not_intro ?_; assumption)) only [at_zero, at_succ, wp_bnd, wp_lift, wpO_some, wp_ret, nx_nxt, nx_brk, nx_ret, unblk_nxt, unblk_ret, unblk_brk, finM_nxt, finM_ret, outV_one, condM_t, condM_f, condM_dt, condM_df, gd_t, gd_f, gdf_t, gdf_f, gd_skip, gd_dt, gd_df, gdf_dt, gdf_df, pick_t, pick_f, pick_dt, pick_df, not_t, not_f, not_dec, isNil_ptr, isNil_ptr', isNil_pnil, isNil_pnil', nilck_ptr, faddr_ptr, Nat.zero_add, Nat.add_zero, wp_ld1, lenStr_str, lenSlc_slice, strV_str, i64_add, i64_sub, i64_mul, i64_in, int_eqd, int_ned, int_lss, int_leq, int_gtr, int_geq, str_eqd, str_ned, if_true, wp_bndH, wp_withH, wp_need, enc_int, enc_str, enc_byte, enc_bool, List.getElem?_cons_zero, List.getElem?_cons_succ, cellP_get, cellG_cells, wp_st1g, stG_c, eq_self, true_and, wp_stng, stnG_ok, wp_ldng, ldG_ok, wp_newcg, wp_boxg, Heap.get_push_eq, Heap.get_push_lt, Heap.get_set_eq, Heap.get_set_ne', Heap.next_push', Heap.next_set', Heap.set_push_lt, Heap.set_push_eq, Heap.set_set, fld1_agg, fldn_agg, ext_tuple, outV_nil, outV_two, outV_three, outV_four, chk_ld1g, chkO_int, chkO_bool, chkO_str, chkO_ptr, chkO_slc, chkO_map, List.set_cons_zero, List.set_cons_succ, List.length_cons, List.length_nil, List.drop_succ_cons, List.drop_zero, List.take_succ_cons, List.take_zero, List.nil_append, List.cons_append, splice, isOne_int, isOne_str, isOne_bool, isOne_slice, isOne_pointer, isOne_map, condM_nf, condM_nef, gd_nef, gdf_nef, pick_nef, build_eq, fillA_nil, fillA_one, fillA_agg, Option.map_some, resv_one, resv_two, freeIn_nil, fillA_slc, fillA_int, fillA_str, fillA_bool, fillA_ptr, fillA_map, law20_PortsApart_k4, hL])
      refine do_ok d3.a a _ fun gs1 H4 t4 => ?_
      obtain ⟨hL4, hLa4⟩ := t4.aside hL hLa
      obtain ⟨hb4, hbA4⟩ := t4.aside hb3 hbA
      have d4 := d3.turnA t4
      (try simp (maxSteps := 1000000) (disch := first | omega | (simp only [Heap.next_push', Heap.next_set']; omega) | (simp; done) | assumption | decide | (refine not_not_intro ?_; assumption)) only [at_zero, at_succ, wp_bnd, wp_lift, wpO_some, wp_ret, nx_nxt, nx_brk, nx_ret, unblk_nxt, unblk_ret, unblk_brk, finM_nxt, finM_ret, outV_one, condM_t, condM_f, condM_dt, condM_df, gd_t, gd_f, gdf_t, gdf_f, gd_skip, gd_dt, gd_df, gdf_dt, gdf_df, pick_t, pick_f, pick_dt, pick_df, not_t, not_f, not_dec, isNil_ptr, isNil_ptr', isNil_pnil, isNil_pnil', nilck_ptr, faddr_ptr, Nat.zero_add, Nat.add_zero, wp_ld1, lenStr_str, lenSlc_slice, strV_str, i64_add, i64_sub, i64_mul, i64_in, int_eqd, int_ned, int_lss, int_leq, int_gtr, int_geq, str_eqd, str_ned, if_true, wp_bndH, wp_withH, wp_need, enc_int, enc_str, enc_byte, enc_bool, List.getElem?_cons_zero, List.getElem?_cons_succ, cellP_get, cellG_cells, wp_st1g, stG_c, eq_self, true_and, wp_stng, stnG_ok, wp_ldng, ldG_ok, wp_newcg, wp_boxg, Heap.get_push_eq, Heap.get_push_lt, Heap.get_set_eq, Heap.get_set_ne', Heap.next_push', Heap.next_set', Heap.set_push_lt, Heap.set_push_eq, Heap.set_set, fld1_agg, fldn_agg, ext_tuple, outV_nil, outV_two, outV_three, outV_four, chk_ld1g, chkO_int, chkO_bool, chkO_str, chkO_ptr, chkO_slc, chkO_map, List.set_cons_zero, List.set_cons_succ, List.length_cons, List.length_nil, List.drop_succ_cons, List.drop_zero, List.take_succ_cons, List.take_zero, List.nil_append, List.cons_append, splice, isOne_int, isOne_str, isOne_bool, isOne_slice, isOne_pointer, isOne_map, condM_nf, condM_nef, gd_nef, gdf_nef, pick_nef, build_eq, fillA_nil, fillA_one, fillA_agg, Option.map_some, resv_one, resv_two, freeIn_nil, fillA_slc, fillA_int, fillA_str, fillA_bool, fillA_ptr, fillA_map, hL4])
      refine do_ok d4.b a _ fun gs2 H5 t5 => ?_
      obtain ⟨hL5, _⟩ := t5.aside hL4 hLb
      obtain ⟨hb5, hbB5⟩ := t5.aside hb4 hbB
      have d5 := d4.turnB t5
      have fin : ∃ k', k' < k ∧ ∃ (i' : Nat) (gs gs' : List GS), k' = 150 - i' ∧ i' ≤ 150 ∧ i' ≤ acts.length ∧ [av, i64 who, ptr p 0, ptr p' 0, slc bb 0 1 8 8, i64 ((i : Int) + 1)] = [av, i64 who, ptr p 0, ptr p' 0, slc bb 0 1 8 8, i64 i'] ∧ Duo H0 H5 p sb lv p' sb' lv' ls gs gs' ∧ Apart ls who (gs.map GS.st) (gs'.map GS.st) ∧ H5.get bb = some (.cells true (boolsOf f)) ∧ bb ∉ foot p sb lv gs ∧ bb ∉ foot p' sb' lv' gs' :=
        ⟨150 - (i + 1), by omega, i + 1, gs1, gs2, rfl, by omega, by omega, rfl, d5, by rw [t4.st, t5.st]; exact apart_do hs hlA hlB a, hb5, hbA4, hbB5⟩
      by_cases hp0 : a.part ≥ 0
      case neg =>
        (try simp (maxSteps := 1000000) (disch := first | omega | (simp only [Heap.next_push', Heap.next_set']; omega) | (simp; done) | assumption | decide | (refine not_not_intro ?_; assumption)) only [at_zero, at_succ, wp_bnd, wp_lift, wpO_some, wp_ret, nx_nxt, nx_brk, nx_ret, unblk_nxt, unblk_ret, unblk_brk, finM_nxt, finM_ret, outV_one, condM_t, condM_f, condM_dt, condM_df, gd_t, gd_f, gdf_t, gdf_f, gd_skip, gd_dt, gd_df, gdf_dt, gdf_df, pick_t, pick_f, pick_dt, pick_df, not_t, not_f, not_dec, isNil_ptr, isNil_ptr', isNil_pnil, isNil_pnil', nilck_ptr, faddr_ptr, Nat.zero_add, Nat.add_zero, wp_ld1, lenStr_str, lenSlc_slice, strV_str, i64_add, i64_sub, i64_mul, i64_in, int_eqd, int_ned, int_lss, int_leq, int_gtr, int_geq, str_eqd, str_ned, if_true, wp_bndH, wp_withH, wp_need, enc_int, enc_str, enc_byte, enc_bool, List.getElem?_cons_zero, List.getElem?_cons_succ, cellP_get, cellG_cells, wp_st1g, stG_c, eq_self, true_and, wp_stng, stnG_ok, wp_ldng, ldG_ok, wp_newcg, wp_boxg, Heap.get_push_eq, Heap.get_push_lt, Heap.get_set_eq, Heap.get_set_ne', Heap.next_push', Heap.next_set', Heap.set_push_lt, Heap.set_push_eq, Heap.set_set, fld1_agg, fldn_agg, ext_tuple, outV_nil, outV_two, outV_three, outV_four, chk_ld1g, chkO_int, chkO_bool, chkO_str, chkO_ptr, chkO_slc, chkO_map, List.set_cons_zero, List.set_cons_succ, List.length_cons, List.length_nil, List.drop_succ_cons, List.drop_zero, List.take_succ_cons, List.take_zero, List.nil_append, List.cons_append, splice, isOne_int, isOne_str, isOne_bool, isOne_slice, isOne_pointer, isOne_map, condM_nf, condM_nef, gd_nef, gdf_nef, pick_nef, build_eq, fillA_nil, fillA_one, fillA_agg, Option.map_some, resv_one, resv_two, freeIn_nil, fillA_slc, fillA_int, fillA_str, fillA_bool, fillA_ptr, fillA_map, hL5, law20_PortsApart_k5])
        exact fin
      by_cases hp8 : a.part < 8
      case neg =>
        (try simp (maxSteps := 1000000) (disch := first | omega | (simp only [Heap.next_push', Heap.next_set']; omega) | (simp; done) | assumption | decide | (refine not_not_intro ?_; assumption)) only [at_zero, at_succ, wp_bnd, wp_lift, wpO_some, wp_ret, nx_nxt, nx_brk, nx_ret, unblk_nxt, unblk_ret, unblk_brk, finM_nxt, finM_ret, outV_one, condM_t, condM_f, condM_dt, condM_df, gd_t, gd_f, gdf_t, gdf_f, gd_skip, gd_dt, gd_df, gdf_dt, gdf_df, pick_t, pick_f, pick_dt, pick_df, not_t, not_f, not_dec, isNil_ptr, isNil_ptr', isNil_pnil, isNil_pnil', nilck_ptr, faddr_ptr, Nat.zero_add, Nat.add_zero, wp_ld1, lenStr_str, lenSlc_slice, strV_str, i64_add, i64_sub, i64_mul, i64_in, int_eqd, int_ned, int_lss, int_leq, int_gtr, int_geq, str_eqd, str_ned, if_true, wp_bndH, wp_withH, wp_need, enc_int, enc_str, enc_byte, enc_bool, List.getElem?_cons_zero, List.getElem?_cons_succ, cellP_get, cellG_cells, wp_st1g, stG_c, eq_self, true_and, wp_stng, stnG_ok, wp_ldng, ldG_ok, wp_newcg, wp_boxg, Heap.get_push_eq, Heap.get_push_lt, Heap.get_set_eq, Heap.get_set_ne', Heap.next_push', Heap.next_set', Heap.set_push_lt, Heap.set_push_eq, Heap.set_set, fld1_agg, fldn_agg, ext_tuple, outV_nil, outV_two, outV_three, outV_four, chk_ld1g, chkO_int, chkO_bool, chkO_str, chkO_ptr, chkO_slc, chkO_map, List.set_cons_zero, List.set_cons_succ, List.length_cons, List.length_nil, List.drop_succ_cons, List.drop_zero, List.take_succ_cons, List.take_zero, List.nil_append, List.cons_append, splice, isOne_int, isOne_str, isOne_bool, isOne_slice, isOne_pointer, isOne_map, condM_nf, condM_nef, gd_nef, gdf_nef, pick_nef, build_eq, fillA_nil, fillA_one, fillA_agg, Option.map_some, resv_one, resv_two, freeIn_nil, fillA_slc, fillA_int, fillA_str, fillA_bool, fillA_ptr, fillA_map, hL5, law20_PortsApart_k5])
        exact fin
      have hcg : cellG (H5.get bb) a.part.toNat = some (.bool (f a.part.toNat)) := by rw [hb5, cellG_cells]; exact boolsOf_get f (by omega)
      by_cases hr : f a.part.toNat = true
      · rw [hr] at hcg
        (try simp (maxSteps := 1000000) (disch := first | omega | (simp only [Heap.next_push', Heap.next_set']; omega) | (simp; done) | assumption | decide | (refine not_not_intro ?_; assumption)) only [at_zero, at_succ, wp_bnd, wp_lift, wpO_some, wp_ret, nx_nxt, nx_brk, nx_ret, unblk_nxt, unblk_ret, unblk_brk, finM_nxt, finM_ret, outV_one, condM_t, condM_f, condM_dt, condM_df, gd_t, gd_f, gdf_t, gdf_f, gd_skip, gd_dt, gd_df, gdf_dt, gdf_df, pick_t, pick_f, pick_dt, pick_df, not_t, not_f, not_dec, isNil_ptr, isNil_ptr', isNil_pnil, isNil_pnil', nilck_ptr, faddr_ptr, Nat.zero_add, Nat.add_zero, wp_ld1, lenStr_str, lenSlc_slice, strV_str, i64_add, i64_sub, i64_mul, i64_in, int_eqd, int_ned, int_lss, int_leq, int_gtr, int_geq, str_eqd, str_ned, if_true, wp_bndH, wp_withH, wp_need, enc_int, enc_str, enc_byte, enc_bool, List.getElem?_cons_zero, List.getElem?_cons_succ, cellP_get, cellG_cells, wp_st1g, stG_c, eq_self, true_and, wp_stng, stnG_ok, wp_ldng, ldG_ok, wp_newcg, wp_boxg, Heap.get_push_eq, Heap.get_push_lt, Heap.get_set_eq, Heap.get_set_ne', Heap.next_push', Heap.next_set', Heap.set_push_lt, Heap.set_push_eq, Heap.set_set, fld1_agg, fldn_agg, ext_tuple, outV_nil, outV_two, outV_three, outV_four, chk_ld1g, chkO_int, chkO_bool, chkO_str, chkO_ptr, chkO_slc, chkO_map, List.set_cons_zero, List.set_cons_succ, List.length_cons, List.length_nil, List.drop_succ_cons, List.drop_zero, List.take_succ_cons, List.take_zero, List.nil_append, List.cons_append, splice, isOne_int, isOne_str, isOne_bool, isOne_slice, isOne_pointer, isOne_map, condM_nf, condM_nef, gd_nef, gdf_nef, pick_nef, build_eq, fillA_nil, fillA_one, fillA_agg, Option.map_some, resv_one, resv_two, freeIn_nil, fillA_slc, fillA_int, fillA_str, fillA_bool, fillA_ptr, fillA_map, hL5, iaddrS_slc, Nat.mul_one, hcg, law20_PortsApart_k5])
        exact fin
      · have hr2 : f a.part.toNat = false := by simpa using hr
        rw [hr2] at hcg
        have hnr : ¬ Reach ls who a.part := by
          have := hf a.part.toNat (by omega)
          rw [Int.toNat_of_nonneg hp0] at this
          exact fun q => hr (this.2 q)
        rw [apart_res hs a hc hnr]
        (try simp (maxSteps := 1000000) (disch := first | omega | (simp only [Heap.next_push', Heap.next_set']; omega) | (simp; done) | assumption | decide | (refine not_not_intro ?_; assumption)) only [at_zero, at_succ, wp_bnd, wp_lift, wpO_some, wp_ret, nx_nxt, nx_brk, nx_ret, unblk_nxt, unblk_ret, unblk_brk, finM_nxt, finM_ret, outV_one, condM_t, condM_f, condM_dt, condM_df, gd_t, gd_f, gdf_t, gdf_f, gd_skip, gd_dt, gd_df, gdf_dt, gdf_df, pick_t, pick_f, pick_dt, pick_df, not_t, not_f, not_dec, isNil_ptr, isNil_ptr', isNil_pnil, isNil_pnil', nilck_ptr, faddr_ptr, Nat.zero_add, Nat.add_zero, wp_ld1, lenStr_str, lenSlc_slice, strV_str, i64_add, i64_sub, i64_mul, i64_in, int_eqd, int_ned, int_lss, int_leq, int_gtr, int_geq, str_eqd, str_ned, if_true, wp_bndH, wp_withH, wp_need, enc_int, enc_str, enc_byte, enc_bool, List.getElem?_cons_zero, List.getElem?_cons_succ, cellP_get, cellG_cells, wp_st1g, stG_c, eq_self, true_and, wp_stng, stnG_ok, wp_ldng, ldG_ok, wp_newcg, wp_boxg, Heap.get_push_eq, Heap.get_push_lt, Heap.get_set_eq, Heap.get_set_ne', Heap.next_push', Heap.next_set', Heap.set_push_lt, Heap.set_push_eq, Heap.set_set, fld1_agg, fldn_agg, ext_tuple, outV_nil, outV_two, outV_three, outV_four, chk_ld1g, chkO_int, chkO_bool, chkO_str, chkO_ptr, chkO_slc, chkO_map, List.set_cons_zero, List.set_cons_succ, List.length_cons, List.length_nil, List.drop_succ_cons, List.drop_zero, List.take_succ_cons, List.take_zero, List.nil_append, List.cons_append, splice, isOne_int, isOne_str, isOne_bool, isOne_slice, isOne_pointer, isOne_map, condM_nf, condM_nef, gd_nef, gdf_nef, pick_nef, build_eq, fillA_nil, fillA_one, fillA_agg, Option.map_some, resv_one, resv_two, freeIn_nil, fillA_slc, fillA_int, fillA_str, fillA_bool, fillA_ptr, fillA_map, hL5, iaddrS_slc, Nat.mul_one, hcg, law20_PortsApart_k5])
        exact fin
    by_cases hc0 : amongI a.kind 4 = 2
    · (try simp (maxSteps := 1000000) (disch := first | omega | (simp only [Heap.next_push', Heap.next_set']; omega) | (simp; done) | assumption | decide | (refine not_not_intro ?_; assumption)) only [at_zero, at_succ, wp_bnd, wp_lift, wpO_some, wp_ret, nx_nxt, nx_brk, nx_ret, unblk_nxt, unblk_ret, unblk_brk, finM_nxt, finM_ret, outV_one, condM_t, condM_f, condM_dt, condM_df, gd_t, gd_f, gdf_t, gdf_f, gd_skip, gd_dt, gd_df, gdf_dt, gdf_df, pick_t, pick_f, pick_dt, pick_df, not_t, not_f, not_dec, isNil_ptr, isNil_ptr', isNil_pnil, isNil_pnil', nilck_ptr, faddr_ptr, Nat.zero_add, Nat.add_zero, wp_ld1, lenStr_str, lenSlc_slice, strV_str, i64_add, i64_sub, i64_mul, i64_in, int_eqd, int_ned, int_lss, int_leq, int_gtr, int_geq, str_eqd, str_ned, if_true, wp_bndH, wp_withH, wp_need, enc_int, enc_str, enc_byte, enc_bool, List.getElem?_cons_zero, List.getElem?_cons_succ, cellP_get, cellG_cells, wp_st1g, stG_c, eq_self, true_and, wp_stng, stnG_ok, wp_ldng, ldG_ok, wp_newcg, wp_boxg, Heap.get_push_eq, Heap.get_push_lt, Heap.get_set_eq, Heap.get_set_ne', Heap.next_push', Heap.next_set', Heap.set_push_lt, Heap.set_push_eq, Heap.set_set, fld1_agg, fldn_agg, ext_tuple, outV_nil, outV_two, outV_three, outV_four, chk_ld1g, chkO_int, chkO_bool, chkO_str, chkO_ptr, chkO_slc, chkO_map, List.set_cons_zero, List.set_cons_succ, List.length_cons, List.length_nil, List.drop_succ_cons, List.drop_zero, List.take_succ_cons, List.take_zero, List.nil_append, List.cons_append, splice, isOne_int, isOne_str, isOne_bool, isOne_slice, isOne_pointer, isOne_map, condM_nf, condM_nef, gd_nef, gdf_nef, pick_nef, build_eq, fillA_nil, fillA_one, fillA_agg, Option.map_some, resv_one, resv_two, freeIn_nil, fillA_slc, fillA_int, fillA_str, fillA_bool, fillA_ptr, fillA_map, hL])
      exact go
    · have hc1 : ¬ a.part = who := fun e => hc ⟨hc0, e⟩
      (try simp (maxSteps := 1000000) (disch := first | omega | (simp only [Heap.next_push', Heap.next_set']; omega) | (simp; done) | assumption | decide | (refine not_not_intro ?_; assumption)) only [at_zero, at_succ, wp_bnd, wp_lift, wpO_some, wp_ret, nx_nxt, nx_brk, nx_ret, unblk_nxt, unblk_ret, unblk_brk, finM_nxt, finM_ret, outV_one, condM_t, condM_f, condM_dt, condM_df, gd_t, gd_f, gdf_t, gdf_f, gd_skip, gd_dt, gd_df, gdf_dt, gdf_df, pick_t, pick_f, pick_dt, pick_df, not_t, not_f, not_dec, isNil_ptr, isNil_ptr', isNil_pnil, isNil_pnil', nilck_ptr, faddr_ptr, Nat.zero_add, Nat.add_zero, wp_ld1, lenStr_str, lenSlc_slice, strV_str, i64_add, i64_sub, i64_mul, i64_in, int_eqd, int_ned, int_lss, int_leq, int_gtr, int_geq, str_eqd, str_ned, if_true, wp_bndH, wp_withH, wp_need, enc_int, enc_str, enc_byte, enc_bool, List.getElem?_cons_zero, List.getElem?_cons_succ, cellP_get, cellG_cells, wp_st1g, stG_c, eq_self, true_and, wp_stng, stnG_ok, wp_ldng, ldG_ok, wp_newcg, wp_boxg, Heap.get_push_eq, Heap.get_push_lt, Heap.get_set_eq, Heap.get_set_ne', Heap.next_push', Heap.next_set', Heap.set_push_lt, Heap.set_push_eq, Heap.set_set, fld1_agg, fldn_agg, ext_tuple, outV_nil, outV_two, outV_three, outV_four, chk_ld1g, chkO_int, chkO_bool, chkO_str, chkO_ptr, chkO_slc, chkO_map, List.set_cons_zero, List.set_cons_succ, List.length_cons, List.length_nil, List.drop_succ_cons, List.drop_zero, List.take_succ_cons, List.take_zero, List.nil_append, List.cons_append, splice, isOne_int, isOne_str, isOne_bool, isOne_slice, isOne_pointer, isOne_map, condM_nf, condM_nef, gd_nef, gdf_nef, pick_nef, build_eq, fillA_nil, fillA_one, fillA_agg, Option.map_some, resv_one, resv_two, freeIn_nil, fillA_slc, fillA_int, fillA_str, fillA_bool, fillA_ptr, fillA_map, hL])
      exact go
end Go.AM.Cap

/- ports: the law PortsApart, its end -/
set_option maxHeartbeats 8000000
namespace Go.AM.Cap
open Go.AM Go.Proofs

theorem reach_loop {H : Heap} {bb : Nat} {v : V} {l : List Int} {a b c d : V} (hv : Seg H v (l.map i64)) (hr : ∀ x ∈ l, 0 ≤ x ∧ x < 8) (hl : l.length ≤ 16) (hb : H.get bb = some (.cells true (boolsOf fun _ => false))) (hbv : bb ∉ vb v) (Q : Out → Heap → Prop)
    (hQ : ∀ (f : Nat → Bool) (H' : Heap), (∀ j : Nat, j < 8 → (f j = true ↔ (j : Int) ∈ l)) → H'.get bb = some (.cells true (boolsOf f)) → Keeps [bb] H H' → Q (.brk 0 [a, b, c, d, slc bb 0 1 8 8]) H') :
    wp (loopM FUEL (law20_PortsApart_l3 noM) [a, b, c, d, slc bb 0 1 8 8, v, i64 l.length, i64 0]) Q H := by
  refine wp_loop (Inv := fun k vs H' => ∃ (i : Nat) (f : Nat → Bool), k = l.length - i ∧ i ≤ l.length ∧ vs = [a, b, c, d, slc bb 0 1 8 8, v, i64 l.length, i64 i] ∧ (∀ j : Nat, j < 8 → (f j = true ↔ (j : Int) ∈ l.take i)) ∧ H'.get bb = some (.cells true (boolsOf f)) ∧ Keeps [bb] H H') (n := l.length) (by unfold FUEL; omega)
    ⟨0, fun _ => false, by omega, by omega, rfl, by simp, hb, Keeps.refl _ _⟩ ?_
  rintro k vs H' ⟨i, f, hk, hi, rfl, hf, hb', kk⟩
  by_cases h : i < l.length
  case neg =>
    have : i = l.length := by omega
    subst this
    (try simp (maxSteps := 1000000) (disch := first | omega | (simp only [Heap.next_push', Heap.next_set']; omega) | (simp; done) | assumption | decide | (refine not_not_intro ?_; assumption)) only [at_zero, at_succ, wp_bnd, wp_lift, wpO_some, wp_ret, nx_nxt, nx_brk, nx_ret, unblk_nxt, unblk_ret, unblk_brk, finM_nxt, finM_ret, outV_one, condM_t, condM_f, condM_dt, condM_df, gd_t, gd_f, gdf_t, gdf_f, gd_skip, gd_dt, gd_df, gdf_dt, gdf_df, pick_t, pick_f, pick_dt, pick_df, not_t, not_f, not_dec, isNil_ptr, isNil_ptr', isNil_pnil, isNil_pnil', nilck_ptr, faddr_ptr, Nat.zero_add, Nat.add_zero, wp_ld1, lenStr_str, lenSlc_slice, strV_str, i64_add, i64_sub, i64_mul, i64_in, int_eqd, int_ned, int_lss, int_leq, int_gtr, int_geq, str_eqd, str_ned, if_true, wp_bndH, wp_withH, wp_need, enc_int, enc_str, enc_byte, enc_bool, List.getElem?_cons_zero, List.getElem?_cons_succ, cellP_get, cellG_cells, wp_st1g, stG_c, eq_self, true_and, wp_stng, stnG_ok, wp_ldng, ldG_ok, wp_newcg, wp_boxg, Heap.get_push_eq, Heap.get_push_lt, Heap.get_set_eq, Heap.get_set_ne', Heap.next_push', Heap.next_set', Heap.set_push_lt, Heap.set_push_eq, Heap.set_set, fld1_agg, fldn_agg, ext_tuple, outV_nil, outV_two, outV_three, outV_four, chk_ld1g, chkO_int, chkO_bool, chkO_str, chkO_ptr, chkO_slc, chkO_map, List.set_cons_zero, List.set_cons_succ, List.length_cons, List.length_nil, List.drop_succ_cons, List.drop_zero, List.take_succ_cons, List.take_zero, List.nil_append, List.cons_append, splice, isOne_int, isOne_str, isOne_bool, isOne_slice, isOne_pointer, isOne_map, condM_nf, condM_nef, gd_nef, gdf_nef, pick_nef, build_eq, fillA_nil, fillA_one, fillA_agg, Option.map_some, resv_one, resv_two, freeIn_nil, fillA_slc, fillA_int, fillA_str, fillA_bool, fillA_ptr, fillA_map, law20_PortsApart_l3])
    rw [List.take_length] at hf
    exact hQ f H' hf hb' kk
  have hv' := hv.keep kk (fun x hx hm => by simp at hm; exact hbv (hm ▸ hx))
  have a1 := seg_addr hv' h
  have c1 := seg_cell hv' h
  have hmem : l.getD i 0 ∈ l := by rw [List.getD_eq_getElem?_getD, List.getElem?_eq_getElem h]; exact List.getElem_mem h
  have hx := hr _ hmem
  have htk : l.take (i + 1) = l.take i ++ [l.getD i 0] := by
    rw [List.take_succ, List.getD_eq_getElem?_getD, List.getElem?_eq_getElem h]; rfl
  generalize l.getD i 0 = x at *
  have hbl := Heap.get_lt hb'
  have hlen : (boolsOf f).length = 8 := by simp [boolsOf]
  (try simp (maxSteps := 1000000) (disch := first | omega | (simp only [Heap.next_push', Heap.next_set']; omega) | (simp; done) | assumption | decide | (refine not_not_intro ?_; assumption)) only [at_zero, at_succ, wp_bnd, wp_lift, wpO_some, wp_ret, nx_nxt, nx_brk, nx_ret, unblk_nxt, unblk_ret, unblk_brk, finM_nxt, finM_ret, outV_one, condM_t, condM_f, condM_dt, condM_df, gd_t, gd_f, gdf_t, gdf_f, gd_skip, gd_dt, gd_df, gdf_dt, gdf_df, pick_t, pick_f, pick_dt, pick_df, not_t, not_f, not_dec, isNil_ptr, isNil_ptr', isNil_pnil, isNil_pnil', nilck_ptr, faddr_ptr, Nat.zero_add, Nat.add_zero, wp_ld1, lenStr_str, lenSlc_slice, strV_str, i64_add, i64_sub, i64_mul, i64_in, int_eqd, int_ned, int_lss, int_leq, int_gtr, int_geq, str_eqd, str_ned, if_true, wp_bndH, wp_withH, wp_need, enc_int, enc_str, enc_byte, enc_bool, List.getElem?_cons_zero, List.getElem?_cons_succ, cellP_get, cellG_cells, wp_st1g, stG_c, eq_self, true_and, wp_stng, stnG_ok, wp_ldng, ldG_ok, wp_newcg, wp_boxg, Heap.get_push_eq, Heap.get_push_lt, Heap.get_set_eq, Heap.get_set_ne', Heap.next_push', Heap.next_set', Heap.set_push_lt, Heap.set_push_eq, Heap.set_set, fld1_agg, fldn_agg, ext_tuple, outV_nil, outV_two, outV_three, outV_four, chk_ld1g, chkO_int, chkO_bool, chkO_str, chkO_ptr, chkO_slc, chkO_map, List.set_cons_zero, List.set_cons_succ, List.length_cons, List.length_nil, List.drop_succ_cons, List.drop_zero, List.take_succ_cons, List.take_zero, List.nil_append, List.cons_append, splice, isOne_int, isOne_str, isOne_bool, isOne_slice, isOne_pointer, isOne_map, condM_nf, condM_nef, gd_nef, gdf_nef, pick_nef, build_eq, fillA_nil, fillA_one, fillA_agg, Option.map_some, resv_one, resv_two, freeIn_nil, fillA_slc, fillA_int, fillA_str, fillA_bool, fillA_ptr, fillA_map, law20_PortsApart_l3, law20_PortsApart_k2, a1, c1, law20_PortsApart_k0, iaddrS_slc, Nat.mul_one, hb', boolsOf_set, law20_PortsApart_k1])
  refine ⟨l.length - (i + 1), by omega, i + 1, fun j => if j = x.toNat then true else f j, rfl, by omega, rfl, fun j hj => ?_, ?_, keeps_set kk (.inl (by simp))⟩
  · show (if j = x.toNat then true else f j) = true ↔ _
    rw [htk, List.mem_append, ← hf j hj]
    by_cases e : j = x.toNat
    · have : (j : Int) = x := by omega
      simp [e]; right; omega
    · rw [if_neg e]
      have : ¬ (j : Int) = x := by omega
      simp [this]
  · first | rfl | exact Heap.get_set_self hbl

theorem PortsApart_ok (H : Heap) {lv av : V} {ls : List Port} {acts : List Act} (hl : Sl H lv ls) (ha : Sl H av acts) (who0 : Int) (Q : V → Heap → Prop) (hQ : ∀ H', Q (.bool true) H') : wp (A_law20_PortsApart noM [lv, av, i64 who0]) Q H := by
  show wp (F_law20_PortsApart noM lv av (i64 who0)) Q H
  (try simp (maxSteps := 1000000) (disch := first | omega | (simp only [Heap.next_push', Heap.next_set']; omega) | (simp; done) | assumption | decide | (refine not_not_intro ?_; assumption)) only [at_zero, at_succ, wp_bnd, wp_lift, wpO_some, wp_ret, nx_nxt, nx_brk, nx_ret, unblk_nxt, unblk_ret, unblk_brk, finM_nxt, finM_ret, outV_one, condM_t, condM_f, condM_dt, condM_df, gd_t, gd_f, gdf_t, gdf_f, gd_skip, gd_dt, gd_df, gdf_dt, gdf_df, pick_t, pick_f, pick_dt, pick_df, not_t, not_f, not_dec, isNil_ptr, isNil_ptr', isNil_pnil, isNil_pnil', nilck_ptr, faddr_ptr, Nat.zero_add, Nat.add_zero, wp_ld1, lenStr_str, lenSlc_slice, strV_str, i64_add, i64_sub, i64_mul, i64_in, int_eqd, int_ned, int_lss, int_leq, int_gtr, int_geq, str_eqd, str_ned, if_true, wp_bndH, wp_withH, wp_need, enc_int, enc_str, enc_byte, enc_bool, List.getElem?_cons_zero, List.getElem?_cons_succ, cellP_get, cellG_cells, wp_st1g, stG_c, eq_self, true_and, wp_stng, stnG_ok, wp_ldng, ldG_ok, wp_newcg, wp_boxg, Heap.get_push_eq, Heap.get_push_lt, Heap.get_set_eq, Heap.get_set_ne', Heap.next_push', Heap.next_set', Heap.set_push_lt, Heap.set_push_eq, Heap.set_set, fld1_agg, fldn_agg, ext_tuple, outV_nil, outV_two, outV_three, outV_four, chk_ld1g, chkO_int, chkO_bool, chkO_str, chkO_ptr, chkO_slc, chkO_map, List.set_cons_zero, List.set_cons_succ, List.length_cons, List.length_nil, List.drop_succ_cons, List.drop_zero, List.take_succ_cons, List.take_zero, List.nil_append, List.cons_append, splice, isOne_int, isOne_str, isOne_bool, isOne_slice, isOne_pointer, isOne_map, condM_nf, condM_nef, gd_nef, gdf_nef, pick_nef, build_eq, fillA_nil, fillA_one, fillA_agg, Option.map_some, resv_one, resv_two, freeIn_nil, fillA_slc, fillA_int, fillA_str, fillA_bool, fillA_ptr, fillA_map, F_law20_PortsApart])
  refine works_ok _ _ fun H1 k1 => ?_
  have hw := amongI_range who0 8 (by omega) (by omega)
  (try simp (maxSteps := 1000000) (disch := first | omega | (simp only [Heap.next_push', Heap.next_set']; omega) | (simp; done) | assumption | decide | (refine not_not_intro ?_; assumption)) only [at_zero, at_succ, wp_bnd, wp_lift, wpO_some, wp_ret, nx_nxt, nx_brk, nx_ret, unblk_nxt, unblk_ret, unblk_brk, finM_nxt, finM_ret, outV_one, condM_t, condM_f, condM_dt, condM_df, gd_t, gd_f, gdf_t, gdf_f, gd_skip, gd_dt, gd_df, gdf_dt, gdf_df, pick_t, pick_f, pick_dt, pick_df, not_t, not_f, not_dec, isNil_ptr, isNil_ptr', isNil_pnil, isNil_pnil', nilck_ptr, faddr_ptr, Nat.zero_add, Nat.add_zero, wp_ld1, lenStr_str, lenSlc_slice, strV_str, i64_add, i64_sub, i64_mul, i64_in, int_eqd, int_ned, int_lss, int_leq, int_gtr, int_geq, str_eqd, str_ned, if_true, wp_bndH, wp_withH, wp_need, enc_int, enc_str, enc_byte, enc_bool, List.getElem?_cons_zero, List.getElem?_cons_succ, cellP_get, cellG_cells, wp_st1g, stG_c, eq_self, true_and, wp_stng, stnG_ok, wp_ldng, ldG_ok, wp_newcg, wp_boxg, Heap.get_push_eq, Heap.get_push_lt, Heap.get_set_eq, Heap.get_set_ne', Heap.next_push', Heap.next_set', Heap.set_push_lt, Heap.set_push_eq, Heap.set_set, fld1_agg, fldn_agg, ext_tuple, outV_nil, outV_two, outV_three, outV_four, chk_ld1g, chkO_int, chkO_bool, chkO_str, chkO_ptr, chkO_slc, chkO_map, List.set_cons_zero, List.set_cons_succ, List.length_cons, List.length_nil, List.drop_succ_cons, List.drop_zero, List.take_succ_cons, List.take_zero, List.nil_append, List.cons_append, splice, isOne_int, isOne_str, isOne_bool, isOne_slice, isOne_pointer, isOne_map, condM_nf, condM_nef, gd_nef, gdf_nef, pick_nef, build_eq, fillA_nil, fillA_one, fillA_agg, Option.map_some, resv_one, resv_two, freeIn_nil, fillA_slc, fillA_int, fillA_str, fillA_bool, fillA_ptr, fillA_map, law20_PortsApart_k11, among_eq])
  generalize amongI who0 8 = who at *
  have hl1 := hl.keep0 k1
  have hn1 := k1.next
  refine ports_New_ok hl1 _ (fun hbad H2 k2 => ?_) fun hgood p w sb gs H2 hB hst k2 hf => ?_
  · (try simp (maxSteps := 1000000) (disch := first | omega | (simp only [Heap.next_push', Heap.next_set']; omega) | (simp; done) | assumption | decide | (refine not_not_intro ?_; assumption)) only [at_zero, at_succ, wp_bnd, wp_lift, wpO_some, wp_ret, nx_nxt, nx_brk, nx_ret, unblk_nxt, unblk_ret, unblk_brk, finM_nxt, finM_ret, outV_one, condM_t, condM_f, condM_dt, condM_df, gd_t, gd_f, gdf_t, gdf_f, gd_skip, gd_dt, gd_df, gdf_dt, gdf_df, pick_t, pick_f, pick_dt, pick_df, not_t, not_f, not_dec, isNil_ptr, isNil_ptr', isNil_pnil, isNil_pnil', nilck_ptr, faddr_ptr, Nat.zero_add, Nat.add_zero, wp_ld1, lenStr_str, lenSlc_slice, strV_str, i64_add, i64_sub, i64_mul, i64_in, int_eqd, int_ned, int_lss, int_leq, int_gtr, int_geq, str_eqd, str_ned, if_true, wp_bndH, wp_withH, wp_need, enc_int, enc_str, enc_byte, enc_bool, List.getElem?_cons_zero, List.getElem?_cons_succ, cellP_get, cellG_cells, wp_st1g, stG_c, eq_self, true_and, wp_stng, stnG_ok, wp_ldng, ldG_ok, wp_newcg, wp_boxg, Heap.get_push_eq, Heap.get_push_lt, Heap.get_set_eq, Heap.get_set_ne', Heap.next_push', Heap.next_set', Heap.set_push_lt, Heap.set_push_eq, Heap.set_set, fld1_agg, fldn_agg, ext_tuple, outV_nil, outV_two, outV_three, outV_four, chk_ld1g, chkO_int, chkO_bool, chkO_str, chkO_ptr, chkO_slc, chkO_map, List.set_cons_zero, List.set_cons_succ, List.length_cons, List.length_nil, List.drop_succ_cons, List.drop_zero, List.take_succ_cons, List.take_zero, List.nil_append, List.cons_append, splice, isOne_int, isOne_str, isOne_bool, isOne_slice, isOne_pointer, isOne_map, condM_nf, condM_nef, gd_nef, gdf_nef, pick_nef, build_eq, fillA_nil, fillA_one, fillA_agg, Option.map_some, resv_one, resv_two, freeIn_nil, fillA_slc, fillA_int, fillA_str, fillA_bool, fillA_ptr, fillA_map])
    refine ports_New_ok (hl1.keep0 k2) _ (fun _ H3 k3 => ?_) (fun h => absurd h hbad)
    (try simp (maxSteps := 1000000) (disch := first | omega | (simp only [Heap.next_push', Heap.next_set']; omega) | (simp; done) | assumption | decide | (refine not_not_intro ?_; assumption)) only [at_zero, at_succ, wp_bnd, wp_lift, wpO_some, wp_ret, nx_nxt, nx_brk, nx_ret, unblk_nxt, unblk_ret, unblk_brk, finM_nxt, finM_ret, outV_one, condM_t, condM_f, condM_dt, condM_df, gd_t, gd_f, gdf_t, gdf_f, gd_skip, gd_dt, gd_df, gdf_dt, gdf_df, pick_t, pick_f, pick_dt, pick_df, not_t, not_f, not_dec, isNil_ptr, isNil_ptr', isNil_pnil, isNil_pnil', nilck_ptr, faddr_ptr, Nat.zero_add, Nat.add_zero, wp_ld1, lenStr_str, lenSlc_slice, strV_str, i64_add, i64_sub, i64_mul, i64_in, int_eqd, int_ned, int_lss, int_leq, int_gtr, int_geq, str_eqd, str_ned, if_true, wp_bndH, wp_withH, wp_need, enc_int, enc_str, enc_byte, enc_bool, List.getElem?_cons_zero, List.getElem?_cons_succ, cellP_get, cellG_cells, wp_st1g, stG_c, eq_self, true_and, wp_stng, stnG_ok, wp_ldng, ldG_ok, wp_newcg, wp_boxg, Heap.get_push_eq, Heap.get_push_lt, Heap.get_set_eq, Heap.get_set_ne', Heap.next_push', Heap.next_set', Heap.set_push_lt, Heap.set_push_eq, Heap.set_set, fld1_agg, fldn_agg, ext_tuple, outV_nil, outV_two, outV_three, outV_four, chk_ld1g, chkO_int, chkO_bool, chkO_str, chkO_ptr, chkO_slc, chkO_map, List.set_cons_zero, List.set_cons_succ, List.length_cons, List.length_nil, List.drop_succ_cons, List.drop_zero, List.take_succ_cons, List.take_zero, List.nil_append, List.cons_append, splice, isOne_int, isOne_str, isOne_bool, isOne_slice, isOne_pointer, isOne_map, condM_nf, condM_nef, gd_nef, gdf_nef, pick_nef, build_eq, fillA_nil, fillA_one, fillA_agg, Option.map_some, resv_one, resv_two, freeIn_nil, fillA_slc, fillA_int, fillA_str, fillA_bool, fillA_ptr, fillA_map])
    refine ports_Flows_ok ((hl1.keep0 k2).keep0 k3) who _ (fun _ H4 k4 => ?_) (fun h => absurd h hbad) (fun h => absurd h hbad)
    (try simp (maxSteps := 1000000) (disch := first | omega | (simp only [Heap.next_push', Heap.next_set']; omega) | (simp; done) | assumption | decide | (refine not_not_intro ?_; assumption)) only [at_zero, at_succ, wp_bnd, wp_lift, wpO_some, wp_ret, nx_nxt, nx_brk, nx_ret, unblk_nxt, unblk_ret, unblk_brk, finM_nxt, finM_ret, outV_one, condM_t, condM_f, condM_dt, condM_df, gd_t, gd_f, gdf_t, gdf_f, gd_skip, gd_dt, gd_df, gdf_dt, gdf_df, pick_t, pick_f, pick_dt, pick_df, not_t, not_f, not_dec, isNil_ptr, isNil_ptr', isNil_pnil, isNil_pnil', nilck_ptr, faddr_ptr, Nat.zero_add, Nat.add_zero, wp_ld1, lenStr_str, lenSlc_slice, strV_str, i64_add, i64_sub, i64_mul, i64_in, int_eqd, int_ned, int_lss, int_leq, int_gtr, int_geq, str_eqd, str_ned, if_true, wp_bndH, wp_withH, wp_need, enc_int, enc_str, enc_byte, enc_bool, List.getElem?_cons_zero, List.getElem?_cons_succ, cellP_get, cellG_cells, wp_st1g, stG_c, eq_self, true_and, wp_stng, stnG_ok, wp_ldng, ldG_ok, wp_newcg, wp_boxg, Heap.get_push_eq, Heap.get_push_lt, Heap.get_set_eq, Heap.get_set_ne', Heap.next_push', Heap.next_set', Heap.set_push_lt, Heap.set_push_eq, Heap.set_set, fld1_agg, fldn_agg, ext_tuple, outV_nil, outV_two, outV_three, outV_four, chk_ld1g, chkO_int, chkO_bool, chkO_str, chkO_ptr, chkO_slc, chkO_map, List.set_cons_zero, List.set_cons_succ, List.length_cons, List.length_nil, List.drop_succ_cons, List.drop_zero, List.take_succ_cons, List.take_zero, List.nil_append, List.cons_append, splice, isOne_int, isOne_str, isOne_bool, isOne_slice, isOne_pointer, isOne_map, condM_nf, condM_nef, gd_nef, gdf_nef, pick_nef, build_eq, fillA_nil, fillA_one, fillA_agg, Option.map_some, resv_one, resv_two, freeIn_nil, fillA_slc, fillA_int, fillA_str, fillA_bool, fillA_ptr, fillA_map])
    exact hQ _
  · (try simp (maxSteps := 1000000) (disch := first | omega | (simp only [Heap.next_push', Heap.next_set']; omega) | (simp; done) | assumption | decide | (refine not_not_intro ?_; assumption)) only [at_zero, at_succ, wp_bnd, wp_lift, wpO_some, wp_ret, nx_nxt, nx_brk, nx_ret, unblk_nxt, unblk_ret, unblk_brk, finM_nxt, finM_ret, outV_one, condM_t, condM_f, condM_dt, condM_df, gd_t, gd_f, gdf_t, gdf_f, gd_skip, gd_dt, gd_df, gdf_dt, gdf_df, pick_t, pick_f, pick_dt, pick_df, not_t, not_f, not_dec, isNil_ptr, isNil_ptr', isNil_pnil, isNil_pnil', nilck_ptr, faddr_ptr, Nat.zero_add, Nat.add_zero, wp_ld1, lenStr_str, lenSlc_slice, strV_str, i64_add, i64_sub, i64_mul, i64_in, int_eqd, int_ned, int_lss, int_leq, int_gtr, int_geq, str_eqd, str_ned, if_true, wp_bndH, wp_withH, wp_need, enc_int, enc_str, enc_byte, enc_bool, List.getElem?_cons_zero, List.getElem?_cons_succ, cellP_get, cellG_cells, wp_st1g, stG_c, eq_self, true_and, wp_stng, stnG_ok, wp_ldng, ldG_ok, wp_newcg, wp_boxg, Heap.get_push_eq, Heap.get_push_lt, Heap.get_set_eq, Heap.get_set_ne', Heap.next_push', Heap.next_set', Heap.set_push_lt, Heap.set_push_eq, Heap.set_set, fld1_agg, fldn_agg, ext_tuple, outV_nil, outV_two, outV_three, outV_four, chk_ld1g, chkO_int, chkO_bool, chkO_str, chkO_ptr, chkO_slc, chkO_map, List.set_cons_zero, List.set_cons_succ, List.length_cons, List.length_nil, List.drop_succ_cons, List.drop_zero, List.take_succ_cons, List.take_zero, List.nil_append, List.cons_append, splice, isOne_int, isOne_str, isOne_bool, isOne_slice, isOne_pointer, isOne_map, condM_nf, condM_nef, gd_nef, gdf_nef, pick_nef, build_eq, fillA_nil, fillA_one, fillA_agg, Option.map_some, resv_one, resv_two, freeIn_nil, fillA_slc, fillA_int, fillA_str, fillA_bool, fillA_ptr, fillA_map])
    refine ports_New_ok (hl1.keep0 k2) _ (fun h => absurd hgood h) fun _ p' w' sb' gs' H3 hB' hst' k3 hf' => ?_
    have hn2 := k2.next
    have hn3 := k3.next
    have hBk := hB.keep0 k3
    have k13 := (k1.trans k2 (fun _ _ h => h)).trans k3 (fun _ _ h => h)
    have d3 : Duo H H3 p sb w p' sb' w' ls gs gs' := ⟨hBk, hB', fun x hx hy => by have := hf' x hy; have := hB.lt x hx; omega, fun x hx => by have := hf x hx; omega, fun x hx => by have := hf' x hx; omega, k13⟩
    (try simp (maxSteps := 1000000) (disch := first | omega | (simp only [Heap.next_push', Heap.next_set']; omega) | (simp; done) | assumption | decide | (refine not_not_intro ?_; assumption)) only [at_zero, at_succ, wp_bnd, wp_lift, wpO_some, wp_ret, nx_nxt, nx_brk, nx_ret, unblk_nxt, unblk_ret, unblk_brk, finM_nxt, finM_ret, outV_one, condM_t, condM_f, condM_dt, condM_df, gd_t, gd_f, gdf_t, gdf_f, gd_skip, gd_dt, gd_df, gdf_dt, gdf_df, pick_t, pick_f, pick_dt, pick_df, not_t, not_f, not_dec, isNil_ptr, isNil_ptr', isNil_pnil, isNil_pnil', nilck_ptr, faddr_ptr, Nat.zero_add, Nat.add_zero, wp_ld1, lenStr_str, lenSlc_slice, strV_str, i64_add, i64_sub, i64_mul, i64_in, int_eqd, int_ned, int_lss, int_leq, int_gtr, int_geq, str_eqd, str_ned, if_true, wp_bndH, wp_withH, wp_need, enc_int, enc_str, enc_byte, enc_bool, List.getElem?_cons_zero, List.getElem?_cons_succ, cellP_get, cellG_cells, wp_st1g, stG_c, eq_self, true_and, wp_stng, stnG_ok, wp_ldng, ldG_ok, wp_newcg, wp_boxg, Heap.get_push_eq, Heap.get_push_lt, Heap.get_set_eq, Heap.get_set_ne', Heap.next_push', Heap.next_set', Heap.set_push_lt, Heap.set_push_eq, Heap.set_set, fld1_agg, fldn_agg, ext_tuple, outV_nil, outV_two, outV_three, outV_four, chk_ld1g, chkO_int, chkO_bool, chkO_str, chkO_ptr, chkO_slc, chkO_map, List.set_cons_zero, List.set_cons_succ, List.length_cons, List.length_nil, List.drop_succ_cons, List.drop_zero, List.take_succ_cons, List.take_zero, List.nil_append, List.cons_append, splice, isOne_int, isOne_str, isOne_bool, isOne_slice, isOne_pointer, isOne_map, condM_nf, condM_nef, gd_nef, gdf_nef, pick_nef, build_eq, fillA_nil, fillA_one, fillA_agg, Option.map_some, resv_one, resv_two, freeIn_nil, fillA_slc, fillA_int, fillA_str, fillA_bool, fillA_ptr, fillA_map])
    refine ports_Flows_ok (hl.keep0 k13) who _ (fun h => absurd hgood h) (fun _ h => absurd hw h) fun _ _ v l H4 sv fs k4 fv => ?_
    have d4 := d3.keep k4
    (try simp (maxSteps := 1000000) (disch := first | omega | (simp only [Heap.next_push', Heap.next_set']; omega) | (simp; done) | assumption | decide | (refine not_not_intro ?_; assumption)) only [at_zero, at_succ, wp_bnd, wp_lift, wpO_some, wp_ret, nx_nxt, nx_brk, nx_ret, unblk_nxt, unblk_ret, unblk_brk, finM_nxt, finM_ret, outV_one, condM_t, condM_f, condM_dt, condM_df, gd_t, gd_f, gdf_t, gdf_f, gd_skip, gd_dt, gd_df, gdf_dt, gdf_df, pick_t, pick_f, pick_dt, pick_df, not_t, not_f, not_dec, isNil_ptr, isNil_ptr', isNil_pnil, isNil_pnil', nilck_ptr, faddr_ptr, Nat.zero_add, Nat.add_zero, wp_ld1, lenStr_str, lenSlc_slice, strV_str, i64_add, i64_sub, i64_mul, i64_in, int_eqd, int_ned, int_lss, int_leq, int_gtr, int_geq, str_eqd, str_ned, if_true, wp_bndH, wp_withH, wp_need, enc_int, enc_str, enc_byte, enc_bool, List.getElem?_cons_zero, List.getElem?_cons_succ, cellP_get, cellG_cells, wp_st1g, stG_c, eq_self, true_and, wp_stng, stnG_ok, wp_ldng, ldG_ok, wp_newcg, wp_boxg, Heap.get_push_eq, Heap.get_push_lt, Heap.get_set_eq, Heap.get_set_ne', Heap.next_push', Heap.next_set', Heap.set_push_lt, Heap.set_push_eq, Heap.set_set, fld1_agg, fldn_agg, ext_tuple, outV_nil, outV_two, outV_three, outV_four, chk_ld1g, chkO_int, chkO_bool, chkO_str, chkO_ptr, chkO_slc, chkO_map, List.set_cons_zero, List.set_cons_succ, List.length_cons, List.length_nil, List.drop_succ_cons, List.drop_zero, List.take_succ_cons, List.take_zero, List.nil_append, List.cons_append, splice, isOne_int, isOne_str, isOne_bool, isOne_slice, isOne_pointer, isOne_map, condM_nf, condM_nef, gd_nef, gdf_nef, pick_nef, build_eq, fillA_nil, fillA_one, fillA_agg, Option.map_some, resv_one, resv_two, freeIn_nil, fillA_slc, fillA_int, fillA_str, fillA_bool, fillA_ptr, fillA_map, law20_PortsApart_k10])
    refine wp_mkslc (n := 8) (c := 8) (by decide) (by omega) (by omega) (by omega) ?_
    have hbb := Heap.get_push_self H4 (some (.cells true (rep 8 [Value.bool false])))
    have k5 : Keeps [] H4 (H4.push (some (.cells true (rep 8 [Value.bool false])))) := Keeps.push _ _ _
    have d5 := d4.keep k5
    have sv5 := sv.keep k5 (by simp)
    have hbA : H4.next ∉ foot p sb w gs := fun hm => by have := d4.a.lt _ hm; omega
    have hbB : H4.next ∉ foot p' sb' w' gs' := fun hm => by have := d4.b.lt _ hm; omega
    have hbv : H4.next ∉ vb v := fun hm => by have := sv.lt _ hm; omega
    generalize H4.push (some (.cells true (rep 8 [Value.bool false]))) = H5 at *
    have hlv2 : lenSlc v = some (i64 l.length) := by have := sv5.len; rwa [List.length_map] at this
    obtain ⟨_, hnd, hrg, hre⟩ := fs
    have hl8 := nodup_len 8 l hnd (fun x hx => by have := hrg x hx; omega)
    (try simp (maxSteps := 1000000) (disch := first | omega | (simp only [Heap.next_push', Heap.next_set']; omega) | (simp; done) | assumption | decide | (refine not_not_intro ?_; assumption)) only [at_zero, at_succ, wp_bnd, wp_lift, wpO_some, wp_ret, nx_nxt, nx_brk, nx_ret, unblk_nxt, unblk_ret, unblk_brk, finM_nxt, finM_ret, outV_one, condM_t, condM_f, condM_dt, condM_df, gd_t, gd_f, gdf_t, gdf_f, gd_skip, gd_dt, gd_df, gdf_dt, gdf_df, pick_t, pick_f, pick_dt, pick_df, not_t, not_f, not_dec, isNil_ptr, isNil_ptr', isNil_pnil, isNil_pnil', nilck_ptr, faddr_ptr, Nat.zero_add, Nat.add_zero, wp_ld1, lenStr_str, lenSlc_slice, strV_str, i64_add, i64_sub, i64_mul, i64_in, int_eqd, int_ned, int_lss, int_leq, int_gtr, int_geq, str_eqd, str_ned, if_true, wp_bndH, wp_withH, wp_need, enc_int, enc_str, enc_byte, enc_bool, List.getElem?_cons_zero, List.getElem?_cons_succ, cellP_get, cellG_cells, wp_st1g, stG_c, eq_self, true_and, wp_stng, stnG_ok, wp_ldng, ldG_ok, wp_newcg, wp_boxg, Heap.get_push_eq, Heap.get_push_lt, Heap.get_set_eq, Heap.get_set_ne', Heap.next_push', Heap.next_set', Heap.set_push_lt, Heap.set_push_eq, Heap.set_set, fld1_agg, fldn_agg, ext_tuple, outV_nil, outV_two, outV_three, outV_four, chk_ld1g, chkO_int, chkO_bool, chkO_str, chkO_ptr, chkO_slc, chkO_map, List.set_cons_zero, List.set_cons_succ, List.length_cons, List.length_nil, List.drop_succ_cons, List.drop_zero, List.take_succ_cons, List.take_zero, List.nil_append, List.cons_append, splice, isOne_int, isOne_str, isOne_bool, isOne_slice, isOne_pointer, isOne_map, condM_nf, condM_nef, gd_nef, gdf_nef, pick_nef, build_eq, fillA_nil, fillA_one, fillA_agg, Option.map_some, resv_one, resv_two, freeIn_nil, fillA_slc, fillA_int, fillA_str, fillA_bool, fillA_ptr, fillA_map, hlv2])
    refine reach_loop sv5 hrg (by omega) hbb hbv _ fun f H6 hff hb6 k6 => ?_
    have hn4 := k4.next
    have d6 : Duo H H6 p sb w p' sb' w' ls gs gs' := ⟨d5.a.keep k6 (fun x hx hm => by simp at hm; exact hbA (hm ▸ hx)), d5.b.keep k6 (fun x hx hm => by simp at hm; exact hbB (hm ▸ hx)), d5.dis, d5.lowA, d5.lowB, d5.k.trans k6 (fun x hx hm => by simp at hm; omega)⟩
    (try simp (maxSteps := 1000000) (disch := first | omega | (simp only [Heap.next_push', Heap.next_set']; omega) | (simp; done) | assumption | decide | (refine not_not_intro ?_; assumption)) only [at_zero, at_succ, wp_bnd, wp_lift, wpO_some, wp_ret, nx_nxt, nx_brk, nx_ret, unblk_nxt, unblk_ret, unblk_brk, finM_nxt, finM_ret, outV_one, condM_t, condM_f, condM_dt, condM_df, gd_t, gd_f, gdf_t, gdf_f, gd_skip, gd_dt, gd_df, gdf_dt, gdf_df, pick_t, pick_f, pick_dt, pick_df, not_t, not_f, not_dec, isNil_ptr, isNil_ptr', isNil_pnil, isNil_pnil', nilck_ptr, faddr_ptr, Nat.zero_add, Nat.add_zero, wp_ld1, lenStr_str, lenSlc_slice, strV_str, i64_add, i64_sub, i64_mul, i64_in, int_eqd, int_ned, int_lss, int_leq, int_gtr, int_geq, str_eqd, str_ned, if_true, wp_bndH, wp_withH, wp_need, enc_int, enc_str, enc_byte, enc_bool, List.getElem?_cons_zero, List.getElem?_cons_succ, cellP_get, cellG_cells, wp_st1g, stG_c, eq_self, true_and, wp_stng, stnG_ok, wp_ldng, ldG_ok, wp_newcg, wp_boxg, Heap.get_push_eq, Heap.get_push_lt, Heap.get_set_eq, Heap.get_set_ne', Heap.next_push', Heap.next_set', Heap.set_push_lt, Heap.set_push_eq, Heap.set_set, fld1_agg, fldn_agg, ext_tuple, outV_nil, outV_two, outV_three, outV_four, chk_ld1g, chkO_int, chkO_bool, chkO_str, chkO_ptr, chkO_slc, chkO_map, List.set_cons_zero, List.set_cons_succ, List.length_cons, List.length_nil, List.drop_succ_cons, List.drop_zero, List.take_succ_cons, List.take_zero, List.nil_append, List.cons_append, splice, isOne_int, isOne_str, isOne_bool, isOne_slice, isOne_pointer, isOne_map, condM_nf, condM_nef, gd_nef, gdf_nef, pick_nef, build_eq, fillA_nil, fillA_one, fillA_agg, Option.map_some, resv_one, resv_two, freeIn_nil, fillA_slc, fillA_int, fillA_str, fillA_bool, fillA_ptr, fillA_map, law20_PortsApart_k9])
    refine apart_loop f (fun j hj => (hff j hj).trans (hre j)) ha d6 ?_ hb6 hbA hbB _ fun H7 => ?_
    · rw [hst, hst']
      exact fun i hi _ => ⟨rfl, fun _ => ⟨rfl, rfl⟩⟩
    · (try simp (maxSteps := 1000000) (disch := first | omega | (simp only [Heap.next_push', Heap.next_set']; omega) | (simp; done) | assumption | decide | (refine not_not_intro ?_; assumption)) only [at_zero, at_succ, wp_bnd, wp_lift, wpO_some, wp_ret, nx_nxt, nx_brk, nx_ret, unblk_nxt, unblk_ret, unblk_brk, finM_nxt, finM_ret, outV_one, condM_t, condM_f, condM_dt, condM_df, gd_t, gd_f, gdf_t, gdf_f, gd_skip, gd_dt, gd_df, gdf_dt, gdf_df, pick_t, pick_f, pick_dt, pick_df, not_t, not_f, not_dec, isNil_ptr, isNil_ptr', isNil_pnil, isNil_pnil', nilck_ptr, faddr_ptr, Nat.zero_add, Nat.add_zero, wp_ld1, lenStr_str, lenSlc_slice, strV_str, i64_add, i64_sub, i64_mul, i64_in, int_eqd, int_ned, int_lss, int_leq, int_gtr, int_geq, str_eqd, str_ned, if_true, wp_bndH, wp_withH, wp_need, enc_int, enc_str, enc_byte, enc_bool, List.getElem?_cons_zero, List.getElem?_cons_succ, cellP_get, cellG_cells, wp_st1g, stG_c, eq_self, true_and, wp_stng, stnG_ok, wp_ldng, ldG_ok, wp_newcg, wp_boxg, Heap.get_push_eq, Heap.get_push_lt, Heap.get_set_eq, Heap.get_set_ne', Heap.next_push', Heap.next_set', Heap.set_push_lt, Heap.set_push_eq, Heap.set_set, fld1_agg, fldn_agg, ext_tuple, outV_nil, outV_two, outV_three, outV_four, chk_ld1g, chkO_int, chkO_bool, chkO_str, chkO_ptr, chkO_slc, chkO_map, List.set_cons_zero, List.set_cons_succ, List.length_cons, List.length_nil, List.drop_succ_cons, List.drop_zero, List.take_succ_cons, List.take_zero, List.nil_append, List.cons_append, splice, isOne_int, isOne_str, isOne_bool, isOne_slice, isOne_pointer, isOne_map, condM_nf, condM_nef, gd_nef, gdf_nef, pick_nef, build_eq, fillA_nil, fillA_one, fillA_agg, Option.map_some, resv_one, resv_two, freeIn_nil, fillA_slc, fillA_int, fillA_str, fillA_bool, fillA_ptr, fillA_map, law20_PortsApart_k8])
      exact hQ _
end Go.AM.Cap
