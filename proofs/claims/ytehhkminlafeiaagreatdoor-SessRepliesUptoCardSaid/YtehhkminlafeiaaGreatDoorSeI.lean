import Derived.Test.YtehhkminlafeiaaGreatDoorSeH
import Derived.Test.YtehhkminlafeiaaGreatDoorAmSep
set_option linter.all false
/- sess: a desk's calls: Logout, Tick, Sessions, Reply -/
set_option maxHeartbeats 16000000
namespace Go.AM.Cap
open Go.AM Go.Proofs

/-! ### Reply -/
def replyD (D : Dk) (id number : Int) (says : List It) : ByteArray × Int := match idxP (fun e : Int × Se => decide (id = e.1)) D.sl with
  | none => (⟨#[]⟩, 251)
  | some i => if number < 1 ∨ number > 1073741824 then (⟨#[]⟩, 1) else packS (D.sl.getD i default).2.key (replyI :: numI id :: numI number :: says)
theorem replies_flat : fillA (rep 1 [Value.bool false, Value.int .i64 0, (Value.string ⟨#[]⟩ : V)]) [(0, 3, .agg (Flat.enc replyI).toArray)] = some (encs [replyI]) := by rfl
theorem reply_ok {H0 H : Heap} {d : Nat} {D : Dk} {L : List Thing} {n : Int} (hb : Base H0) (h : DeskAt H0 H d D L) (ok : D.Ok n) {v : V} {says : List It} (hs : Sl H v says) (hsl : says.length ≤ 1048576) (id number : Int) (Q : V → Heap → Prop)
    (hQ : ∀ H', Keeps [] H H' → Q (.tuple #[.string (replyD D id number says).1, i64 (replyD D id number says).2]) H') : wp (A_sess_Desk_Reply [ptr d 0, i64 id, i64 number, v]) Q H := by
  show wp (F_sess_Desk_Reply (ptr d 0) (i64 id) (i64 number) v) Q H
  obtain ⟨uv, icv, cv, isv, sv', st⟩ := h
  have hsl8 := ok.sl
  unfold replyD at hQ
  (try simp (maxSteps := 1000000) (disch := first | omega | (simp only [Heap.next_push', Heap.next_set']; omega) | (simp; done) | assumption | decide | (refine not_not_intro ?_; assumption)) only [Z1, Z2, splice, F_sess_Desk_Reply])
  refine stget_se (desk_s st) hsl8 id _ (fun hi => ?_) (fun i hi => ?_)
  · rw [hi] at hQ
    (try simp (maxSteps := 1000000) (disch := first | omega | (simp only [Heap.next_push', Heap.next_set']; omega) | (simp; done) | assumption | decide | (refine not_not_intro ?_; assumption)) only [Z1, Z2, splice])
    exact hQ _ (Keeps.refl _ _)
  rw [hi] at hQ
  dsimp only at hQ
  by_cases h1 : number < 1
  · rw [if_pos (by omega)] at hQ
    (try simp (maxSteps := 1000000) (disch := first | omega | (simp only [Heap.next_push', Heap.next_set']; omega) | (simp; done) | assumption | decide | (refine not_not_intro ?_; assumption)) only [Z1, Z2, splice])
    exact hQ _ (Keeps.refl _ _)
  by_cases h2 : number > 1073741824
  · rw [if_pos (by omega)] at hQ
    (try simp (maxSteps := 1000000) (disch := first | omega | (simp only [Heap.next_push', Heap.next_set']; omega) | (simp; done) | assumption | decide | (refine not_not_intro ?_; assumption)) only [Z1, Z2, splice])
    exact hQ _ (Keeps.refl _ _)
  rw [if_neg (by omega)] at hQ
  obtain ⟨hil, hp, _⟩ := idxP_spec (d := default) hi
  have hmem := getD_mem' (d := default) hil
  obtain ⟨q1, q2, q3, q4, q5, q6, q7, q8⟩ := ok.sk _ hmem
  have e2 : (D.sl.map (·.2)).getD i default = (D.sl.getD i default).2 := by
    rw [List.getD_eq_getElem?_getD, List.getD_eq_getElem?_getD, List.getElem?_map, List.getElem?_eq_getElem hil]
    rfl
  have c3 := (st.own (i := 5) rfl).sl.cell' (n := 6) rfl (i := i) (off := 3) (by simpa using hil) (by omega) default
  rw [cellP_get, e2] at c3
  generalize (D.sl.getD i default).2 = s at *
  rw [show (Flat.enc s)[3]? = some (.string s.key) from rfl] at c3
  (try simp (maxSteps := 1000000) (disch := first | omega | (simp only [Heap.next_push', Heap.next_set']; omega) | (simp; done) | assumption | decide | (refine not_not_intro ?_; assumption)) only [Z1, cellP_get, cellG_cells, wp_st1g, stG_c, eq_self, true_and, wp_stng, stnG_ok, wp_ldng, ldG_ok, wp_newcg, wp_boxg, Heap.get_push_eq, Heap.get_push_lt, Heap.get_set_eq, Heap.get_set_ne', Heap.next_push', Heap.next_set', Heap.set_push_lt, Heap.set_push_eq, Heap.set_set, fld1_agg, fldn_agg, ext_tuple, outV_nil, outV_two, outV_three, outV_four, chk_ld1g, chkO_int, chkO_bool, chkO_str, chkO_ptr, chkO_slc, chkO_map, List.set_cons_zero, List.set_cons_succ, List.length_cons, List.length_nil, List.drop_succ_cons, List.drop_zero, List.take_succ_cons, List.take_zero, List.nil_append, List.cons_append, splice, isOne_int, isOne_str, isOne_bool, isOne_slice, isOne_pointer, isOne_map, condM_nf, condM_nef, gd_nef, gdf_nef, pick_nef, fillA_nil, fillA_one, fillA_agg, Option.map_some, resv_one, resv_two, freeIn_nil, fillA_slc, fillA_int, fillA_str, fillA_bool, fillA_ptr, fillA_map, sess_Desk_Reply_k0, c3, reply_build])
  refine (wp_bslc (cs := encs [replyI]) (by rfl) replies_flat).mpr ?_
  have k1 : Keeps [] H (H.push (some (.cells true (encs [replyI])))) := Keeps.push _ _ _
  have o1 := ownF_push (H := H) (xs := [replyI]) (n := 3) (m := 1) rfl rfl
  generalize H.push (some (.cells true (encs [replyI]))) = H1 at *
  (try simp (maxSteps := 1000000) (disch := first | omega | (simp only [Heap.next_push', Heap.next_set']; omega) | (simp; done) | assumption | decide | (refine not_not_intro ?_; assumption)) only [Z1, Z2, splice])
  refine sealed_ok ((hb.keep st.keeps).keep k1) s.key (by omega) o1.sl (hs.keep0 k1) (by simp) hsl id number _ fun H2 k2 => ?_
  (try simp (maxSteps := 1000000) (disch := first | omega | (simp only [Heap.next_push', Heap.next_set']; omega) | (simp; done) | assumption | decide | (refine not_not_intro ?_; assumption)) only [Z1, Z2, splice])
  exact hQ _ (k1.trans k2 (by simp))
end Go.AM.Cap
