/- wire: the lists' book; works -/
import Derived.Test.YtfonnghgbcoipaaDoorWiJ
set_option linter.all false
set_option maxHeartbeats 16000000
namespace Go.AM.Cap
open Go.AM Go.Proofs

theorem eq_it (x y : It) : eqAgg [.b, .i, .s] (.agg (Flat.enc x).toArray) (.agg (Flat.enc y).toArray) = some (decide (x = y)) := by
  obtain ⟨t, n, s⟩ := x
  obtain ⟨t', n', s'⟩ := y
  show eqKs [.b, .i, .s] [.bool t, i64 n, .string s] [.bool t', i64 n', .string s'] = _
  simp only [eqKs, eqK, if_true]
  by_cases h1 : t = t'
  · subst h1
    by_cases h2 : n = n'
    · subst h2
      by_cases h3 : s = s'
      · subst h3; simp
      · simp [h3]
    · have e : (n == n') = false := by simpa using h2
      simp [e, h2]
  · have e : (t == t') = false := by simpa using h1
    simp [e, h1]
theorem eq_two (a b c d : Int) : eqAgg [.i, .i] (.agg (#[i64 a, i64 b] : Array V)) (.agg (#[i64 c, i64 d] : Array V)) = some (decide (a = c ∧ b = d)) := by
  show eqKs [.i, .i] [i64 a, i64 b] [i64 c, i64 d] = _
  simp only [eqKs, eqK, if_true]
  by_cases h1 : a = c
  · subst h1
    by_cases h2 : b = d
    · subst h2; simp
    · have e : (b == d) = false := by simpa using h2
      simp [e, h2]
  · have e : (a == c) = false := by simpa using h1
    simp [e, h1]
theorem notIf_t (b : Bool) : notIf true (some b) = some (.bool (!b)) := rfl
theorem notIf_f (b : Bool) : notIf false (some b) = some (.bool b) := rfl

theorem same_ok {H : Heap} {v w : V} {xs ys : List It} (hv : Sl H v xs) (hw : Sl H w ys) (hb : xs.length ≤ 1000000000) (Q : V → Heap → Prop) (hQ : Q (.bool (decide (xs = ys))) H) : wp (A_book_SameItems [v, w]) Q H := by
  show wp (F_book_SameItems v w) Q H
  have hl := hv.len
  have hl' := hw.len
  by_cases h0 : xs.length = ys.length
  case neg =>
    have : ¬ xs = ys := fun q => h0 (by rw [q])
    rw [decide_eq_false this] at hQ
    (try simp (maxSteps := 1000000) (disch := first | omega | (simp only [Heap.next_push', Heap.next_set']; omega) | (simp; done) | assumption | decide | (refine not_not_intro ?_; assumption)) only [at_zero, at_succ, wp_bnd, wp_lift, wpO_some, wp_ret, nx_nxt, nx_brk, nx_ret, unblk_nxt, unblk_ret, unblk_brk, finM_nxt, finM_ret, outV_one, condM_t, condM_f, condM_dt, condM_df, gd_t, gd_f, gdf_t, gdf_f, gd_skip, gd_dt, gd_df, gdf_dt, gdf_df, pick_t, pick_f, pick_dt, pick_df, not_t, not_f, not_dec, isNil_ptr, isNil_ptr', isNil_pnil, isNil_pnil', nilck_ptr, faddr_ptr, Nat.zero_add, Nat.add_zero, wp_ld1, lenStr_str, lenSlc_slice, strV_str, i64_add, i64_sub, i64_mul, i64_in, int_eqd, int_ned, int_lss, int_leq, int_gtr, int_geq, str_eqd, str_ned, if_true, wp_bndH, wp_withH, wp_need, enc_int, enc_str, enc_byte, enc_bool, List.getElem?_cons_zero, List.getElem?_cons_succ, cellP_get, cellG_cells, wp_st1g, stG_c, eq_self, true_and, wp_stng, stnG_ok, wp_ldng, ldG_ok, wp_newcg, wp_boxg, Heap.get_push_eq, Heap.get_push_lt, Heap.get_set_eq, Heap.get_set_ne', Heap.next_push', Heap.next_set', Heap.set_push_lt, Heap.set_push_eq, Heap.set_set, fld1_agg, fldn_agg, ext_tuple, outV_nil, outV_two, outV_three, outV_four, chk_ld1g, chkO_int, chkO_bool, chkO_str, chkO_ptr, chkO_slc, chkO_map, List.set_cons_zero, List.set_cons_succ, List.length_cons, List.length_nil, List.drop_succ_cons, List.drop_zero, List.take_succ_cons, List.take_zero, List.nil_append, List.cons_append, splice, isOne_int, isOne_str, isOne_bool, isOne_slice, isOne_pointer, isOne_map, condM_nf, condM_nef, gd_nef, gdf_nef, pick_nef, build_eq, fillA_nil, fillA_one, fillA_agg, Option.map_some, resv_one, resv_two, freeIn_nil, fillA_slc, fillA_int, fillA_str, fillA_bool, fillA_ptr, fillA_map, F_book_SameItems, hl, hl'])
    exact hQ
  have hi0 : ((xs.length : Nat) : Int) = (ys.length : Int) := by omega
  (try simp (maxSteps := 1000000) (disch := first | omega | (simp only [Heap.next_push', Heap.next_set']; omega) | (simp; done) | assumption | decide | (refine not_not_intro ?_; assumption)) only [at_zero, at_succ, wp_bnd, wp_lift, wpO_some, wp_ret, nx_nxt, nx_brk, nx_ret, unblk_nxt, unblk_ret, unblk_brk, finM_nxt, finM_ret, outV_one, condM_t, condM_f, condM_dt, condM_df, gd_t, gd_f, gdf_t, gdf_f, gd_skip, gd_dt, gd_df, gdf_dt, gdf_df, pick_t, pick_f, pick_dt, pick_df, not_t, not_f, not_dec, isNil_ptr, isNil_ptr', isNil_pnil, isNil_pnil', nilck_ptr, faddr_ptr, Nat.zero_add, Nat.add_zero, wp_ld1, lenStr_str, lenSlc_slice, strV_str, i64_add, i64_sub, i64_mul, i64_in, int_eqd, int_ned, int_lss, int_leq, int_gtr, int_geq, str_eqd, str_ned, if_true, wp_bndH, wp_withH, wp_need, enc_int, enc_str, enc_byte, enc_bool, List.getElem?_cons_zero, List.getElem?_cons_succ, cellP_get, cellG_cells, wp_st1g, stG_c, eq_self, true_and, wp_stng, stnG_ok, wp_ldng, ldG_ok, wp_newcg, wp_boxg, Heap.get_push_eq, Heap.get_push_lt, Heap.get_set_eq, Heap.get_set_ne', Heap.next_push', Heap.next_set', Heap.set_push_lt, Heap.set_push_eq, Heap.set_set, fld1_agg, fldn_agg, ext_tuple, outV_nil, outV_two, outV_three, outV_four, chk_ld1g, chkO_int, chkO_bool, chkO_str, chkO_ptr, chkO_slc, chkO_map, List.set_cons_zero, List.set_cons_succ, List.length_cons, List.length_nil, List.drop_succ_cons, List.drop_zero, List.take_succ_cons, List.take_zero, List.nil_append, List.cons_append, splice, isOne_int, isOne_str, isOne_bool, isOne_slice, isOne_pointer, isOne_map, condM_nf, condM_nef, gd_nef, gdf_nef, pick_nef, build_eq, fillA_nil, fillA_one, fillA_agg, Option.map_some, resv_one, resv_two, freeIn_nil, fillA_slc, fillA_int, fillA_str, fillA_bool, fillA_ptr, fillA_map, F_book_SameItems, hl, hl', book_SameItems_k4])
  refine wp_loop (Inv := fun k vs H' => ∃ (j : Nat), k = xs.length - j ∧ j ≤ xs.length ∧ vs = [v, w, i64 j] ∧ H' = H ∧ (∀ i, i < j → xs.getD i default = ys.getD i default)) (n := xs.length) (by unfold FUEL; omega)
    ⟨0, by omega, by omega, rfl, rfl, by omega⟩ ?_
  rintro k vs H' ⟨j, hk, hj, rfl, he, hsame⟩
  rw [he]; clear he H'
  by_cases hlt : j < xs.length
  case neg =>
    have : xs = ys := by
      apply List.ext_getElem h0
      intro i h1 h2
      have := hsame i (by omega)
      rwa [List.getD_eq_getElem?_getD, List.getElem?_eq_getElem h1, List.getD_eq_getElem?_getD, List.getElem?_eq_getElem h2] at this
    rw [decide_eq_true this] at hQ
    (try simp (maxSteps := 1000000) (disch := first | omega | (simp only [Heap.next_push', Heap.next_set']; omega) | (simp; done) | assumption | decide | (refine not_not_intro ?_; assumption)) only [at_zero, at_succ, wp_bnd, wp_lift, wpO_some, wp_ret, nx_nxt, nx_brk, nx_ret, unblk_nxt, unblk_ret, unblk_brk, finM_nxt, finM_ret, outV_one, condM_t, condM_f, condM_dt, condM_df, gd_t, gd_f, gdf_t, gdf_f, gd_skip, gd_dt, gd_df, gdf_dt, gdf_df, pick_t, pick_f, pick_dt, pick_df, not_t, not_f, not_dec, isNil_ptr, isNil_ptr', isNil_pnil, isNil_pnil', nilck_ptr, faddr_ptr, Nat.zero_add, Nat.add_zero, wp_ld1, lenStr_str, lenSlc_slice, strV_str, i64_add, i64_sub, i64_mul, i64_in, int_eqd, int_ned, int_lss, int_leq, int_gtr, int_geq, str_eqd, str_ned, if_true, wp_bndH, wp_withH, wp_need, enc_int, enc_str, enc_byte, enc_bool, List.getElem?_cons_zero, List.getElem?_cons_succ, cellP_get, cellG_cells, wp_st1g, stG_c, eq_self, true_and, wp_stng, stnG_ok, wp_ldng, ldG_ok, wp_newcg, wp_boxg, Heap.get_push_eq, Heap.get_push_lt, Heap.get_set_eq, Heap.get_set_ne', Heap.next_push', Heap.next_set', Heap.set_push_lt, Heap.set_push_eq, Heap.set_set, fld1_agg, fldn_agg, ext_tuple, outV_nil, outV_two, outV_three, outV_four, chk_ld1g, chkO_int, chkO_bool, chkO_str, chkO_ptr, chkO_slc, chkO_map, List.set_cons_zero, List.set_cons_succ, List.length_cons, List.length_nil, List.drop_succ_cons, List.drop_zero, List.take_succ_cons, List.take_zero, List.nil_append, List.cons_append, splice, isOne_int, isOne_str, isOne_bool, isOne_slice, isOne_pointer, isOne_map, condM_nf, condM_nef, gd_nef, gdf_nef, pick_nef, build_eq, fillA_nil, fillA_one, fillA_agg, Option.map_some, resv_one, resv_two, freeIn_nil, fillA_slc, fillA_int, fillA_str, fillA_bool, fillA_ptr, fillA_map, book_SameItems_l2, hl, book_SameItems_k3])
    exact hQ
  have a1 := hv.addr' (n := 3) rfl (k := .i64) (i := j) (by omega) (by omega)
  rw [Int.toNat_natCast] at a1
  have d1 := fun Q => hv.ldn' (Q := Q) (n := 3) rfl hlt default
  have a2 := hw.addr' (n := 3) rfl (k := .i64) (i := j) (by omega) (by omega)
  rw [Int.toNat_natCast] at a2
  have d2 := fun Q => hw.ldn' (Q := Q) (n := 3) rfl (show j < ys.length by omega) default
  by_cases he : xs.getD j default = ys.getD j default
  · (try simp (maxSteps := 1000000) (disch := first | omega | (simp only [Heap.next_push', Heap.next_set']; omega) | (simp; done) | assumption | decide | (refine not_not_intro ?_; assumption)) only [at_zero, at_succ, wp_bnd, wp_lift, wpO_some, wp_ret, nx_nxt, nx_brk, nx_ret, unblk_nxt, unblk_ret, unblk_brk, finM_nxt, finM_ret, outV_one, condM_t, condM_f, condM_dt, condM_df, gd_t, gd_f, gdf_t, gdf_f, gd_skip, gd_dt, gd_df, gdf_dt, gdf_df, pick_t, pick_f, pick_dt, pick_df, not_t, not_f, not_dec, isNil_ptr, isNil_ptr', isNil_pnil, isNil_pnil', nilck_ptr, faddr_ptr, Nat.zero_add, Nat.add_zero, wp_ld1, lenStr_str, lenSlc_slice, strV_str, i64_add, i64_sub, i64_mul, i64_in, int_eqd, int_ned, int_lss, int_leq, int_gtr, int_geq, str_eqd, str_ned, if_true, wp_bndH, wp_withH, wp_need, enc_int, enc_str, enc_byte, enc_bool, List.getElem?_cons_zero, List.getElem?_cons_succ, cellP_get, cellG_cells, wp_st1g, stG_c, eq_self, true_and, wp_stng, stnG_ok, ldG_ok, wp_newcg, wp_boxg, Heap.get_push_eq, Heap.get_push_lt, Heap.get_set_eq, Heap.get_set_ne', Heap.next_push', Heap.next_set', Heap.set_push_lt, Heap.set_push_eq, Heap.set_set, fld1_agg, fldn_agg, ext_tuple, outV_nil, outV_two, outV_three, outV_four, chk_ld1g, chkO_int, chkO_bool, chkO_str, chkO_ptr, chkO_slc, chkO_map, List.set_cons_zero, List.set_cons_succ, List.length_cons, List.length_nil, List.drop_succ_cons, List.drop_zero, List.take_succ_cons, List.take_zero, List.nil_append, List.cons_append, splice, isOne_int, isOne_str, isOne_bool, isOne_slice, isOne_pointer, isOne_map, condM_nf, condM_nef, gd_nef, gdf_nef, pick_nef, build_eq, fillA_nil, fillA_one, fillA_agg, Option.map_some, resv_one, resv_two, freeIn_nil, fillA_slc, fillA_int, fillA_str, fillA_bool, fillA_ptr, fillA_map, book_SameItems_l2, hl, book_SameItems_k1, a1, a2, d1, d2, eq_it, notIf_t, he, decide_true, Bool.not_true, book_SameItems_k0])
    refine ⟨xs.length - (j + 1), by omega, j + 1, rfl, by omega, by push_cast; rfl, fun i hi => ?_⟩
    rcases Nat.lt_or_eq_of_le (Nat.lt_succ_iff.1 hi) with q | rfl
    · exact hsame i q
    · exact he
  · have : ¬ xs = ys := fun q => he (by rw [q])
    rw [decide_eq_false this] at hQ
    (try simp (maxSteps := 1000000) (disch := first | omega | (simp only [Heap.next_push', Heap.next_set']; omega) | (simp; done) | assumption | decide | (refine not_not_intro ?_; assumption)) only [at_zero, at_succ, wp_bnd, wp_lift, wpO_some, wp_ret, nx_nxt, nx_brk, nx_ret, unblk_nxt, unblk_ret, unblk_brk, finM_nxt, finM_ret, outV_one, condM_t, condM_f, condM_dt, condM_df, gd_t, gd_f, gdf_t, gdf_f, gd_skip, gd_dt, gd_df, gdf_dt, gdf_df, pick_t, pick_f, pick_dt, pick_df, not_t, not_f, not_dec, isNil_ptr, isNil_ptr', isNil_pnil, isNil_pnil', nilck_ptr, faddr_ptr, Nat.zero_add, Nat.add_zero, wp_ld1, lenStr_str, lenSlc_slice, strV_str, i64_add, i64_sub, i64_mul, i64_in, int_eqd, int_ned, int_lss, int_leq, int_gtr, int_geq, str_eqd, str_ned, if_true, wp_bndH, wp_withH, wp_need, enc_int, enc_str, enc_byte, enc_bool, List.getElem?_cons_zero, List.getElem?_cons_succ, cellP_get, cellG_cells, wp_st1g, stG_c, eq_self, true_and, wp_stng, stnG_ok, ldG_ok, wp_newcg, wp_boxg, Heap.get_push_eq, Heap.get_push_lt, Heap.get_set_eq, Heap.get_set_ne', Heap.next_push', Heap.next_set', Heap.set_push_lt, Heap.set_push_eq, Heap.set_set, fld1_agg, fldn_agg, ext_tuple, outV_nil, outV_two, outV_three, outV_four, chk_ld1g, chkO_int, chkO_bool, chkO_str, chkO_ptr, chkO_slc, chkO_map, List.set_cons_zero, List.set_cons_succ, List.length_cons, List.length_nil, List.drop_succ_cons, List.drop_zero, List.take_succ_cons, List.take_zero, List.nil_append, List.cons_append, splice, isOne_int, isOne_str, isOne_bool, isOne_slice, isOne_pointer, isOne_map, condM_nf, condM_nef, gd_nef, gdf_nef, pick_nef, build_eq, fillA_nil, fillA_one, fillA_agg, Option.map_some, resv_one, resv_two, freeIn_nil, fillA_slc, fillA_int, fillA_str, fillA_bool, fillA_ptr, fillA_map, book_SameItems_l2, hl, book_SameItems_k1, a1, a2, d1, d2, eq_it, notIf_t, decide_eq_false he, Bool.not_false])
    exact hQ

def markI : It := ⟨false, -77, ⟨#[]⟩⟩
theorem sub_hi {b s n c h : Nat} {k : IntKind} (hs : s ≠ 0) (hc : h ≤ c) (h0 : 0 < c) : subV s (slc b 0 s n c) none (some (.int k (h : Int))) = some (slc b 0 s h c) := by
  have e1 : bound n c (some (.int k (h : Int))) = some h := by simp [bound, hc]
  simp only [subV, e1]
  simp [bound, cutAt, show c ≠ 0 by omega]
theorem lend_ok {H : Heap} {v : V} {l : List It} (h : Sl H v l) (hl : l.length ≤ 1048576) (Q : V → Heap → Prop) (hQ : ∀ b H', Keeps [] H H' → H.next ≤ b → H'.get b = some (.cells true (encs (l ++ [markI]))) → Q (slc b 0 3 l.length (l.length + 1)) H') : wp (A_book_LendItems [v]) Q H := by
  show wp (F_book_LendItems v) Q H
  have hlen := h.len
  unfold F_book_LendItems
  rw [wp_bnd, wp_bnd]
  refine (wp_bslc (cs := encs ([] : List It)) (by rfl) (by rfl)).mpr ?_
  have k1 : Keeps [] H (H.push (some (.cells true (encs ([] : List It))))) := Keeps.push _ _ _
  have o1 := ownF_push (H := H) (xs := ([] : List It)) (n := 3) (m := 0) rfl rfl
  have n1 : (H.push (some (.cells true (encs ([] : List It))))).next = H.next + 1 := by simp
  generalize H.push (some (.cells true (encs ([] : List It)))) = H1 at *
  rw [wp_bnd]
  refine ownF_appV (α := It) rfl o1 (h.keep0 k1) (by simp; omega) (by simp; omega) fun w2 H2 o2 k2 v2 => ?_
  rw [List.nil_append] at o2
  have k02 : Keeps [] H H2 := k1.trans k2 fun b hb hm => by
    simp at hm; omega
  have hb2 : ∀ c ∈ vb w2, H.next ≤ c := fun c hc => by
    rcases v2 c hc with q | q
    · simp at q; omega
    · omega
  have hbld : build [Value.bool false, Value.int .i64 0, (Value.string ⟨#[]⟩ : V)] [(1, 1, (Value.int .i64 (-77)))] = some (.agg (Flat.enc markI).toArray) := by rfl
  (try simp (maxSteps := 1000000) (disch := first | omega | (simp only [Heap.next_push', Heap.next_set']; omega) | (simp; done) | assumption | decide | (refine not_not_intro ?_; assumption)) only [at_zero, at_succ, wp_bnd, wp_lift, wpO_some, wp_ret, nx_nxt, nx_brk, nx_ret, unblk_nxt, unblk_ret, unblk_brk, finM_nxt, finM_ret, outV_one, condM_t, condM_f, condM_dt, condM_df, gd_t, gd_f, gdf_t, gdf_f, gd_skip, gd_dt, gd_df, gdf_dt, gdf_df, pick_t, pick_f, pick_dt, pick_df, not_t, not_f, not_dec, isNil_ptr, isNil_ptr', isNil_pnil, isNil_pnil', nilck_ptr, faddr_ptr, Nat.zero_add, Nat.add_zero, wp_ld1, lenStr_str, lenSlc_slice, strV_str, i64_add, i64_sub, i64_mul, i64_in, int_eqd, int_ned, int_lss, int_leq, int_gtr, int_geq, str_eqd, str_ned, if_true, wp_bndH, wp_withH, wp_need, enc_int, enc_str, enc_byte, enc_bool, List.getElem?_cons_zero, List.getElem?_cons_succ, cellP_get, cellG_cells, wp_st1g, stG_c, eq_self, true_and, wp_stng, stnG_ok, wp_ldng, ldG_ok, wp_newcg, wp_boxg, Heap.get_push_eq, Heap.get_push_lt, Heap.get_set_eq, Heap.get_set_ne', Heap.next_push', Heap.next_set', Heap.set_push_lt, Heap.set_push_eq, Heap.set_set, fld1_agg, fldn_agg, ext_tuple, outV_nil, outV_two, outV_three, outV_four, chk_ld1g, chkO_int, chkO_bool, chkO_str, chkO_ptr, chkO_slc, chkO_map, List.set_cons_zero, List.set_cons_succ, List.length_cons, List.length_nil, List.drop_succ_cons, List.drop_zero, List.take_succ_cons, List.take_zero, List.nil_append, List.cons_append, splice, isOne_int, isOne_str, isOne_bool, isOne_slice, isOne_pointer, isOne_map, condM_nf, condM_nef, gd_nef, gdf_nef, pick_nef, build_eq, fillA_nil, fillA_one, fillA_agg, Option.map_some, resv_one, resv_two, freeIn_nil, fillA_slc, fillA_int, fillA_str, fillA_bool, fillA_ptr, fillA_map, hbld])
  refine app_it o2 (by omega) markI _ fun w3 H3 o3 k3 v3 => ?_
  rcases o3 with ⟨_, q⟩ | ⟨b3, rfl, g3⟩
  · simp at q
  have hsub := sub_hi (b := b3) (s := 3) (n := (l ++ [markI]).length) (c := (l ++ [markI]).length) (h := l.length) (k := .i64) (by omega) (by simp) (by simp)
  have h3 : Flat.size It = 3 := rfl
  rw [h3]
  (try simp (maxSteps := 1000000) (disch := first | omega | (simp only [Heap.next_push', Heap.next_set']; omega) | (simp; done) | assumption | decide | (refine not_not_intro ?_; assumption)) only [at_zero, at_succ, wp_bnd, wp_lift, wpO_some, wp_ret, nx_nxt, nx_brk, nx_ret, unblk_nxt, unblk_ret, unblk_brk, finM_nxt, finM_ret, outV_one, condM_t, condM_f, condM_dt, condM_df, gd_t, gd_f, gdf_t, gdf_f, gd_skip, gd_dt, gd_df, gdf_dt, gdf_df, pick_t, pick_f, pick_dt, pick_df, not_t, not_f, not_dec, isNil_ptr, isNil_ptr', isNil_pnil, isNil_pnil', nilck_ptr, faddr_ptr, Nat.zero_add, Nat.add_zero, wp_ld1, lenStr_str, lenSlc_slice, strV_str, i64_add, i64_sub, i64_mul, i64_in, int_eqd, int_ned, int_lss, int_leq, int_gtr, int_geq, str_eqd, str_ned, if_true, wp_bndH, wp_withH, wp_need, enc_int, enc_str, enc_byte, enc_bool, List.getElem?_cons_zero, List.getElem?_cons_succ, cellP_get, cellG_cells, wp_st1g, stG_c, eq_self, true_and, wp_stng, stnG_ok, wp_ldng, ldG_ok, wp_newcg, wp_boxg, Heap.get_push_eq, Heap.get_push_lt, Heap.get_set_eq, Heap.get_set_ne', Heap.next_push', Heap.next_set', Heap.set_push_lt, Heap.set_push_eq, Heap.set_set, fld1_agg, fldn_agg, ext_tuple, outV_nil, outV_two, outV_three, outV_four, chk_ld1g, chkO_int, chkO_bool, chkO_str, chkO_ptr, chkO_slc, chkO_map, List.set_cons_zero, List.set_cons_succ, List.length_cons, List.length_nil, List.drop_succ_cons, List.drop_zero, List.take_succ_cons, List.take_zero, List.nil_append, List.cons_append, splice, isOne_int, isOne_str, isOne_bool, isOne_slice, isOne_pointer, isOne_map, condM_nf, condM_nef, gd_nef, gdf_nef, pick_nef, build_eq, fillA_nil, fillA_one, fillA_agg, Option.map_some, resv_one, resv_two, freeIn_nil, fillA_slc, fillA_int, fillA_str, fillA_bool, fillA_ptr, fillA_map, hlen, hsub])
  rw [show (l ++ [markI]).length = l.length + 1 from by simp]
  refine hQ b3 H3 (k02.trans k3 fun b hb hm => by have := hb2 b hm; omega) ?_ g3
  rcases v3 b3 (by simp) with q | q
  · exact hb2 _ q
  · have := k02.next; omega

theorem kept_ok {H : Heap} {b : Nat} {v : V} {l : List It} (hg : H.get b = some (.cells true (encs (l ++ [markI])))) (h : Sl H v l) (hl : l.length ≤ 1048576) (Q : V → Heap → Prop) (hQ : Q (.bool true) H) : wp (A_book_KeptItems [slc b 0 3 l.length (l.length + 1), v]) Q H := by
  show wp (F_book_KeptItems (slc b 0 3 l.length (l.length + 1)) v) Q H
  have hlen := h.len
  have hel : (encs (l ++ [markI])).length = (l.length + 1) * 3 := by rw [encs_length]; simp; rfl
  have hs : Sl H (slc b 0 3 l.length (l.length + 1)) l := by
    refine .inr ⟨b, 0, 3, l.length + 1, rfl, by omega, Heap.get_lt hg, .inr ⟨true, _, hg, ?_, ?_⟩, .inr rfl⟩
    · rw [hel]; show 0 + l.length * 3 ≤ _; omega
    · rw [List.drop_zero, encs_append, List.take_append_of_le_length (by rw [encs_length]; exact Nat.le_refl _), List.take_of_length_le (by rw [encs_length]; exact Nat.le_refl _)]
  have hsub := sub_hi (b := b) (s := 3) (n := l.length) (c := l.length + 1) (h := l.length + 1) (k := .i64) (by omega) (by omega) (by omega)
  have hcell : (encs (l ++ [markI]))[l.length * 3 + 1]? = some (i64 (-77)) := by
    have := encs_get (l ++ [markI]) l.length 1 default (by simp) (by decide)
    rw [show Flat.size It = 3 from rfl] at this
    rw [this, List.getD_eq_getElem?_getD, List.getElem?_append_right (Nat.le_refl _)]
    simp [markI, enc_it]
  unfold F_book_KeptItems
  rw [wp_bnd, wp_bnd]
  refine same_ok hs h (by omega) _ ?_
  rw [decide_eq_true (rfl : l = l)]
  rw [show ((l.length + 1 : Nat) : Int) = (l.length : Int) + 1 from rfl] at hsub
  have hia : iaddrS 3 (slc b 0 3 (l.length + 1) (l.length + 1)) (i64 (l.length : Int)) = some (ptr b (0 + l.length * 3)) := by
    rw [iaddrS_slc (by omega) (by omega), Int.toNat_natCast]
  (try simp (maxSteps := 1000000) (disch := first | omega | (simp only [Heap.next_push', Heap.next_set']; omega) | (simp; done) | assumption | decide | (refine not_not_intro ?_; assumption)) only [at_zero, at_succ, wp_bnd, wp_lift, wpO_some, wp_ret, nx_nxt, nx_brk, nx_ret, unblk_nxt, unblk_ret, unblk_brk, finM_nxt, finM_ret, outV_one, condM_t, condM_f, condM_dt, condM_df, gd_t, gd_f, gdf_t, gdf_f, gd_skip, gd_dt, gd_df, gdf_dt, gdf_df, pick_t, pick_f, pick_dt, pick_df, not_t, not_f, not_dec, isNil_ptr, isNil_ptr', isNil_pnil, isNil_pnil', nilck_ptr, faddr_ptr, Nat.zero_add, Nat.add_zero, wp_ld1, lenStr_str, lenSlc_slice, strV_str, i64_add, i64_sub, i64_mul, i64_in, int_eqd, int_ned, int_lss, int_leq, int_gtr, int_geq, str_eqd, str_ned, if_true, wp_bndH, wp_withH, wp_need, enc_int, enc_str, enc_byte, enc_bool, List.getElem?_cons_zero, List.getElem?_cons_succ, cellP_get, cellG_cells, wp_st1g, stG_c, eq_self, true_and, wp_stng, stnG_ok, wp_ldng, ldG_ok, wp_newcg, wp_boxg, Heap.get_push_eq, Heap.get_push_lt, Heap.get_set_eq, Heap.get_set_ne', Heap.next_push', Heap.next_set', Heap.set_push_lt, Heap.set_push_eq, Heap.set_set, fld1_agg, fldn_agg, ext_tuple, outV_nil, outV_two, outV_three, outV_four, chk_ld1g, chkO_int, chkO_bool, chkO_str, chkO_ptr, chkO_slc, chkO_map, List.set_cons_zero, List.set_cons_succ, List.length_cons, List.length_nil, List.drop_succ_cons, List.drop_zero, List.take_succ_cons, List.take_zero, List.nil_append, List.cons_append, splice, isOne_int, isOne_str, isOne_bool, isOne_slice, isOne_pointer, isOne_map, condM_nf, condM_nef, gd_nef, gdf_nef, pick_nef, build_eq, fillA_nil, fillA_one, fillA_agg, Option.map_some, resv_one, resv_two, freeIn_nil, fillA_slc, fillA_int, fillA_str, fillA_bool, fillA_ptr, fillA_map, hlen, hsub, hia, hg, hcell])
  exact hQ

theorem works_enc : encI [⟨false, 1, ⟨#[]⟩⟩, ⟨true, 0, ⟨#[97, 98]⟩⟩] = (⟨#[0, 2, 35, 0, 0, 0, 0, 0, 0, 0, 1, 36, 0, 2, 97, 98]⟩, 0) := by kernel_rfl
theorem works_dec : decI (bv ⟨#[0, 1, 35, 255, 255, 255, 255, 255, 255, 255, 255]⟩) = ([⟨false, -1, ⟨#[]⟩⟩], none) := by kernel_rfl

theorem works_ok {H : Heap} (hT : Tok H) (Q : V → Heap → Prop) (hQ : ∀ H', Keeps [] H H' → Q (.bool true) H') : wp (A_law03_works asF []) Q H := by
  show wp (F_law03_works asF) Q H
  have b1 : build [Value.bool false, Value.int .i64 0, (Value.string ⟨#[]⟩ : V)] [(1, 1, (Value.int .i64 1))] = some (.agg (Flat.enc (⟨false, 1, ⟨#[]⟩⟩ : It)).toArray) := by rfl
  have b2 : build [Value.bool false, Value.int .i64 0, (Value.string ⟨#[]⟩ : V)] [(0, 1, (Value.bool true)), (2, 1, (Value.string ⟨#[97, 98]⟩))] = some (.agg (Flat.enc (⟨true, 0, ⟨#[97, 98]⟩⟩ : It)).toArray) := by rfl
  (try simp (maxSteps := 1000000) (disch := first | omega | (simp only [Heap.next_push', Heap.next_set']; omega) | (simp; done) | assumption | decide | (refine not_not_intro ?_; assumption)) only [at_zero, at_succ, wp_bnd, wp_lift, wpO_some, wp_ret, nx_nxt, nx_brk, nx_ret, unblk_nxt, unblk_ret, unblk_brk, finM_nxt, finM_ret, outV_one, condM_t, condM_f, condM_dt, condM_df, gd_t, gd_f, gdf_t, gdf_f, gd_skip, gd_dt, gd_df, gdf_dt, gdf_df, pick_t, pick_f, pick_dt, pick_df, not_t, not_f, not_dec, isNil_ptr, isNil_ptr', isNil_pnil, isNil_pnil', nilck_ptr, faddr_ptr, Nat.zero_add, Nat.add_zero, wp_ld1, lenStr_str, lenSlc_slice, strV_str, i64_add, i64_sub, i64_mul, i64_in, int_eqd, int_ned, int_lss, int_leq, int_gtr, int_geq, str_eqd, str_ned, if_true, wp_bndH, wp_withH, wp_need, enc_int, enc_str, enc_byte, enc_bool, List.getElem?_cons_zero, List.getElem?_cons_succ, cellP_get, cellG_cells, wp_st1g, stG_c, eq_self, true_and, wp_stng, stnG_ok, wp_ldng, ldG_ok, wp_newcg, wp_boxg, Heap.get_push_eq, Heap.get_push_lt, Heap.get_set_eq, Heap.get_set_ne', Heap.next_push', Heap.next_set', Heap.set_push_lt, Heap.set_push_eq, Heap.set_set, fld1_agg, fldn_agg, ext_tuple, outV_nil, outV_two, outV_three, outV_four, chk_ld1g, chkO_int, chkO_bool, chkO_str, chkO_ptr, chkO_slc, chkO_map, List.set_cons_zero, List.set_cons_succ, List.length_cons, List.length_nil, List.drop_succ_cons, List.drop_zero, List.take_succ_cons, List.take_zero, List.nil_append, List.cons_append, splice, isOne_int, isOne_str, isOne_bool, isOne_slice, isOne_pointer, isOne_map, condM_nf, condM_nef, gd_nef, gdf_nef, pick_nef, build_eq, fillA_nil, fillA_one, fillA_agg, Option.map_some, resv_one, resv_two, freeIn_nil, fillA_slc, fillA_int, fillA_str, fillA_bool, fillA_ptr, fillA_map, F_law03_works, b1, b2])
  refine (wp_bslc (cs := encs [(⟨false, 1, ⟨#[]⟩⟩ : It), ⟨true, 0, ⟨#[97, 98]⟩⟩]) (by rfl) (by rfl)).mpr ?_
  have k1 : Keeps [] H (H.push (some (.cells true (encs [(⟨false, 1, ⟨#[]⟩⟩ : It), ⟨true, 0, ⟨#[97, 98]⟩⟩])))) := Keeps.push _ _ _
  have o1 := ownF_push (H := H) (xs := [(⟨false, 1, ⟨#[]⟩⟩ : It), ⟨true, 0, ⟨#[97, 98]⟩⟩]) (n := 3) (m := 2) rfl rfl
  generalize H.push (some (.cells true (encs [(⟨false, 1, ⟨#[]⟩⟩ : It), ⟨true, 0, ⟨#[97, 98]⟩⟩]))) = H1 at *
  (try simp (maxSteps := 1000000) (disch := first | omega | (simp only [Heap.next_push', Heap.next_set']; omega) | (simp; done) | assumption | decide | (refine not_not_intro ?_; assumption)) only [at_zero, at_succ, wp_bnd, wp_lift, wpO_some, wp_ret, nx_nxt, nx_brk, nx_ret, unblk_nxt, unblk_ret, unblk_brk, finM_nxt, finM_ret, outV_one, condM_t, condM_f, condM_dt, condM_df, gd_t, gd_f, gdf_t, gdf_f, gd_skip, gd_dt, gd_df, gdf_dt, gdf_df, pick_t, pick_f, pick_dt, pick_df, not_t, not_f, not_dec, isNil_ptr, isNil_ptr', isNil_pnil, isNil_pnil', nilck_ptr, faddr_ptr, Nat.zero_add, Nat.add_zero, wp_ld1, lenStr_str, lenSlc_slice, strV_str, i64_add, i64_sub, i64_mul, i64_in, int_eqd, int_ned, int_lss, int_leq, int_gtr, int_geq, str_eqd, str_ned, if_true, wp_bndH, wp_withH, wp_need, enc_int, enc_str, enc_byte, enc_bool, List.getElem?_cons_zero, List.getElem?_cons_succ, cellP_get, cellG_cells, wp_st1g, stG_c, eq_self, true_and, wp_stng, stnG_ok, wp_ldng, ldG_ok, wp_newcg, wp_boxg, Heap.get_push_eq, Heap.get_push_lt, Heap.get_set_eq, Heap.get_set_ne', Heap.next_push', Heap.next_set', Heap.set_push_lt, Heap.set_push_eq, Heap.set_set, fld1_agg, fldn_agg, ext_tuple, outV_nil, outV_two, outV_three, outV_four, chk_ld1g, chkO_int, chkO_bool, chkO_str, chkO_ptr, chkO_slc, chkO_map, List.set_cons_zero, List.set_cons_succ, List.length_cons, List.length_nil, List.drop_succ_cons, List.drop_zero, List.take_succ_cons, List.take_zero, List.nil_append, List.cons_append, splice, isOne_int, isOne_str, isOne_bool, isOne_slice, isOne_pointer, isOne_map, condM_nf, condM_nef, gd_nef, gdf_nef, pick_nef, build_eq, fillA_nil, fillA_one, fillA_agg, Option.map_some, resv_one, resv_two, freeIn_nil, fillA_slc, fillA_int, fillA_str, fillA_bool, fillA_ptr, fillA_map])
  refine enc_ok o1.sl _ fun H2 k2 => ?_
  rw [works_enc]
  (try simp (maxSteps := 1000000) (disch := first | omega | (simp only [Heap.next_push', Heap.next_set']; omega) | (simp; done) | assumption | decide | (refine not_not_intro ?_; assumption)) only [at_zero, at_succ, wp_bnd, wp_lift, wpO_some, wp_ret, nx_nxt, nx_brk, nx_ret, unblk_nxt, unblk_ret, unblk_brk, finM_nxt, finM_ret, outV_one, condM_t, condM_f, condM_dt, condM_df, gd_t, gd_f, gdf_t, gdf_f, gd_skip, gd_dt, gd_df, gdf_dt, gdf_df, pick_t, pick_f, pick_dt, pick_df, not_t, not_f, not_dec, isNil_ptr, isNil_ptr', isNil_pnil, isNil_pnil', nilck_ptr, faddr_ptr, Nat.zero_add, Nat.add_zero, wp_ld1, lenStr_str, lenSlc_slice, strV_str, i64_add, i64_sub, i64_mul, i64_in, int_eqd, int_ned, int_lss, int_leq, int_gtr, int_geq, str_eqd, str_ned, if_true, wp_bndH, wp_withH, wp_need, enc_int, enc_str, enc_byte, enc_bool, List.getElem?_cons_zero, List.getElem?_cons_succ, cellP_get, cellG_cells, wp_st1g, stG_c, eq_self, true_and, wp_stng, stnG_ok, wp_ldng, ldG_ok, wp_newcg, wp_boxg, Heap.get_push_eq, Heap.get_push_lt, Heap.get_set_eq, Heap.get_set_ne', Heap.next_push', Heap.next_set', Heap.set_push_lt, Heap.set_push_eq, Heap.set_set, fld1_agg, fldn_agg, ext_tuple, outV_nil, outV_two, outV_three, outV_four, chk_ld1g, chkO_int, chkO_bool, chkO_str, chkO_ptr, chkO_slc, chkO_map, List.set_cons_zero, List.set_cons_succ, List.length_cons, List.length_nil, List.drop_succ_cons, List.drop_zero, List.take_succ_cons, List.take_zero, List.nil_append, List.cons_append, splice, isOne_int, isOne_str, isOne_bool, isOne_slice, isOne_pointer, isOne_map, condM_nf, condM_nef, gd_nef, gdf_nef, pick_nef, build_eq, fillA_nil, fillA_one, fillA_agg, Option.map_some, resv_one, resv_two, freeIn_nil, fillA_slc, fillA_int, fillA_str, fillA_bool, fillA_ptr, fillA_map])
  refine dec_ok ((hT.keep0 k1).keep0 k2) _ _ fun w H3 k3 o3 f3 => ?_
  rw [works_dec] at *
  have hl3 := o3.len
  have a3 := o3.sl.addr' (n := 3) rfl (k := .i64) (i := 0) (by omega) (by simp)
  have c3 : cellP H3 (ptr (slB w) (slO w + 1)) = some (i64 (-1)) := by
    have := o3.sl.cell' (n := 3) rfl (i := 0) (off := 1) (by simp) (by omega) default
    rw [Nat.zero_mul, Nat.add_zero] at this
    exact this
  rw [show slO w + (0 : Int).toNat * 3 = slO w from by simp] at a3
  have hw : ∀ c ∈ vb w, c < H3.next := o3.lt
  have c4 : ∀ cs, cellP (H3.push (some (.cells true cs))) (ptr (slB w) (slO w + 1)) = some (i64 (-1)) := fun cs => by
    rcases o3 with ⟨_, q⟩ | ⟨b, rfl, g⟩
    · cases q
    · have := cellP_get H3 b 1
      have hlt := Heap.get_lt g
      show cellP (H3.push (some (.cells true cs))) (ptr b (0 + 1)) = _
      have c3' : cellP H3 (ptr b (0 + 1)) = some (i64 (-1)) := c3
      rw [cellP_get] at c3' ⊢
      rw [Heap.get_push_lt hlt]
      exact c3'
  rw [cellP_get] at c3
  have c5 := fun cs => (cellP_get (H3.push (some (.cells true cs))) (slB w) (slO w + 1)).symm.trans (c4 cs)
  have hk := hQ _ (keeps_push (x := some (.cells true [i64 0, i64 0])) ((k1.trans k2 (by simp)).trans k3 (by simp)))
  have e0 : (faultOf ([(⟨false, -1, ⟨#[]⟩⟩ : It)], (none : Option (Int × Int))).2) = (0, 0) := rfl
  rw [e0]
  (try simp (maxSteps := 1000000) (disch := first | omega | (simp only [Heap.next_push', Heap.next_set']; omega) | (simp; done) | assumption | decide | (refine not_not_intro ?_; assumption)) only [at_zero, at_succ, wp_bnd, wp_lift, wpO_some, wp_ret, nx_nxt, nx_brk, nx_ret, unblk_nxt, unblk_ret, unblk_brk, finM_nxt, finM_ret, outV_one, condM_t, condM_f, condM_dt, condM_df, gd_t, gd_f, gdf_t, gdf_f, gd_skip, gd_dt, gd_df, gdf_dt, gdf_df, pick_t, pick_f, pick_dt, pick_df, not_t, not_f, not_dec, isNil_ptr, isNil_ptr', isNil_pnil, isNil_pnil', nilck_ptr, faddr_ptr, Nat.zero_add, Nat.add_zero, wp_ld1, lenStr_str, lenSlc_slice, strV_str, i64_add, i64_sub, i64_mul, i64_in, int_eqd, int_ned, int_lss, int_leq, int_gtr, int_geq, str_eqd, str_ned, if_true, wp_bndH, wp_withH, wp_need, enc_int, enc_str, enc_byte, enc_bool, List.getElem?_cons_zero, List.getElem?_cons_succ, cellP_get, cellG_cells, wp_st1g, stG_c, eq_self, true_and, wp_stng, stnG_ok, wp_ldng, ldG_ok, wp_newcg, wp_boxg, Heap.get_push_eq, Heap.get_push_lt, Heap.get_set_eq, Heap.get_set_ne', Heap.next_push', Heap.next_set', Heap.set_push_lt, Heap.set_push_eq, Heap.set_set, fld1_agg, fldn_agg, ext_tuple, outV_nil, outV_two, outV_three, outV_four, chk_ld1g, chkO_int, chkO_bool, chkO_str, chkO_ptr, chkO_slc, chkO_map, List.set_cons_zero, List.set_cons_succ, List.length_cons, List.length_nil, List.drop_succ_cons, List.drop_zero, List.take_succ_cons, List.take_zero, List.nil_append, List.cons_append, splice, isOne_int, isOne_str, isOne_bool, isOne_slice, isOne_pointer, isOne_map, condM_nf, condM_nef, gd_nef, gdf_nef, pick_nef, build_eq, fillA_nil, fillA_one, fillA_agg, Option.map_some, resv_one, resv_two, freeIn_nil, fillA_slc, fillA_int, fillA_str, fillA_bool, fillA_ptr, fillA_map, hl3, a3, c5, eq_two, notIf_f])
  exact hk
end Go.AM.Cap
