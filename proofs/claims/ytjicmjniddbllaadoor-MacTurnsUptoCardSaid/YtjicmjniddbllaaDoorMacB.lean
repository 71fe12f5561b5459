/- mac: the laws -/
import Derived.Test.YtjicmjniddbllaaDoorMacA
set_option linter.all false
namespace Go.AM.Cap
open Go.AM Go.Proofs

abbrev big : Nat := 1073741824
theorem mac_Make_ok (H : Heap) (k m : ByteArray) (hks : k.size ≤ 1099511627776) (hms : m.size ≤ 1073741824) (hb : Base H) (Q : V → Heap → Prop) (hQ : ∀ H', Keeps [] H H' → Q (.string (sv (tag (bv k) (bv m)))) H') : wp (A_mac_Make [.string k, .string m]) Q H := by
  show wp (F_mac_Make (.string k) (.string m)) Q H
  simp only [F_mac_Make, wp_bnd]
  refine mac_Tag_ok H k m hks hms hb _ fun H1 k1 => ?_
  (try simp (maxSteps := 1000000) (disch := first | omega | (simp; done) | assumption | decide | (refine not_not_intro ?_; assumption)) only [at_zero, at_succ, wp_bnd, wp_lift, wpO_some, wp_ret, nx_nxt, nx_brk, nx_ret, unblk_nxt, unblk_ret, unblk_brk, finM_nxt, finM_ret, outV_one, condM_t, condM_f, condM_dt, condM_df, gd_t, gd_f, gdf_t, gdf_f, gd_skip, gd_dt, gd_df, gdf_dt, gdf_df, pick_t, pick_f, pick_dt, pick_df, not_t, not_f, not_dec, isNil_ptr, isNil_ptr', isNil_pnil, isNil_pnil', nilck_ptr, faddr_ptr, Nat.zero_add, Nat.add_zero, wp_ld1, lenStr_str, lenSlc_slice, strV_str, i64_add, i64_sub, i64_mul, i64_in, int_eqd, int_ned, int_lss, int_leq, int_gtr, int_geq, str_eqd, str_ned, if_true, wp_bndH, wp_withH, wp_need, enc_int, enc_str, enc_byte, enc_bool, List.getElem?_cons_zero, List.getElem?_cons_succ])
  exact hQ _ k1
theorem ktrans {H H1 H2 : Heap} (h : Keeps [] H H1) (g : Keeps [] H1 H2) : Keeps [] H H2 := h.trans g (fun _ _ h => h)

def checkS (k m t : ByteArray) : Int := if sv (tag (bv k) (bv m)) = t then 0 else 20
theorem mac_Check_ok (H : Heap) (k m t : ByteArray) (hks : k.size ≤ 1099511627776) (hms : m.size ≤ 1073741824) (hb : Base H) (Q : V → Heap → Prop) (hQ : ∀ H', Keeps [] H H' → Q (i64 (checkS k m t)) H') : wp (A_mac_Check [.string k, .string m, .string t]) Q H := by
  show wp (F_mac_Check (.string k) (.string m) (.string t)) Q H
  simp only [F_mac_Check, wp_bnd]
  refine mac_Tag_ok H k m hks hms hb _ fun H1 k1 => ?_
  have h32 : (sv (tag (bv k) (bv m))).size = 32 := by rw [sv_size, tag_length]
  rw [mac_Equal_eq _ _ (by omega)]
  by_cases h : sv (tag (bv k) (bv m)) = t
  · (try simp (maxSteps := 1000000) (disch := first | omega | (simp; done) | assumption | decide | (refine not_not_intro ?_; assumption)) only [at_zero, at_succ, wp_bnd, wp_lift, wpO_some, wp_ret, nx_nxt, nx_brk, nx_ret, unblk_nxt, unblk_ret, unblk_brk, finM_nxt, finM_ret, outV_one, condM_t, condM_f, condM_dt, condM_df, gd_t, gd_f, gdf_t, gdf_f, gd_skip, gd_dt, gd_df, gdf_dt, gdf_df, pick_t, pick_f, pick_dt, pick_df, not_t, not_f, not_dec, isNil_ptr, isNil_ptr', isNil_pnil, isNil_pnil', nilck_ptr, faddr_ptr, Nat.zero_add, Nat.add_zero, wp_ld1, lenStr_str, lenSlc_slice, strV_str, i64_add, i64_sub, i64_mul, i64_in, int_eqd, int_ned, int_lss, int_leq, int_gtr, int_geq, str_eqd, str_ned, if_true, wp_bndH, wp_withH, wp_need, enc_int, enc_str, enc_byte, enc_bool, List.getElem?_cons_zero, List.getElem?_cons_succ, cellP_get, cellG_cells, wp_st1g, stG_ok, wp_stng, stnG_ok, wp_ldng, ldG_ok, wp_newcg, wp_boxg, Heap.get_push_eq, Heap.get_push_lt, Heap.get_set_eq, Heap.get_set_ne', Heap.next_push', Heap.next_set', Heap.set_push_lt, Heap.set_push_eq, Heap.set_set, fld1_agg, fldn_agg, ext_tuple, outV_nil, outV_two, outV_three, outV_four, chk_ld1g, chkO_int, chkO_bool, chkO_str, chkO_ptr, chkO_slc, chkO_map, List.set_cons_zero, List.set_cons_succ, List.length_cons, List.length_nil, List.drop_succ_cons, List.drop_zero, List.take_succ_cons, List.take_zero, List.nil_append, List.cons_append, splice, isOne_int, isOne_str, isOne_bool, isOne_slice, isOne_pointer, isOne_map, condM_nf, condM_nef, gd_nef, gdf_nef, pick_nef, mac_Check_k0])
    have := hQ H1 k1
    rw [checkS, if_pos h] at this
    exact this
  · (try simp (maxSteps := 1000000) (disch := first | omega | (simp; done) | assumption | decide | (refine not_not_intro ?_; assumption)) only [at_zero, at_succ, wp_bnd, wp_lift, wpO_some, wp_ret, nx_nxt, nx_brk, nx_ret, unblk_nxt, unblk_ret, unblk_brk, finM_nxt, finM_ret, outV_one, condM_t, condM_f, condM_dt, condM_df, gd_t, gd_f, gdf_t, gdf_f, gd_skip, gd_dt, gd_df, gdf_dt, gdf_df, pick_t, pick_f, pick_dt, pick_df, not_t, not_f, not_dec, isNil_ptr, isNil_ptr', isNil_pnil, isNil_pnil', nilck_ptr, faddr_ptr, Nat.zero_add, Nat.add_zero, wp_ld1, lenStr_str, lenSlc_slice, strV_str, i64_add, i64_sub, i64_mul, i64_in, int_eqd, int_ned, int_lss, int_leq, int_gtr, int_geq, str_eqd, str_ned, if_true, wp_bndH, wp_withH, wp_need, enc_int, enc_str, enc_byte, enc_bool, List.getElem?_cons_zero, List.getElem?_cons_succ])
    have := hQ H1 k1
    rw [checkS, if_neg h] at this
    exact this
theorem ref02_Check_ok (H : Heap) (k m t : ByteArray) (hks : k.size ≤ 1099511627776) (hms : m.size ≤ 1073741824) (Q : V → Heap → Prop) (hQ : ∀ H', Keeps [] H H' → Q (i64 (checkS k m t)) H') : wp (A_ref02_Check [.string k, .string m, .string t]) Q H := by
  show wp (F_ref02_Check (.string k) (.string m) (.string t)) Q H
  simp only [F_ref02_Check, wp_bnd]
  refine ref02_Tag_ok H k m hks hms _ fun H1 k1 => ?_
  by_cases h : sv (tag (bv k) (bv m)) = t
  · (try simp (maxSteps := 1000000) (disch := first | omega | (simp; done) | assumption | decide | (refine not_not_intro ?_; assumption)) only [at_zero, at_succ, wp_bnd, wp_lift, wpO_some, wp_ret, nx_nxt, nx_brk, nx_ret, unblk_nxt, unblk_ret, unblk_brk, finM_nxt, finM_ret, outV_one, condM_t, condM_f, condM_dt, condM_df, gd_t, gd_f, gdf_t, gdf_f, gd_skip, gd_dt, gd_df, gdf_dt, gdf_df, pick_t, pick_f, pick_dt, pick_df, not_t, not_f, not_dec, isNil_ptr, isNil_ptr', isNil_pnil, isNil_pnil', nilck_ptr, faddr_ptr, Nat.zero_add, Nat.add_zero, wp_ld1, lenStr_str, lenSlc_slice, strV_str, i64_add, i64_sub, i64_mul, i64_in, int_eqd, int_ned, int_lss, int_leq, int_gtr, int_geq, str_eqd, str_ned, if_true, wp_bndH, wp_withH, wp_need, enc_int, enc_str, enc_byte, enc_bool, List.getElem?_cons_zero, List.getElem?_cons_succ, cellP_get, cellG_cells, wp_st1g, stG_ok, wp_stng, stnG_ok, wp_ldng, ldG_ok, wp_newcg, wp_boxg, Heap.get_push_eq, Heap.get_push_lt, Heap.get_set_eq, Heap.get_set_ne', Heap.next_push', Heap.next_set', Heap.set_push_lt, Heap.set_push_eq, Heap.set_set, fld1_agg, fldn_agg, ext_tuple, outV_nil, outV_two, outV_three, outV_four, chk_ld1g, chkO_int, chkO_bool, chkO_str, chkO_ptr, chkO_slc, chkO_map, List.set_cons_zero, List.set_cons_succ, List.length_cons, List.length_nil, List.drop_succ_cons, List.drop_zero, List.take_succ_cons, List.take_zero, List.nil_append, List.cons_append, splice, isOne_int, isOne_str, isOne_bool, isOne_slice, isOne_pointer, isOne_map, condM_nf, condM_nef, gd_nef, gdf_nef, pick_nef, ref02_Check_k0])
    have := hQ H1 k1
    rw [checkS, if_pos h] at this
    exact this
  · (try simp (maxSteps := 1000000) (disch := first | omega | (simp; done) | assumption | decide | (refine not_not_intro ?_; assumption)) only [at_zero, at_succ, wp_bnd, wp_lift, wpO_some, wp_ret, nx_nxt, nx_brk, nx_ret, unblk_nxt, unblk_ret, unblk_brk, finM_nxt, finM_ret, outV_one, condM_t, condM_f, condM_dt, condM_df, gd_t, gd_f, gdf_t, gdf_f, gd_skip, gd_dt, gd_df, gdf_dt, gdf_df, pick_t, pick_f, pick_dt, pick_df, not_t, not_f, not_dec, isNil_ptr, isNil_ptr', isNil_pnil, isNil_pnil', nilck_ptr, faddr_ptr, Nat.zero_add, Nat.add_zero, wp_ld1, lenStr_str, lenSlc_slice, strV_str, i64_add, i64_sub, i64_mul, i64_in, int_eqd, int_ned, int_lss, int_leq, int_gtr, int_geq, str_eqd, str_ned, if_true, wp_bndH, wp_withH, wp_need, enc_int, enc_str, enc_byte, enc_bool, List.getElem?_cons_zero, List.getElem?_cons_succ])
    have := hQ H1 k1
    rw [checkS, if_neg h] at this
    exact this

def body (s : ByteArray) : ByteArray := s.extract 0 (s.size - 32)
def foot (s : ByteArray) : ByteArray := s.extract (s.size - 32) s.size
def openS (k s : ByteArray) : ByteArray × Int := if 32 ≤ s.size ∧ sv (tag (bv k) (bv (body s))) = foot s then (body s, 0) else (⟨#[]⟩, 20)
theorem body_size {s : ByteArray} (h : 32 ≤ s.size) : (body s).size = s.size - 32 := by rw [body, size_extract _ (by omega)]; omega

theorem mac_Open_ok (H : Heap) (k s : ByteArray) (hks : k.size ≤ 1099511627776) (hms : s.size ≤ 1073741824) (hb : Base H) (Q : V → Heap → Prop) (hQ : ∀ H', Keeps [] H H' → Q (.tuple #[.string (openS k s).1, i64 (openS k s).2]) H') : wp (A_mac_Open [.string k, .string s]) Q H := by
  show wp (F_mac_Open (.string k) (.string s)) Q H
  by_cases h : (s.size : Int) < 32
  · (try simp (maxSteps := 1000000) (disch := first | omega | (simp; done) | assumption | decide | (refine not_not_intro ?_; assumption)) only [at_zero, at_succ, wp_bnd, wp_lift, wpO_some, wp_ret, nx_nxt, nx_brk, nx_ret, unblk_nxt, unblk_ret, unblk_brk, finM_nxt, finM_ret, outV_one, condM_t, condM_f, condM_dt, condM_df, gd_t, gd_f, gdf_t, gdf_f, gd_skip, gd_dt, gd_df, gdf_dt, gdf_df, pick_t, pick_f, pick_dt, pick_df, not_t, not_f, not_dec, isNil_ptr, isNil_ptr', isNil_pnil, isNil_pnil', nilck_ptr, faddr_ptr, Nat.zero_add, Nat.add_zero, wp_ld1, lenStr_str, lenSlc_slice, strV_str, i64_add, i64_sub, i64_mul, i64_in, int_eqd, int_ned, int_lss, int_leq, int_gtr, int_geq, str_eqd, str_ned, if_true, wp_bndH, wp_withH, wp_need, enc_int, enc_str, enc_byte, enc_bool, List.getElem?_cons_zero, List.getElem?_cons_succ, F_mac_Open])
    have := hQ H (Keeps.refl _ _)
    rw [openS, if_neg (by omega)] at this
    exact this
  · have e1 : ((s.size : Int) - 32).toNat = s.size - 32 := by omega
    (try simp (maxSteps := 1000000) (disch := first | omega | (simp; done) | assumption | decide | (refine not_not_intro ?_; assumption)) only [at_zero, at_succ, wp_bnd, wp_lift, wpO_some, wp_ret, nx_nxt, nx_brk, nx_ret, unblk_nxt, unblk_ret, unblk_brk, finM_nxt, finM_ret, outV_one, condM_t, condM_f, condM_dt, condM_df, gd_t, gd_f, gdf_t, gdf_f, gd_skip, gd_dt, gd_df, gdf_dt, gdf_df, pick_t, pick_f, pick_dt, pick_df, not_t, not_f, not_dec, isNil_ptr, isNil_ptr', isNil_pnil, isNil_pnil', nilck_ptr, faddr_ptr, Nat.zero_add, Nat.add_zero, wp_ld1, lenStr_str, lenSlc_slice, strV_str, i64_add, i64_sub, i64_mul, i64_in, int_eqd, int_ned, int_lss, int_leq, int_gtr, int_geq, str_eqd, str_ned, if_true, wp_bndH, wp_withH, wp_need, enc_int, enc_str, enc_byte, enc_bool, List.getElem?_cons_zero, List.getElem?_cons_succ, F_mac_Open, mac_Open_k1, subS_hi, subS_lo, e1])
    refine mac_Check_ok H k _ _ hks (by have := body_size (s := s) (by omega); unfold body at this; omega) hb _ fun H1 k1 => ?_
    have q := hQ H1 k1
    by_cases h2 : sv (tag (bv k) (bv (body s))) = foot s
    · rw [openS, if_pos ⟨by omega, h2⟩] at q
      have ec : checkS k (s.extract 0 (s.size - 32)) (s.extract (s.size - 32) s.size) = 0 := if_pos h2
      (try simp (maxSteps := 1000000) (disch := first | omega | (simp; done) | assumption | decide | (refine not_not_intro ?_; assumption)) only [at_zero, at_succ, wp_bnd, wp_lift, wpO_some, wp_ret, nx_nxt, nx_brk, nx_ret, unblk_nxt, unblk_ret, unblk_brk, finM_nxt, finM_ret, outV_one, condM_t, condM_f, condM_dt, condM_df, gd_t, gd_f, gdf_t, gdf_f, gd_skip, gd_dt, gd_df, gdf_dt, gdf_df, pick_t, pick_f, pick_dt, pick_df, not_t, not_f, not_dec, isNil_ptr, isNil_ptr', isNil_pnil, isNil_pnil', nilck_ptr, faddr_ptr, Nat.zero_add, Nat.add_zero, wp_ld1, lenStr_str, lenSlc_slice, strV_str, i64_add, i64_sub, i64_mul, i64_in, int_eqd, int_ned, int_lss, int_leq, int_gtr, int_geq, str_eqd, str_ned, if_true, wp_bndH, wp_withH, wp_need, enc_int, enc_str, enc_byte, enc_bool, List.getElem?_cons_zero, List.getElem?_cons_succ, ec, mac_Open_k0, subS_hi, e1])
      exact q
    · rw [openS, if_neg (fun hh => h2 hh.2)] at q
      have ec : checkS k (s.extract 0 (s.size - 32)) (s.extract (s.size - 32) s.size) = 20 := if_neg h2
      (try simp (maxSteps := 1000000) (disch := first | omega | (simp; done) | assumption | decide | (refine not_not_intro ?_; assumption)) only [at_zero, at_succ, wp_bnd, wp_lift, wpO_some, wp_ret, nx_nxt, nx_brk, nx_ret, unblk_nxt, unblk_ret, unblk_brk, finM_nxt, finM_ret, outV_one, condM_t, condM_f, condM_dt, condM_df, gd_t, gd_f, gdf_t, gdf_f, gd_skip, gd_dt, gd_df, gdf_dt, gdf_df, pick_t, pick_f, pick_dt, pick_df, not_t, not_f, not_dec, isNil_ptr, isNil_ptr', isNil_pnil, isNil_pnil', nilck_ptr, faddr_ptr, Nat.zero_add, Nat.add_zero, wp_ld1, lenStr_str, lenSlc_slice, strV_str, i64_add, i64_sub, i64_mul, i64_in, int_eqd, int_ned, int_lss, int_leq, int_gtr, int_geq, str_eqd, str_ned, if_true, wp_bndH, wp_withH, wp_need, enc_int, enc_str, enc_byte, enc_bool, List.getElem?_cons_zero, List.getElem?_cons_succ, ec])
      exact q
theorem ref02_Open_ok (H : Heap) (k s : ByteArray) (hks : k.size ≤ 1099511627776) (hms : s.size ≤ 1073741824) (Q : V → Heap → Prop) (hQ : ∀ H', Keeps [] H H' → Q (.tuple #[.string (openS k s).1, i64 (openS k s).2]) H') : wp (A_ref02_Open [.string k, .string s]) Q H := by
  show wp (F_ref02_Open (.string k) (.string s)) Q H
  by_cases h : (s.size : Int) - 32 < 0
  · (try simp (maxSteps := 1000000) (disch := first | omega | (simp; done) | assumption | decide | (refine not_not_intro ?_; assumption)) only [at_zero, at_succ, wp_bnd, wp_lift, wpO_some, wp_ret, nx_nxt, nx_brk, nx_ret, unblk_nxt, unblk_ret, unblk_brk, finM_nxt, finM_ret, outV_one, condM_t, condM_f, condM_dt, condM_df, gd_t, gd_f, gdf_t, gdf_f, gd_skip, gd_dt, gd_df, gdf_dt, gdf_df, pick_t, pick_f, pick_dt, pick_df, not_t, not_f, not_dec, isNil_ptr, isNil_ptr', isNil_pnil, isNil_pnil', nilck_ptr, faddr_ptr, Nat.zero_add, Nat.add_zero, wp_ld1, lenStr_str, lenSlc_slice, strV_str, i64_add, i64_sub, i64_mul, i64_in, int_eqd, int_ned, int_lss, int_leq, int_gtr, int_geq, str_eqd, str_ned, if_true, wp_bndH, wp_withH, wp_need, enc_int, enc_str, enc_byte, enc_bool, List.getElem?_cons_zero, List.getElem?_cons_succ, F_ref02_Open])
    have := hQ H (Keeps.refl _ _)
    rw [openS, if_neg (by omega)] at this
    exact this
  · have e1 : ((s.size : Int) - 32).toNat = s.size - 32 := by omega
    (try simp (maxSteps := 1000000) (disch := first | omega | (simp; done) | assumption | decide | (refine not_not_intro ?_; assumption)) only [at_zero, at_succ, wp_bnd, wp_lift, wpO_some, wp_ret, nx_nxt, nx_brk, nx_ret, unblk_nxt, unblk_ret, unblk_brk, finM_nxt, finM_ret, outV_one, condM_t, condM_f, condM_dt, condM_df, gd_t, gd_f, gdf_t, gdf_f, gd_skip, gd_dt, gd_df, gdf_dt, gdf_df, pick_t, pick_f, pick_dt, pick_df, not_t, not_f, not_dec, isNil_ptr, isNil_ptr', isNil_pnil, isNil_pnil', nilck_ptr, faddr_ptr, Nat.zero_add, Nat.add_zero, wp_ld1, lenStr_str, lenSlc_slice, strV_str, i64_add, i64_sub, i64_mul, i64_in, int_eqd, int_ned, int_lss, int_leq, int_gtr, int_geq, str_eqd, str_ned, if_true, wp_bndH, wp_withH, wp_need, enc_int, enc_str, enc_byte, enc_bool, List.getElem?_cons_zero, List.getElem?_cons_succ, F_ref02_Open, subS_hi, subS_lo, e1])
    refine ref02_Tag_ok H k _ hks (by have := body_size (s := s) (by omega); unfold body at this; omega) _ fun H1 k1 => ?_
    have q := hQ H1 k1
    by_cases h2 : sv (tag (bv k) (bv (body s))) = foot s
    · rw [openS, if_pos ⟨by omega, h2⟩] at q
      have h2' : sv (tag (bv k) (bv (s.extract 0 (s.size - 32)))) = s.extract (s.size - 32) s.size := h2
      (try simp (maxSteps := 1000000) (disch := first | omega | (simp; done) | assumption | decide | (refine not_not_intro ?_; assumption)) only [at_zero, at_succ, wp_bnd, wp_lift, wpO_some, wp_ret, nx_nxt, nx_brk, nx_ret, unblk_nxt, unblk_ret, unblk_brk, finM_nxt, finM_ret, outV_one, condM_t, condM_f, condM_dt, condM_df, gd_t, gd_f, gdf_t, gdf_f, gd_skip, gd_dt, gd_df, gdf_dt, gdf_df, pick_t, pick_f, pick_dt, pick_df, not_t, not_f, not_dec, isNil_ptr, isNil_ptr', isNil_pnil, isNil_pnil', nilck_ptr, faddr_ptr, Nat.zero_add, Nat.add_zero, wp_ld1, lenStr_str, lenSlc_slice, strV_str, i64_add, i64_sub, i64_mul, i64_in, int_eqd, int_ned, int_lss, int_leq, int_gtr, int_geq, str_eqd, str_ned, if_true, wp_bndH, wp_withH, wp_need, enc_int, enc_str, enc_byte, enc_bool, List.getElem?_cons_zero, List.getElem?_cons_succ, cellP_get, cellG_cells, wp_st1g, stG_ok, wp_stng, stnG_ok, wp_ldng, ldG_ok, wp_newcg, wp_boxg, Heap.get_push_eq, Heap.get_push_lt, Heap.get_set_eq, Heap.get_set_ne', Heap.next_push', Heap.next_set', Heap.set_push_lt, Heap.set_push_eq, Heap.set_set, fld1_agg, fldn_agg, ext_tuple, outV_nil, outV_two, outV_three, outV_four, chk_ld1g, chkO_int, chkO_bool, chkO_str, chkO_ptr, chkO_slc, chkO_map, List.set_cons_zero, List.set_cons_succ, List.length_cons, List.length_nil, List.drop_succ_cons, List.drop_zero, List.take_succ_cons, List.take_zero, List.nil_append, List.cons_append, splice, isOne_int, isOne_str, isOne_bool, isOne_slice, isOne_pointer, isOne_map, condM_nf, condM_nef, gd_nef, gdf_nef, pick_nef, ref02_Open_k0, subS_hi, e1])
      exact q
    · rw [openS, if_neg (fun hh => h2 hh.2)] at q
      have h2' : ¬ sv (tag (bv k) (bv (s.extract 0 (s.size - 32)))) = s.extract (s.size - 32) s.size := h2
      (try simp (maxSteps := 1000000) (disch := first | omega | (simp; done) | assumption | decide | (refine not_not_intro ?_; assumption)) only [at_zero, at_succ, wp_bnd, wp_lift, wpO_some, wp_ret, nx_nxt, nx_brk, nx_ret, unblk_nxt, unblk_ret, unblk_brk, finM_nxt, finM_ret, outV_one, condM_t, condM_f, condM_dt, condM_df, gd_t, gd_f, gdf_t, gdf_f, gd_skip, gd_dt, gd_df, gdf_dt, gdf_df, pick_t, pick_f, pick_dt, pick_df, not_t, not_f, not_dec, isNil_ptr, isNil_ptr', isNil_pnil, isNil_pnil', nilck_ptr, faddr_ptr, Nat.zero_add, Nat.add_zero, wp_ld1, lenStr_str, lenSlc_slice, strV_str, i64_add, i64_sub, i64_mul, i64_in, int_eqd, int_ned, int_lss, int_leq, int_gtr, int_geq, str_eqd, str_ned, if_true, wp_bndH, wp_withH, wp_need, enc_int, enc_str, enc_byte, enc_bool, List.getElem?_cons_zero, List.getElem?_cons_succ])
      exact q
def sealS (k m : ByteArray) : ByteArray := m ++ sv (tag (bv k) (bv m))
theorem seal_size (k m : ByteArray) : (sealS k m).size = m.size + 32 := by rw [sealS, size_append, sv_size, tag_length]
theorem mac_Seal_ok (H : Heap) (k m : ByteArray) (hks : k.size ≤ 1099511627776) (hms : m.size ≤ 1073741824) (hb : Base H) (Q : V → Heap → Prop) (hQ : ∀ H', Keeps [] H H' → Q (.string (sealS k m)) H') : wp (A_mac_Seal [.string k, .string m]) Q H := by
  show wp (F_mac_Seal (.string k) (.string m)) Q H
  simp only [F_mac_Seal, wp_bnd]
  refine mac_Tag_ok H k m hks hms hb _ fun H1 k1 => ?_
  have h32 : (sv (tag (bv k) (bv m))).size = 32 := by rw [sv_size, tag_length]
  (try simp (maxSteps := 1000000) (disch := first | omega | (simp; done) | assumption | decide | (refine not_not_intro ?_; assumption)) only [at_zero, at_succ, wp_bnd, wp_lift, wpO_some, wp_ret, nx_nxt, nx_brk, nx_ret, unblk_nxt, unblk_ret, unblk_brk, finM_nxt, finM_ret, outV_one, condM_t, condM_f, condM_dt, condM_df, gd_t, gd_f, gdf_t, gdf_f, gd_skip, gd_dt, gd_df, gdf_dt, gdf_df, pick_t, pick_f, pick_dt, pick_df, not_t, not_f, not_dec, isNil_ptr, isNil_ptr', isNil_pnil, isNil_pnil', nilck_ptr, faddr_ptr, Nat.zero_add, Nat.add_zero, wp_ld1, lenStr_str, lenSlc_slice, strV_str, i64_add, i64_sub, i64_mul, i64_in, int_eqd, int_ned, int_lss, int_leq, int_gtr, int_geq, str_eqd, str_ned, if_true, wp_bndH, wp_withH, wp_need, enc_int, enc_str, enc_byte, enc_bool, List.getElem?_cons_zero, List.getElem?_cons_succ, str_add (show m.size + (sv (tag (bv k) (bv m))).size ≤ 4611686018427387904 by omega)])
  exact hQ _ k1
theorem body_seal (k m : ByteArray) : body (sealS k m) = m := by
  apply bv_inj
  rw [body, bv_extract, List.drop_zero, seal_size, sealS, bv_append, Nat.sub_zero, Nat.add_sub_cancel, ← bv_length, List.take_left']
  rfl
theorem foot_seal (k m : ByteArray) : foot (sealS k m) = sv (tag (bv k) (bv m)) := by
  apply bv_inj
  rw [foot, bv_extract, seal_size, sealS, bv_append, Nat.add_sub_cancel, ← bv_length m, List.drop_left', bv_sv, List.take_of_length_le (by rw [tag_length]; omega)]
  rfl
theorem open_seal (k m : ByteArray) : openS k (sealS k m) = (m, 0) := by
  rw [openS, body_seal, foot_seal, if_pos ⟨by rw [seal_size]; omega, rfl⟩]

theorem mac_hex : sv (hexl (bv (sv (tag (bv ⟨#[74, 101, 102, 101]⟩) (bv ⟨#[119, 104, 97, 116, 32, 100, 111, 32, 121, 97, 32, 119, 97, 110, 116, 32, 102, 111, 114, 32, 110, 111, 116, 104, 105, 110, 103, 63]⟩))))) = ⟨#[53, 98, 100, 99, 99, 49, 52, 54, 98, 102, 54, 48, 55, 53, 52, 101, 54, 97, 48, 52, 50, 52, 50, 54, 48, 56, 57, 53, 55, 53, 99, 55, 53, 97, 48, 48, 51, 102, 48, 56, 57, 100, 50, 55, 51, 57, 56, 51, 57, 100, 101, 99, 53, 56, 98, 57, 54, 52, 101, 99, 51, 56, 52, 51]⟩ := by
  apply bv_inj; rw [bv_sv, bv_sv]; kernel_rfl
theorem mac_works_ok (H : Heap) (hb : Base H) (Q : V → Heap → Prop) (hQ : ∀ H', Keeps [] H H' → Q (.bool true) H') : wp (A_law02_works []) Q H := by
  show wp F_law02_works Q H
  simp only [F_law02_works, wp_bnd]
  refine mac_Tag_ok H _ _ (by decide) (by decide) hb _ fun H1 k1 => ?_
  refine sha_Hex_ok H1 _ (by rw [sv_size, tag_length]; omega) _ fun H2 k2 => ?_
  rw [mac_hex]
  have n1 : (⟨#[97]⟩ : ByteArray) ≠ ⟨#[98]⟩ := by decide
  (try simp (maxSteps := 1000000) (disch := first | omega | (simp; done) | assumption | decide | (refine not_not_intro ?_; assumption)) only [at_zero, at_succ, wp_bnd, wp_lift, wpO_some, wp_ret, nx_nxt, nx_brk, nx_ret, unblk_nxt, unblk_ret, unblk_brk, finM_nxt, finM_ret, outV_one, condM_t, condM_f, condM_dt, condM_df, gd_t, gd_f, gdf_t, gdf_f, gd_skip, gd_dt, gd_df, gdf_dt, gdf_df, pick_t, pick_f, pick_dt, pick_df, not_t, not_f, not_dec, isNil_ptr, isNil_ptr', isNil_pnil, isNil_pnil', nilck_ptr, faddr_ptr, Nat.zero_add, Nat.add_zero, wp_ld1, lenStr_str, lenSlc_slice, strV_str, i64_add, i64_sub, i64_mul, i64_in, int_eqd, int_ned, int_lss, int_leq, int_gtr, int_geq, str_eqd, str_ned, if_true, wp_bndH, wp_withH, wp_need, enc_int, enc_str, enc_byte, enc_bool, List.getElem?_cons_zero, List.getElem?_cons_succ, mac_Equal_eq _ _ (show (⟨#[97]⟩ : ByteArray).size ≤ 1099511627776 by decide)])
  have := hQ H2 (ktrans k1 k2)
  simpa [n1] using this

theorem MacTags_ok (H : Heap) (k m t : ByteArray) (hks : k.size ≤ 1048576) (hms : m.size ≤ 1048576) (hb : Base H) (Q : V → Heap → Prop) (hQ : ∀ H', Q (.bool true) H') : wp (A_law02_MacTags [.string k, .string m, .string t]) Q H := by
  show wp (F_law02_MacTags (.string k) (.string m) (.string t)) Q H
  simp only [F_law02_MacTags, wp_bnd]
  refine ref02_Tag_ok H k m (by omega) (by omega) _ fun H1 k1 => ?_
  (try simp (maxSteps := 1000000) (disch := first | omega | (simp; done) | assumption | decide | (refine not_not_intro ?_; assumption)) only [at_zero, at_succ, wp_bnd, wp_lift, wpO_some, wp_ret, nx_nxt, nx_brk, nx_ret, unblk_nxt, unblk_ret, unblk_brk, finM_nxt, finM_ret, outV_one, condM_t, condM_f, condM_dt, condM_df, gd_t, gd_f, gdf_t, gdf_f, gd_skip, gd_dt, gd_df, gdf_dt, gdf_df, pick_t, pick_f, pick_dt, pick_df, not_t, not_f, not_dec, isNil_ptr, isNil_ptr', isNil_pnil, isNil_pnil', nilck_ptr, faddr_ptr, Nat.zero_add, Nat.add_zero, wp_ld1, lenStr_str, lenSlc_slice, strV_str, i64_add, i64_sub, i64_mul, i64_in, int_eqd, int_ned, int_lss, int_leq, int_gtr, int_geq, str_eqd, str_ned, if_true, wp_bndH, wp_withH, wp_need, enc_int, enc_str, enc_byte, enc_bool, List.getElem?_cons_zero, List.getElem?_cons_succ])
  refine mac_Tag_ok H1 k m (by omega) (by omega) (hb.keep k1) _ fun H2 k2 => ?_
  (try simp (maxSteps := 1000000) (disch := first | omega | (simp; done) | assumption | decide | (refine not_not_intro ?_; assumption)) only [at_zero, at_succ, wp_bnd, wp_lift, wpO_some, wp_ret, nx_nxt, nx_brk, nx_ret, unblk_nxt, unblk_ret, unblk_brk, finM_nxt, finM_ret, outV_one, condM_t, condM_f, condM_dt, condM_df, gd_t, gd_f, gdf_t, gdf_f, gd_skip, gd_dt, gd_df, gdf_dt, gdf_df, pick_t, pick_f, pick_dt, pick_df, not_t, not_f, not_dec, isNil_ptr, isNil_ptr', isNil_pnil, isNil_pnil', nilck_ptr, faddr_ptr, Nat.zero_add, Nat.add_zero, wp_ld1, lenStr_str, lenSlc_slice, strV_str, i64_add, i64_sub, i64_mul, i64_in, int_eqd, int_ned, int_lss, int_leq, int_gtr, int_geq, str_eqd, str_ned, if_true, wp_bndH, wp_withH, wp_need, enc_int, enc_str, enc_byte, enc_bool, List.getElem?_cons_zero, List.getElem?_cons_succ])
  refine mac_Make_ok H2 k m (by omega) (by omega) ((hb.keep k1).keep k2) _ fun H3 k3 => ?_
  have k03 := ktrans (ktrans k1 k2) k3
  have eb : notIf false (eqK .b (.bool (decide (m = t))) (.bool (decide (m = t)))) = some (.bool true) := by simp [notIf, eqK]
  (try simp (maxSteps := 1000000) (disch := first | omega | (simp; done) | assumption | decide | (refine not_not_intro ?_; assumption)) only [at_zero, at_succ, wp_bnd, wp_lift, wpO_some, wp_ret, nx_nxt, nx_brk, nx_ret, unblk_nxt, unblk_ret, unblk_brk, finM_nxt, finM_ret, outV_one, condM_t, condM_f, condM_dt, condM_df, gd_t, gd_f, gdf_t, gdf_f, gd_skip, gd_dt, gd_df, gdf_dt, gdf_df, pick_t, pick_f, pick_dt, pick_df, not_t, not_f, not_dec, isNil_ptr, isNil_ptr', isNil_pnil, isNil_pnil', nilck_ptr, faddr_ptr, Nat.zero_add, Nat.add_zero, wp_ld1, lenStr_str, lenSlc_slice, strV_str, i64_add, i64_sub, i64_mul, i64_in, int_eqd, int_ned, int_lss, int_leq, int_gtr, int_geq, str_eqd, str_ned, if_true, wp_bndH, wp_withH, wp_need, enc_int, enc_str, enc_byte, enc_bool, List.getElem?_cons_zero, List.getElem?_cons_succ, mac_Equal_eq m t (by omega), eb])
  refine mac_Check_ok H3 k m _ (by omega) (by omega) (hb.keep k03) _ fun H4 k4 => ?_
  have e0 : checkS k m (sv (tag (bv k) (bv m))) = 0 := if_pos rfl
  have k04 := ktrans k03 k4
  (try simp (maxSteps := 1000000) (disch := first | omega | (simp; done) | assumption | decide | (refine not_not_intro ?_; assumption)) only [at_zero, at_succ, wp_bnd, wp_lift, wpO_some, wp_ret, nx_nxt, nx_brk, nx_ret, unblk_nxt, unblk_ret, unblk_brk, finM_nxt, finM_ret, outV_one, condM_t, condM_f, condM_dt, condM_df, gd_t, gd_f, gdf_t, gdf_f, gd_skip, gd_dt, gd_df, gdf_dt, gdf_df, pick_t, pick_f, pick_dt, pick_df, not_t, not_f, not_dec, isNil_ptr, isNil_ptr', isNil_pnil, isNil_pnil', nilck_ptr, faddr_ptr, Nat.zero_add, Nat.add_zero, wp_ld1, lenStr_str, lenSlc_slice, strV_str, i64_add, i64_sub, i64_mul, i64_in, int_eqd, int_ned, int_lss, int_leq, int_gtr, int_geq, str_eqd, str_ned, if_true, wp_bndH, wp_withH, wp_need, enc_int, enc_str, enc_byte, enc_bool, List.getElem?_cons_zero, List.getElem?_cons_succ, e0])
  refine mac_Check_ok H4 k m t (by omega) (by omega) (hb.keep k04) _ fun H5 k5 => ?_
  (try simp (maxSteps := 1000000) (disch := first | omega | (simp; done) | assumption | decide | (refine not_not_intro ?_; assumption)) only [at_zero, at_succ, wp_bnd, wp_lift, wpO_some, wp_ret, nx_nxt, nx_brk, nx_ret, unblk_nxt, unblk_ret, unblk_brk, finM_nxt, finM_ret, outV_one, condM_t, condM_f, condM_dt, condM_df, gd_t, gd_f, gdf_t, gdf_f, gd_skip, gd_dt, gd_df, gdf_dt, gdf_df, pick_t, pick_f, pick_dt, pick_df, not_t, not_f, not_dec, isNil_ptr, isNil_ptr', isNil_pnil, isNil_pnil', nilck_ptr, faddr_ptr, Nat.zero_add, Nat.add_zero, wp_ld1, lenStr_str, lenSlc_slice, strV_str, i64_add, i64_sub, i64_mul, i64_in, int_eqd, int_ned, int_lss, int_leq, int_gtr, int_geq, str_eqd, str_ned, if_true, wp_bndH, wp_withH, wp_need, enc_int, enc_str, enc_byte, enc_bool, List.getElem?_cons_zero, List.getElem?_cons_succ])
  refine ref02_Check_ok H5 k m t (by omega) (by omega) _ fun H6 k6 => ?_
  have k06 := ktrans (ktrans k04 k5) k6
  (try simp (maxSteps := 1000000) (disch := first | omega | (simp; done) | assumption | decide | (refine not_not_intro ?_; assumption)) only [at_zero, at_succ, wp_bnd, wp_lift, wpO_some, wp_ret, nx_nxt, nx_brk, nx_ret, unblk_nxt, unblk_ret, unblk_brk, finM_nxt, finM_ret, outV_one, condM_t, condM_f, condM_dt, condM_df, gd_t, gd_f, gdf_t, gdf_f, gd_skip, gd_dt, gd_df, gdf_dt, gdf_df, pick_t, pick_f, pick_dt, pick_df, not_t, not_f, not_dec, isNil_ptr, isNil_ptr', isNil_pnil, isNil_pnil', nilck_ptr, faddr_ptr, Nat.zero_add, Nat.add_zero, wp_ld1, lenStr_str, lenSlc_slice, strV_str, i64_add, i64_sub, i64_mul, i64_in, int_eqd, int_ned, int_lss, int_leq, int_gtr, int_geq, str_eqd, str_ned, if_true, wp_bndH, wp_withH, wp_need, enc_int, enc_str, enc_byte, enc_bool, List.getElem?_cons_zero, List.getElem?_cons_succ])
  refine mac_works_ok H6 (hb.keep k06) _ fun H7 k7 => ?_
  (try simp (maxSteps := 1000000) (disch := first | omega | (simp; done) | assumption | decide | (refine not_not_intro ?_; assumption)) only [at_zero, at_succ, wp_bnd, wp_lift, wpO_some, wp_ret, nx_nxt, nx_brk, nx_ret, unblk_nxt, unblk_ret, unblk_brk, finM_nxt, finM_ret, outV_one, condM_t, condM_f, condM_dt, condM_df, gd_t, gd_f, gdf_t, gdf_f, gd_skip, gd_dt, gd_df, gdf_dt, gdf_df, pick_t, pick_f, pick_dt, pick_df, not_t, not_f, not_dec, isNil_ptr, isNil_ptr', isNil_pnil, isNil_pnil', nilck_ptr, faddr_ptr, Nat.zero_add, Nat.add_zero, wp_ld1, lenStr_str, lenSlc_slice, strV_str, i64_add, i64_sub, i64_mul, i64_in, int_eqd, int_ned, int_lss, int_leq, int_gtr, int_geq, str_eqd, str_ned, if_true, wp_bndH, wp_withH, wp_need, enc_int, enc_str, enc_byte, enc_bool, List.getElem?_cons_zero, List.getElem?_cons_succ])
  exact hQ _

theorem MacSeals_ok (H : Heap) (k m s : ByteArray) (hks : k.size ≤ 1048576) (hms : m.size ≤ 1048576) (hss : s.size ≤ 1048576) (hb : Base H) (Q : V → Heap → Prop) (hQ : ∀ H', Q (.bool true) H') : wp (A_law02_MacSeals [.string k, .string m, .string s]) Q H := by
  show wp (F_law02_MacSeals (.string k) (.string m) (.string s)) Q H
  simp only [F_law02_MacSeals, wp_bnd]
  refine mac_Open_ok H k s (by omega) (by omega) hb _ fun H1 k1 => ?_
  (try simp (maxSteps := 1000000) (disch := first | omega | (simp; done) | assumption | decide | (refine not_not_intro ?_; assumption)) only [at_zero, at_succ, wp_bnd, wp_lift, wpO_some, wp_ret, nx_nxt, nx_brk, nx_ret, unblk_nxt, unblk_ret, unblk_brk, finM_nxt, finM_ret, outV_one, condM_t, condM_f, condM_dt, condM_df, gd_t, gd_f, gdf_t, gdf_f, gd_skip, gd_dt, gd_df, gdf_dt, gdf_df, pick_t, pick_f, pick_dt, pick_df, not_t, not_f, not_dec, isNil_ptr, isNil_ptr', isNil_pnil, isNil_pnil', nilck_ptr, faddr_ptr, Nat.zero_add, Nat.add_zero, wp_ld1, lenStr_str, lenSlc_slice, strV_str, i64_add, i64_sub, i64_mul, i64_in, int_eqd, int_ned, int_lss, int_leq, int_gtr, int_geq, str_eqd, str_ned, if_true, wp_bndH, wp_withH, wp_need, enc_int, enc_str, enc_byte, enc_bool, List.getElem?_cons_zero, List.getElem?_cons_succ, cellP_get, cellG_cells, wp_st1g, stG_ok, wp_stng, stnG_ok, wp_ldng, ldG_ok, wp_newcg, wp_boxg, Heap.get_push_eq, Heap.get_push_lt, Heap.get_set_eq, Heap.get_set_ne', Heap.next_push', Heap.next_set', Heap.set_push_lt, Heap.set_push_eq, Heap.set_set, fld1_agg, fldn_agg, ext_tuple, outV_nil, outV_two, outV_three, outV_four, chk_ld1g, chkO_int, chkO_bool, chkO_str, chkO_ptr, chkO_slc, chkO_map, List.set_cons_zero, List.set_cons_succ, List.length_cons, List.length_nil, List.drop_succ_cons, List.drop_zero, List.take_succ_cons, List.take_zero, List.nil_append, List.cons_append, splice, isOne_int, isOne_str, isOne_bool, isOne_slice, isOne_pointer, isOne_map, condM_nf, condM_nef, gd_nef, gdf_nef, pick_nef])
  refine ref02_Open_ok H1 k s (by omega) (by omega) _ fun H2 k2 => ?_
  (try simp (maxSteps := 1000000) (disch := first | omega | (simp; done) | assumption | decide | (refine not_not_intro ?_; assumption)) only [at_zero, at_succ, wp_bnd, wp_lift, wpO_some, wp_ret, nx_nxt, nx_brk, nx_ret, unblk_nxt, unblk_ret, unblk_brk, finM_nxt, finM_ret, outV_one, condM_t, condM_f, condM_dt, condM_df, gd_t, gd_f, gdf_t, gdf_f, gd_skip, gd_dt, gd_df, gdf_dt, gdf_df, pick_t, pick_f, pick_dt, pick_df, not_t, not_f, not_dec, isNil_ptr, isNil_ptr', isNil_pnil, isNil_pnil', nilck_ptr, faddr_ptr, Nat.zero_add, Nat.add_zero, wp_ld1, lenStr_str, lenSlc_slice, strV_str, i64_add, i64_sub, i64_mul, i64_in, int_eqd, int_ned, int_lss, int_leq, int_gtr, int_geq, str_eqd, str_ned, if_true, wp_bndH, wp_withH, wp_need, enc_int, enc_str, enc_byte, enc_bool, List.getElem?_cons_zero, List.getElem?_cons_succ, cellP_get, cellG_cells, wp_st1g, stG_ok, wp_stng, stnG_ok, wp_ldng, ldG_ok, wp_newcg, wp_boxg, Heap.get_push_eq, Heap.get_push_lt, Heap.get_set_eq, Heap.get_set_ne', Heap.next_push', Heap.next_set', Heap.set_push_lt, Heap.set_push_eq, Heap.set_set, fld1_agg, fldn_agg, ext_tuple, outV_nil, outV_two, outV_three, outV_four, chk_ld1g, chkO_int, chkO_bool, chkO_str, chkO_ptr, chkO_slc, chkO_map, List.set_cons_zero, List.set_cons_succ, List.length_cons, List.length_nil, List.drop_succ_cons, List.drop_zero, List.take_succ_cons, List.take_zero, List.nil_append, List.cons_append, splice, isOne_int, isOne_str, isOne_bool, isOne_slice, isOne_pointer, isOne_map, condM_nf, condM_nef, gd_nef, gdf_nef, pick_nef])
  have k02 := ktrans k1 k2
  refine mac_Seal_ok H2 k m (by omega) (by omega) (hb.keep k02) _ fun H3 k3 => ?_
  refine ref02_Tag_ok H3 k m (by omega) (by omega) _ fun H4 k4 => ?_
  have h32 : (sv (tag (bv k) (bv m))).size = 32 := by rw [sv_size, tag_length]
  have es : sealS k m = m ++ sv (tag (bv k) (bv m)) := rfl
  (try simp (maxSteps := 1000000) (disch := first | omega | (simp; done) | assumption | decide | (refine not_not_intro ?_; assumption)) only [at_zero, at_succ, wp_bnd, wp_lift, wpO_some, wp_ret, nx_nxt, nx_brk, nx_ret, unblk_nxt, unblk_ret, unblk_brk, finM_nxt, finM_ret, outV_one, condM_t, condM_f, condM_dt, condM_df, gd_t, gd_f, gdf_t, gdf_f, gd_skip, gd_dt, gd_df, gdf_dt, gdf_df, pick_t, pick_f, pick_dt, pick_df, not_t, not_f, not_dec, isNil_ptr, isNil_ptr', isNil_pnil, isNil_pnil', nilck_ptr, faddr_ptr, Nat.zero_add, Nat.add_zero, wp_ld1, lenStr_str, lenSlc_slice, strV_str, i64_add, i64_sub, i64_mul, i64_in, int_eqd, int_ned, int_lss, int_leq, int_gtr, int_geq, str_eqd, str_ned, if_true, wp_bndH, wp_withH, wp_need, enc_int, enc_str, enc_byte, enc_bool, List.getElem?_cons_zero, List.getElem?_cons_succ, str_add (show m.size + (sv (tag (bv k) (bv m))).size ≤ 4611686018427387904 by omega), es])
  have k04 := ktrans (ktrans k02 k3) k4
  refine mac_works_ok H4 (hb.keep k04) _ fun H5 k5 => ?_
  (try simp (maxSteps := 1000000) (disch := first | omega | (simp; done) | assumption | decide | (refine not_not_intro ?_; assumption)) only [at_zero, at_succ, wp_bnd, wp_lift, wpO_some, wp_ret, nx_nxt, nx_brk, nx_ret, unblk_nxt, unblk_ret, unblk_brk, finM_nxt, finM_ret, outV_one, condM_t, condM_f, condM_dt, condM_df, gd_t, gd_f, gdf_t, gdf_f, gd_skip, gd_dt, gd_df, gdf_dt, gdf_df, pick_t, pick_f, pick_dt, pick_df, not_t, not_f, not_dec, isNil_ptr, isNil_ptr', isNil_pnil, isNil_pnil', nilck_ptr, faddr_ptr, Nat.zero_add, Nat.add_zero, wp_ld1, lenStr_str, lenSlc_slice, strV_str, i64_add, i64_sub, i64_mul, i64_in, int_eqd, int_ned, int_lss, int_leq, int_gtr, int_geq, str_eqd, str_ned, if_true, wp_bndH, wp_withH, wp_need, enc_int, enc_str, enc_byte, enc_bool, List.getElem?_cons_zero, List.getElem?_cons_succ])
  exact hQ _

theorem MacBack_ok (H : Heap) (k m o : ByteArray) (hks : k.size ≤ 1048576) (hms : m.size ≤ 1048576) (hos : o.size ≤ 1048576) (hb : Base H) (Q : V → Heap → Prop) (hQ : ∀ H', Q (.bool true) H') : wp (A_law02_MacBack [.string k, .string m, .string o]) Q H := by
  show wp (F_law02_MacBack (.string k) (.string m) (.string o)) Q H
  simp only [F_law02_MacBack, wp_bnd]
  refine mac_works_ok H hb _ fun H1 k1 => ?_
  (try simp (maxSteps := 1000000) (disch := first | omega | (simp; done) | assumption | decide | (refine not_not_intro ?_; assumption)) only [at_zero, at_succ, wp_bnd, wp_lift, wpO_some, wp_ret, nx_nxt, nx_brk, nx_ret, unblk_nxt, unblk_ret, unblk_brk, finM_nxt, finM_ret, outV_one, condM_t, condM_f, condM_dt, condM_df, gd_t, gd_f, gdf_t, gdf_f, gd_skip, gd_dt, gd_df, gdf_dt, gdf_df, pick_t, pick_f, pick_dt, pick_df, not_t, not_f, not_dec, isNil_ptr, isNil_ptr', isNil_pnil, isNil_pnil', nilck_ptr, faddr_ptr, Nat.zero_add, Nat.add_zero, wp_ld1, lenStr_str, lenSlc_slice, strV_str, i64_add, i64_sub, i64_mul, i64_in, int_eqd, int_ned, int_lss, int_leq, int_gtr, int_geq, str_eqd, str_ned, if_true, wp_bndH, wp_withH, wp_need, enc_int, enc_str, enc_byte, enc_bool, List.getElem?_cons_zero, List.getElem?_cons_succ, law02_MacBack_k0])
  refine mac_Seal_ok H1 k m (by omega) (by omega) (hb.keep k1) _ fun H2 k2 => ?_
  have hs := seal_size k m
  have k02 := ktrans k1 k2
  refine mac_Open_ok H2 k _ (by omega) (by omega) (hb.keep k02) _ fun H3 k3 => ?_
  rw [open_seal]
  have k03 := ktrans k02 k3
  (try simp (maxSteps := 1000000) (disch := first | omega | (simp; done) | assumption | decide | (refine not_not_intro ?_; assumption)) only [at_zero, at_succ, wp_bnd, wp_lift, wpO_some, wp_ret, nx_nxt, nx_brk, nx_ret, unblk_nxt, unblk_ret, unblk_brk, finM_nxt, finM_ret, outV_one, condM_t, condM_f, condM_dt, condM_df, gd_t, gd_f, gdf_t, gdf_f, gd_skip, gd_dt, gd_df, gdf_dt, gdf_df, pick_t, pick_f, pick_dt, pick_df, not_t, not_f, not_dec, isNil_ptr, isNil_ptr', isNil_pnil, isNil_pnil', nilck_ptr, faddr_ptr, Nat.zero_add, Nat.add_zero, wp_ld1, lenStr_str, lenSlc_slice, strV_str, i64_add, i64_sub, i64_mul, i64_in, int_eqd, int_ned, int_lss, int_leq, int_gtr, int_geq, str_eqd, str_ned, if_true, wp_bndH, wp_withH, wp_need, enc_int, enc_str, enc_byte, enc_bool, List.getElem?_cons_zero, List.getElem?_cons_succ, cellP_get, cellG_cells, wp_st1g, stG_ok, wp_stng, stnG_ok, wp_ldng, ldG_ok, wp_newcg, wp_boxg, Heap.get_push_eq, Heap.get_push_lt, Heap.get_set_eq, Heap.get_set_ne', Heap.next_push', Heap.next_set', Heap.set_push_lt, Heap.set_push_eq, Heap.set_set, fld1_agg, fldn_agg, ext_tuple, outV_nil, outV_two, outV_three, outV_four, chk_ld1g, chkO_int, chkO_bool, chkO_str, chkO_ptr, chkO_slc, chkO_map, List.set_cons_zero, List.set_cons_succ, List.length_cons, List.length_nil, List.drop_succ_cons, List.drop_zero, List.take_succ_cons, List.take_zero, List.nil_append, List.cons_append, splice, isOne_int, isOne_str, isOne_bool, isOne_slice, isOne_pointer, isOne_map, condM_nf, condM_nef, gd_nef, gdf_nef, pick_nef])
  refine mac_Seal_ok H3 o _ (by omega) (by omega) (hb.keep k03) _ fun H4 k4 => ?_
  have k04 := ktrans k03 k4
  have hs2 := seal_size o (sealS k m)
  refine mac_Open_ok H4 o _ (by omega) (by omega) (hb.keep k04) _ fun H5 k5 => ?_
  rw [open_seal]
  (try simp (maxSteps := 1000000) (disch := first | omega | (simp; done) | assumption | decide | (refine not_not_intro ?_; assumption)) only [at_zero, at_succ, wp_bnd, wp_lift, wpO_some, wp_ret, nx_nxt, nx_brk, nx_ret, unblk_nxt, unblk_ret, unblk_brk, finM_nxt, finM_ret, outV_one, condM_t, condM_f, condM_dt, condM_df, gd_t, gd_f, gdf_t, gdf_f, gd_skip, gd_dt, gd_df, gdf_dt, gdf_df, pick_t, pick_f, pick_dt, pick_df, not_t, not_f, not_dec, isNil_ptr, isNil_ptr', isNil_pnil, isNil_pnil', nilck_ptr, faddr_ptr, Nat.zero_add, Nat.add_zero, wp_ld1, lenStr_str, lenSlc_slice, strV_str, i64_add, i64_sub, i64_mul, i64_in, int_eqd, int_ned, int_lss, int_leq, int_gtr, int_geq, str_eqd, str_ned, if_true, wp_bndH, wp_withH, wp_need, enc_int, enc_str, enc_byte, enc_bool, List.getElem?_cons_zero, List.getElem?_cons_succ, cellP_get, cellG_cells, wp_st1g, stG_ok, wp_stng, stnG_ok, wp_ldng, ldG_ok, wp_newcg, wp_boxg, Heap.get_push_eq, Heap.get_push_lt, Heap.get_set_eq, Heap.get_set_ne', Heap.next_push', Heap.next_set', Heap.set_push_lt, Heap.set_push_eq, Heap.set_set, fld1_agg, fldn_agg, ext_tuple, outV_nil, outV_two, outV_three, outV_four, chk_ld1g, chkO_int, chkO_bool, chkO_str, chkO_ptr, chkO_slc, chkO_map, List.set_cons_zero, List.set_cons_succ, List.length_cons, List.length_nil, List.drop_succ_cons, List.drop_zero, List.take_succ_cons, List.take_zero, List.nil_append, List.cons_append, splice, isOne_int, isOne_str, isOne_bool, isOne_slice, isOne_pointer, isOne_map, condM_nf, condM_nef, gd_nef, gdf_nef, pick_nef, hs])
  exact q_of (hQ _) (congrArg Value.bool (decide_eq_true (by omega)).symm)

theorem MacKeys_ok (H : Heap) (k m : ByteArray) (n : Int) (hks : k.size ≤ 1048576) (hms : m.size ≤ 1048576) (hn : -9223372036854775808 ≤ n ∧ n ≤ 9223372036854775807) (hb : Base H) (Q : V → Heap → Prop) (hQ : ∀ H', Q (.bool true) H') : wp (A_law02_MacKeys [.string k, .string m, i64 n]) Q H := by
  show wp (F_law02_MacKeys (.string k) (.string m) (i64 n)) Q H
  simp only [F_law02_MacKeys, wp_bnd]
  refine mac_works_ok H hb _ fun H1 k1 => ?_
  have hlen := bv_length k
  by_cases h : (k.size : Int) > 64
  · (try simp (maxSteps := 1000000) (disch := first | omega | (simp; done) | assumption | decide | (refine not_not_intro ?_; assumption)) only [at_zero, at_succ, wp_bnd, wp_lift, wpO_some, wp_ret, nx_nxt, nx_brk, nx_ret, unblk_nxt, unblk_ret, unblk_brk, finM_nxt, finM_ret, outV_one, condM_t, condM_f, condM_dt, condM_df, gd_t, gd_f, gdf_t, gdf_f, gd_skip, gd_dt, gd_df, gdf_dt, gdf_df, pick_t, pick_f, pick_dt, pick_df, not_t, not_f, not_dec, isNil_ptr, isNil_ptr', isNil_pnil, isNil_pnil', nilck_ptr, faddr_ptr, Nat.zero_add, Nat.add_zero, wp_ld1, lenStr_str, lenSlc_slice, strV_str, i64_add, i64_sub, i64_mul, i64_in, int_eqd, int_ned, int_lss, int_leq, int_gtr, int_geq, str_eqd, str_ned, if_true, wp_bndH, wp_withH, wp_need, enc_int, enc_str, enc_byte, enc_bool, List.getElem?_cons_zero, List.getElem?_cons_succ, law02_MacKeys_k1])
    refine mac_Tag_ok H1 k m (by omega) (by omega) (hb.keep k1) _ fun H2 k2 => ?_
    have k02 := ktrans k1 k2
    refine sha_Sum_ok H2 k (by omega) (hb.keep k02).1 (hb.keep k02).2 _ fun H3 k3 => ?_
    have k03 := ktrans k02 k3
    refine mac_Tag_ok H3 _ m (by rw [sv_size, sum_length]; omega) (by omega) (hb.keep k03) _ fun H4 k4 => ?_
    have e : tag (bv (sv (sum (bv k)))) (bv m) = tag (bv k) (bv m) := by
      have e1 : kb (bv (sv (sum (bv k)))) = kb (bv k) := by
        have e2 : fitted (sum (bv k)) = sum (bv k) := by rw [fitted, if_neg (by rw [sum_length]; omega)]
        have e3 : fitted (bv k) = sum (bv k) := by rw [fitted, if_pos (by omega)]
        rw [bv_sv, kb, kb, e2, e3]
      rw [tag, tag, e1]
    (try simp (maxSteps := 1000000) (disch := first | omega | (simp; done) | assumption | decide | (refine not_not_intro ?_; assumption)) only [at_zero, at_succ, wp_bnd, wp_lift, wpO_some, wp_ret, nx_nxt, nx_brk, nx_ret, unblk_nxt, unblk_ret, unblk_brk, finM_nxt, finM_ret, outV_one, condM_t, condM_f, condM_dt, condM_df, gd_t, gd_f, gdf_t, gdf_f, gd_skip, gd_dt, gd_df, gdf_dt, gdf_df, pick_t, pick_f, pick_dt, pick_df, not_t, not_f, not_dec, isNil_ptr, isNil_ptr', isNil_pnil, isNil_pnil', nilck_ptr, faddr_ptr, Nat.zero_add, Nat.add_zero, wp_ld1, lenStr_str, lenSlc_slice, strV_str, i64_add, i64_sub, i64_mul, i64_in, int_eqd, int_ned, int_lss, int_leq, int_gtr, int_geq, str_eqd, str_ned, if_true, wp_bndH, wp_withH, wp_need, enc_int, enc_str, enc_byte, enc_bool, List.getElem?_cons_zero, List.getElem?_cons_succ, e])
    exact hQ _
  · have hw : IntKind.u64.wrap n = n % 18446744073709551616 := IntKind.wrap_u64 n
    have hw2 : IntKind.u64.wrap (65 - (k.size : Int)) = 65 - k.size := u64_in (by omega) (by omega)
    have hm0 := Int.emod_nonneg (n % 18446744073709551616) (show 65 - (k.size : Int) ≠ 0 by omega)
    have hm1 := Int.emod_lt_of_pos (n % 18446744073709551616) (show 0 < 65 - (k.size : Int) by omega)
    obtain ⟨c, hc⟩ : ∃ c : Nat, (n % 18446744073709551616) % (65 - (k.size : Int)) = c := ⟨((n % 18446744073709551616) % (65 - (k.size : Int))).toNat, by omega⟩
    (try simp (maxSteps := 1000000) (disch := first | omega | (simp; done) | assumption | decide | (refine not_not_intro ?_; assumption)) only [at_zero, at_succ, wp_bnd, wp_lift, wpO_some, wp_ret, nx_nxt, nx_brk, nx_ret, unblk_nxt, unblk_ret, unblk_brk, finM_nxt, finM_ret, outV_one, condM_t, condM_f, condM_dt, condM_df, gd_t, gd_f, gdf_t, gdf_f, gd_skip, gd_dt, gd_df, gdf_dt, gdf_df, pick_t, pick_f, pick_dt, pick_df, not_t, not_f, not_dec, isNil_ptr, isNil_ptr', isNil_pnil, isNil_pnil', nilck_ptr, faddr_ptr, Nat.zero_add, Nat.add_zero, wp_ld1, lenStr_str, lenSlc_slice, strV_str, i64_add, i64_sub, i64_mul, i64_in, int_eqd, int_ned, int_lss, int_leq, int_gtr, int_geq, str_eqd, str_ned, if_true, wp_bndH, wp_withH, wp_need, enc_int, enc_str, enc_byte, enc_bool, List.getElem?_cons_zero, List.getElem?_cons_succ, law02_MacKeys_k1, law02_MacKeys_k0, cvi_int, hw, hw2, int_remn, hc])
    refine wp_mkslc (n := c) (c := c) (by decide) (Nat.le_refl _) (by omega) (by omega) ?_
    have hrep : rep c [Value.int .u8 0] = (List.replicate c 0#8).map B := by
      have : ∀ c, rep c [Value.int .u8 0] = (List.replicate c 0#8).map B := by
        intro c
        induction c with
        | zero => rfl
        | succ c ih => simp only [rep, ih]; rfl
      exact this c
    rw [hrep]
    refine wp_b2s_cells (l := List.replicate c 0#8) (Heap.get_push_self _ _) (by simp) (by simp) ?_
    generalize hH2 : H1.push (some (.cells true ((List.replicate c 0#8).map B))) = H2
    have k2 : Keeps [] H H2 := by rw [← hH2]; exact ktrans k1 (Keeps.push _ _ _)
    have hcs : (sv (List.replicate c 0#8)).size = c := by rw [sv_size, List.length_replicate]
    (try simp (maxSteps := 1000000) (disch := first | omega | (simp; done) | assumption | decide | (refine not_not_intro ?_; assumption)) only [at_zero, at_succ, wp_bnd, wp_lift, wpO_some, wp_ret, nx_nxt, nx_brk, nx_ret, unblk_nxt, unblk_ret, unblk_brk, finM_nxt, finM_ret, outV_one, condM_t, condM_f, condM_dt, condM_df, gd_t, gd_f, gdf_t, gdf_f, gd_skip, gd_dt, gd_df, gdf_dt, gdf_df, pick_t, pick_f, pick_dt, pick_df, not_t, not_f, not_dec, isNil_ptr, isNil_ptr', isNil_pnil, isNil_pnil', nilck_ptr, faddr_ptr, Nat.zero_add, Nat.add_zero, wp_ld1, lenStr_str, lenSlc_slice, strV_str, i64_add, i64_sub, i64_mul, i64_in, int_eqd, int_ned, int_lss, int_leq, int_gtr, int_geq, str_eqd, str_ned, if_true, wp_bndH, wp_withH, wp_need, enc_int, enc_str, enc_byte, enc_bool, List.getElem?_cons_zero, List.getElem?_cons_succ, str_add (show k.size + (sv (List.replicate c 0#8)).size ≤ 4611686018427387904 by omega)])
    refine mac_Tag_ok H2 _ m (by rw [size_append]; omega) (by omega) (hb.keep k2) _ fun H3 k3 => ?_
    refine mac_Tag_ok H3 k m (by omega) (by omega) (hb.keep (ktrans k2 k3)) _ fun H4 k4 => ?_
    have e : tag (bv (k ++ sv (List.replicate c 0#8))) (bv m) = tag (bv k) (bv m) := by
      have e1 : kb (bv (k ++ sv (List.replicate c 0#8))) = kb (bv k) := by
        have e2 : fitted (bv k ++ List.replicate c 0#8) = bv k ++ List.replicate c 0#8 := by rw [fitted, if_neg (by simp; omega)]
        have e3 : fitted (bv k) = bv k := by rw [fitted, if_neg (by omega)]
        rw [bv_append, bv_sv, kb, kb, e2, e3, List.append_assoc, List.replicate_append_replicate]
        congr 2
        simp; omega
      rw [tag, tag, e1]
    (try simp (maxSteps := 1000000) (disch := first | omega | (simp; done) | assumption | decide | (refine not_not_intro ?_; assumption)) only [at_zero, at_succ, wp_bnd, wp_lift, wpO_some, wp_ret, nx_nxt, nx_brk, nx_ret, unblk_nxt, unblk_ret, unblk_brk, finM_nxt, finM_ret, outV_one, condM_t, condM_f, condM_dt, condM_df, gd_t, gd_f, gdf_t, gdf_f, gd_skip, gd_dt, gd_df, gdf_dt, gdf_df, pick_t, pick_f, pick_dt, pick_df, not_t, not_f, not_dec, isNil_ptr, isNil_ptr', isNil_pnil, isNil_pnil', nilck_ptr, faddr_ptr, Nat.zero_add, Nat.add_zero, wp_ld1, lenStr_str, lenSlc_slice, strV_str, i64_add, i64_sub, i64_mul, i64_in, int_eqd, int_ned, int_lss, int_leq, int_gtr, int_geq, str_eqd, str_ned, if_true, wp_bndH, wp_withH, wp_need, enc_int, enc_str, enc_byte, enc_bool, List.getElem?_cons_zero, List.getElem?_cons_succ, e])
    exact hQ _
end Go.AM.Cap
