import Derived.Test.YtfonnghgbcoipaaDoorWiB
import Derived.Test.YtfonnghgbcoipaaDoorAmStr
import Derived.Test.YtfonnghgbcoipaaDoorAmApp
import Derived.Test.YtfonnghgbcoipaaDoorAmOwnF
import Derived.Test.YtfonnghgbcoipaaDoorAmIn
set_option linter.all false
/- wire: numbers, unsigned, bad, fault -/
set_option maxHeartbeats 8000000
namespace Go.AM.Cap
open Go.AM Go.Proofs

theorem w64_shl' (x : BitVec 64) (k : IntKind) (n : Nat) : bin .shl (W x) (.int k n) = some (W (x <<< n)) := by
  have h := shl_key x.toNat n 64
  have h0 : ¬ ((n : Int) < 0) := by omega
  simp only [bin, ishift, IntKind.bits, h0, if_false, wrapW, Int.toNat_natCast, h]
  show some (Value.int .u64 _) = some (Value.int .u64 ((x <<< n).toNat : Int))
  rw [BitVec.toNat_shiftLeft]
theorem w64_shl8 (x : BitVec 64) : bin .shl (W x) (.int .u64 8) = some (W (x <<< 8)) := w64_shl' x .u64 8
theorem w64_or (x y : BitVec 64) : bin .or (W x) (W y) = some (W (x ||| y)) := by
  simp [bin, ibin, ibits, wrapW, ofInt_nat, IntKind.bits]; rfl
theorem w64_add (x y : BitVec 64) : bin .add (W x) (W y) = some (W (x + y)) := by
  simp [bin, ibin, wrapW, ← Int.natCast_add, ofInt_nat]
theorem b_w64 (x : BitVec 8) : cvi .u64 (B x) = some (W (x.setWidth 64)) := by
  simp [cvi, wrapW, ofInt_nat]
theorem nat_toInt (n : Nat) (h : n < 18446744073709551616) : IntKind.i64.wrap (n : Int) = if 2 * n < 18446744073709551616 then (n : Int) else (n : Int) - 18446744073709551616 := by
  rw [IntKind.wrap_i64]
  split <;> omega
theorem w64_i64 (x : BitVec 64) : cvi .i64 (W x) = some (i64 x.toInt) := by
  have h : IntKind.i64.wrap ((x.toNat : Nat) : Int) = x.toInt := by
    rw [nat_toInt _ x.isLt]
    rfl
  show some (Value.int .i64 (IntKind.i64.wrap ((x.toNat : Nat) : Int))) = _
  rw [h]
theorem i64_w64 (n : Int) : cvi .u64 (i64 n) = some (W (BitVec.ofInt 64 n)) := by
  simp only [cvi, wrapW]
/-- bytes as a number, the highest first -/
def val8 (l : List (BitVec 8)) : BitVec 64 := l.foldl (fun n b => n <<< 8 ||| b.setWidth 64) 0

theorem unsigned_eq (s : ByteArray) (hs : s.size ≤ 1000000) : A_wire_unsigned [.string s] = ret (W (val8 (bv s))) := eq_ret fun H => by
  show wp (F_wire_unsigned (.string s)) _ H
  (try simp (maxSteps := 1000000) (disch := first | omega | (simp only [Heap.next_push', Heap.next_set']; omega) | (simp; done) | assumption | decide | (refine not_not_intro ?_; assumption)) only [at_zero, at_succ, wp_bnd, wp_lift, wpO_some, wp_ret, nx_nxt, nx_brk, nx_ret, unblk_nxt, unblk_ret, unblk_brk, finM_nxt, finM_ret, outV_one, condM_t, condM_f, condM_dt, condM_df, gd_t, gd_f, gdf_t, gdf_f, gd_skip, gd_dt, gd_df, gdf_dt, gdf_df, pick_t, pick_f, pick_dt, pick_df, not_t, not_f, not_dec, isNil_ptr, isNil_ptr', isNil_pnil, isNil_pnil', nilck_ptr, faddr_ptr, Nat.zero_add, Nat.add_zero, wp_ld1, lenStr_str, lenSlc_slice, strV_str, i64_add, i64_sub, i64_mul, i64_in, int_eqd, int_ned, int_lss, int_leq, int_gtr, int_geq, str_eqd, str_ned, if_true, wp_bndH, wp_withH, wp_need, enc_int, enc_str, enc_byte, enc_bool, List.getElem?_cons_zero, List.getElem?_cons_succ, cellP_get, cellG_cells, wp_st1g, stG_c, eq_self, true_and, wp_stng, stnG_ok, wp_ldng, ldG_ok, wp_newcg, wp_boxg, Heap.get_push_eq, Heap.get_push_lt, Heap.get_set_eq, Heap.get_set_ne', Heap.next_push', Heap.next_set', Heap.set_push_lt, Heap.set_push_eq, Heap.set_set, fld1_agg, fldn_agg, ext_tuple, outV_nil, outV_two, outV_three, outV_four, chk_ld1g, chkO_int, chkO_bool, chkO_str, chkO_ptr, chkO_slc, chkO_map, List.set_cons_zero, List.set_cons_succ, List.length_cons, List.length_nil, List.drop_succ_cons, List.drop_zero, List.take_succ_cons, List.take_zero, List.nil_append, List.cons_append, splice, isOne_int, isOne_str, isOne_bool, isOne_slice, isOne_pointer, isOne_map, condM_nf, condM_nef, gd_nef, gdf_nef, pick_nef, build_eq, fillA_nil, fillA_one, fillA_agg, Option.map_some, resv_one, resv_two, freeIn_nil, fillA_slc, fillA_int, fillA_str, fillA_bool, fillA_ptr, fillA_map, F_wire_unsigned])
  refine wp_loop (Inv := fun k vs H' => ∃ i : Nat, k = s.size - i ∧ i ≤ s.size ∧ vs = [.string s, W (val8 ((bv s).take i)), i64 s.size, i64 i] ∧ H' = H) (n := s.size) (by unfold FUEL; omega)
    ⟨0, by omega, by omega, rfl, rfl⟩ ?_
  rintro k vs H' ⟨i, hk, hi, rfl, he⟩
  rw [he]; clear he H'
  have hb := bv_length s
  by_cases hlt : i < s.size
  · have ix := idxS_bv (s := s) (k := .i64) (i := i) (by omega) (by omega)
    rw [Int.toNat_natCast] at ix
    (try simp (maxSteps := 1000000) (disch := first | omega | (simp only [Heap.next_push', Heap.next_set']; omega) | (simp; done) | assumption | decide | (refine not_not_intro ?_; assumption)) only [at_zero, at_succ, wp_bnd, wp_lift, wpO_some, wp_ret, nx_nxt, nx_brk, nx_ret, unblk_nxt, unblk_ret, unblk_brk, finM_nxt, finM_ret, outV_one, condM_t, condM_f, condM_dt, condM_df, gd_t, gd_f, gdf_t, gdf_f, gd_skip, gd_dt, gd_df, gdf_dt, gdf_df, pick_t, pick_f, pick_dt, pick_df, not_t, not_f, not_dec, isNil_ptr, isNil_ptr', isNil_pnil, isNil_pnil', nilck_ptr, faddr_ptr, Nat.zero_add, Nat.add_zero, wp_ld1, lenStr_str, lenSlc_slice, strV_str, i64_add, i64_sub, i64_mul, i64_in, int_eqd, int_ned, int_lss, int_leq, int_gtr, int_geq, str_eqd, str_ned, if_true, wp_bndH, wp_withH, wp_need, enc_int, enc_str, enc_byte, enc_bool, List.getElem?_cons_zero, List.getElem?_cons_succ, cellP_get, cellG_cells, wp_st1g, stG_c, eq_self, true_and, wp_stng, stnG_ok, wp_ldng, ldG_ok, wp_newcg, wp_boxg, Heap.get_push_eq, Heap.get_push_lt, Heap.get_set_eq, Heap.get_set_ne', Heap.next_push', Heap.next_set', Heap.set_push_lt, Heap.set_push_eq, Heap.set_set, fld1_agg, fldn_agg, ext_tuple, outV_nil, outV_two, outV_three, outV_four, chk_ld1g, chkO_int, chkO_bool, chkO_str, chkO_ptr, chkO_slc, chkO_map, List.set_cons_zero, List.set_cons_succ, List.length_cons, List.length_nil, List.drop_succ_cons, List.drop_zero, List.take_succ_cons, List.take_zero, List.nil_append, List.cons_append, splice, isOne_int, isOne_str, isOne_bool, isOne_slice, isOne_pointer, isOne_map, condM_nf, condM_nef, gd_nef, gdf_nef, pick_nef, build_eq, fillA_nil, fillA_one, fillA_agg, Option.map_some, resv_one, resv_two, freeIn_nil, fillA_slc, fillA_int, fillA_str, fillA_bool, fillA_ptr, fillA_map, wire_unsigned_l2, wire_unsigned_k1, w64_shl8, ix, b_w64, w64_or, wire_unsigned_k0])
    refine ⟨s.size - (i + 1), by omega, i + 1, rfl, by omega, ?_⟩
    have e : val8 ((bv s).take (i + 1)) = val8 ((bv s).take i) <<< 8 ||| ((bv s).getD i 0).setWidth 64 := by
      unfold val8
      rw [List.take_succ, List.getElem?_eq_getElem (by omega), List.getD_eq_getElem?_getD, List.getElem?_eq_getElem (by omega), List.foldl_append]
      rfl
    rw [e]
    exact ⟨by push_cast; rfl, trivial⟩
  · have : i = s.size := by omega
    subst this
    rw [← hb, List.take_length]
    (try simp (maxSteps := 1000000) (disch := first | omega | (simp only [Heap.next_push', Heap.next_set']; omega) | (simp; done) | assumption | decide | (refine not_not_intro ?_; assumption)) only [at_zero, at_succ, wp_bnd, wp_lift, wpO_some, wp_ret, nx_nxt, nx_brk, nx_ret, unblk_nxt, unblk_ret, unblk_brk, finM_nxt, finM_ret, outV_one, condM_t, condM_f, condM_dt, condM_df, gd_t, gd_f, gdf_t, gdf_f, gd_skip, gd_dt, gd_df, gdf_dt, gdf_df, pick_t, pick_f, pick_dt, pick_df, not_t, not_f, not_dec, isNil_ptr, isNil_ptr', isNil_pnil, isNil_pnil', nilck_ptr, faddr_ptr, Nat.zero_add, Nat.add_zero, wp_ld1, lenStr_str, lenSlc_slice, strV_str, i64_add, i64_sub, i64_mul, i64_in, int_eqd, int_ned, int_lss, int_leq, int_gtr, int_geq, str_eqd, str_ned, if_true, wp_bndH, wp_withH, wp_need, enc_int, enc_str, enc_byte, enc_bool, List.getElem?_cons_zero, List.getElem?_cons_succ, cellP_get, cellG_cells, wp_st1g, stG_c, eq_self, true_and, wp_stng, stnG_ok, wp_ldng, ldG_ok, wp_newcg, wp_boxg, Heap.get_push_eq, Heap.get_push_lt, Heap.get_set_eq, Heap.get_set_ne', Heap.next_push', Heap.next_set', Heap.set_push_lt, Heap.set_push_eq, Heap.set_set, fld1_agg, fldn_agg, ext_tuple, outV_nil, outV_two, outV_three, outV_four, chk_ld1g, chkO_int, chkO_bool, chkO_str, chkO_ptr, chkO_slc, chkO_map, List.set_cons_zero, List.set_cons_succ, List.length_cons, List.length_nil, List.drop_succ_cons, List.drop_zero, List.take_succ_cons, List.take_zero, List.nil_append, List.cons_append, splice, isOne_int, isOne_str, isOne_bool, isOne_slice, isOne_pointer, isOne_map, condM_nf, condM_nef, gd_nef, gdf_nef, pick_nef, build_eq, fillA_nil, fillA_one, fillA_agg, Option.map_some, resv_one, resv_two, freeIn_nil, fillA_slc, fillA_int, fillA_str, fillA_bool, fillA_ptr, fillA_map, wire_unsigned_l2, wire_unsigned_k3])

/-- an error: none, or a place and a code -/
def errV : Option (Int × Int) → V
  | none => .nilIface
  | some (a, c) => .iface 56 (.agg [i64 a, i64 c].toArray)
theorem bad_eq (a c : Int) : A_wire_bad [i64 a, i64 c] = ret (errV (some (a, c))) := eq_ret fun H => by
  show wp (F_wire_bad (i64 a) (i64 c)) _ H
  (try simp (maxSteps := 1000000) (disch := first | omega | (simp only [Heap.next_push', Heap.next_set']; omega) | (simp; done) | assumption | decide | (refine not_not_intro ?_; assumption)) only [at_zero, at_succ, wp_bnd, wp_lift, wpO_some, wp_ret, nx_nxt, nx_brk, nx_ret, unblk_nxt, unblk_ret, unblk_brk, finM_nxt, finM_ret, outV_one, condM_t, condM_f, condM_dt, condM_df, gd_t, gd_f, gdf_t, gdf_f, gd_skip, gd_dt, gd_df, gdf_dt, gdf_df, pick_t, pick_f, pick_dt, pick_df, not_t, not_f, not_dec, isNil_ptr, isNil_ptr', isNil_pnil, isNil_pnil', nilck_ptr, faddr_ptr, Nat.zero_add, Nat.add_zero, wp_ld1, lenStr_str, lenSlc_slice, strV_str, i64_add, i64_sub, i64_mul, i64_in, int_eqd, int_ned, int_lss, int_leq, int_gtr, int_geq, str_eqd, str_ned, if_true, wp_bndH, wp_withH, wp_need, enc_int, enc_str, enc_byte, enc_bool, List.getElem?_cons_zero, List.getElem?_cons_succ, cellP_get, cellG_cells, wp_st1g, stG_c, eq_self, true_and, wp_stng, stnG_ok, wp_ldng, ldG_ok, wp_newcg, wp_boxg, Heap.get_push_eq, Heap.get_push_lt, Heap.get_set_eq, Heap.get_set_ne', Heap.next_push', Heap.next_set', Heap.set_push_lt, Heap.set_push_eq, Heap.set_set, fld1_agg, fldn_agg, ext_tuple, outV_nil, outV_two, outV_three, outV_four, chk_ld1g, chkO_int, chkO_bool, chkO_str, chkO_ptr, chkO_slc, chkO_map, List.set_cons_zero, List.set_cons_succ, List.length_cons, List.length_nil, List.drop_succ_cons, List.drop_zero, List.take_succ_cons, List.take_zero, List.nil_append, List.cons_append, splice, isOne_int, isOne_str, isOne_bool, isOne_slice, isOne_pointer, isOne_map, condM_nf, condM_nef, gd_nef, gdf_nef, pick_nef, build_eq, fillA_nil, fillA_one, fillA_agg, Option.map_some, resv_one, resv_two, freeIn_nil, fillA_slc, fillA_int, fillA_str, fillA_bool, fillA_ptr, fillA_map, F_wire_bad])
  exact ⟨rfl, trivial⟩
/-- the variable errors.errorType as it must be -/
def Tok (H : Heap) : Prop := H.cell 0 0 = some (.chan (some TOK))
theorem Tok.keep {S : List Nat} {H H' : Heap} (h : Tok H) (hk : Keeps S H H') (hs : 0 ∉ S) : Tok H' := by
  unfold Tok Heap.cell at *
  have : H.get 0 ≠ none := fun e => by rw [e] at h; cases h
  have hlt : 0 < H.next := by
    cases hg : H.get 0 with
    | none => exact absurd hg this
    | some x => exact Heap.get_lt hg
  rw [hk.same 0 hlt hs]; exact h
theorem Tok.keep0 {H H' : Heap} (h : Tok H) (hk : Keeps [] H H') : Tok H' := h.keep hk (by simp)
theorem Tok.lt {H : Heap} (h : Tok H) : 0 < H.next := by
  unfold Tok Heap.cell at h
  cases hg : H.get 0 with
  | none => rw [hg] at h; cases h
  | some x => exact Heap.get_lt hg
def faultOf : Option (Int × Int) → Int × Int
  | none => (0, 0)
  | some x => x
theorem fault_ok {H : Heap} (hT : Tok H) (e : Option (Int × Int)) (Q : V → Heap → Prop) (hQ : ∀ H', Keeps [] H H' → Q (.agg [i64 (faultOf e).1, i64 (faultOf e).2].toArray) H') : wp (A_wire_fault asF [errV e]) Q H := by
  show wp (F_wire_fault asF (errV e)) Q H
  (try simp (maxSteps := 1000000) (disch := first | omega | (simp only [Heap.next_push', Heap.next_set']; omega) | (simp; done) | assumption | decide | (refine not_not_intro ?_; assumption)) only [at_zero, at_succ, wp_bnd, wp_lift, wpO_some, wp_ret, nx_nxt, nx_brk, nx_ret, unblk_nxt, unblk_ret, unblk_brk, finM_nxt, finM_ret, outV_one, condM_t, condM_f, condM_dt, condM_df, gd_t, gd_f, gdf_t, gdf_f, gd_skip, gd_dt, gd_df, gdf_dt, gdf_df, pick_t, pick_f, pick_dt, pick_df, not_t, not_f, not_dec, isNil_ptr, isNil_ptr', isNil_pnil, isNil_pnil', nilck_ptr, faddr_ptr, Nat.zero_add, Nat.add_zero, wp_ld1, lenStr_str, lenSlc_slice, strV_str, i64_add, i64_sub, i64_mul, i64_in, int_eqd, int_ned, int_lss, int_leq, int_gtr, int_geq, str_eqd, str_ned, if_true, wp_bndH, wp_withH, wp_need, enc_int, enc_str, enc_byte, enc_bool, List.getElem?_cons_zero, List.getElem?_cons_succ, cellP_get, cellG_cells, wp_st1g, stG_c, eq_self, true_and, wp_stng, stnG_ok, wp_ldng, ldG_ok, wp_newcg, wp_boxg, Heap.get_push_eq, Heap.get_push_lt, Heap.get_set_eq, Heap.get_set_ne', Heap.next_push', Heap.next_set', Heap.set_push_lt, Heap.set_push_eq, Heap.set_set, fld1_agg, fldn_agg, ext_tuple, outV_nil, outV_two, outV_three, outV_four, chk_ld1g, chkO_int, chkO_bool, chkO_str, chkO_ptr, chkO_slc, chkO_map, List.set_cons_zero, List.set_cons_succ, List.length_cons, List.length_nil, List.drop_succ_cons, List.drop_zero, List.take_succ_cons, List.take_zero, List.nil_append, List.cons_append, splice, isOne_int, isOne_str, isOne_bool, isOne_slice, isOne_pointer, isOne_map, condM_nf, condM_nef, gd_nef, gdf_nef, pick_nef, build_eq, fillA_nil, fillA_one, fillA_agg, Option.map_some, resv_one, resv_two, freeIn_nil, fillA_slc, fillA_int, fillA_str, fillA_bool, fillA_ptr, fillA_map, F_wire_fault])
  have k1 : Keeps [] H ((H.push (some (.cells true [i64 0, i64 0]))).push (some (.cells true [i64 0, i64 0]))) := keeps_push (Keeps.push _ _ _)
  have g1 : ((H.push (some (.cells true [i64 0, i64 0]))).push (some (.cells true [i64 0, i64 0]))).get H.next = some (.cells true [i64 0, i64 0]) := by
    rw [Heap.get_push_lt (by simp)]; exact Heap.get_push_self _ _
  have g2 : ((H.push (some (.cells true [i64 0, i64 0]))).push (some (.cells true [i64 0, i64 0]))).get (H.next + 1) = some (.cells true [i64 0, i64 0]) := Heap.get_push_eq (by simp)
  have hT1 := hT.keep0 k1
  have n1 : ((H.push (some (.cells true [i64 0, i64 0]))).push (some (.cells true [i64 0, i64 0]))).next = H.next + 2 := by simp
  generalize ((H.push (some (.cells true [i64 0, i64 0]))).push (some (.cells true [i64 0, i64 0]))) = H1 at *
  cases e with
  | none =>
    refine ⟨.bool false, H1, rfl, ?_⟩
    (try simp (maxSteps := 1000000) (disch := first | omega | (simp only [Heap.next_push', Heap.next_set']; omega) | (simp; done) | assumption | decide | (refine not_not_intro ?_; assumption)) only [at_zero, at_succ, wp_bnd, wp_lift, wpO_some, wp_ret, nx_nxt, nx_brk, nx_ret, unblk_nxt, unblk_ret, unblk_brk, finM_nxt, finM_ret, outV_one, condM_t, condM_f, condM_dt, condM_df, gd_t, gd_f, gdf_t, gdf_f, gd_skip, gd_dt, gd_df, gdf_dt, gdf_df, pick_t, pick_f, pick_dt, pick_df, not_t, not_f, not_dec, isNil_ptr, isNil_ptr', isNil_pnil, isNil_pnil', nilck_ptr, faddr_ptr, Nat.zero_add, Nat.add_zero, wp_ld1, lenStr_str, lenSlc_slice, strV_str, i64_add, i64_sub, i64_mul, i64_in, int_eqd, int_ned, int_lss, int_leq, int_gtr, int_geq, str_eqd, str_ned, if_true, wp_bndH, wp_withH, wp_need, enc_int, enc_str, enc_byte, enc_bool, List.getElem?_cons_zero, List.getElem?_cons_succ, cellP_get, cellG_cells, wp_st1g, stG_c, eq_self, true_and, wp_stng, stnG_ok, wp_ldng, ldG_ok, wp_newcg, wp_boxg, Heap.get_push_eq, Heap.get_push_lt, Heap.get_set_eq, Heap.get_set_ne', Heap.next_push', Heap.next_set', Heap.set_push_lt, Heap.set_push_eq, Heap.set_set, fld1_agg, fldn_agg, ext_tuple, outV_nil, outV_two, outV_three, outV_four, chk_ld1g, chkO_int, chkO_bool, chkO_str, chkO_ptr, chkO_slc, chkO_map, List.set_cons_zero, List.set_cons_succ, List.length_cons, List.length_nil, List.drop_succ_cons, List.drop_zero, List.take_succ_cons, List.take_zero, List.nil_append, List.cons_append, splice, isOne_int, isOne_str, isOne_bool, isOne_slice, isOne_pointer, isOne_map, condM_nf, condM_nef, gd_nef, gdf_nef, pick_nef, build_eq, fillA_nil, fillA_one, fillA_agg, Option.map_some, resv_one, resv_two, freeIn_nil, fillA_slc, fillA_int, fillA_str, fillA_bool, fillA_ptr, fillA_map, wire_fault_k0, g1])
    exact hQ _ (keeps_set k1 (.inr (Nat.le_refl _)))
  | some x =>
    obtain ⟨a, c⟩ := x
    have hcall : asF [errV (some (a, c)), .iface tid_p_wire_broken (ptr (H.next + 1) 0)] H1 = some (.bool true, H1.set (H.next + 1) (some (.cells true [i64 a, i64 c]))) := by
      have hcond : (56 = 56 ∧ tid_p_wire_broken = 58 ∧ H1.cell 0 0 = some (.chan (some TOK)) ∧ ∃ a' b' : Int, ([i64 a, i64 c].toArray : Array V) = #[i64 a', i64 b']) := ⟨rfl, rfl, hT1, a, c, rfl⟩
      show asF [.iface 56 (.agg [i64 a, i64 c].toArray), .iface tid_p_wire_broken (ptr (H.next + 1) 0)] H1 = _
      unfold asF
      dsimp only
      rw [if_pos hcond]
      have hs : stn 2 (ptr (H.next + 1) 0) (.agg [i64 a, i64 c].toArray) H1 = some (undef, H1.set (H.next + 1) (some (.cells true [i64 a, i64 c]))) := by
        simp only [stn, g2]
        rw [if_pos (by rfl)]
        rfl
      simp only [bnd, hs]; rfl
    refine ⟨_, _, hcall, ?_⟩
    have g1' : (H1.set (H.next + 1) (some (.cells true [i64 a, i64 c]))).get H.next = some (.cells true [i64 0, i64 0]) := by rw [Heap.get_set_ne _ _ _ (by omega)]; exact g1
    have g2' : (H1.set (H.next + 1) (some (.cells true [i64 a, i64 c]))).get (H.next + 1) = some (.cells true [i64 a, i64 c]) := Heap.get_set_self (by omega)
    have n2 : (H1.set (H.next + 1) (some (.cells true [i64 a, i64 c]))).next = H.next + 2 := by simp; exact n1
    have k2 : Keeps [] H (H1.set (H.next + 1) (some (.cells true [i64 a, i64 c]))) := keeps_set k1 (.inr (by omega))
    generalize H1.set (H.next + 1) (some (.cells true [i64 a, i64 c])) = H2 at *
    (try simp (maxSteps := 1000000) (disch := first | omega | (simp only [Heap.next_push', Heap.next_set']; omega) | (simp; done) | assumption | decide | (refine not_not_intro ?_; assumption)) only [at_zero, at_succ, wp_bnd, wp_lift, wpO_some, wp_ret, nx_nxt, nx_brk, nx_ret, unblk_nxt, unblk_ret, unblk_brk, finM_nxt, finM_ret, outV_one, condM_t, condM_f, condM_dt, condM_df, gd_t, gd_f, gdf_t, gdf_f, gd_skip, gd_dt, gd_df, gdf_dt, gdf_df, pick_t, pick_f, pick_dt, pick_df, not_t, not_f, not_dec, isNil_ptr, isNil_ptr', isNil_pnil, isNil_pnil', nilck_ptr, faddr_ptr, Nat.zero_add, Nat.add_zero, wp_ld1, lenStr_str, lenSlc_slice, strV_str, i64_add, i64_sub, i64_mul, i64_in, int_eqd, int_ned, int_lss, int_leq, int_gtr, int_geq, str_eqd, str_ned, if_true, wp_bndH, wp_withH, wp_need, enc_int, enc_str, enc_byte, enc_bool, List.getElem?_cons_zero, List.getElem?_cons_succ, cellP_get, cellG_cells, wp_st1g, stG_c, eq_self, true_and, wp_stng, stnG_ok, wp_ldng, ldG_ok, wp_newcg, wp_boxg, Heap.get_push_eq, Heap.get_push_lt, Heap.get_set_eq, Heap.get_set_ne', Heap.next_push', Heap.next_set', Heap.set_push_lt, Heap.set_push_eq, Heap.set_set, fld1_agg, fldn_agg, ext_tuple, outV_nil, outV_two, outV_three, outV_four, chk_ld1g, chkO_int, chkO_bool, chkO_str, chkO_ptr, chkO_slc, chkO_map, List.set_cons_zero, List.set_cons_succ, List.length_cons, List.length_nil, List.drop_succ_cons, List.drop_zero, List.take_succ_cons, List.take_zero, List.nil_append, List.cons_append, splice, isOne_int, isOne_str, isOne_bool, isOne_slice, isOne_pointer, isOne_map, condM_nf, condM_nef, gd_nef, gdf_nef, pick_nef, build_eq, fillA_nil, fillA_one, fillA_agg, Option.map_some, resv_one, resv_two, freeIn_nil, fillA_slc, fillA_int, fillA_str, fillA_bool, fillA_ptr, fillA_map, g1', g2'])
    exact hQ _ (keeps_set k2 (.inr (Nat.le_refl _)))
end Go.AM.Cap

/- wire: items, lists, their bytes; Encode -/
set_option maxHeartbeats 8000000
namespace Go.AM.Cap
open Go.AM Go.Proofs

/-- an item -/
structure It where
  t : Bool
  n : Int
  s : ByteArray
deriving DecidableEq
instance : Inhabited It := ⟨⟨false, 0, ⟨#[]⟩⟩⟩
instance : Flat It := ⟨3, fun x => [.bool x.t, i64 x.n, .string x.s], fun _ => rfl, fun _ => rfl, by decide⟩
theorem enc_it (x : It) : Flat.enc x = [.bool x.t, i64 x.n, .string x.s] := rfl
def mayI (x : It) : Bool := if x.t then decide (x.n = 0 ∧ x.s.size ≤ 65535) else decide (x.s = ⟨#[]⟩)
def be8 (n : Int) : List (BitVec 8) := (List.range 8).map fun j => ((BitVec.ofInt 64 n) >>> (56 - 8 * j)).setWidth 8
def w2 (n : Nat) : List (BitVec 8) := [BitVec.ofNat 8 (n / 256), BitVec.ofNat 8 n]
def oneI (x : It) : List (BitVec 8) := if x.t then 36 :: (w2 x.s.size ++ bv x.s) else 35 :: be8 x.n
def fullI (l : List It) : List (BitVec 8) := w2 l.length ++ l.flatMap oneI
def encI (l : List It) : ByteArray × Int :=
  if l.length > 1000 then (⟨#[]⟩, 2) else if l.any (fun x => !mayI x) then (⟨#[]⟩, 4) else if (fullI l).length > 65536 then (⟨#[]⟩, 2) else (sv (fullI l), 0)

theorem be8_length (n : Int) : (be8 n).length = 8 := by simp [be8]
theorem be8_at (n : Int) (j : Nat) (h : j < 8) : (be8 n).take (j + 1) = (be8 n).take j ++ [((BitVec.ofInt 64 n) >>> (56 - 8 * j)).setWidth 8] := by
  rw [List.take_succ, List.getElem?_eq_getElem (by rw [be8_length]; exact h)]
  simp [be8]
theorem i64_shr8 (n : Nat) : bin .shr (i64 n) (.int .u64 8) = some (i64 ((n / 256 : Nat) : Int)) := by
  show some (Value.int .i64 (Int.fdiv (n : Int) (2 ^ (min (Int.toNat 8) 64)))) = _
  rw [show ((2 : Int) ^ (min (Int.toNat 8) 64)) = 256 from rfl, Int.fdiv_eq_ediv_of_nonneg _ (by omega)]
  rfl
theorem i64_u8 (n : Nat) : cvi .u8 (i64 n) = some (B (BitVec.ofNat 8 n)) := by
  simp only [cvi, IntKind.wrap_u8]
  show some (Value.int .u8 _) = some (Value.int .u8 ((BitVec.ofNat 8 n).toNat : Int))
  rw [BitVec.toNat_ofNat]
  rfl
theorem w64_shr (x : BitVec 64) (n : Int) (h : 0 ≤ n) : bin .shr (W x) (i64 n) = some (W (x >>> n.toNat)) := by
  have h' := shr_key x.toNat n.toNat 64 x.isLt
  have h0 : ¬ (n < 0) := by omega
  simp only [bin, ishift, IntKind.bits, h0, if_false, h']
  rfl
theorem w64_u8 (x : BitVec 64) : cvi .u8 (W x) = some (B (x.setWidth 8)) := by
  simp only [cvi, IntKind.wrap_u8]
  show some (Value.int .u8 _) = some (Value.int .u8 ((x.setWidth 8).toNat : Int))
  rw [BitVec.toNat_setWidth]
  rfl
theorem B36 : Value.int .u8 36 = B 36 := rfl
theorem B35 : Value.int .u8 35 = B 35 := rfl

/-- the eight rounds of a number -/
theorem enc_num {H : Heap} {w x7 : V} {a b c d : V} {acc : List (BitVec 8)} {n : Int} (hw : OwnF H w acc) (hb : acc.length ≤ 200000) {xb : Nat} (hx : x7 = ptr xb 0) {t : Bool} {s : ByteArray} (hg : H.get xb = some (.cells true [.bool t, i64 n, .string s])) (hnot : xb ∉ vb w) (Q : Out → Heap → Prop)
    (hQ : ∀ w' H', OwnF H' w' (acc ++ be8 n) → Keeps (vb w) H H' → (∀ b ∈ vb w', b ∈ vb w ∨ H.next ≤ b) → Q (.brk 3 [w', a, b, c, d]) H') :
    wp (loopM FUEL wire_Encode_l2 [w, a, x7, i64 56, b, c, d]) Q H := by
  subst hx
  refine wp_loop (Inv := fun k vs H' => ∃ (j : Nat) (w' : V), k = 8 - j ∧ j ≤ 8 ∧ vs = [w', a, ptr xb 0, i64 (56 - 8 * (j : Int)), b, c, d] ∧ OwnF H' w' (acc ++ (be8 n).take j) ∧ Keeps (vb w) H H' ∧ (∀ b ∈ vb w', b ∈ vb w ∨ H.next ≤ b)) (n := 8) (by unfold FUEL; omega)
    ⟨0, w, by omega, by omega, by simp, by simpa using hw, Keeps.refl _ _, fun b hb => .inl hb⟩ ?_
  rintro k vs H1 ⟨j, w', hk, hj, rfl, ho, hk1, hv⟩
  by_cases hlt : j < 8
  case neg =>
    have : j = 8 := by omega
    subst this
    (try simp (maxSteps := 1000000) (disch := first | omega | (simp only [Heap.next_push', Heap.next_set']; omega) | (simp; done) | assumption | decide | (refine not_not_intro ?_; assumption)) only [at_zero, at_succ, wp_bnd, wp_lift, wpO_some, wp_ret, nx_nxt, nx_brk, nx_ret, unblk_nxt, unblk_ret, unblk_brk, finM_nxt, finM_ret, outV_one, condM_t, condM_f, condM_dt, condM_df, gd_t, gd_f, gdf_t, gdf_f, gd_skip, gd_dt, gd_df, gdf_dt, gdf_df, pick_t, pick_f, pick_dt, pick_df, not_t, not_f, not_dec, isNil_ptr, isNil_ptr', isNil_pnil, isNil_pnil', nilck_ptr, faddr_ptr, Nat.zero_add, Nat.add_zero, wp_ld1, lenStr_str, lenSlc_slice, strV_str, i64_add, i64_sub, i64_mul, i64_in, int_eqd, int_ned, int_lss, int_leq, int_gtr, int_geq, str_eqd, str_ned, if_true, wp_bndH, wp_withH, wp_need, enc_int, enc_str, enc_byte, enc_bool, List.getElem?_cons_zero, List.getElem?_cons_succ, cellP_get, cellG_cells, wp_st1g, stG_c, eq_self, true_and, wp_stng, stnG_ok, wp_ldng, ldG_ok, wp_newcg, wp_boxg, Heap.get_push_eq, Heap.get_push_lt, Heap.get_set_eq, Heap.get_set_ne', Heap.next_push', Heap.next_set', Heap.set_push_lt, Heap.set_push_eq, Heap.set_set, fld1_agg, fldn_agg, ext_tuple, outV_nil, outV_two, outV_three, outV_four, chk_ld1g, chkO_int, chkO_bool, chkO_str, chkO_ptr, chkO_slc, chkO_map, List.set_cons_zero, List.set_cons_succ, List.length_cons, List.length_nil, List.drop_succ_cons, List.drop_zero, List.take_succ_cons, List.take_zero, List.nil_append, List.cons_append, splice, isOne_int, isOne_str, isOne_bool, isOne_slice, isOne_pointer, isOne_map, condM_nf, condM_nef, gd_nef, gdf_nef, pick_nef, build_eq, fillA_nil, fillA_one, fillA_agg, Option.map_some, resv_one, resv_two, freeIn_nil, fillA_slc, fillA_int, fillA_str, fillA_bool, fillA_ptr, fillA_map, wire_Encode_l2])
    rw [List.take_of_length_le (by rw [be8_length]; omega)] at ho
    exact hQ _ _ ho hk1 hv
  have g1 : H1.get xb = some (.cells true [.bool t, i64 n, .string s]) := hk1.get hg hnot
  (try simp (maxSteps := 1000000) (disch := first | omega | (simp only [Heap.next_push', Heap.next_set']; omega) | (simp; done) | assumption | decide | (refine not_not_intro ?_; assumption)) only [at_zero, at_succ, wp_bnd, wp_lift, wpO_some, wp_ret, nx_nxt, nx_brk, nx_ret, unblk_nxt, unblk_ret, unblk_brk, finM_nxt, finM_ret, outV_one, condM_t, condM_f, condM_dt, condM_df, gd_t, gd_f, gdf_t, gdf_f, gd_skip, gd_dt, gd_df, gdf_dt, gdf_df, pick_t, pick_f, pick_dt, pick_df, not_t, not_f, not_dec, isNil_ptr, isNil_ptr', isNil_pnil, isNil_pnil', nilck_ptr, faddr_ptr, Nat.zero_add, Nat.add_zero, wp_ld1, lenStr_str, lenSlc_slice, strV_str, i64_add, i64_sub, i64_mul, i64_in, int_eqd, int_ned, int_lss, int_leq, int_gtr, int_geq, str_eqd, str_ned, if_true, wp_bndH, wp_withH, wp_need, enc_int, enc_str, enc_byte, enc_bool, List.getElem?_cons_zero, List.getElem?_cons_succ, cellP_get, cellG_cells, wp_st1g, stG_c, eq_self, true_and, wp_stng, stnG_ok, wp_ldng, ldG_ok, wp_newcg, wp_boxg, Heap.get_push_eq, Heap.get_push_lt, Heap.get_set_eq, Heap.get_set_ne', Heap.next_push', Heap.next_set', Heap.set_push_lt, Heap.set_push_eq, Heap.set_set, fld1_agg, fldn_agg, ext_tuple, outV_nil, outV_two, outV_three, outV_four, chk_ld1g, chkO_int, chkO_bool, chkO_str, chkO_ptr, chkO_slc, chkO_map, List.set_cons_zero, List.set_cons_succ, List.length_cons, List.length_nil, List.drop_succ_cons, List.drop_zero, List.take_succ_cons, List.take_zero, List.nil_append, List.cons_append, splice, isOne_int, isOne_str, isOne_bool, isOne_slice, isOne_pointer, isOne_map, condM_nf, condM_nef, gd_nef, gdf_nef, pick_nef, build_eq, fillA_nil, fillA_one, fillA_agg, Option.map_some, resv_one, resv_two, freeIn_nil, fillA_slc, fillA_int, fillA_str, fillA_bool, fillA_ptr, fillA_map, wire_Encode_l2, wire_Encode_k1, g1, i64_w64, w64_shr, w64_u8])
  refine ownF_apps (α := BitVec 8) (ys := [((BitVec.ofInt 64 n) >>> (56 - 8 * j)).setWidth 8]) rfl ho (by rfl) (by rw [show (56 - 8 * (j : Int)).toNat = 56 - 8 * j from by omega]; rfl) rfl ?_ ?_ fun w2 H2 o2 k2 v2 => ?_
  · simp [be8_length]; omega
  · simp [be8_length]; omega
  (try simp (maxSteps := 1000000) (disch := first | omega | (simp only [Heap.next_push', Heap.next_set']; omega) | (simp; done) | assumption | decide | (refine not_not_intro ?_; assumption)) only [at_zero, at_succ, wp_bnd, wp_lift, wpO_some, wp_ret, nx_nxt, nx_brk, nx_ret, unblk_nxt, unblk_ret, unblk_brk, finM_nxt, finM_ret, outV_one, condM_t, condM_f, condM_dt, condM_df, gd_t, gd_f, gdf_t, gdf_f, gd_skip, gd_dt, gd_df, gdf_dt, gdf_df, pick_t, pick_f, pick_dt, pick_df, not_t, not_f, not_dec, isNil_ptr, isNil_ptr', isNil_pnil, isNil_pnil', nilck_ptr, faddr_ptr, Nat.zero_add, Nat.add_zero, wp_ld1, lenStr_str, lenSlc_slice, strV_str, i64_add, i64_sub, i64_mul, i64_in, int_eqd, int_ned, int_lss, int_leq, int_gtr, int_geq, str_eqd, str_ned, if_true, wp_bndH, wp_withH, wp_need, enc_int, enc_str, enc_byte, enc_bool, List.getElem?_cons_zero, List.getElem?_cons_succ, cellP_get, cellG_cells, wp_st1g, stG_c, eq_self, true_and, wp_stng, stnG_ok, wp_ldng, ldG_ok, wp_newcg, wp_boxg, Heap.get_push_eq, Heap.get_push_lt, Heap.get_set_eq, Heap.get_set_ne', Heap.next_push', Heap.next_set', Heap.set_push_lt, Heap.set_push_eq, Heap.set_set, fld1_agg, fldn_agg, ext_tuple, outV_nil, outV_two, outV_three, outV_four, chk_ld1g, chkO_int, chkO_bool, chkO_str, chkO_ptr, chkO_slc, chkO_map, List.set_cons_zero, List.set_cons_succ, List.length_cons, List.length_nil, List.drop_succ_cons, List.drop_zero, List.take_succ_cons, List.take_zero, List.nil_append, List.cons_append, splice, isOne_int, isOne_str, isOne_bool, isOne_slice, isOne_pointer, isOne_map, condM_nf, condM_nef, gd_nef, gdf_nef, pick_nef, build_eq, fillA_nil, fillA_one, fillA_agg, Option.map_some, resv_one, resv_two, freeIn_nil, fillA_slc, fillA_int, fillA_str, fillA_bool, fillA_ptr, fillA_map, wire_Encode_k0])
  refine ⟨8 - (j + 1), by omega, j + 1, w2, rfl, by omega, ?_, ?_, ?_, ?_⟩
  · simp; omega
  · rw [be8_at n j hlt, ← List.append_assoc]; exact o2
  · exact hk1.trans k2 fun b hb hm => (hv b hm).resolve_right (by omega)
  · intro b hb
    rcases v2 b hb with q | q
    · exact hv b q
    · exact .inr (Nat.le_trans hk1.next q)
end Go.AM.Cap
