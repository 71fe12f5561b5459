/- sha: Sum, Hex -/
import Derived.Test.YtjicmjniddbllaaDoorShaE
import Derived.Test.YtjicmjniddbllaaDoorAmSlc
set_option linter.all false
namespace Go.AM.Cap
open Go.AM Go.Proofs

theorem Tab.lt {H : Heap} (h : Tab H) : gid_sha_rounds < H.next := by obtain ⟨_, _, t, _⟩ := h; exact Heap.get_lt t
theorem First.lt {H : Heap} (h : First H) : gid_sha_first < H.next := by obtain ⟨_, _, t, _⟩ := h; exact Heap.get_lt t

/-- the program's digest -/
theorem sha_Sum_ok (H : Heap) (s : ByteArray) (hs : s.size ≤ 1099511627776) (hf : First H) (ht : Tab H) (Q : V → Heap → Prop) (hQ : ∀ H', Keeps [] H H' → Q (.string (sv (sum (bv s)))) H') : wp (A_sha_Sum [.string s]) Q H := by
  show wp (F_sha_Sum (.string s)) Q H
  have htl := ht.lt
  simp only [F_sha_Sum, wp_bnd]
  refine sha_new_ok H hf _ fun p H1 h1 k1 e1 n1 => ?_
  have t1 : Tab H1 := ht.keep k1 (by simp)
  refine sha_write_ok H1 p [] s _ h1 t1 (by omega) (by simpa using hs) _ fun H2 v h2 _ k2 t2 => ?_
  refine sha_sum_ok H2 p _ v h2 t2 (by omega) (by rw [List.nil_append, bv_length]; exact hs) _ fun H3 k3 => ?_
  simp only [wp_ret, finM_ret, outV_one, at_zero]
  exact hQ H3 ((k1.trans k2 (fun x hx hm => by simp at hm; omega)).trans k3 (fun _ _ h => h))
theorem ref01_Sum_ok (H : Heap) (s : ByteArray) (hs : s.size ≤ 1099511627776) (Q : V → Heap → Prop) (hQ : ∀ H', Keeps [] H H' → Q (.string (sv (sum (bv s)))) H') : wp (A_ref01_Sum [.string s]) Q H := f14_sum H s hs Q hQ

theorem and15 (x : BitVec 8) : x &&& 15#8 = BitVec.ofNat 8 (x.toNat % 16) := by revert x; decide
theorem shr4 (x : BitVec 8) : x >>> 4 = BitVec.ofNat 8 (x.toNat / 16) := by revert x; decide
theorem u8_and15 (x : BitVec 8) : bin .and (B x) (.int .u8 15) = some (.int .u8 ((x.toNat % 16 : Nat) : Int)) := by
  have h := b_lt x
  rw [show Value.int .u8 15 = B 15#8 from rfl, u8_and, and15, ← B_lit _ (by omega)]
theorem u8_shr4 (x : BitVec 8) (k : IntKind) : bin .shr (B x) (.int k 4) = some (.int .u8 ((x.toNat / 16 : Nat) : Int)) := by
  have h := b_lt x
  rw [u8_shr (by omega), show (4 : Int).toNat = 4 from rfl, shr4, ← B_lit _ (by omega)]
theorem hexl_snoc (l : List (BitVec 8)) (b : BitVec 8) : hexl (l ++ [b]) = hexl l ++ [hexd (b.toNat / 16), hexd (b.toNat % 16)] := by simp [hexl]
theorem take_snoc {α : Type} (l : List α) (i : Nat) (d : α) (h : i < l.length) : l.take (i + 1) = l.take i ++ [l.getD i d] := by
  rw [List.take_succ, List.getD_eq_getElem?_getD, List.getElem?_eq_getElem h]; rfl

theorem sha_Hex_ok (H : Heap) (s : ByteArray) (hs : s.size ≤ 1099511627776) (Q : V → Heap → Prop) (hQ : ∀ H', Keeps [] H H' → Q (.string (sv (hexl (bv s)))) H') : wp (A_sha_Hex [.string s]) Q H := by
  have hbl := bv_length s
  show wp (F_sha_Hex (.string s)) Q H
  (try simp (maxSteps := 1000000) (disch := first | omega | (simp; done) | assumption | decide | (refine not_not_intro ?_; assumption)) only [at_zero, at_succ, wp_bnd, wp_lift, wpO_some, wp_ret, nx_nxt, nx_brk, nx_ret, unblk_nxt, unblk_ret, unblk_brk, finM_nxt, finM_ret, outV_one, condM_t, condM_f, condM_dt, condM_df, gd_t, gd_f, gdf_t, gdf_f, gd_skip, gd_dt, gd_df, gdf_dt, gdf_df, pick_t, pick_f, pick_dt, pick_df, not_t, not_f, not_dec, isNil_ptr, isNil_ptr', isNil_pnil, isNil_pnil', nilck_ptr, faddr_ptr, Nat.zero_add, Nat.add_zero, wp_ld1, lenStr_str, lenSlc_slice, strV_str, i64_add, i64_sub, i64_mul, i64_in, int_eqd, int_ned, int_lss, int_leq, int_gtr, int_geq, str_eqd, str_ned, if_true, wp_bndH, wp_withH, wp_need, enc_int, enc_str, enc_byte, enc_bool, List.getElem?_cons_zero, List.getElem?_cons_succ, F_sha_Hex])
  refine wp_loop (Inv := fun k vs H' => ∃ (i : Nat) (v : V), k = s.size - i ∧ i ≤ s.size ∧ vs = [.string s, v, i64 s.size, i64 i] ∧ Own H' v ((hexl ((bv s).take i)).map B) ∧ Keeps [] H H' ∧ ∀ x ∈ vb v, H.next ≤ x) (n := s.size) (by unfold FUEL; omega)
    ⟨0, _, by omega, by omega, rfl, Own.nil _, Keeps.refl _ _, by simp⟩ ?_
  rintro k vs H' ⟨i, v, hk, hi, rfl, ho, hke, hf⟩
  have hlen : ((hexl ((bv s).take i)).map B).length = 2 * i := by rw [List.length_map, hexl_length, List.length_take]; omega
  by_cases h : i < s.size
  · have hb := b_lt ((bv s).getD i 0)
    (try simp (maxSteps := 1000000) (disch := first | omega | (simp; done) | assumption | decide | (refine not_not_intro ?_; assumption)) only [at_zero, at_succ, wp_bnd, wp_lift, wpO_some, wp_ret, nx_nxt, nx_brk, nx_ret, unblk_nxt, unblk_ret, unblk_brk, finM_nxt, finM_ret, outV_one, condM_t, condM_f, condM_dt, condM_df, gd_t, gd_f, gdf_t, gdf_f, gd_skip, gd_dt, gd_df, gdf_dt, gdf_df, pick_t, pick_f, pick_dt, pick_df, not_t, not_f, not_dec, isNil_ptr, isNil_ptr', isNil_pnil, isNil_pnil', nilck_ptr, faddr_ptr, Nat.zero_add, Nat.add_zero, wp_ld1, lenStr_str, lenSlc_slice, strV_str, i64_add, i64_sub, i64_mul, i64_in, int_eqd, int_ned, int_lss, int_leq, int_gtr, int_geq, str_eqd, str_ned, if_true, wp_bndH, wp_withH, wp_need, enc_int, enc_str, enc_byte, enc_bool, List.getElem?_cons_zero, List.getElem?_cons_succ, sha_Hex_l2, sha_Hex_k1, idxS_bv, Int.toNat_natCast, u8_and15, u8_shr4, idx_digits])
    refine wp_app (new := [B (hexd (((bv s).getD i 0).toNat / 16)), B (hexd (((bv s).getD i 0).toNat % 16))]) ho (by rfl) (by rfl) (by omega) (by rfl) (by rfl) (by rw [hlen]; simp; omega) (by rw [hlen]; simp; omega) fun c H3 o3 k3 f3 => ?_
    (try simp (maxSteps := 1000000) (disch := first | omega | (simp; done) | assumption | decide | (refine not_not_intro ?_; assumption)) only [at_zero, at_succ, wp_bnd, wp_lift, wpO_some, wp_ret, nx_nxt, nx_brk, nx_ret, unblk_nxt, unblk_ret, unblk_brk, finM_nxt, finM_ret, outV_one, condM_t, condM_f, condM_dt, condM_df, gd_t, gd_f, gdf_t, gdf_f, gd_skip, gd_dt, gd_df, gdf_dt, gdf_df, pick_t, pick_f, pick_dt, pick_df, not_t, not_f, not_dec, isNil_ptr, isNil_ptr', isNil_pnil, isNil_pnil', nilck_ptr, faddr_ptr, Nat.zero_add, Nat.add_zero, wp_ld1, lenStr_str, lenSlc_slice, strV_str, i64_add, i64_sub, i64_mul, i64_in, int_eqd, int_ned, int_lss, int_leq, int_gtr, int_geq, str_eqd, str_ned, if_true, wp_bndH, wp_withH, wp_need, enc_int, enc_str, enc_byte, enc_bool, List.getElem?_cons_zero, List.getElem?_cons_succ, sha_Hex_k0])
    refine ⟨s.size - (i + 1), by omega, i + 1, _, rfl, by omega, rfl, ?_, hke.trans k3 (fun b hb hm => by have := hf b hm; omega), fun x hx => by simp at hx; have := hke.next; omega⟩
    rw [take_snoc _ _ 0 (by omega), hexl_snoc, List.map_append]
    exact o3
  · have : i = s.size := by omega
    subst this
    (try simp (maxSteps := 1000000) (disch := first | omega | (simp; done) | assumption | decide | (refine not_not_intro ?_; assumption)) only [at_zero, at_succ, wp_bnd, wp_lift, wpO_some, wp_ret, nx_nxt, nx_brk, nx_ret, unblk_nxt, unblk_ret, unblk_brk, finM_nxt, finM_ret, outV_one, condM_t, condM_f, condM_dt, condM_df, gd_t, gd_f, gdf_t, gdf_f, gd_skip, gd_dt, gd_df, gdf_dt, gdf_df, pick_t, pick_f, pick_dt, pick_df, not_t, not_f, not_dec, isNil_ptr, isNil_ptr', isNil_pnil, isNil_pnil', nilck_ptr, faddr_ptr, Nat.zero_add, Nat.add_zero, wp_ld1, lenStr_str, lenSlc_slice, strV_str, i64_add, i64_sub, i64_mul, i64_in, int_eqd, int_ned, int_lss, int_leq, int_gtr, int_geq, str_eqd, str_ned, if_true, wp_bndH, wp_withH, wp_need, enc_int, enc_str, enc_byte, enc_bool, List.getElem?_cons_zero, List.getElem?_cons_succ, sha_Hex_l2, sha_Hex_k3])
    refine own_b2s ho ?_
    rw [List.take_of_length_le (by omega)]
    (try simp (maxSteps := 1000000) (disch := first | omega | (simp; done) | assumption | decide | (refine not_not_intro ?_; assumption)) only [at_zero, at_succ, wp_bnd, wp_lift, wpO_some, wp_ret, nx_nxt, nx_brk, nx_ret, unblk_nxt, unblk_ret, unblk_brk, finM_nxt, finM_ret, outV_one, condM_t, condM_f, condM_dt, condM_df, gd_t, gd_f, gdf_t, gdf_f, gd_skip, gd_dt, gd_df, gdf_dt, gdf_df, pick_t, pick_f, pick_dt, pick_df, not_t, not_f, not_dec, isNil_ptr, isNil_ptr', isNil_pnil, isNil_pnil', nilck_ptr, faddr_ptr, Nat.zero_add, Nat.add_zero, wp_ld1, lenStr_str, lenSlc_slice, strV_str, i64_add, i64_sub, i64_mul, i64_in, int_eqd, int_ned, int_lss, int_leq, int_gtr, int_geq, str_eqd, str_ned, if_true, wp_bndH, wp_withH, wp_need, enc_int, enc_str, enc_byte, enc_bool, List.getElem?_cons_zero, List.getElem?_cons_succ])
    exact hQ _ hke

theorem ref01_Hex_ok (H : Heap) (s : ByteArray) (hs : s.size ≤ 1099511627776) (Q : V → Heap → Prop) (hQ : ∀ H', Keeps [] H H' → Q (.string (sv (hexl (bv s)))) H') : wp (A_ref01_Hex [.string s]) Q H := by
  have hbl := bv_length s
  show wp (F_ref01_Hex (.string s)) Q H
  (try simp (maxSteps := 1000000) (disch := first | omega | (simp; done) | assumption | decide | (refine not_not_intro ?_; assumption)) only [at_zero, at_succ, wp_bnd, wp_lift, wpO_some, wp_ret, nx_nxt, nx_brk, nx_ret, unblk_nxt, unblk_ret, unblk_brk, finM_nxt, finM_ret, outV_one, condM_t, condM_f, condM_dt, condM_df, gd_t, gd_f, gdf_t, gdf_f, gd_skip, gd_dt, gd_df, gdf_dt, gdf_df, pick_t, pick_f, pick_dt, pick_df, not_t, not_f, not_dec, isNil_ptr, isNil_ptr', isNil_pnil, isNil_pnil', nilck_ptr, faddr_ptr, Nat.zero_add, Nat.add_zero, wp_ld1, lenStr_str, lenSlc_slice, strV_str, i64_add, i64_sub, i64_mul, i64_in, int_eqd, int_ned, int_lss, int_leq, int_gtr, int_geq, str_eqd, str_ned, if_true, wp_bndH, wp_withH, wp_need, enc_int, enc_str, enc_byte, enc_bool, List.getElem?_cons_zero, List.getElem?_cons_succ, F_ref01_Hex])
  generalize hdig : Value.string ⟨#[48, 49, 50, 51, 52, 53, 54, 55, 56, 57, 97, 98, 99, 100, 101, 102]⟩ = dig
  have hd : ∀ (k : IntKind) (n : Nat), n < 16 → idxS dig (.int k (n : Int)) = some (B (hexd n)) := fun k n h => by rw [← hdig]; exact idx_digits h
  refine wp_loop (Inv := fun k vs H' => ∃ (i : Nat) (v : V), k = s.size - i ∧ i ≤ s.size ∧ vs = [.string s, dig, v, i64 i] ∧ Own H' v ((hexl ((bv s).take i)).map B) ∧ Keeps [] H H' ∧ ∀ x ∈ vb v, H.next ≤ x) (n := s.size) (by unfold FUEL; omega)
    ⟨0, _, by omega, by omega, rfl, Own.nil _, Keeps.refl _ _, by simp⟩ ?_
  rintro k vs H' ⟨i, v, hk, hi, rfl, ho, hke, hf⟩
  have hlen : ((hexl ((bv s).take i)).map B).length = 2 * i := by rw [List.length_map, hexl_length, List.length_take]; omega
  by_cases h : i < s.size
  · have hb := b_lt ((bv s).getD i 0)
    have e1 : (((bv s).getD i 0).toNat : Int) / 16 = ((((bv s).getD i 0).toNat / 16 : Nat) : Int) := by omega
    have e2 : (((bv s).getD i 0).toNat : Int) % 16 = ((((bv s).getD i 0).toNat % 16 : Nat) : Int) := by omega
    (try simp (maxSteps := 1000000) (disch := first | omega | (simp; done) | assumption | decide | (refine not_not_intro ?_; assumption)) only [at_zero, at_succ, wp_bnd, wp_lift, wpO_some, wp_ret, nx_nxt, nx_brk, nx_ret, unblk_nxt, unblk_ret, unblk_brk, finM_nxt, finM_ret, outV_one, condM_t, condM_f, condM_dt, condM_df, gd_t, gd_f, gdf_t, gdf_f, gd_skip, gd_dt, gd_df, gdf_dt, gdf_df, pick_t, pick_f, pick_dt, pick_df, not_t, not_f, not_dec, isNil_ptr, isNil_ptr', isNil_pnil, isNil_pnil', nilck_ptr, faddr_ptr, Nat.zero_add, Nat.add_zero, wp_ld1, lenStr_str, lenSlc_slice, strV_str, i64_add, i64_sub, i64_mul, i64_in, int_eqd, int_ned, int_lss, int_leq, int_gtr, int_geq, str_eqd, str_ned, if_true, wp_bndH, wp_withH, wp_need, enc_int, enc_str, enc_byte, enc_bool, List.getElem?_cons_zero, List.getElem?_cons_succ, ref01_Hex_l2, ref01_Hex_k1, idxS_bv, int_quon, int_remn, u8_in, Int.toNat_natCast, e1, e2, hd])
    refine wp_app (new := [B (hexd (((bv s).getD i 0).toNat / 16)), B (hexd (((bv s).getD i 0).toNat % 16))]) ho (by rfl) (by rfl) (by omega) (by rfl) (by rfl) (by rw [hlen]; simp; omega) (by rw [hlen]; simp; omega) fun c H3 o3 k3 f3 => ?_
    (try simp (maxSteps := 1000000) (disch := first | omega | (simp; done) | assumption | decide | (refine not_not_intro ?_; assumption)) only [at_zero, at_succ, wp_bnd, wp_lift, wpO_some, wp_ret, nx_nxt, nx_brk, nx_ret, unblk_nxt, unblk_ret, unblk_brk, finM_nxt, finM_ret, outV_one, condM_t, condM_f, condM_dt, condM_df, gd_t, gd_f, gdf_t, gdf_f, gd_skip, gd_dt, gd_df, gdf_dt, gdf_df, pick_t, pick_f, pick_dt, pick_df, not_t, not_f, not_dec, isNil_ptr, isNil_ptr', isNil_pnil, isNil_pnil', nilck_ptr, faddr_ptr, Nat.zero_add, Nat.add_zero, wp_ld1, lenStr_str, lenSlc_slice, strV_str, i64_add, i64_sub, i64_mul, i64_in, int_eqd, int_ned, int_lss, int_leq, int_gtr, int_geq, str_eqd, str_ned, if_true, wp_bndH, wp_withH, wp_need, enc_int, enc_str, enc_byte, enc_bool, List.getElem?_cons_zero, List.getElem?_cons_succ, ref01_Hex_k0])
    refine ⟨s.size - (i + 1), by omega, i + 1, _, rfl, by omega, rfl, ?_, hke.trans k3 (fun b hb hm => by have := hf b hm; omega), fun x hx => by simp at hx; have := hke.next; omega⟩
    rw [take_snoc _ _ 0 (by omega), hexl_snoc, List.map_append]
    exact o3
  · have : i = s.size := by omega
    subst this
    (try simp (maxSteps := 1000000) (disch := first | omega | (simp; done) | assumption | decide | (refine not_not_intro ?_; assumption)) only [at_zero, at_succ, wp_bnd, wp_lift, wpO_some, wp_ret, nx_nxt, nx_brk, nx_ret, unblk_nxt, unblk_ret, unblk_brk, finM_nxt, finM_ret, outV_one, condM_t, condM_f, condM_dt, condM_df, gd_t, gd_f, gdf_t, gdf_f, gd_skip, gd_dt, gd_df, gdf_dt, gdf_df, pick_t, pick_f, pick_dt, pick_df, not_t, not_f, not_dec, isNil_ptr, isNil_ptr', isNil_pnil, isNil_pnil', nilck_ptr, faddr_ptr, Nat.zero_add, Nat.add_zero, wp_ld1, lenStr_str, lenSlc_slice, strV_str, i64_add, i64_sub, i64_mul, i64_in, int_eqd, int_ned, int_lss, int_leq, int_gtr, int_geq, str_eqd, str_ned, if_true, wp_bndH, wp_withH, wp_need, enc_int, enc_str, enc_byte, enc_bool, List.getElem?_cons_zero, List.getElem?_cons_succ, ref01_Hex_l2, ref01_Hex_k3])
    refine own_b2s ho ?_
    rw [List.take_of_length_le (by omega)]
    (try simp (maxSteps := 1000000) (disch := first | omega | (simp; done) | assumption | decide | (refine not_not_intro ?_; assumption)) only [at_zero, at_succ, wp_bnd, wp_lift, wpO_some, wp_ret, nx_nxt, nx_brk, nx_ret, unblk_nxt, unblk_ret, unblk_brk, finM_nxt, finM_ret, outV_one, condM_t, condM_f, condM_dt, condM_df, gd_t, gd_f, gdf_t, gdf_f, gd_skip, gd_dt, gd_df, gdf_dt, gdf_df, pick_t, pick_f, pick_dt, pick_df, not_t, not_f, not_dec, isNil_ptr, isNil_ptr', isNil_pnil, isNil_pnil', nilck_ptr, faddr_ptr, Nat.zero_add, Nat.add_zero, wp_ld1, lenStr_str, lenSlc_slice, strV_str, i64_add, i64_sub, i64_mul, i64_in, int_eqd, int_ned, int_lss, int_leq, int_gtr, int_geq, str_eqd, str_ned, if_true, wp_bndH, wp_withH, wp_need, enc_int, enc_str, enc_byte, enc_bool, List.getElem?_cons_zero, List.getElem?_cons_succ])
    exact hQ _ hke

theorem names_ok (H : Heap) (Q : V → Heap → Prop) (hQ : Q (.bool true) H) : wp (A_law01_names []) Q H := by
  show wp F_law01_names Q H
  (try simp (maxSteps := 1000000) (disch := first | omega | (simp; done) | assumption | decide | (refine not_not_intro ?_; assumption)) only [at_zero, at_succ, wp_bnd, wp_lift, wpO_some, wp_ret, nx_nxt, nx_brk, nx_ret, unblk_nxt, unblk_ret, unblk_brk, finM_nxt, finM_ret, outV_one, condM_t, condM_f, condM_dt, condM_df, gd_t, gd_f, gdf_t, gdf_f, gd_skip, gd_dt, gd_df, gdf_dt, gdf_df, pick_t, pick_f, pick_dt, pick_df, not_t, not_f, not_dec, isNil_ptr, isNil_ptr', isNil_pnil, isNil_pnil', nilck_ptr, faddr_ptr, Nat.zero_add, Nat.add_zero, wp_ld1, lenStr_str, lenSlc_slice, strV_str, i64_add, i64_sub, i64_mul, i64_in, int_eqd, int_ned, int_lss, int_leq, int_gtr, int_geq, str_eqd, str_ned, if_true, wp_bndH, wp_withH, wp_need, enc_int, enc_str, enc_byte, enc_bool, List.getElem?_cons_zero, List.getElem?_cons_succ, F_law01_names])
  exact hQ

theorem hex_abc : sv (hexl (bv (sv (sum (bv ⟨#[97, 98, 99]⟩))))) = ⟨#[98, 97, 55, 56, 49, 54, 98, 102, 56, 102, 48, 49, 99, 102, 101, 97, 52, 49, 52, 49, 52, 48, 100, 101, 53, 100, 97, 101, 50, 50, 50, 51, 98, 48, 48, 51, 54, 49, 97, 51, 57, 54, 49, 55, 55, 97, 57, 99, 98, 52, 49, 48, 102, 102, 54, 49, 102, 50, 48, 48, 49, 53, 97, 100]⟩ := by
  apply bv_inj; rw [bv_sv, bv_sv]; kernel_rfl
theorem hex_nil : sv (hexl (bv (sv (sum (bv ⟨#[]⟩))))) = ⟨#[101, 51, 98, 48, 99, 52, 52, 50, 57, 56, 102, 99, 49, 99, 49, 52, 57, 97, 102, 98, 102, 52, 99, 56, 57, 57, 54, 102, 98, 57, 50, 52, 50, 55, 97, 101, 52, 49, 101, 52, 54, 52, 57, 98, 57, 51, 52, 99, 97, 52, 57, 53, 57, 57, 49, 98, 55, 56, 53, 50, 98, 56, 53, 53]⟩ := by
  apply bv_inj; rw [bv_sv, bv_sv]; kernel_rfl
theorem sum_length (l : List (BitVec 8)) : (sum l).length = 32 := rfl

theorem sha_works_ok (H : Heap) (hf : First H) (ht : Tab H) (Q : V → Heap → Prop) (hQ : ∀ H', Keeps [] H H' → Q (.bool true) H') : wp (A_law01_works []) Q H := by
  show wp F_law01_works Q H
  simp only [F_law01_works, wp_bnd]
  refine sha_Sum_ok H _ (by decide) hf ht _ fun H1 k1 => ?_
  refine sha_Hex_ok H1 _ (by rw [sv_size, sum_length]; omega) _ fun H2 k2 => ?_
  have k02 := k1.trans k2 (fun _ _ h => h)
  rw [hex_abc]
  (try simp (maxSteps := 1000000) (disch := first | omega | (simp; done) | assumption | decide | (refine not_not_intro ?_; assumption)) only [at_zero, at_succ, wp_bnd, wp_lift, wpO_some, wp_ret, nx_nxt, nx_brk, nx_ret, unblk_nxt, unblk_ret, unblk_brk, finM_nxt, finM_ret, outV_one, condM_t, condM_f, condM_dt, condM_df, gd_t, gd_f, gdf_t, gdf_f, gd_skip, gd_dt, gd_df, gdf_dt, gdf_df, pick_t, pick_f, pick_dt, pick_df, not_t, not_f, not_dec, isNil_ptr, isNil_ptr', isNil_pnil, isNil_pnil', nilck_ptr, faddr_ptr, Nat.zero_add, Nat.add_zero, wp_ld1, lenStr_str, lenSlc_slice, strV_str, i64_add, i64_sub, i64_mul, i64_in, int_eqd, int_ned, int_lss, int_leq, int_gtr, int_geq, str_eqd, str_ned, if_true, wp_bndH, wp_withH, wp_need, enc_int, enc_str, enc_byte, enc_bool, List.getElem?_cons_zero, List.getElem?_cons_succ])
  refine sha_Sum_ok H2 _ (by decide) (hf.keep k02 (by simp)) (ht.keep k02 (by simp)) _ fun H3 k3 => ?_
  (try simp (maxSteps := 1000000) (disch := first | omega | (simp; done) | assumption | decide | (refine not_not_intro ?_; assumption)) only [at_zero, at_succ, wp_bnd, wp_lift, wpO_some, wp_ret, nx_nxt, nx_brk, nx_ret, unblk_nxt, unblk_ret, unblk_brk, finM_nxt, finM_ret, outV_one, condM_t, condM_f, condM_dt, condM_df, gd_t, gd_f, gdf_t, gdf_f, gd_skip, gd_dt, gd_df, gdf_dt, gdf_df, pick_t, pick_f, pick_dt, pick_df, not_t, not_f, not_dec, isNil_ptr, isNil_ptr', isNil_pnil, isNil_pnil', nilck_ptr, faddr_ptr, Nat.zero_add, Nat.add_zero, wp_ld1, lenStr_str, lenSlc_slice, strV_str, i64_add, i64_sub, i64_mul, i64_in, int_eqd, int_ned, int_lss, int_leq, int_gtr, int_geq, str_eqd, str_ned, if_true, wp_bndH, wp_withH, wp_need, enc_int, enc_str, enc_byte, enc_bool, List.getElem?_cons_zero, List.getElem?_cons_succ])
  refine sha_Hex_ok H3 _ (by rw [sv_size, sum_length]; omega) _ fun H4 k4 => ?_
  rw [hex_nil]
  (try simp (maxSteps := 1000000) (disch := first | omega | (simp; done) | assumption | decide | (refine not_not_intro ?_; assumption)) only [at_zero, at_succ, wp_bnd, wp_lift, wpO_some, wp_ret, nx_nxt, nx_brk, nx_ret, unblk_nxt, unblk_ret, unblk_brk, finM_nxt, finM_ret, outV_one, condM_t, condM_f, condM_dt, condM_df, gd_t, gd_f, gdf_t, gdf_f, gd_skip, gd_dt, gd_df, gdf_dt, gdf_df, pick_t, pick_f, pick_dt, pick_df, not_t, not_f, not_dec, isNil_ptr, isNil_ptr', isNil_pnil, isNil_pnil', nilck_ptr, faddr_ptr, Nat.zero_add, Nat.add_zero, wp_ld1, lenStr_str, lenSlc_slice, strV_str, i64_add, i64_sub, i64_mul, i64_in, int_eqd, int_ned, int_lss, int_leq, int_gtr, int_geq, str_eqd, str_ned, if_true, wp_bndH, wp_withH, wp_need, enc_int, enc_str, enc_byte, enc_bool, List.getElem?_cons_zero, List.getElem?_cons_succ])
  exact hQ _ ((k02.trans k3 (fun _ _ h => h)).trans k4 (fun _ _ h => h))

/-- ShaSums -/
theorem ShaSums_ok (H : Heap) (s : ByteArray) (hs : s.size ≤ 1099511627776) (hf : First H) (ht : Tab H) (Q : V → Heap → Prop) (hQ : ∀ H', Keeps [] H H' → Q (.bool true) H') : wp (A_law01_ShaSums [.string s]) Q H := by
  show wp (F_law01_ShaSums (.string s)) Q H
  simp only [F_law01_ShaSums, wp_bnd]
  refine names_ok H _ ?_
  (try simp (maxSteps := 1000000) (disch := first | omega | (simp; done) | assumption | decide | (refine not_not_intro ?_; assumption)) only [at_zero, at_succ, wp_bnd, wp_lift, wpO_some, wp_ret, nx_nxt, nx_brk, nx_ret, unblk_nxt, unblk_ret, unblk_brk, finM_nxt, finM_ret, outV_one, condM_t, condM_f, condM_dt, condM_df, gd_t, gd_f, gdf_t, gdf_f, gd_skip, gd_dt, gd_df, gdf_dt, gdf_df, pick_t, pick_f, pick_dt, pick_df, not_t, not_f, not_dec, isNil_ptr, isNil_ptr', isNil_pnil, isNil_pnil', nilck_ptr, faddr_ptr, Nat.zero_add, Nat.add_zero, wp_ld1, lenStr_str, lenSlc_slice, strV_str, i64_add, i64_sub, i64_mul, i64_in, int_eqd, int_ned, int_lss, int_leq, int_gtr, int_geq, str_eqd, str_ned, if_true, wp_bndH, wp_withH, wp_need, enc_int, enc_str, enc_byte, enc_bool, List.getElem?_cons_zero, List.getElem?_cons_succ])
  refine sha_Sum_ok H s hs hf ht _ fun H1 k1 => ?_
  (try simp (maxSteps := 1000000) (disch := first | omega | (simp; done) | assumption | decide | (refine not_not_intro ?_; assumption)) only [at_zero, at_succ, wp_bnd, wp_lift, wpO_some, wp_ret, nx_nxt, nx_brk, nx_ret, unblk_nxt, unblk_ret, unblk_brk, finM_nxt, finM_ret, outV_one, condM_t, condM_f, condM_dt, condM_df, gd_t, gd_f, gdf_t, gdf_f, gd_skip, gd_dt, gd_df, gdf_dt, gdf_df, pick_t, pick_f, pick_dt, pick_df, not_t, not_f, not_dec, isNil_ptr, isNil_ptr', isNil_pnil, isNil_pnil', nilck_ptr, faddr_ptr, Nat.zero_add, Nat.add_zero, wp_ld1, lenStr_str, lenSlc_slice, strV_str, i64_add, i64_sub, i64_mul, i64_in, int_eqd, int_ned, int_lss, int_leq, int_gtr, int_geq, str_eqd, str_ned, if_true, wp_bndH, wp_withH, wp_need, enc_int, enc_str, enc_byte, enc_bool, List.getElem?_cons_zero, List.getElem?_cons_succ])
  refine ref01_Sum_ok H1 s hs _ fun H2 k2 => ?_
  (try simp (maxSteps := 1000000) (disch := first | omega | (simp; done) | assumption | decide | (refine not_not_intro ?_; assumption)) only [at_zero, at_succ, wp_bnd, wp_lift, wpO_some, wp_ret, nx_nxt, nx_brk, nx_ret, unblk_nxt, unblk_ret, unblk_brk, finM_nxt, finM_ret, outV_one, condM_t, condM_f, condM_dt, condM_df, gd_t, gd_f, gdf_t, gdf_f, gd_skip, gd_dt, gd_df, gdf_dt, gdf_df, pick_t, pick_f, pick_dt, pick_df, not_t, not_f, not_dec, isNil_ptr, isNil_ptr', isNil_pnil, isNil_pnil', nilck_ptr, faddr_ptr, Nat.zero_add, Nat.add_zero, wp_ld1, lenStr_str, lenSlc_slice, strV_str, i64_add, i64_sub, i64_mul, i64_in, int_eqd, int_ned, int_lss, int_leq, int_gtr, int_geq, str_eqd, str_ned, if_true, wp_bndH, wp_withH, wp_need, enc_int, enc_str, enc_byte, enc_bool, List.getElem?_cons_zero, List.getElem?_cons_succ])
  refine sha_Hex_ok H2 s hs _ fun H3 k3 => ?_
  (try simp (maxSteps := 1000000) (disch := first | omega | (simp; done) | assumption | decide | (refine not_not_intro ?_; assumption)) only [at_zero, at_succ, wp_bnd, wp_lift, wpO_some, wp_ret, nx_nxt, nx_brk, nx_ret, unblk_nxt, unblk_ret, unblk_brk, finM_nxt, finM_ret, outV_one, condM_t, condM_f, condM_dt, condM_df, gd_t, gd_f, gdf_t, gdf_f, gd_skip, gd_dt, gd_df, gdf_dt, gdf_df, pick_t, pick_f, pick_dt, pick_df, not_t, not_f, not_dec, isNil_ptr, isNil_ptr', isNil_pnil, isNil_pnil', nilck_ptr, faddr_ptr, Nat.zero_add, Nat.add_zero, wp_ld1, lenStr_str, lenSlc_slice, strV_str, i64_add, i64_sub, i64_mul, i64_in, int_eqd, int_ned, int_lss, int_leq, int_gtr, int_geq, str_eqd, str_ned, if_true, wp_bndH, wp_withH, wp_need, enc_int, enc_str, enc_byte, enc_bool, List.getElem?_cons_zero, List.getElem?_cons_succ])
  refine ref01_Hex_ok H3 s hs _ fun H4 k4 => ?_
  (try simp (maxSteps := 1000000) (disch := first | omega | (simp; done) | assumption | decide | (refine not_not_intro ?_; assumption)) only [at_zero, at_succ, wp_bnd, wp_lift, wpO_some, wp_ret, nx_nxt, nx_brk, nx_ret, unblk_nxt, unblk_ret, unblk_brk, finM_nxt, finM_ret, outV_one, condM_t, condM_f, condM_dt, condM_df, gd_t, gd_f, gdf_t, gdf_f, gd_skip, gd_dt, gd_df, gdf_dt, gdf_df, pick_t, pick_f, pick_dt, pick_df, not_t, not_f, not_dec, isNil_ptr, isNil_ptr', isNil_pnil, isNil_pnil', nilck_ptr, faddr_ptr, Nat.zero_add, Nat.add_zero, wp_ld1, lenStr_str, lenSlc_slice, strV_str, i64_add, i64_sub, i64_mul, i64_in, int_eqd, int_ned, int_lss, int_leq, int_gtr, int_geq, str_eqd, str_ned, if_true, wp_bndH, wp_withH, wp_need, enc_int, enc_str, enc_byte, enc_bool, List.getElem?_cons_zero, List.getElem?_cons_succ])
  have kk := ((k1.trans k2 (fun _ _ h => h)).trans k3 (fun _ _ h => h)).trans k4 (fun _ _ h => h)
  refine sha_works_ok H4 (hf.keep kk (by simp)) (ht.keep kk (by simp)) _ fun H5 k5 => ?_
  (try simp (maxSteps := 1000000) (disch := first | omega | (simp; done) | assumption | decide | (refine not_not_intro ?_; assumption)) only [at_zero, at_succ, wp_bnd, wp_lift, wpO_some, wp_ret, nx_nxt, nx_brk, nx_ret, unblk_nxt, unblk_ret, unblk_brk, finM_nxt, finM_ret, outV_one, condM_t, condM_f, condM_dt, condM_df, gd_t, gd_f, gdf_t, gdf_f, gd_skip, gd_dt, gd_df, gdf_dt, gdf_df, pick_t, pick_f, pick_dt, pick_df, not_t, not_f, not_dec, isNil_ptr, isNil_ptr', isNil_pnil, isNil_pnil', nilck_ptr, faddr_ptr, Nat.zero_add, Nat.add_zero, wp_ld1, lenStr_str, lenSlc_slice, strV_str, i64_add, i64_sub, i64_mul, i64_in, int_eqd, int_ned, int_lss, int_leq, int_gtr, int_geq, str_eqd, str_ned, if_true, wp_bndH, wp_withH, wp_need, enc_int, enc_str, enc_byte, enc_bool, List.getElem?_cons_zero, List.getElem?_cons_succ])
  exact hQ _ (kk.trans k5 (fun _ _ h => h))
end Go.AM.Cap
