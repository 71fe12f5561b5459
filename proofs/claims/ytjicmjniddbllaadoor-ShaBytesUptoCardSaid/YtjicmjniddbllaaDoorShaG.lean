/- sha: the laws on lengths, pieces, bytes -/
import Derived.Test.YtjicmjniddbllaaDoorShaF
import Derived.Test.YtjicmjniddbllaaDoorAmSlc
set_option linter.all false
namespace Go.AM.Cap
open Go.AM Go.Proofs

theorem value_hexd (n : Nat) (h : n < 16) : A_law01_value [B (hexd n)] = ret (i64 n) := by
  have : n = 0 ∨ n = 1 ∨ n = 2 ∨ n = 3 ∨ n = 4 ∨ n = 5 ∨ n = 6 ∨ n = 7 ∨ n = 8 ∨ n = 9 ∨ n = 10 ∨ n = 11 ∨ n = 12 ∨ n = 13 ∨ n = 14 ∨ n = 15 := by omega
  funext H
  rcases this with h | h | h | h | h | h | h | h | h | h | h | h | h | h | h | h <;> subst h <;> rfl

theorem hexl_at : ∀ (l : List (BitVec 8)) (i : Nat), i < l.length → (hexl l).getD (2 * i) 0 = hexd ((l.getD i 0).toNat / 16) ∧ (hexl l).getD (2 * i + 1) 0 = hexd ((l.getD i 0).toNat % 16)
  | [], i, h => by simp at h
  | b :: l, 0, _ => ⟨rfl, rfl⟩
  | b :: l, i + 1, h => by
    have := hexl_at l i (by simpa using h)
    have e1 : 2 * (i + 1) = (2 * i + 1) + 1 := by omega
    have e2 : 2 * (i + 1) + 1 = (2 * i + 1 + 1) + 1 := by omega
    rw [e1]
    simpa [hexl] using this

theorem ShaLong_ok (H : Heap) (s : ByteArray) (hs : s.size ≤ 1048576) (hf : First H) (ht : Tab H) (Q : V → Heap → Prop) (hQ : ∀ H', Q (.bool true) H') : wp (A_law01_ShaLong [.string s]) Q H := by
  have hbl := bv_length s
  show wp (F_law01_ShaLong (.string s)) Q H
  simp only [F_law01_ShaLong, wp_bnd]
  refine sha_works_ok H hf ht _ fun H1 k1 => ?_
  (try simp (maxSteps := 1000000) (disch := first | omega | simp | assumption) only [at_zero, at_succ, wp_bnd, wp_lift, wpO_some, wp_ret, nx_nxt, nx_brk, nx_ret, unblk_nxt, unblk_ret, unblk_brk, finM_nxt, finM_ret, outV_one, condM_t, condM_f, condM_dt, condM_df, gd_t, gd_f, gdf_t, gdf_f, gd_skip, gd_dt, gd_df, gdf_dt, gdf_df, pick_t, pick_f, pick_dt, pick_df, not_t, not_f, not_dec, isNil_ptr, isNil_ptr', isNil_pnil, isNil_pnil', nilck_ptr, faddr_ptr, Nat.zero_add, Nat.add_zero, wp_ld1, lenStr_str, lenSlc_slice, strV_str, i64_add, i64_sub, i64_mul, i64_in, int_eqd, int_ned, int_lss, int_leq, int_gtr, int_geq, str_eqd, str_ned, if_true, wp_bndH, wp_withH, wp_need, enc_int, enc_str, enc_byte, enc_bool, List.getElem?_cons_zero, List.getElem?_cons_succ, law01_ShaLong_k5])
  refine sha_Sum_ok H1 s (by omega) (hf.keep k1 (by simp)) (ht.keep k1 (by simp)) _ fun H2 k2 => ?_
  refine sha_Hex_ok H2 s (by omega) _ fun H3 k3 => ?_
  have e32 : (sv (sum (bv s))).size = 32 := by rw [sv_size, sum_length]
  (try simp (maxSteps := 1000000) (disch := first | omega | simp | assumption) only [at_zero, at_succ, wp_bnd, wp_lift, wpO_some, wp_ret, nx_nxt, nx_brk, nx_ret, unblk_nxt, unblk_ret, unblk_brk, finM_nxt, finM_ret, outV_one, condM_t, condM_f, condM_dt, condM_df, gd_t, gd_f, gdf_t, gdf_f, gd_skip, gd_dt, gd_df, gdf_dt, gdf_df, pick_t, pick_f, pick_dt, pick_df, not_t, not_f, not_dec, isNil_ptr, isNil_ptr', isNil_pnil, isNil_pnil', nilck_ptr, faddr_ptr, Nat.zero_add, Nat.add_zero, wp_ld1, lenStr_str, lenSlc_slice, strV_str, i64_add, i64_sub, i64_mul, i64_in, int_eqd, int_ned, int_lss, int_leq, int_gtr, int_geq, str_eqd, str_ned, if_true, wp_bndH, wp_withH, wp_need, enc_int, enc_str, enc_byte, enc_bool, List.getElem?_cons_zero, List.getElem?_cons_succ, e32])
  refine sha_Hex_ok H3 _ (by omega) _ fun H4 k4 => ?_
  have e64 : (sv (hexl (bv (sv (sum (bv s)))))).size = 64 := by rw [sv_size, hexl_length, bv_length, e32]
  have e2 : (sv (hexl (bv s))).size = 2 * s.size := by rw [sv_size, hexl_length, bv_length]
  (try simp (maxSteps := 1000000) (disch := first | omega | simp | assumption) only [at_zero, at_succ, wp_bnd, wp_lift, wpO_some, wp_ret, nx_nxt, nx_brk, nx_ret, unblk_nxt, unblk_ret, unblk_brk, finM_nxt, finM_ret, outV_one, condM_t, condM_f, condM_dt, condM_df, gd_t, gd_f, gdf_t, gdf_f, gd_skip, gd_dt, gd_df, gdf_dt, gdf_df, pick_t, pick_f, pick_dt, pick_df, not_t, not_f, not_dec, isNil_ptr, isNil_ptr', isNil_pnil, isNil_pnil', nilck_ptr, faddr_ptr, Nat.zero_add, Nat.add_zero, wp_ld1, lenStr_str, lenSlc_slice, strV_str, i64_add, i64_sub, i64_mul, i64_in, int_eqd, int_ned, int_lss, int_leq, int_gtr, int_geq, str_eqd, str_ned, if_true, wp_bndH, wp_withH, wp_need, enc_int, enc_str, enc_byte, enc_bool, List.getElem?_cons_zero, List.getElem?_cons_succ, e64, e2, law01_ShaLong_k4])
  refine wp_loop (Inv := fun k vs H' => ∃ i : Nat, k = s.size - i ∧ i ≤ s.size ∧ vs = [.string s, .string (sv (hexl (bv s))), i64 s.size, i64 i]) (n := s.size) (by unfold FUEL; omega)
    ⟨0, by omega, by omega, rfl⟩ ?_
  rintro k vs H' ⟨i, hk, hi, rfl⟩
  by_cases h : i < s.size
  · obtain ⟨g1, g2⟩ := hexl_at (bv s) i (by omega)
    have hb := b_lt ((bv s).getD i 0)
    have n1 : (2 * (i : Int)).toNat = 2 * i := by omega
    have n2 : (2 * (i : Int) + 1).toNat = 2 * i + 1 := by omega
    (try simp (maxSteps := 1000000) (disch := first | omega | simp | assumption) only [at_zero, at_succ, wp_bnd, wp_lift, wpO_some, wp_ret, nx_nxt, nx_brk, nx_ret, unblk_nxt, unblk_ret, unblk_brk, finM_nxt, finM_ret, outV_one, condM_t, condM_f, condM_dt, condM_df, gd_t, gd_f, gdf_t, gdf_f, gd_skip, gd_dt, gd_df, gdf_dt, gdf_df, pick_t, pick_f, pick_dt, pick_df, not_t, not_f, not_dec, isNil_ptr, isNil_ptr', isNil_pnil, isNil_pnil', nilck_ptr, faddr_ptr, Nat.zero_add, Nat.add_zero, wp_ld1, lenStr_str, lenSlc_slice, strV_str, i64_add, i64_sub, i64_mul, i64_in, int_eqd, int_ned, int_lss, int_leq, int_gtr, int_geq, str_eqd, str_ned, if_true, wp_bndH, wp_withH, wp_need, enc_int, enc_str, enc_byte, enc_bool, List.getElem?_cons_zero, List.getElem?_cons_succ, law01_ShaLong_l2, law01_ShaLong_k1, idxS_bv, e2, bv_sv, n1, n2, g1, g2, Int.toNat_natCast, cvi_int, value_hexd, law01_ShaLong_k0])
    exact ⟨s.size - (i + 1), by omega, i + 1, rfl, by omega, rfl⟩
  · have : i = s.size := by omega
    subst this
    (try simp (maxSteps := 1000000) (disch := first | omega | simp | assumption) only [at_zero, at_succ, wp_bnd, wp_lift, wpO_some, wp_ret, nx_nxt, nx_brk, nx_ret, unblk_nxt, unblk_ret, unblk_brk, finM_nxt, finM_ret, outV_one, condM_t, condM_f, condM_dt, condM_df, gd_t, gd_f, gdf_t, gdf_f, gd_skip, gd_dt, gd_df, gdf_dt, gdf_df, pick_t, pick_f, pick_dt, pick_df, not_t, not_f, not_dec, isNil_ptr, isNil_ptr', isNil_pnil, isNil_pnil', nilck_ptr, faddr_ptr, Nat.zero_add, Nat.add_zero, wp_ld1, lenStr_str, lenSlc_slice, strV_str, i64_add, i64_sub, i64_mul, i64_in, int_eqd, int_ned, int_lss, int_leq, int_gtr, int_geq, str_eqd, str_ned, if_true, wp_bndH, wp_withH, wp_need, enc_int, enc_str, enc_byte, enc_bool, List.getElem?_cons_zero, List.getElem?_cons_succ, law01_ShaLong_l2, law01_ShaLong_k3])
    exact hQ _

theorem sha_Len_ok {H : Heap} {p : Nat} {l : List (BitVec 8)} {v : V} (h : HashedV H p l v) {Q : V → Heap → Prop} (hQ : Q (i64 l.length) H) : wp (A_sha_Hash_Len [ptr p 0]) Q H := by
  show wp (F_sha_Hash_Len (ptr p 0)) Q H
  (try simp (maxSteps := 1000000) (disch := first | omega | simp | assumption) only [at_zero, at_succ, wp_bnd, wp_lift, wpO_some, wp_ret, nx_nxt, nx_brk, nx_ret, unblk_nxt, unblk_ret, unblk_brk, finM_nxt, finM_ret, outV_one, condM_t, condM_f, condM_dt, condM_df, gd_t, gd_f, gdf_t, gdf_f, gd_skip, gd_dt, gd_df, gdf_dt, gdf_df, pick_t, pick_f, pick_dt, pick_df, not_t, not_f, not_dec, isNil_ptr, isNil_ptr', isNil_pnil, isNil_pnil', nilck_ptr, faddr_ptr, Nat.zero_add, Nat.add_zero, wp_ld1, lenStr_str, lenSlc_slice, strV_str, i64_add, i64_sub, i64_mul, i64_in, int_eqd, int_ned, int_lss, int_leq, int_gtr, int_geq, str_eqd, str_ned, if_true, wp_bndH, wp_withH, wp_need, enc_int, enc_str, enc_byte, enc_bool, List.getElem?_cons_zero, List.getElem?_cons_succ, F_sha_Hash_Len, h.1.c9])
  exact hQ

theorem ShaBytes_ok (H : Heap) (s : ByteArray) (n : Int) (hs : s.size ≤ 1048576) (hn : -9223372036854775808 ≤ n ∧ n ≤ 9223372036854775807) (hf : First H) (ht : Tab H) (Q : V → Heap → Prop) (hQ : ∀ H', Q (.bool true) H') : wp (A_law01_ShaBytes [.string s, i64 n]) Q H := by
  have hbl := bv_length s
  have htl := ht.lt
  have hfl := hf.lt
  show wp (F_law01_ShaBytes (.string s) (i64 n)) Q H
  simp only [F_law01_ShaBytes, wp_bnd]
  refine sha_new_ok H hf _ fun p1 H1 h1 k1 e1 n1 => ?_
  refine sha_new_ok H1 (hf.keep k1 (by simp)) _ fun p2 H2 h2 k2 e2 n2 => ?_
  have k02 := k1.trans k2 (fun _ _ h => h)
  have h12 := h1.keep k2 (by simp)
  (try simp (maxSteps := 1000000) (disch := first | omega | simp | assumption) only [at_zero, at_succ, wp_bnd, wp_lift, wpO_some, wp_ret, nx_nxt, nx_brk, nx_ret, unblk_nxt, unblk_ret, unblk_brk, finM_nxt, finM_ret, outV_one, condM_t, condM_f, condM_dt, condM_df, gd_t, gd_f, gdf_t, gdf_f, gd_skip, gd_dt, gd_df, gdf_dt, gdf_df, pick_t, pick_f, pick_dt, pick_df, not_t, not_f, not_dec, isNil_ptr, isNil_ptr', isNil_pnil, isNil_pnil', nilck_ptr, faddr_ptr, Nat.zero_add, Nat.add_zero, wp_ld1, lenStr_str, lenSlc_slice, strV_str, i64_add, i64_sub, i64_mul, i64_in, int_eqd, int_ned, int_lss, int_leq, int_gtr, int_geq, str_eqd, str_ned, if_true, wp_bndH, wp_withH, wp_need, enc_int, enc_str, enc_byte, enc_bool, List.getElem?_cons_zero, List.getElem?_cons_succ])
  refine sha_works_ok H2 (hf.keep k02 (by simp)) (ht.keep k02 (by simp)) _ fun H3 k3 => ?_
  have k03 := k02.trans k3 (fun _ _ h => h)
  have h13 := h12.keep k3 (by simp)
  have h23 := h2.keep k3 (by simp)
  by_cases h400 : s.size > 400
  · (try simp (maxSteps := 1000000) (disch := first | omega | simp | assumption) only [at_zero, at_succ, wp_bnd, wp_lift, wpO_some, wp_ret, nx_nxt, nx_brk, nx_ret, unblk_nxt, unblk_ret, unblk_brk, finM_nxt, finM_ret, outV_one, condM_t, condM_f, condM_dt, condM_df, gd_t, gd_f, gdf_t, gdf_f, gd_skip, gd_dt, gd_df, gdf_dt, gdf_df, pick_t, pick_f, pick_dt, pick_df, not_t, not_f, not_dec, isNil_ptr, isNil_ptr', isNil_pnil, isNil_pnil', nilck_ptr, faddr_ptr, Nat.zero_add, Nat.add_zero, wp_ld1, lenStr_str, lenSlc_slice, strV_str, i64_add, i64_sub, i64_mul, i64_in, int_eqd, int_ned, int_lss, int_leq, int_gtr, int_geq, str_eqd, str_ned, if_true, wp_bndH, wp_withH, wp_need, enc_int, enc_str, enc_byte, enc_bool, List.getElem?_cons_zero, List.getElem?_cons_succ, law01_ShaBytes_k6])
    exact hQ _
  (try simp (maxSteps := 1000000) (disch := first | omega | simp | assumption) only [at_zero, at_succ, wp_bnd, wp_lift, wpO_some, wp_ret, nx_nxt, nx_brk, nx_ret, unblk_nxt, unblk_ret, unblk_brk, finM_nxt, finM_ret, outV_one, condM_t, condM_f, condM_dt, condM_df, gd_t, gd_f, gdf_t, gdf_f, gd_skip, gd_dt, gd_df, gdf_dt, gdf_df, pick_t, pick_f, pick_dt, pick_df, not_t, not_f, not_dec, isNil_ptr, isNil_ptr', isNil_pnil, isNil_pnil', nilck_ptr, faddr_ptr, Nat.zero_add, Nat.add_zero, wp_ld1, lenStr_str, lenSlc_slice, strV_str, i64_add, i64_sub, i64_mul, i64_in, int_eqd, int_ned, int_lss, int_leq, int_gtr, int_geq, str_eqd, str_ned, if_true, wp_bndH, wp_withH, wp_need, enc_int, enc_str, enc_byte, enc_bool, List.getElem?_cons_zero, List.getElem?_cons_succ, law01_ShaBytes_k6, law01_ShaBytes_k5])
  refine wp_loop (Inv := fun k vs H' => ∃ (i : Nat) (v1 : V), k = s.size - i ∧ i ≤ s.size ∧ vs = [.string s, i64 n, ptr p1 0, ptr p2 0, i64 s.size, i64 i] ∧ HashedV H' p1 ((bv s).take i) v1 ∧ HashedV H' p2 [] (.slice none 0 0) ∧ Keeps [] H H' ∧ (∀ b ∈ vb v1, H.next ≤ b) ∧ p2 ∉ vb v1) (n := s.size) (by unfold FUEL; omega)
    ⟨0, _, by omega, by omega, rfl, h13, h23, k03, by simp, by simp⟩ ?_
  rintro k vs H' ⟨i, v1, hk, hi, rfl, g1, g2, kk, fr, h2v⟩
  have hn' := kk.next
  have g2l := g2.lt p2 (by simp)
  by_cases h : i < s.size
  · (try simp (maxSteps := 1000000) (disch := first | omega | simp | assumption) only [at_zero, at_succ, wp_bnd, wp_lift, wpO_some, wp_ret, nx_nxt, nx_brk, nx_ret, unblk_nxt, unblk_ret, unblk_brk, finM_nxt, finM_ret, outV_one, condM_t, condM_f, condM_dt, condM_df, gd_t, gd_f, gdf_t, gdf_f, gd_skip, gd_dt, gd_df, gdf_dt, gdf_df, pick_t, pick_f, pick_dt, pick_df, not_t, not_f, not_dec, isNil_ptr, isNil_ptr', isNil_pnil, isNil_pnil', nilck_ptr, faddr_ptr, Nat.zero_add, Nat.add_zero, wp_ld1, lenStr_str, lenSlc_slice, strV_str, i64_add, i64_sub, i64_mul, i64_in, int_eqd, int_ned, int_lss, int_leq, int_gtr, int_geq, str_eqd, str_ned, if_true, wp_bndH, wp_withH, wp_need, enc_int, enc_str, enc_byte, enc_bool, List.getElem?_cons_zero, List.getElem?_cons_succ, law01_ShaBytes_l2, law01_ShaBytes_k1, subS_both])
    have ebv : (bv s).take i ++ bv (s.extract (i : Int).toNat ((i : Int) + 1).toNat) = (bv s).take (i + 1) := by
      rw [bv_extract, show (i : Int).toNat = i by omega, show ((i : Int) + 1).toNat = i + 1 by omega, show i + 1 - i = 1 by omega, List.take_add]
    refine sha_write_ok H' p1 _ _ v1 g1 (ht.keep kk (by simp)) (by omega) (by rw [size_extract _ (by omega), List.length_take]; omega) _ fun H4 v4 g4 f4 k4 _ => ?_
    (try simp (maxSteps := 1000000) (disch := first | omega | simp | assumption) only [at_zero, at_succ, wp_bnd, wp_lift, wpO_some, wp_ret, nx_nxt, nx_brk, nx_ret, unblk_nxt, unblk_ret, unblk_brk, finM_nxt, finM_ret, outV_one, condM_t, condM_f, condM_dt, condM_df, gd_t, gd_f, gdf_t, gdf_f, gd_skip, gd_dt, gd_df, gdf_dt, gdf_df, pick_t, pick_f, pick_dt, pick_df, not_t, not_f, not_dec, isNil_ptr, isNil_ptr', isNil_pnil, isNil_pnil', nilck_ptr, faddr_ptr, Nat.zero_add, Nat.add_zero, wp_ld1, lenStr_str, lenSlc_slice, strV_str, i64_add, i64_sub, i64_mul, i64_in, int_eqd, int_ned, int_lss, int_leq, int_gtr, int_geq, str_eqd, str_ned, if_true, wp_bndH, wp_withH, wp_need, enc_int, enc_str, enc_byte, enc_bool, List.getElem?_cons_zero, List.getElem?_cons_succ, law01_ShaBytes_k0])
    rw [ebv] at g4
    refine ⟨s.size - (i + 1), by omega, i + 1, v4, rfl, by omega, rfl, g4, g2.keep k4 (by intro b hb hm; simp at hb; subst hb; rcases List.mem_cons.1 hm with e | hm; omega; exact h2v hm), kk.trans k4 (fun b hb hm => by rcases List.mem_cons.1 hm with rfl | hm; omega; have := fr b hm; omega), fun b hb => by rcases f4 b hb with hb | hb; exact fr b hb; omega, fun hm => by rcases f4 _ hm with hb | hb; exact h2v hb; omega⟩
  · have : i = s.size := by omega
    subst this
    have hw : IntKind.u64.wrap n = n % 18446744073709551616 := IntKind.wrap_u64 n
    have hw2 : IntKind.u64.wrap ((s.size : Int) + 1) = s.size + 1 := u64_in (by omega) (by omega)
    have hm0 := Int.emod_nonneg (n % 18446744073709551616) (show (s.size : Int) + 1 ≠ 0 by omega)
    have hm1 := Int.emod_lt_of_pos (n % 18446744073709551616) (show 0 < (s.size : Int) + 1 by omega)
    obtain ⟨c, hc⟩ : ∃ c : Nat, (n % 18446744073709551616) % ((s.size : Int) + 1) = c := ⟨((n % 18446744073709551616) % ((s.size : Int) + 1)).toNat, by omega⟩
    have hcs : c ≤ s.size := by omega
    (try simp (maxSteps := 1000000) (disch := first | omega | simp | assumption) only [at_zero, at_succ, wp_bnd, wp_lift, wpO_some, wp_ret, nx_nxt, nx_brk, nx_ret, unblk_nxt, unblk_ret, unblk_brk, finM_nxt, finM_ret, outV_one, condM_t, condM_f, condM_dt, condM_df, gd_t, gd_f, gdf_t, gdf_f, gd_skip, gd_dt, gd_df, gdf_dt, gdf_df, pick_t, pick_f, pick_dt, pick_df, not_t, not_f, not_dec, isNil_ptr, isNil_ptr', isNil_pnil, isNil_pnil', nilck_ptr, faddr_ptr, Nat.zero_add, Nat.add_zero, wp_ld1, lenStr_str, lenSlc_slice, strV_str, i64_add, i64_sub, i64_mul, i64_in, int_eqd, int_ned, int_lss, int_leq, int_gtr, int_geq, str_eqd, str_ned, if_true, wp_bndH, wp_withH, wp_need, enc_int, enc_str, enc_byte, enc_bool, List.getElem?_cons_zero, List.getElem?_cons_succ, law01_ShaBytes_l2, law01_ShaBytes_k4, cvi_int, hw, hw2, int_remn, hc, subS_hi, Int.toNat_natCast])
    rw [List.take_of_length_le (by omega)] at g1
    have e1 : bv (s.extract 0 c) = (bv s).take c := by rw [bv_extract, List.drop_zero, Nat.sub_zero]
    refine sha_write_ok H' p2 _ _ _ g2 (ht.keep kk (by simp)) (by omega) (by simp only [List.length_nil]; rw [size_extract _ hcs]; omega) _ fun H4 v4 g4 f4 k4 t4 => ?_
    have k4' : Keeps [p2] H' H4 := k4.mono (by simp)
    rw [e1, List.nil_append] at g4
    (try simp (maxSteps := 1000000) (disch := first | omega | simp | assumption) only [at_zero, at_succ, wp_bnd, wp_lift, wpO_some, wp_ret, nx_nxt, nx_brk, nx_ret, unblk_nxt, unblk_ret, unblk_brk, finM_nxt, finM_ret, outV_one, condM_t, condM_f, condM_dt, condM_df, gd_t, gd_f, gdf_t, gdf_f, gd_skip, gd_dt, gd_df, gdf_dt, gdf_df, pick_t, pick_f, pick_dt, pick_df, not_t, not_f, not_dec, isNil_ptr, isNil_ptr', isNil_pnil, isNil_pnil', nilck_ptr, faddr_ptr, Nat.zero_add, Nat.add_zero, wp_ld1, lenStr_str, lenSlc_slice, strV_str, i64_add, i64_sub, i64_mul, i64_in, int_eqd, int_ned, int_lss, int_leq, int_gtr, int_geq, str_eqd, str_ned, if_true, wp_bndH, wp_withH, wp_need, enc_int, enc_str, enc_byte, enc_bool, List.getElem?_cons_zero, List.getElem?_cons_succ, subS_lo, Int.toNat_natCast])
    have e2 : (bv s).take c ++ bv (s.extract c s.size) = bv s := by
      rw [bv_extract, List.take_of_length_le (l := (bv s).drop c) (by rw [List.length_drop]; omega), List.take_append_drop]
    refine sha_write_ok H4 p2 _ _ _ g4 t4 (by omega) (by rw [size_extract _ (Nat.le_refl _), List.length_take]; omega) _ fun H5 v5 g5 f5 k5 t5 => ?_
    rw [e2] at g5
    have g1' : HashedV H4 p1 (bv s) v1 := g1.keep k4' (by intro b hb hm; simp at hm; subst hm; rcases List.mem_cons.1 hb with e | hb; omega; exact h2v hb)
    have hv4 : ∀ b ∈ vb v4, H'.next ≤ b := fun b hb => by rcases f4 b hb with hb | hb; simp at hb; exact hb
    have g1l := g1.lt
    have g15 : HashedV H5 p1 (bv s) v1 := g1'.keep k5 (by
      intro b hb hm
      rcases List.mem_cons.1 hm with rfl | hm
      · rcases List.mem_cons.1 hb with rfl | hb
        · omega
        · exact h2v hb
      · have := hv4 b hm; have := g1l b hb; omega)
    have k05 : Keeps [] H H5 := (kk.trans k4' (fun b hb hm => by simp at hm; omega)).trans k5 (fun b hb hm => by
      rcases List.mem_cons.1 hm with rfl | hm
      · omega
      · have := hv4 b hm; omega)
    (try simp (maxSteps := 1000000) (disch := first | omega | simp | assumption) only [at_zero, at_succ, wp_bnd, wp_lift, wpO_some, wp_ret, nx_nxt, nx_brk, nx_ret, unblk_nxt, unblk_ret, unblk_brk, finM_nxt, finM_ret, outV_one, condM_t, condM_f, condM_dt, condM_df, gd_t, gd_f, gdf_t, gdf_f, gd_skip, gd_dt, gd_df, gdf_dt, gdf_df, pick_t, pick_f, pick_dt, pick_df, not_t, not_f, not_dec, isNil_ptr, isNil_ptr', isNil_pnil, isNil_pnil', nilck_ptr, faddr_ptr, Nat.zero_add, Nat.add_zero, wp_ld1, lenStr_str, lenSlc_slice, strV_str, i64_add, i64_sub, i64_mul, i64_in, int_eqd, int_ned, int_lss, int_leq, int_gtr, int_geq, str_eqd, str_ned, if_true, wp_bndH, wp_withH, wp_need, enc_int, enc_str, enc_byte, enc_bool, List.getElem?_cons_zero, List.getElem?_cons_succ, law01_ShaBytes_k3])
    refine sha_Sum_ok H5 s (by omega) (hf.keep k05 (by simp)) t5 _ fun H6 k6 => ?_
    refine sha_sum_ok H6 p1 _ v1 (g15.keep k6 (by simp)) (t5.keep k6 (by simp)) (by omega) (by omega) _ fun H7 k7 => ?_
    (try simp (maxSteps := 1000000) (disch := first | omega | simp | assumption) only [at_zero, at_succ, wp_bnd, wp_lift, wpO_some, wp_ret, nx_nxt, nx_brk, nx_ret, unblk_nxt, unblk_ret, unblk_brk, finM_nxt, finM_ret, outV_one, condM_t, condM_f, condM_dt, condM_df, gd_t, gd_f, gdf_t, gdf_f, gd_skip, gd_dt, gd_df, gdf_dt, gdf_df, pick_t, pick_f, pick_dt, pick_df, not_t, not_f, not_dec, isNil_ptr, isNil_ptr', isNil_pnil, isNil_pnil', nilck_ptr, faddr_ptr, Nat.zero_add, Nat.add_zero, wp_ld1, lenStr_str, lenSlc_slice, strV_str, i64_add, i64_sub, i64_mul, i64_in, int_eqd, int_ned, int_lss, int_leq, int_gtr, int_geq, str_eqd, str_ned, if_true, wp_bndH, wp_withH, wp_need, enc_int, enc_str, enc_byte, enc_bool, List.getElem?_cons_zero, List.getElem?_cons_succ])
    have k57 := k6.trans k7 (fun _ _ h => h)
    refine sha_sum_ok H7 p2 _ v5 (g5.keep k57 (by simp)) (t5.keep k57 (by simp)) (by omega) (by omega) _ fun H8 k8 => ?_
    have k58 := k57.trans k8 (fun _ _ h => h)
    (try simp (maxSteps := 1000000) (disch := first | omega | simp | assumption) only [at_zero, at_succ, wp_bnd, wp_lift, wpO_some, wp_ret, nx_nxt, nx_brk, nx_ret, unblk_nxt, unblk_ret, unblk_brk, finM_nxt, finM_ret, outV_one, condM_t, condM_f, condM_dt, condM_df, gd_t, gd_f, gdf_t, gdf_f, gd_skip, gd_dt, gd_df, gdf_dt, gdf_df, pick_t, pick_f, pick_dt, pick_df, not_t, not_f, not_dec, isNil_ptr, isNil_ptr', isNil_pnil, isNil_pnil', nilck_ptr, faddr_ptr, Nat.zero_add, Nat.add_zero, wp_ld1, lenStr_str, lenSlc_slice, strV_str, i64_add, i64_sub, i64_mul, i64_in, int_eqd, int_ned, int_lss, int_leq, int_gtr, int_geq, str_eqd, str_ned, if_true, wp_bndH, wp_withH, wp_need, enc_int, enc_str, enc_byte, enc_bool, List.getElem?_cons_zero, List.getElem?_cons_succ])
    refine sha_Len_ok (g15.keep k58 (by simp)) ?_
    (try simp (maxSteps := 1000000) (disch := first | omega | simp | assumption) only [at_zero, at_succ, wp_bnd, wp_lift, wpO_some, wp_ret, nx_nxt, nx_brk, nx_ret, unblk_nxt, unblk_ret, unblk_brk, finM_nxt, finM_ret, outV_one, condM_t, condM_f, condM_dt, condM_df, gd_t, gd_f, gdf_t, gdf_f, gd_skip, gd_dt, gd_df, gdf_dt, gdf_df, pick_t, pick_f, pick_dt, pick_df, not_t, not_f, not_dec, isNil_ptr, isNil_ptr', isNil_pnil, isNil_pnil', nilck_ptr, faddr_ptr, Nat.zero_add, Nat.add_zero, wp_ld1, lenStr_str, lenSlc_slice, strV_str, i64_add, i64_sub, i64_mul, i64_in, int_eqd, int_ned, int_lss, int_leq, int_gtr, int_geq, str_eqd, str_ned, if_true, wp_bndH, wp_withH, wp_need, enc_int, enc_str, enc_byte, enc_bool, List.getElem?_cons_zero, List.getElem?_cons_succ, hbl])
    refine sha_Len_ok (g5.keep k58 (by simp)) ?_
    (try simp (maxSteps := 1000000) (disch := first | omega | simp | assumption) only [at_zero, at_succ, wp_bnd, wp_lift, wpO_some, wp_ret, nx_nxt, nx_brk, nx_ret, unblk_nxt, unblk_ret, unblk_brk, finM_nxt, finM_ret, outV_one, condM_t, condM_f, condM_dt, condM_df, gd_t, gd_f, gdf_t, gdf_f, gd_skip, gd_dt, gd_df, gdf_dt, gdf_df, pick_t, pick_f, pick_dt, pick_df, not_t, not_f, not_dec, isNil_ptr, isNil_ptr', isNil_pnil, isNil_pnil', nilck_ptr, faddr_ptr, Nat.zero_add, Nat.add_zero, wp_ld1, lenStr_str, lenSlc_slice, strV_str, i64_add, i64_sub, i64_mul, i64_in, int_eqd, int_ned, int_lss, int_leq, int_gtr, int_geq, str_eqd, str_ned, if_true, wp_bndH, wp_withH, wp_need, enc_int, enc_str, enc_byte, enc_bool, List.getElem?_cons_zero, List.getElem?_cons_succ, hbl])
    exact hQ _

/-- pieces put together -/
def cat (l : List ByteArray) : List (BitVec 8) := l.flatMap bv
theorem cat_snoc (l : List ByteArray) (i : Nat) (h : i < l.length) : cat (l.take (i + 1)) = cat (l.take i) ++ bv (l.getD i ⟨#[]⟩) := by
  rw [take_snoc _ _ ⟨#[]⟩ h, cat, List.flatMap_append]; simp [cat]
theorem cat_le (l : List ByteArray) (i : Nat) : (cat (l.take i)).length ≤ (cat l).length := by
  conv => rhs; rw [← List.take_append_drop i l]
  simp only [cat, List.flatMap_append, List.length_append]; omega

theorem ShaPieces_ok (H : Heap) (lv : V) (l : List ByteArray) (fork : Int) (hl : Sl H lv l) (hs : (cat l).length ≤ 1048576) (hll : l.length ≤ 1048576) (hf : First H) (ht : Tab H) (Q : V → Heap → Prop) (hQ : ∀ H', Q (.bool true) H') : wp (A_law01_ShaPieces [lv, i64 fork]) Q H := by
  have htl := ht.lt
  have hfl := hf.lt
  show wp (F_law01_ShaPieces lv (i64 fork)) Q H
  simp only [F_law01_ShaPieces, wp_bnd]
  refine sha_new_ok H hf _ fun p H1 h1 k1 e1 n1 => ?_
  (try simp (maxSteps := 1000000) (disch := first | omega | simp | assumption) only [at_zero, at_succ, wp_bnd, wp_lift, wpO_some, wp_ret, nx_nxt, nx_brk, nx_ret, unblk_nxt, unblk_ret, unblk_brk, finM_nxt, finM_ret, outV_one, condM_t, condM_f, condM_dt, condM_df, gd_t, gd_f, gdf_t, gdf_f, gd_skip, gd_dt, gd_df, gdf_dt, gdf_df, pick_t, pick_f, pick_dt, pick_df, not_t, not_f, not_dec, isNil_ptr, isNil_ptr', isNil_pnil, isNil_pnil', nilck_ptr, faddr_ptr, Nat.zero_add, Nat.add_zero, wp_ld1, lenStr_str, lenSlc_slice, strV_str, i64_add, i64_sub, i64_mul, i64_in, int_eqd, int_ned, int_lss, int_leq, int_gtr, int_geq, str_eqd, str_ned, if_true, wp_bndH, wp_withH, wp_need, enc_int, enc_str, enc_byte, enc_bool, List.getElem?_cons_zero, List.getElem?_cons_succ])
  refine sha_works_ok H1 (hf.keep k1 (by simp)) (ht.keep k1 (by simp)) _ fun H2 k2 => ?_
  have k02 := k1.trans k2 (fun _ _ h => h)
  (try simp (maxSteps := 1000000) (disch := first | omega | simp | assumption) only [at_zero, at_succ, wp_bnd, wp_lift, wpO_some, wp_ret, nx_nxt, nx_brk, nx_ret, unblk_nxt, unblk_ret, unblk_brk, finM_nxt, finM_ret, outV_one, condM_t, condM_f, condM_dt, condM_df, gd_t, gd_f, gdf_t, gdf_f, gd_skip, gd_dt, gd_df, gdf_dt, gdf_df, pick_t, pick_f, pick_dt, pick_df, not_t, not_f, not_dec, isNil_ptr, isNil_ptr', isNil_pnil, isNil_pnil', nilck_ptr, faddr_ptr, Nat.zero_add, Nat.add_zero, wp_ld1, lenStr_str, lenSlc_slice, strV_str, i64_add, i64_sub, i64_mul, i64_in, int_eqd, int_ned, int_lss, int_leq, int_gtr, int_geq, str_eqd, str_ned, if_true, wp_bndH, wp_withH, wp_need, enc_int, enc_str, enc_byte, enc_bool, List.getElem?_cons_zero, List.getElem?_cons_succ, law01_ShaPieces_k6])
  refine wp_loop (Inv := fun k vs H' => ∃ (i : Nat) (v : V), k = l.length - i ∧ i ≤ l.length ∧ vs = [lv, i64 fork, ptr p 0, .string (sv (cat (l.take i))), i64 i] ∧ HashedV H' p (cat (l.take i)) v ∧ Keeps [] H H' ∧ (∀ b ∈ vb v, H.next ≤ b)) (n := l.length) (by unfold FUEL; omega)
    ⟨0, _, by omega, by omega, rfl, h1.keep k2 (by simp), k02, by simp⟩ ?_
  rintro k vs H' ⟨i, v, hk, hi, rfl, g, kk, fr⟩
  have hl' := hl.keep0 kk
  have hle := cat_le l i
  have t' : Tab H' := ht.keep kk (by simp)
  by_cases h : i < l.length ∧ i < 60
  · obtain ⟨h, h60⟩ := h
    have hsn := cat_snoc l i h
    have hle2 := cat_le l (i + 1)
    have hlen2 := congrArg List.length hsn
    rw [List.length_append, bv_length] at hlen2
    (try simp (maxSteps := 1000000) (disch := first | omega | simp | assumption) only [at_zero, at_succ, wp_bnd, wp_lift, wpO_some, wp_ret, nx_nxt, nx_brk, nx_ret, unblk_nxt, unblk_ret, unblk_brk, finM_nxt, finM_ret, outV_one, condM_t, condM_f, condM_dt, condM_df, gd_t, gd_f, gdf_t, gdf_f, gd_skip, gd_dt, gd_df, gdf_dt, gdf_df, pick_t, pick_f, pick_dt, pick_df, not_t, not_f, not_dec, isNil_ptr, isNil_ptr', isNil_pnil, isNil_pnil', nilck_ptr, faddr_ptr, Nat.zero_add, Nat.add_zero, wp_ld1, lenStr_str, lenSlc_slice, strV_str, i64_add, i64_sub, i64_mul, i64_in, int_eqd, int_ned, int_lss, int_leq, int_gtr, int_geq, str_eqd, str_ned, if_true, wp_bndH, wp_withH, wp_need, enc_int, enc_str, enc_byte, enc_bool, List.getElem?_cons_zero, List.getElem?_cons_succ, law01_ShaPieces_l4, hl'.len, law01_ShaPieces_k3, hl'.addr1 rfl, hl'.cell1 rfl _ ⟨#[]⟩, Int.toNat_natCast])
    show wp (A_sha_Hash_Write [ptr p 0, .string (l.getD i ⟨#[]⟩)]) _ H'
    refine sha_write_ok H' p _ _ v g t' (by omega) (by omega) _ fun H3 v3 g3 f3 k3 t3 => ?_
    rw [← hsn] at g3
    have k03 : Keeps [] H H3 := kk.trans k3 (fun b hb hm => by rcases List.mem_cons.1 hm with rfl | hm; omega; have := fr b hm; omega)
    have fr3 : ∀ b ∈ vb v3, H.next ≤ b := fun b hb => by rcases f3 b hb with hb | hb; exact fr b hb; have := kk.next; omega
    have hl3 := hl.keep0 k03
    have esv : sv (cat (l.take i)) ++ l.getD i ⟨#[]⟩ = sv (cat (l.take (i + 1))) := by
      apply bv_inj; rw [bv_append, bv_sv, bv_sv, hsn]
    have esz : (sv (cat (l.take i))).size + (l.getD i ⟨#[]⟩).size ≤ 4611686018427387904 := by rw [sv_size]; omega
    (try simp (maxSteps := 1000000) (disch := first | omega | simp | assumption) only [at_zero, at_succ, wp_bnd, wp_lift, wpO_some, wp_ret, nx_nxt, nx_brk, nx_ret, unblk_nxt, unblk_ret, unblk_brk, finM_nxt, finM_ret, outV_one, condM_t, condM_f, condM_dt, condM_df, gd_t, gd_f, gdf_t, gdf_f, gd_skip, gd_dt, gd_df, gdf_dt, gdf_df, pick_t, pick_f, pick_dt, pick_df, not_t, not_f, not_dec, isNil_ptr, isNil_ptr', isNil_pnil, isNil_pnil', nilck_ptr, faddr_ptr, Nat.zero_add, Nat.add_zero, wp_ld1, lenStr_str, lenSlc_slice, strV_str, i64_add, i64_sub, i64_mul, i64_in, int_eqd, int_ned, int_lss, int_leq, int_gtr, int_geq, str_eqd, str_ned, if_true, wp_bndH, wp_withH, wp_need, enc_int, enc_str, enc_byte, enc_bool, List.getElem?_cons_zero, List.getElem?_cons_succ, law01_ShaPieces_k1, hl3.addr1 rfl, hl3.cell1 rfl _ ⟨#[]⟩, Int.toNat_natCast])
    show wpO (bin .add (.string (sv (cat (l.take i)))) (.string (l.getD i ⟨#[]⟩))) _
    (try simp (maxSteps := 1000000) (disch := first | omega | simp | assumption) only [at_zero, at_succ, wp_bnd, wp_lift, wpO_some, wp_ret, nx_nxt, nx_brk, nx_ret, unblk_nxt, unblk_ret, unblk_brk, finM_nxt, finM_ret, outV_one, condM_t, condM_f, condM_dt, condM_df, gd_t, gd_f, gdf_t, gdf_f, gd_skip, gd_dt, gd_df, gdf_dt, gdf_df, pick_t, pick_f, pick_dt, pick_df, not_t, not_f, not_dec, isNil_ptr, isNil_ptr', isNil_pnil, isNil_pnil', nilck_ptr, faddr_ptr, Nat.zero_add, Nat.add_zero, wp_ld1, lenStr_str, lenSlc_slice, strV_str, i64_add, i64_sub, i64_mul, i64_in, int_eqd, int_ned, int_lss, int_leq, int_gtr, int_geq, str_eqd, str_ned, if_true, wp_bndH, wp_withH, wp_need, enc_int, enc_str, enc_byte, enc_bool, List.getElem?_cons_zero, List.getElem?_cons_succ, str_add esz, esv])
    generalize hall : cat (l.take (i + 1)) = all at *
    refine sha_Len_ok g3 ?_
    (try simp (maxSteps := 1000000) (disch := first | omega | simp | assumption) only [at_zero, at_succ, wp_bnd, wp_lift, wpO_some, wp_ret, nx_nxt, nx_brk, nx_ret, unblk_nxt, unblk_ret, unblk_brk, finM_nxt, finM_ret, outV_one, condM_t, condM_f, condM_dt, condM_df, gd_t, gd_f, gdf_t, gdf_f, gd_skip, gd_dt, gd_df, gdf_dt, gdf_df, pick_t, pick_f, pick_dt, pick_df, not_t, not_f, not_dec, isNil_ptr, isNil_ptr', isNil_pnil, isNil_pnil', nilck_ptr, faddr_ptr, Nat.zero_add, Nat.add_zero, wp_ld1, lenStr_str, lenSlc_slice, strV_str, i64_add, i64_sub, i64_mul, i64_in, int_eqd, int_ned, int_lss, int_leq, int_gtr, int_geq, str_eqd, str_ned, if_true, wp_bndH, wp_withH, wp_need, enc_int, enc_str, enc_byte, enc_bool, List.getElem?_cons_zero, List.getElem?_cons_succ, sv_size])
    refine sha_sum_ok H3 p _ v3 g3 t3 (by omega) (by omega) _ fun H4 k4 => ?_
    (try simp (maxSteps := 1000000) (disch := first | omega | simp | assumption) only [at_zero, at_succ, wp_bnd, wp_lift, wpO_some, wp_ret, nx_nxt, nx_brk, nx_ret, unblk_nxt, unblk_ret, unblk_brk, finM_nxt, finM_ret, outV_one, condM_t, condM_f, condM_dt, condM_df, gd_t, gd_f, gdf_t, gdf_f, gd_skip, gd_dt, gd_df, gdf_dt, gdf_df, pick_t, pick_f, pick_dt, pick_df, not_t, not_f, not_dec, isNil_ptr, isNil_ptr', isNil_pnil, isNil_pnil', nilck_ptr, faddr_ptr, Nat.zero_add, Nat.add_zero, wp_ld1, lenStr_str, lenSlc_slice, strV_str, i64_add, i64_sub, i64_mul, i64_in, int_eqd, int_ned, int_lss, int_leq, int_gtr, int_geq, str_eqd, str_ned, if_true, wp_bndH, wp_withH, wp_need, enc_int, enc_str, enc_byte, enc_bool, List.getElem?_cons_zero, List.getElem?_cons_succ])
    refine ref01_Sum_ok H4 _ (by rw [sv_size]; omega) _ fun H5 k5 => ?_
    rw [bv_sv]
    (try simp (maxSteps := 1000000) (disch := first | omega | simp | assumption) only [at_zero, at_succ, wp_bnd, wp_lift, wpO_some, wp_ret, nx_nxt, nx_brk, nx_ret, unblk_nxt, unblk_ret, unblk_brk, finM_nxt, finM_ret, outV_one, condM_t, condM_f, condM_dt, condM_df, gd_t, gd_f, gdf_t, gdf_f, gd_skip, gd_dt, gd_df, gdf_dt, gdf_df, pick_t, pick_f, pick_dt, pick_df, not_t, not_f, not_dec, isNil_ptr, isNil_ptr', isNil_pnil, isNil_pnil', nilck_ptr, faddr_ptr, Nat.zero_add, Nat.add_zero, wp_ld1, lenStr_str, lenSlc_slice, strV_str, i64_add, i64_sub, i64_mul, i64_in, int_eqd, int_ned, int_lss, int_leq, int_gtr, int_geq, str_eqd, str_ned, if_true, wp_bndH, wp_withH, wp_need, enc_int, enc_str, enc_byte, enc_bool, List.getElem?_cons_zero, List.getElem?_cons_succ])
    have k35 := k4.trans k5 (fun _ _ h => h)
    refine sha_sum_ok H5 p _ v3 (g3.keep k35 (by simp)) (t3.keep k35 (by simp)) (by omega) (by omega) _ fun H6 k6 => ?_
    (try simp (maxSteps := 1000000) (disch := first | omega | simp | assumption) only [at_zero, at_succ, wp_bnd, wp_lift, wpO_some, wp_ret, nx_nxt, nx_brk, nx_ret, unblk_nxt, unblk_ret, unblk_brk, finM_nxt, finM_ret, outV_one, condM_t, condM_f, condM_dt, condM_df, gd_t, gd_f, gdf_t, gdf_f, gd_skip, gd_dt, gd_df, gdf_dt, gdf_df, pick_t, pick_f, pick_dt, pick_df, not_t, not_f, not_dec, isNil_ptr, isNil_ptr', isNil_pnil, isNil_pnil', nilck_ptr, faddr_ptr, Nat.zero_add, Nat.add_zero, wp_ld1, lenStr_str, lenSlc_slice, strV_str, i64_add, i64_sub, i64_mul, i64_in, int_eqd, int_ned, int_lss, int_leq, int_gtr, int_geq, str_eqd, str_ned, if_true, wp_bndH, wp_withH, wp_need, enc_int, enc_str, enc_byte, enc_bool, List.getElem?_cons_zero, List.getElem?_cons_succ])
    refine ref01_Sum_ok H6 _ (by rw [sv_size]; omega) _ fun H7 k7 => ?_
    rw [bv_sv]
    have k37 := (k35.trans k6 (fun _ _ h => h)).trans k7 (fun _ _ h => h)
    have g7 := g3.keep k37 (by simp)
    have t7 := t3.keep k37 (by simp)
    have k07 := k03.trans k37 (fun _ _ h => h)
    have hn7 := k07.next
    (try simp (maxSteps := 1000000) (disch := first | omega | simp | assumption) only [at_zero, at_succ, wp_bnd, wp_lift, wpO_some, wp_ret, nx_nxt, nx_brk, nx_ret, unblk_nxt, unblk_ret, unblk_brk, finM_nxt, finM_ret, outV_one, condM_t, condM_f, condM_dt, condM_df, gd_t, gd_f, gdf_t, gdf_f, gd_skip, gd_dt, gd_df, gdf_dt, gdf_df, pick_t, pick_f, pick_dt, pick_df, not_t, not_f, not_dec, isNil_ptr, isNil_ptr', isNil_pnil, isNil_pnil', nilck_ptr, faddr_ptr, Nat.zero_add, Nat.add_zero, wp_ld1, lenStr_str, lenSlc_slice, strV_str, i64_add, i64_sub, i64_mul, i64_in, int_eqd, int_ned, int_lss, int_leq, int_gtr, int_geq, str_eqd, str_ned, if_true, wp_bndH, wp_withH, wp_need, enc_int, enc_str, enc_byte, enc_bool, List.getElem?_cons_zero, List.getElem?_cons_succ, law01_ShaPieces_k0])
    have fin : ∀ H8, Keeps [] H7 H8 → ∃ k', k' < k ∧ ∃ (i_1 : Nat) (v_1 : V), k' = l.length - i_1 ∧ i_1 ≤ l.length ∧ [lv, i64 fork, ptr p 0, .string (sv all), i64 ((i : Int) + 1)] = [lv, i64 fork, ptr p 0, .string (sv (cat (l.take i_1))), i64 i_1] ∧ HashedV H8 p (cat (l.take i_1)) v_1 ∧ Keeps [] H H8 ∧ (∀ b ∈ vb v_1, H.next ≤ b) :=
      fun H8 k8 => ⟨l.length - (i + 1), by omega, i + 1, v3, rfl, by omega, by rw [hall]; rfl, by rw [hall]; exact g7.keep k8 (by simp), k07.trans k8 (fun _ _ h => h), fr3⟩
    by_cases hfk : (i : Int) = fork
    · (try simp (maxSteps := 1000000) (disch := first | omega | simp | assumption) only [at_zero, at_succ, wp_bnd, wp_lift, wpO_some, wp_ret, nx_nxt, nx_brk, nx_ret, unblk_nxt, unblk_ret, unblk_brk, finM_nxt, finM_ret, outV_one, condM_t, condM_f, condM_dt, condM_df, gd_t, gd_f, gdf_t, gdf_f, gd_skip, gd_dt, gd_df, gdf_dt, gdf_df, pick_t, pick_f, pick_dt, pick_df, not_t, not_f, not_dec, isNil_ptr, isNil_ptr', isNil_pnil, isNil_pnil', nilck_ptr, faddr_ptr, Nat.zero_add, Nat.add_zero, wp_ld1, lenStr_str, lenSlc_slice, strV_str, i64_add, i64_sub, i64_mul, i64_in, int_eqd, int_ned, int_lss, int_leq, int_gtr, int_geq, str_eqd, str_ned, if_true, wp_bndH, wp_withH, wp_need, enc_int, enc_str, enc_byte, enc_bool, List.getElem?_cons_zero, List.getElem?_cons_succ])
      refine sha_fork_ok H7 p _ v3 g7 (by omega) t7.lt _ fun q w H8 g8 f8 k8 hq1 hq2 => ?_
      (try simp (maxSteps := 1000000) (disch := first | omega | simp | assumption) only [at_zero, at_succ, wp_bnd, wp_lift, wpO_some, wp_ret, nx_nxt, nx_brk, nx_ret, unblk_nxt, unblk_ret, unblk_brk, finM_nxt, finM_ret, outV_one, condM_t, condM_f, condM_dt, condM_df, gd_t, gd_f, gdf_t, gdf_f, gd_skip, gd_dt, gd_df, gdf_dt, gdf_df, pick_t, pick_f, pick_dt, pick_df, not_t, not_f, not_dec, isNil_ptr, isNil_ptr', isNil_pnil, isNil_pnil', nilck_ptr, faddr_ptr, Nat.zero_add, Nat.add_zero, wp_ld1, lenStr_str, lenSlc_slice, strV_str, i64_add, i64_sub, i64_mul, i64_in, int_eqd, int_ned, int_lss, int_leq, int_gtr, int_geq, str_eqd, str_ned, if_true, wp_bndH, wp_withH, wp_need, enc_int, enc_str, enc_byte, enc_bool, List.getElem?_cons_zero, List.getElem?_cons_succ])
      have e5 : (⟨#[111, 116, 104, 101, 114]⟩ : ByteArray).size = 5 := rfl
      refine sha_write_ok H8 q _ _ w g8 (t7.keep k8 (by simp)) (by omega) (by rw [e5]; omega) _ fun H9 w9 g9 f9 k9 t9 => ?_
      (try simp (maxSteps := 1000000) (disch := first | omega | simp | assumption) only [at_zero, at_succ, wp_bnd, wp_lift, wpO_some, wp_ret, nx_nxt, nx_brk, nx_ret, unblk_nxt, unblk_ret, unblk_brk, finM_nxt, finM_ret, outV_one, condM_t, condM_f, condM_dt, condM_df, gd_t, gd_f, gdf_t, gdf_f, gd_skip, gd_dt, gd_df, gdf_dt, gdf_df, pick_t, pick_f, pick_dt, pick_df, not_t, not_f, not_dec, isNil_ptr, isNil_ptr', isNil_pnil, isNil_pnil', nilck_ptr, faddr_ptr, Nat.zero_add, Nat.add_zero, wp_ld1, lenStr_str, lenSlc_slice, strV_str, i64_add, i64_sub, i64_mul, i64_in, int_eqd, int_ned, int_lss, int_leq, int_gtr, int_geq, str_eqd, str_ned, if_true, wp_bndH, wp_withH, wp_need, enc_int, enc_str, enc_byte, enc_bool, List.getElem?_cons_zero, List.getElem?_cons_succ])
      have k79 : Keeps [] H7 H9 := k8.trans k9 (fun b hb hm => by rcases List.mem_cons.1 hm with rfl | hm; omega; have := f8 b hm; omega)
      refine sha_sum_ok H9 q _ w9 g9 t9 (by omega) (by rw [List.length_append, bv_length, e5]; omega) _ fun HA kA => ?_
      (try simp (maxSteps := 1000000) (disch := first | omega | simp | assumption) only [at_zero, at_succ, wp_bnd, wp_lift, wpO_some, wp_ret, nx_nxt, nx_brk, nx_ret, unblk_nxt, unblk_ret, unblk_brk, finM_nxt, finM_ret, outV_one, condM_t, condM_f, condM_dt, condM_df, gd_t, gd_f, gdf_t, gdf_f, gd_skip, gd_dt, gd_df, gdf_dt, gdf_df, pick_t, pick_f, pick_dt, pick_df, not_t, not_f, not_dec, isNil_ptr, isNil_ptr', isNil_pnil, isNil_pnil', nilck_ptr, faddr_ptr, Nat.zero_add, Nat.add_zero, wp_ld1, lenStr_str, lenSlc_slice, strV_str, i64_add, i64_sub, i64_mul, i64_in, int_eqd, int_ned, int_lss, int_leq, int_gtr, int_geq, str_eqd, str_ned, if_true, wp_bndH, wp_withH, wp_need, enc_int, enc_str, enc_byte, enc_bool, List.getElem?_cons_zero, List.getElem?_cons_succ, str_add (show (sv all).size + (⟨#[111, 116, 104, 101, 114]⟩ : ByteArray).size ≤ 4611686018427387904 by rw [sv_size, e5]; omega)])
      refine ref01_Sum_ok HA _ (by rw [size_append, sv_size, e5]; omega) _ fun HB kB => ?_
      rw [bv_append, bv_sv]
      (try simp (maxSteps := 1000000) (disch := first | omega | simp | assumption) only [at_zero, at_succ, wp_bnd, wp_lift, wpO_some, wp_ret, nx_nxt, nx_brk, nx_ret, unblk_nxt, unblk_ret, unblk_brk, finM_nxt, finM_ret, outV_one, condM_t, condM_f, condM_dt, condM_df, gd_t, gd_f, gdf_t, gdf_f, gd_skip, gd_dt, gd_df, gdf_dt, gdf_df, pick_t, pick_f, pick_dt, pick_df, not_t, not_f, not_dec, isNil_ptr, isNil_ptr', isNil_pnil, isNil_pnil', nilck_ptr, faddr_ptr, Nat.zero_add, Nat.add_zero, wp_ld1, lenStr_str, lenSlc_slice, strV_str, i64_add, i64_sub, i64_mul, i64_in, int_eqd, int_ned, int_lss, int_leq, int_gtr, int_geq, str_eqd, str_ned, if_true, wp_bndH, wp_withH, wp_need, enc_int, enc_str, enc_byte, enc_bool, List.getElem?_cons_zero, List.getElem?_cons_succ])
      have k7B := (k79.trans kA (fun _ _ h => h)).trans kB (fun _ _ h => h)
      refine sha_sum_ok HB p _ v3 (g7.keep k7B (by simp)) (t7.keep k7B (by simp)) (by omega) (by omega) _ fun HC kC => ?_
      (try simp (maxSteps := 1000000) (disch := first | omega | simp | assumption) only [at_zero, at_succ, wp_bnd, wp_lift, wpO_some, wp_ret, nx_nxt, nx_brk, nx_ret, unblk_nxt, unblk_ret, unblk_brk, finM_nxt, finM_ret, outV_one, condM_t, condM_f, condM_dt, condM_df, gd_t, gd_f, gdf_t, gdf_f, gd_skip, gd_dt, gd_df, gdf_dt, gdf_df, pick_t, pick_f, pick_dt, pick_df, not_t, not_f, not_dec, isNil_ptr, isNil_ptr', isNil_pnil, isNil_pnil', nilck_ptr, faddr_ptr, Nat.zero_add, Nat.add_zero, wp_ld1, lenStr_str, lenSlc_slice, strV_str, i64_add, i64_sub, i64_mul, i64_in, int_eqd, int_ned, int_lss, int_leq, int_gtr, int_geq, str_eqd, str_ned, if_true, wp_bndH, wp_withH, wp_need, enc_int, enc_str, enc_byte, enc_bool, List.getElem?_cons_zero, List.getElem?_cons_succ])
      refine ref01_Sum_ok HC _ (by rw [sv_size]; omega) _ fun HD kD => ?_
      rw [bv_sv]
      (try simp (maxSteps := 1000000) (disch := first | omega | simp | assumption) only [at_zero, at_succ, wp_bnd, wp_lift, wpO_some, wp_ret, nx_nxt, nx_brk, nx_ret, unblk_nxt, unblk_ret, unblk_brk, finM_nxt, finM_ret, outV_one, condM_t, condM_f, condM_dt, condM_df, gd_t, gd_f, gdf_t, gdf_f, gd_skip, gd_dt, gd_df, gdf_dt, gdf_df, pick_t, pick_f, pick_dt, pick_df, not_t, not_f, not_dec, isNil_ptr, isNil_ptr', isNil_pnil, isNil_pnil', nilck_ptr, faddr_ptr, Nat.zero_add, Nat.add_zero, wp_ld1, lenStr_str, lenSlc_slice, strV_str, i64_add, i64_sub, i64_mul, i64_in, int_eqd, int_ned, int_lss, int_leq, int_gtr, int_geq, str_eqd, str_ned, if_true, wp_bndH, wp_withH, wp_need, enc_int, enc_str, enc_byte, enc_bool, List.getElem?_cons_zero, List.getElem?_cons_succ, law01_ShaPieces_k2])
      exact fin _ ((k7B.trans kC (fun _ _ h => h)).trans kD (fun _ _ h => h))
    · (try simp (maxSteps := 1000000) (disch := first | omega | simp | assumption) only [at_zero, at_succ, wp_bnd, wp_lift, wpO_some, wp_ret, nx_nxt, nx_brk, nx_ret, unblk_nxt, unblk_ret, unblk_brk, finM_nxt, finM_ret, outV_one, condM_t, condM_f, condM_dt, condM_df, gd_t, gd_f, gdf_t, gdf_f, gd_skip, gd_dt, gd_df, gdf_dt, gdf_df, pick_t, pick_f, pick_dt, pick_df, not_t, not_f, not_dec, isNil_ptr, isNil_ptr', isNil_pnil, isNil_pnil', nilck_ptr, faddr_ptr, Nat.zero_add, Nat.add_zero, wp_ld1, lenStr_str, lenSlc_slice, strV_str, i64_add, i64_sub, i64_mul, i64_in, int_eqd, int_ned, int_lss, int_leq, int_gtr, int_geq, str_eqd, str_ned, if_true, wp_bndH, wp_withH, wp_need, enc_int, enc_str, enc_byte, enc_bool, List.getElem?_cons_zero, List.getElem?_cons_succ, law01_ShaPieces_k2])
      exact fin _ (Keeps.refl _ _)
  · have done : wp (law01_ShaPieces_k5 [ptr p 0, .string (sv (cat (l.take i)))]) (fun b H' => wp (finM b fun vs => ret (outV [at_ vs 0])) Q H') H' := by
      (try simp (maxSteps := 1000000) (disch := first | omega | simp | assumption) only [at_zero, at_succ, wp_bnd, wp_lift, wpO_some, wp_ret, nx_nxt, nx_brk, nx_ret, unblk_nxt, unblk_ret, unblk_brk, finM_nxt, finM_ret, outV_one, condM_t, condM_f, condM_dt, condM_df, gd_t, gd_f, gdf_t, gdf_f, gd_skip, gd_dt, gd_df, gdf_dt, gdf_df, pick_t, pick_f, pick_dt, pick_df, not_t, not_f, not_dec, isNil_ptr, isNil_ptr', isNil_pnil, isNil_pnil', nilck_ptr, faddr_ptr, Nat.zero_add, Nat.add_zero, wp_ld1, lenStr_str, lenSlc_slice, strV_str, i64_add, i64_sub, i64_mul, i64_in, int_eqd, int_ned, int_lss, int_leq, int_gtr, int_geq, str_eqd, str_ned, if_true, wp_bndH, wp_withH, wp_need, enc_int, enc_str, enc_byte, enc_bool, List.getElem?_cons_zero, List.getElem?_cons_succ, law01_ShaPieces_k5])
      refine sha_sum_ok H' p _ v g t' (by omega) (by omega) _ fun H3 k3 => ?_
      refine sha_Sum_ok H3 _ (by rw [sv_size]; omega) ((hf.keep kk (by simp)).keep k3 (by simp)) (t'.keep k3 (by simp)) _ fun H4 k4 => ?_
      rw [bv_sv]
      (try simp (maxSteps := 1000000) (disch := first | omega | simp | assumption) only [at_zero, at_succ, wp_bnd, wp_lift, wpO_some, wp_ret, nx_nxt, nx_brk, nx_ret, unblk_nxt, unblk_ret, unblk_brk, finM_nxt, finM_ret, outV_one, condM_t, condM_f, condM_dt, condM_df, gd_t, gd_f, gdf_t, gdf_f, gd_skip, gd_dt, gd_df, gdf_dt, gdf_df, pick_t, pick_f, pick_dt, pick_df, not_t, not_f, not_dec, isNil_ptr, isNil_ptr', isNil_pnil, isNil_pnil', nilck_ptr, faddr_ptr, Nat.zero_add, Nat.add_zero, wp_ld1, lenStr_str, lenSlc_slice, strV_str, i64_add, i64_sub, i64_mul, i64_in, int_eqd, int_ned, int_lss, int_leq, int_gtr, int_geq, str_eqd, str_ned, if_true, wp_bndH, wp_withH, wp_need, enc_int, enc_str, enc_byte, enc_bool, List.getElem?_cons_zero, List.getElem?_cons_succ, decide_true])
      exact hQ _
    by_cases h1 : i < l.length
    · have h60 : ¬ i < 60 := fun h6 => h ⟨h1, h6⟩
      (try simp (maxSteps := 1000000) (disch := first | omega | simp | assumption) only [at_zero, at_succ, wp_bnd, wp_lift, wpO_some, wp_ret, nx_nxt, nx_brk, nx_ret, unblk_nxt, unblk_ret, unblk_brk, finM_nxt, finM_ret, outV_one, condM_t, condM_f, condM_dt, condM_df, gd_t, gd_f, gdf_t, gdf_f, gd_skip, gd_dt, gd_df, gdf_dt, gdf_df, pick_t, pick_f, pick_dt, pick_df, not_t, not_f, not_dec, isNil_ptr, isNil_ptr', isNil_pnil, isNil_pnil', nilck_ptr, faddr_ptr, Nat.zero_add, Nat.add_zero, wp_ld1, lenStr_str, lenSlc_slice, strV_str, i64_add, i64_sub, i64_mul, i64_in, int_eqd, int_ned, int_lss, int_leq, int_gtr, int_geq, str_eqd, str_ned, if_true, wp_bndH, wp_withH, wp_need, enc_int, enc_str, enc_byte, enc_bool, List.getElem?_cons_zero, List.getElem?_cons_succ, law01_ShaPieces_l4, hl'.len])
      exact done
    · (try simp (maxSteps := 1000000) (disch := first | omega | simp | assumption) only [at_zero, at_succ, wp_bnd, wp_lift, wpO_some, wp_ret, nx_nxt, nx_brk, nx_ret, unblk_nxt, unblk_ret, unblk_brk, finM_nxt, finM_ret, outV_one, condM_t, condM_f, condM_dt, condM_df, gd_t, gd_f, gdf_t, gdf_f, gd_skip, gd_dt, gd_df, gdf_dt, gdf_df, pick_t, pick_f, pick_dt, pick_df, not_t, not_f, not_dec, isNil_ptr, isNil_ptr', isNil_pnil, isNil_pnil', nilck_ptr, faddr_ptr, Nat.zero_add, Nat.add_zero, wp_ld1, lenStr_str, lenSlc_slice, strV_str, i64_add, i64_sub, i64_mul, i64_in, int_eqd, int_ned, int_lss, int_leq, int_gtr, int_geq, str_eqd, str_ned, if_true, wp_bndH, wp_withH, wp_need, enc_int, enc_str, enc_byte, enc_bool, List.getElem?_cons_zero, List.getElem?_cons_succ, law01_ShaPieces_l4, hl'.len])
      exact done
end Go.AM.Cap
