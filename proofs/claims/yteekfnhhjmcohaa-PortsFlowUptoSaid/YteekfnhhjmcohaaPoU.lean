import Derived.Test.YteekfnhhjmcohaaPoR
set_option linter.all false
/- Contains, and the sorting of short lists -/
set_option maxHeartbeats 8000000
namespace Go.AM.Cap
open Go.AM Go.Proofs

theorem seg_addr {H : Heap} {v : V} {l : List Int} (h : Seg H v (l.map i64)) {i : Nat} (hi : i < l.length) : iaddrS 1 v (i64 i) = some (ptr (slB v) (slO v + i)) := by
  have := h.addr (k := .i64) (i := i) (by omega) (by simp; omega)
  rwa [Int.toNat_natCast] at this
theorem seg_cell {H : Heap} {v : V} {l : List Int} (h : Seg H v (l.map i64)) {i : Nat} (hi : i < l.length) : cellP H (ptr (slB v) (slO v + i)) = some (i64 (l.getD i 0)) := by
  rw [h.cell (by simpa using hi), List.getElem?_map, List.getD_eq_getElem?_getD, List.getElem?_eq_getElem hi]; rfl
theorem drop_take_set {α : Type} (cs : List α) (o n i : Nat) (x : α) (hi : i < n) (hn : o + n ≤ cs.length) : ((cs.set (o + i) x).drop o).take n = ((cs.drop o).take n).set i x := by
  apply List.ext_getElem?
  intro j
  rw [List.getElem?_take]
  by_cases hj : j < n
  · rw [if_pos hj, List.getElem?_drop]
    by_cases e : j = i
    · subst e
      rw [List.getElem?_set_self (by omega), List.getElem?_set_self (by simp; omega)]
    · rw [List.getElem?_set_ne (by omega), List.getElem?_set_ne (fun q => e q.symm), List.getElem?_take, if_pos hj, List.getElem?_drop]
  · rw [if_neg hj, List.getElem?_eq_none (by simp; omega)]
/-- a store into a slice -/
theorem seg_st {H : Heap} {v : V} {l : List V} (h : Seg H v l) {i : Nat} (hi : i < l.length) {x : V} (hx : x.isOne = true) {Q : V → Heap → Prop} (hQ : ∀ u H', Seg H' v (l.set i x) → Keeps (vb v) H H' → Q u H') : wp (st1 (ptr (slB v) (slO v + i)) x) Q H := by
  rcases h with ⟨rfl, rfl⟩ | ⟨b, o, c, cs, rfl, hc, hg, hl⟩
  · simp at hi
  · rcases hl with rfl | ⟨h1, h2⟩
    · simp at hi
    · have hbl := Heap.get_lt hg
      refine (wp_st1 (o := o + i) hg hx (by omega)).mpr ?_
      refine hQ _ _ (.inr ⟨b, o, c, cs.set (o + i) x, by simp, by simpa using hc, Heap.get_set_self hbl, .inr ⟨by simp; omega, ?_⟩⟩) (Keeps.set (by simp))
      rw [List.length_set, drop_take_set cs o l.length i x hi h1, h2]

theorem index_ok {H : Heap} {v : V} {l : List Int} (hv : Seg H v (l.map i64)) (hl : l.length ≤ 1000000) (x : Int) (Q : V → Heap → Prop) (hQ : ∀ r : Int, (r ≥ 0 ↔ x ∈ l) → Q (i64 r) H) : wp (A_slices_Index_S_int_int [v, i64 x]) Q H := by
  show wp (F_slices_Index_S_int_int v (i64 x)) Q H
  have h1 : lenSlc v = some (i64 l.length) := by have := hv.len; rwa [List.length_map] at this
  (try simp (maxSteps := 1000000) (disch := first | omega | (simp only [Heap.next_push', Heap.next_set']; omega) | (simp; done) | assumption | decide | (refine not_not_intro ?_; assumption)) only [at_zero, at_succ, wp_bnd, wp_lift, wpO_some, wp_ret, nx_nxt, nx_brk, nx_ret, unblk_nxt, unblk_ret, unblk_brk, finM_nxt, finM_ret, outV_one, condM_t, condM_f, condM_dt, condM_df, gd_t, gd_f, gdf_t, gdf_f, gd_skip, gd_dt, gd_df, gdf_dt, gdf_df, pick_t, pick_f, pick_dt, pick_df, not_t, not_f, not_dec, isNil_ptr, isNil_ptr', isNil_pnil, isNil_pnil', nilck_ptr, faddr_ptr, Nat.zero_add, Nat.add_zero, wp_ld1, lenStr_str, lenSlc_slice, strV_str, i64_add, i64_sub, i64_mul, i64_in, int_eqd, int_ned, int_lss, int_leq, int_gtr, int_geq, str_eqd, str_ned, if_true, wp_bndH, wp_withH, wp_need, enc_int, enc_str, enc_byte, enc_bool, List.getElem?_cons_zero, List.getElem?_cons_succ, F_slices_Index_S_int_int, h1])
  refine wp_loop (Inv := fun k vs H' => ∃ i : Nat, k = l.length - i ∧ i ≤ l.length ∧ vs = [v, i64 x, i64 l.length, i64 i] ∧ H' = H ∧ ∀ j, j < i → l.getD j 0 ≠ x) (n := l.length) (by unfold FUEL; omega) ⟨0, by omega, by omega, rfl, rfl, fun j hj => by omega⟩ ?_
  rintro k vs H' ⟨i, hk, hi, rfl, rfl, hno⟩
  by_cases h : i < l.length
  · have a1 := seg_addr hv h
    have c1 := seg_cell hv h
    by_cases he : x = l.getD i 0
    · (try simp (maxSteps := 1000000) (disch := first | omega | (simp only [Heap.next_push', Heap.next_set']; omega) | (simp; done) | assumption | decide | (refine not_not_intro ?_; assumption)) only [at_zero, at_succ, wp_bnd, wp_lift, wpO_some, wp_ret, nx_nxt, nx_brk, nx_ret, unblk_nxt, unblk_ret, unblk_brk, finM_nxt, finM_ret, outV_one, condM_t, condM_f, condM_dt, condM_df, gd_t, gd_f, gdf_t, gdf_f, gd_skip, gd_dt, gd_df, gdf_dt, gdf_df, pick_t, pick_f, pick_dt, pick_df, not_t, not_f, not_dec, isNil_ptr, isNil_ptr', isNil_pnil, isNil_pnil', nilck_ptr, faddr_ptr, Nat.zero_add, Nat.add_zero, wp_ld1, lenStr_str, lenSlc_slice, strV_str, i64_add, i64_sub, i64_mul, i64_in, int_eqd, int_ned, int_lss, int_leq, int_gtr, int_geq, str_eqd, str_ned, if_true, wp_bndH, wp_withH, wp_need, enc_int, enc_str, enc_byte, enc_bool, List.getElem?_cons_zero, List.getElem?_cons_succ, slices_Index_S_int_int_l2, slices_Index_S_int_int_k1, a1, c1])
      refine hQ i ⟨fun _ => ?_, fun _ => by omega⟩
      rw [he, List.getD_eq_getElem?_getD, List.getElem?_eq_getElem h]
      exact List.getElem_mem h
    · (try simp (maxSteps := 1000000) (disch := first | omega | (simp only [Heap.next_push', Heap.next_set']; omega) | (simp; done) | assumption | decide | (refine not_not_intro ?_; assumption)) only [at_zero, at_succ, wp_bnd, wp_lift, wpO_some, wp_ret, nx_nxt, nx_brk, nx_ret, unblk_nxt, unblk_ret, unblk_brk, finM_nxt, finM_ret, outV_one, condM_t, condM_f, condM_dt, condM_df, gd_t, gd_f, gdf_t, gdf_f, gd_skip, gd_dt, gd_df, gdf_dt, gdf_df, pick_t, pick_f, pick_dt, pick_df, not_t, not_f, not_dec, isNil_ptr, isNil_ptr', isNil_pnil, isNil_pnil', nilck_ptr, faddr_ptr, Nat.zero_add, Nat.add_zero, wp_ld1, lenStr_str, lenSlc_slice, strV_str, i64_add, i64_sub, i64_mul, i64_in, int_eqd, int_ned, int_lss, int_leq, int_gtr, int_geq, str_eqd, str_ned, if_true, wp_bndH, wp_withH, wp_need, enc_int, enc_str, enc_byte, enc_bool, List.getElem?_cons_zero, List.getElem?_cons_succ, slices_Index_S_int_int_l2, slices_Index_S_int_int_k1, a1, c1, slices_Index_S_int_int_k0])
      refine ⟨l.length - (i + 1), by omega, i + 1, rfl, by omega, rfl, by trivial, fun j hj => ?_⟩
      by_cases e : j = i
      · subst e; exact fun q => he q.symm
      · exact hno j (by omega)
  · have : i = l.length := by omega
    subst this
    (try simp (maxSteps := 1000000) (disch := first | omega | (simp only [Heap.next_push', Heap.next_set']; omega) | (simp; done) | assumption | decide | (refine not_not_intro ?_; assumption)) only [at_zero, at_succ, wp_bnd, wp_lift, wpO_some, wp_ret, nx_nxt, nx_brk, nx_ret, unblk_nxt, unblk_ret, unblk_brk, finM_nxt, finM_ret, outV_one, condM_t, condM_f, condM_dt, condM_df, gd_t, gd_f, gdf_t, gdf_f, gd_skip, gd_dt, gd_df, gdf_dt, gdf_df, pick_t, pick_f, pick_dt, pick_df, not_t, not_f, not_dec, isNil_ptr, isNil_ptr', isNil_pnil, isNil_pnil', nilck_ptr, faddr_ptr, Nat.zero_add, Nat.add_zero, wp_ld1, lenStr_str, lenSlc_slice, strV_str, i64_add, i64_sub, i64_mul, i64_in, int_eqd, int_ned, int_lss, int_leq, int_gtr, int_geq, str_eqd, str_ned, if_true, wp_bndH, wp_withH, wp_need, enc_int, enc_str, enc_byte, enc_bool, List.getElem?_cons_zero, List.getElem?_cons_succ, slices_Index_S_int_int_l2, slices_Index_S_int_int_k3])
    refine hQ (-1) ⟨fun h => by omega, fun hm => ?_⟩
    obtain ⟨j, hj, e⟩ := List.getElem_of_mem hm
    have := hno j hj
    rw [List.getD_eq_getElem?_getD, List.getElem?_eq_getElem hj] at this
    exact absurd e this
theorem contains_ok {H : Heap} {v : V} {l : List Int} (hv : Seg H v (l.map i64)) (hl : l.length ≤ 1000000) (x : Int) (Q : V → Heap → Prop) (hQ : Q (.bool (decide (x ∈ l))) H) : wp (A_slices_Contains_S_int_int [v, i64 x]) Q H := by
  show wp (F_slices_Contains_S_int_int v (i64 x)) Q H
  simp only [F_slices_Contains_S_int_int, wp_bnd]
  refine index_ok hv hl x _ fun r hr => ?_
  (try simp (maxSteps := 1000000) (disch := first | omega | (simp only [Heap.next_push', Heap.next_set']; omega) | (simp; done) | assumption | decide | (refine not_not_intro ?_; assumption)) only [at_zero, at_succ, wp_bnd, wp_lift, wpO_some, wp_ret, nx_nxt, nx_brk, nx_ret, unblk_nxt, unblk_ret, unblk_brk, finM_nxt, finM_ret, outV_one, condM_t, condM_f, condM_dt, condM_df, gd_t, gd_f, gdf_t, gdf_f, gd_skip, gd_dt, gd_df, gdf_dt, gdf_df, pick_t, pick_f, pick_dt, pick_df, not_t, not_f, not_dec, isNil_ptr, isNil_ptr', isNil_pnil, isNil_pnil', nilck_ptr, faddr_ptr, Nat.zero_add, Nat.add_zero, wp_ld1, lenStr_str, lenSlc_slice, strV_str, i64_add, i64_sub, i64_mul, i64_in, int_eqd, int_ned, int_lss, int_leq, int_gtr, int_geq, str_eqd, str_ned, if_true, wp_bndH, wp_withH, wp_need, enc_int, enc_str, enc_byte, enc_bool, List.getElem?_cons_zero, List.getElem?_cons_succ])
  rw [show decide (r ≥ 0) = decide (x ∈ l) from decide_eq_decide.mpr hr]
  exact hQ

theorem less_eq (x y : Int) : A_cmp_Less_int [i64 x, i64 y] = ret (.bool (decide (x < y))) := eq_ret fun H => by
  show wp (F_cmp_Less_int (i64 x) (i64 y)) _ H
  have e : ∀ z : Int, A_cmp_isNaN_int [i64 z] = ret (.bool false) := fun z => eq_ret fun H => by
    show wp (F_cmp_isNaN_int (i64 z)) _ H
    (try simp (maxSteps := 1000000) (disch := first | omega | (simp only [Heap.next_push', Heap.next_set']; omega) | (simp; done) | assumption | decide | (refine not_not_intro ?_; assumption)) only [at_zero, at_succ, wp_bnd, wp_lift, wpO_some, wp_ret, nx_nxt, nx_brk, nx_ret, unblk_nxt, unblk_ret, unblk_brk, finM_nxt, finM_ret, outV_one, condM_t, condM_f, condM_dt, condM_df, gd_t, gd_f, gdf_t, gdf_f, gd_skip, gd_dt, gd_df, gdf_dt, gdf_df, pick_t, pick_f, pick_dt, pick_df, not_t, not_f, not_dec, isNil_ptr, isNil_ptr', isNil_pnil, isNil_pnil', nilck_ptr, faddr_ptr, Nat.zero_add, Nat.add_zero, wp_ld1, lenStr_str, lenSlc_slice, strV_str, i64_add, i64_sub, i64_mul, i64_in, int_eqd, int_ned, int_lss, int_leq, int_gtr, int_geq, str_eqd, str_ned, if_true, wp_bndH, wp_withH, wp_need, enc_int, enc_str, enc_byte, enc_bool, List.getElem?_cons_zero, List.getElem?_cons_succ, F_cmp_isNaN_int])
    simp
  (try simp (maxSteps := 1000000) (disch := first | omega | (simp only [Heap.next_push', Heap.next_set']; omega) | (simp; done) | assumption | decide | (refine not_not_intro ?_; assumption)) only [at_zero, at_succ, wp_bnd, wp_lift, wpO_some, wp_ret, nx_nxt, nx_brk, nx_ret, unblk_nxt, unblk_ret, unblk_brk, finM_nxt, finM_ret, outV_one, condM_t, condM_f, condM_dt, condM_df, gd_t, gd_f, gdf_t, gdf_f, gd_skip, gd_dt, gd_df, gdf_dt, gdf_df, pick_t, pick_f, pick_dt, pick_df, not_t, not_f, not_dec, isNil_ptr, isNil_ptr', isNil_pnil, isNil_pnil', nilck_ptr, faddr_ptr, Nat.zero_add, Nat.add_zero, wp_ld1, lenStr_str, lenSlc_slice, strV_str, i64_add, i64_sub, i64_mul, i64_in, int_eqd, int_ned, int_lss, int_leq, int_gtr, int_geq, str_eqd, str_ned, if_true, wp_bndH, wp_withH, wp_need, enc_int, enc_str, enc_byte, enc_bool, List.getElem?_cons_zero, List.getElem?_cons_succ, F_cmp_Less_int, e])
  simp

/-! sorting -/
def Sorted (l : List Int) : Prop := l.Pairwise (· ≤ ·)
/-- x on its way into what is sorted -/
def inS (P : List Int) (x : Int) (j : Nat) : List Int := P.take j ++ x :: P.drop j
theorem inS_len (P : List Int) (x : Int) (j : Nat) : (inS P x j).length = P.length + 1 := by simp [inS]; omega
theorem inS_perm (P : List Int) (x : Int) (j : Nat) : (inS P x j).Perm (P ++ [x]) := by
  unfold inS
  refine List.perm_middle.trans ?_
  rw [List.take_append_drop]
  exact (List.perm_append_singleton x P).symm
theorem inS_at (P : List Int) (x : Int) (j : Nat) (hj : j ≤ P.length) : (inS P x j).getD j 0 = x := by
  rw [inS, List.getD_eq_getElem?_getD, List.getElem?_append_right (by rw [List.length_take]; omega), List.length_take, Nat.min_eq_left hj, Nat.sub_self]; rfl
theorem inS_lt (P : List Int) (x : Int) (j k : Nat) (hj : j ≤ P.length) (hk : k < j) : (inS P x j).getD k 0 = P.getD k 0 := by
  rw [inS, List.getD_eq_getElem?_getD, List.getElem?_append_left (by simp; omega), List.getElem?_take, if_pos hk, ← List.getD_eq_getElem?_getD]
theorem inS_step (P : List Int) (x : Int) (j : Nat) (hj : j < P.length) : ((inS P x (j + 1)).set (j + 1) (P.getD j 0)).set j x = inS P x j := by
  apply List.ext_getElem?
  intro k
  have hl : (inS P x (j + 1)).length = P.length + 1 := inS_len _ _ _
  have e1 : ∀ k, k < j → (inS P x j)[k]? = P[k]? := fun k hk => by rw [inS, List.getElem?_append_left (by simp; omega), List.getElem?_take, if_pos hk]
  have e2 : ∀ k, k < j + 1 → (inS P x (j + 1))[k]? = P[k]? := fun k hk => by rw [inS, List.getElem?_append_left (by simp; omega), List.getElem?_take, if_pos hk]
  have e3 : ∀ j k, j ≤ P.length → j < k → (inS P x j)[k]? = P[k - 1]? := fun j k hj hk => by
    rw [inS, List.getElem?_append_right (by simp; omega), List.length_take, Nat.min_eq_left hj]
    obtain ⟨d, rfl⟩ : ∃ d, k = j + (d + 1) := ⟨k - j - 1, by omega⟩
    rw [show j + (d + 1) - j = d + 1 by omega, List.getElem?_cons_succ, List.getElem?_drop]
    congr 1
  by_cases hk : k = j
  · subst hk
    rw [List.getElem?_set_self (by simp; omega), inS, List.getElem?_append_right (by rw [List.length_take]; omega), List.length_take, Nat.min_eq_left (by omega), Nat.sub_self]; rfl
  · rw [List.getElem?_set_ne (fun e => hk e.symm)]
    by_cases hk1 : k = j + 1
    · subst hk1
      rw [List.getElem?_set_self (by omega), e3 j (j + 1) (by omega) (by omega), List.getD_eq_getElem?_getD, show j + 1 - 1 = j by omega, List.getElem?_eq_getElem hj]; rfl
    · rw [List.getElem?_set_ne (fun e => hk1 e.symm)]
      by_cases hk2 : k < j
      · rw [e1 k hk2, e2 k (by omega)]
      · rw [e3 j k (by omega) (by omega), e3 (j + 1) k (by omega) (by omega)]
theorem inS_sorted (P : List Int) (x : Int) (j : Nat) (hP : Sorted P) (h1 : ∀ y ∈ P.drop j, x ≤ y) (h2 : ∀ y ∈ P.take j, y ≤ x) : Sorted (inS P x j) := by
  unfold inS Sorted
  rw [List.pairwise_append]
  have hPj : (P.take j ++ P.drop j).Pairwise (· ≤ ·) := by rw [List.take_append_drop]; exact hP
  rw [List.pairwise_append] at hPj
  obtain ⟨p1, p2, p3⟩ := hPj
  refine ⟨p1, List.pairwise_cons.2 ⟨h1, p2⟩, fun a ha b hb => ?_⟩
  rcases List.mem_cons.1 hb with rfl | hb
  · exact h2 a ha
  · exact p3 a ha b hb

/-- slices.Sort of at most 12 numbers -/
theorem isort_ok {H : Heap} {v : V} {l : List Int} (hv : Seg H v (l.map i64)) (hl : l.length ≤ 12) (Q : V → Heap → Prop) (hQ : ∀ u l' H', Seg H' v (l'.map i64) → l'.Perm l → Sorted l' → Keeps (vb v) H H' → Q u H') : wp (A_slices_insertionSortOrdered_int [v, i64 0, i64 l.length]) Q H := by
  show wp (F_slices_insertionSortOrdered_int v (i64 0) (i64 l.length)) Q H
  (try simp (maxSteps := 1000000) (disch := first | omega | (simp only [Heap.next_push', Heap.next_set']; omega) | (simp; done) | assumption | decide | (refine not_not_intro ?_; assumption)) only [at_zero, at_succ, wp_bnd, wp_lift, wpO_some, wp_ret, nx_nxt, nx_brk, nx_ret, unblk_nxt, unblk_ret, unblk_brk, finM_nxt, finM_ret, outV_one, condM_t, condM_f, condM_dt, condM_df, gd_t, gd_f, gdf_t, gdf_f, gd_skip, gd_dt, gd_df, gdf_dt, gdf_df, pick_t, pick_f, pick_dt, pick_df, not_t, not_f, not_dec, isNil_ptr, isNil_ptr', isNil_pnil, isNil_pnil', nilck_ptr, faddr_ptr, Nat.zero_add, Nat.add_zero, wp_ld1, lenStr_str, lenSlc_slice, strV_str, i64_add, i64_sub, i64_mul, i64_in, int_eqd, int_ned, int_lss, int_leq, int_gtr, int_geq, str_eqd, str_ned, if_true, wp_bndH, wp_withH, wp_need, enc_int, enc_str, enc_byte, enc_bool, List.getElem?_cons_zero, List.getElem?_cons_succ, F_slices_insertionSortOrdered_int])
  refine wp_loop (Inv := fun k vs H' => ∃ (i : Nat) (P R : List Int), k = l.length + 1 - i ∧ P.length + R.length = l.length ∧ vs = [v, i64 0, i64 l.length, i64 i] ∧ Seg H' v ((P ++ R).map i64) ∧ (P ++ R).Perm l ∧ Sorted P ∧ Keeps (vb v) H H' ∧ ((i = P.length ∧ 1 ≤ i) ∨ (i = 1 ∧ P = [] ∧ R = []))) (n := l.length) (by unfold FUEL; omega) ?_ ?_
  · cases l with
    | nil => exact ⟨1, [], [], by simp, by simp, rfl, hv, .refl _, List.Pairwise.nil, Keeps.refl _ _, .inr ⟨rfl, rfl, rfl⟩⟩
    | cons x l => exact ⟨1, [x], l, by simp, by simp; omega, rfl, hv, .refl _, List.pairwise_singleton _ _, Keeps.refl _ _, .inl ⟨rfl, by omega⟩⟩
  rintro k vs H' ⟨i, P, R, hk, hPR, rfl, hseg, hperm, hsort, hkp, hi⟩
  by_cases hlt : i < l.length
  case neg =>
    have hR : R = [] := by
      rcases hi with ⟨h1, _⟩ | ⟨_, _, h3⟩
      · exact List.eq_nil_of_length_eq_zero (by omega)
      · exact h3
    subst hR
    rw [List.append_nil] at hseg hperm
    (try simp (maxSteps := 1000000) (disch := first | omega | (simp only [Heap.next_push', Heap.next_set']; omega) | (simp; done) | assumption | decide | (refine not_not_intro ?_; assumption)) only [at_zero, at_succ, wp_bnd, wp_lift, wpO_some, wp_ret, nx_nxt, nx_brk, nx_ret, unblk_nxt, unblk_ret, unblk_brk, finM_nxt, finM_ret, outV_one, condM_t, condM_f, condM_dt, condM_df, gd_t, gd_f, gdf_t, gdf_f, gd_skip, gd_dt, gd_df, gdf_dt, gdf_df, pick_t, pick_f, pick_dt, pick_df, not_t, not_f, not_dec, isNil_ptr, isNil_ptr', isNil_pnil, isNil_pnil', nilck_ptr, faddr_ptr, Nat.zero_add, Nat.add_zero, wp_ld1, lenStr_str, lenSlc_slice, strV_str, i64_add, i64_sub, i64_mul, i64_in, int_eqd, int_ned, int_lss, int_leq, int_gtr, int_geq, str_eqd, str_ned, if_true, wp_bndH, wp_withH, wp_need, enc_int, enc_str, enc_byte, enc_bool, List.getElem?_cons_zero, List.getElem?_cons_succ, slices_insertionSortOrdered_int_l5])
    exact hQ _ P H' hseg hperm hsort hkp
  obtain ⟨hiP, hi1⟩ : i = P.length ∧ 1 ≤ i := by
    rcases hi with h | ⟨h1, h2, h3⟩
    · exact h
    · subst h2 h3; simp at hPR; omega
  obtain ⟨x, R', rfl⟩ : ∃ x R', R = x :: R' := by
    cases R with
    | nil => simp at hPR; omega
    | cons x R' => exact ⟨x, R', rfl⟩
  have hR' : P.length + (R'.length + 1) = l.length := by simpa using hPR
  (try simp (maxSteps := 1000000) (disch := first | omega | (simp only [Heap.next_push', Heap.next_set']; omega) | (simp; done) | assumption | decide | (refine not_not_intro ?_; assumption)) only [at_zero, at_succ, wp_bnd, wp_lift, wpO_some, wp_ret, nx_nxt, nx_brk, nx_ret, unblk_nxt, unblk_ret, unblk_brk, finM_nxt, finM_ret, outV_one, condM_t, condM_f, condM_dt, condM_df, gd_t, gd_f, gdf_t, gdf_f, gd_skip, gd_dt, gd_df, gdf_dt, gdf_df, pick_t, pick_f, pick_dt, pick_df, not_t, not_f, not_dec, isNil_ptr, isNil_ptr', isNil_pnil, isNil_pnil', nilck_ptr, faddr_ptr, Nat.zero_add, Nat.add_zero, wp_ld1, lenStr_str, lenSlc_slice, strV_str, i64_add, i64_sub, i64_mul, i64_in, int_eqd, int_ned, int_lss, int_leq, int_gtr, int_geq, str_eqd, str_ned, if_true, wp_bndH, wp_withH, wp_need, enc_int, enc_str, enc_byte, enc_bool, List.getElem?_cons_zero, List.getElem?_cons_succ, slices_insertionSortOrdered_int_l5, slices_insertionSortOrdered_int_k4])
  refine wp_loop (Inv := fun k vs H2 => ∃ j : Nat, k = j ∧ j ≤ P.length ∧ vs = [v, i64 0, i64 l.length, i64 i, i64 j] ∧ Seg H2 v ((inS P x j ++ R').map i64) ∧ (∀ y ∈ P.drop j, x ≤ y) ∧ Keeps (vb v) H H2) (n := P.length) (by unfold FUEL; omega)
    ⟨P.length, rfl, Nat.le_refl _, by rw [hiP], by rw [inS, List.take_length, List.drop_length, List.append_assoc]; exact hseg, by simp, hkp⟩ ?_
  rintro k2 vs2 H2 ⟨j, hk2, hj, rfl, hseg2, hge, hkp2⟩
  have hlen : (inS P x j ++ R').length = l.length := by rw [List.length_append, inS_len]; omega
  have fin : (∀ y ∈ P.take j, y ≤ x) → ∃ k', k' < k ∧ ∃ (i' : Nat) (P R : List Int), k' = l.length + 1 - i' ∧ P.length + R.length = l.length ∧ [v, i64 0, i64 l.length, i64 ((i : Int) + 1)] = [v, i64 0, i64 l.length, i64 i'] ∧ Seg H2 v ((P ++ R).map i64) ∧ (P ++ R).Perm l ∧ Sorted P ∧ Keeps (vb v) H H2 ∧ ((i' = P.length ∧ 1 ≤ i') ∨ (i' = 1 ∧ P = [] ∧ R = [])) := fun hle =>
    ⟨l.length + 1 - (i + 1), by omega, i + 1, inS P x j, R', rfl, by rw [inS_len]; omega, rfl, hseg2, by
      refine List.Perm.trans ?_ hperm
      rw [show P ++ x :: R' = (P ++ [x]) ++ R' by simp]
      exact (inS_perm P x j).append_right R', inS_sorted P x j hsort hge hle, hkp2, .inl ⟨by rw [inS_len]; omega, by omega⟩⟩
  by_cases hj0 : j = 0
  · subst hj0
    (try simp (maxSteps := 1000000) (disch := first | omega | (simp only [Heap.next_push', Heap.next_set']; omega) | (simp; done) | assumption | decide | (refine not_not_intro ?_; assumption)) only [at_zero, at_succ, wp_bnd, wp_lift, wpO_some, wp_ret, nx_nxt, nx_brk, nx_ret, unblk_nxt, unblk_ret, unblk_brk, finM_nxt, finM_ret, outV_one, condM_t, condM_f, condM_dt, condM_df, gd_t, gd_f, gdf_t, gdf_f, gd_skip, gd_dt, gd_df, gdf_dt, gdf_df, pick_t, pick_f, pick_dt, pick_df, not_t, not_f, not_dec, isNil_ptr, isNil_ptr', isNil_pnil, isNil_pnil', nilck_ptr, faddr_ptr, Nat.zero_add, Nat.add_zero, wp_ld1, lenStr_str, lenSlc_slice, strV_str, i64_add, i64_sub, i64_mul, i64_in, int_eqd, int_ned, int_lss, int_leq, int_gtr, int_geq, str_eqd, str_ned, if_true, wp_bndH, wp_withH, wp_need, enc_int, enc_str, enc_byte, enc_bool, List.getElem?_cons_zero, List.getElem?_cons_succ, slices_insertionSortOrdered_int_l2, slices_insertionSortOrdered_int_k3])
    exact fin (by simp)
  obtain ⟨d, rfl⟩ : ∃ d, j = d + 1 := ⟨j - 1, by omega⟩
  have a1 := seg_addr hseg2 (i := d + 1) (by rw [hlen]; omega)
  have a2 := seg_addr hseg2 (i := d) (by rw [hlen]; omega)
  have c1 := seg_cell hseg2 (i := d + 1) (by rw [hlen]; omega)
  have c2 := seg_cell hseg2 (i := d) (by rw [hlen]; omega)
  have g1 : (inS P x (d + 1) ++ R').getD (d + 1) 0 = x := by
    rw [List.getD_eq_getElem?_getD, List.getElem?_append_left (by rw [inS_len]; omega), ← List.getD_eq_getElem?_getD]; exact inS_at P x (d + 1) hj
  have g2 : (inS P x (d + 1) ++ R').getD d 0 = P.getD d 0 := by
    rw [List.getD_eq_getElem?_getD, List.getElem?_append_left (by rw [inS_len]; omega), ← List.getD_eq_getElem?_getD]; exact inS_lt P x (d + 1) d hj (by omega)
  rw [g1] at c1
  rw [g2] at c2
  have hsub : ((d + 1 : Nat) : Int) - 1 = (d : Nat) := by omega
  by_cases hless : x < P.getD d 0
  · (try simp (maxSteps := 1000000) (disch := first | omega | (simp only [Heap.next_push', Heap.next_set']; omega) | (simp; done) | assumption | decide | (refine not_not_intro ?_; assumption)) only [at_zero, at_succ, wp_bnd, wp_lift, wpO_some, wp_ret, nx_nxt, nx_brk, nx_ret, unblk_nxt, unblk_ret, unblk_brk, finM_nxt, finM_ret, outV_one, condM_t, condM_f, condM_dt, condM_df, gd_t, gd_f, gdf_t, gdf_f, gd_skip, gd_dt, gd_df, gdf_dt, gdf_df, pick_t, pick_f, pick_dt, pick_df, not_t, not_f, not_dec, isNil_ptr, isNil_ptr', isNil_pnil, isNil_pnil', nilck_ptr, faddr_ptr, Nat.zero_add, Nat.add_zero, wp_ld1, lenStr_str, lenSlc_slice, strV_str, i64_add, i64_sub, i64_mul, i64_in, int_eqd, int_ned, int_lss, int_leq, int_gtr, int_geq, str_eqd, str_ned, if_true, wp_bndH, wp_withH, wp_need, enc_int, enc_str, enc_byte, enc_bool, List.getElem?_cons_zero, List.getElem?_cons_succ, slices_insertionSortOrdered_int_l2, a1, hsub, a2, c1, c2, less_eq, slices_insertionSortOrdered_int_k1])
    refine seg_st hseg2 (i := d + 1) (by rw [List.length_map, hlen]; omega) rfl fun u H3 s3 k3 => ?_
    (try simp (maxSteps := 1000000) (disch := first | omega | (simp only [Heap.next_push', Heap.next_set']; omega) | (simp; done) | assumption | decide | (refine not_not_intro ?_; assumption)) only [at_zero, at_succ, wp_bnd, wp_lift, wpO_some, wp_ret, nx_nxt, nx_brk, nx_ret, unblk_nxt, unblk_ret, unblk_brk, finM_nxt, finM_ret, outV_one, condM_t, condM_f, condM_dt, condM_df, gd_t, gd_f, gdf_t, gdf_f, gd_skip, gd_dt, gd_df, gdf_dt, gdf_df, pick_t, pick_f, pick_dt, pick_df, not_t, not_f, not_dec, isNil_ptr, isNil_ptr', isNil_pnil, isNil_pnil', nilck_ptr, faddr_ptr, Nat.zero_add, Nat.add_zero, wp_ld1, lenStr_str, lenSlc_slice, strV_str, i64_add, i64_sub, i64_mul, i64_in, int_eqd, int_ned, int_lss, int_leq, int_gtr, int_geq, str_eqd, str_ned, if_true, wp_bndH, wp_withH, wp_need, enc_int, enc_str, enc_byte, enc_bool, List.getElem?_cons_zero, List.getElem?_cons_succ])
    refine seg_st s3 (i := d) (by rw [List.length_set, List.length_map, hlen]; omega) rfl fun u H4 s4 k4 => ?_
    (try simp (maxSteps := 1000000) (disch := first | omega | (simp only [Heap.next_push', Heap.next_set']; omega) | (simp; done) | assumption | decide | (refine not_not_intro ?_; assumption)) only [at_zero, at_succ, wp_bnd, wp_lift, wpO_some, wp_ret, nx_nxt, nx_brk, nx_ret, unblk_nxt, unblk_ret, unblk_brk, finM_nxt, finM_ret, outV_one, condM_t, condM_f, condM_dt, condM_df, gd_t, gd_f, gdf_t, gdf_f, gd_skip, gd_dt, gd_df, gdf_dt, gdf_df, pick_t, pick_f, pick_dt, pick_df, not_t, not_f, not_dec, isNil_ptr, isNil_ptr', isNil_pnil, isNil_pnil', nilck_ptr, faddr_ptr, Nat.zero_add, Nat.add_zero, wp_ld1, lenStr_str, lenSlc_slice, strV_str, i64_add, i64_sub, i64_mul, i64_in, int_eqd, int_ned, int_lss, int_leq, int_gtr, int_geq, str_eqd, str_ned, if_true, wp_bndH, wp_withH, wp_need, enc_int, enc_str, enc_byte, enc_bool, List.getElem?_cons_zero, List.getElem?_cons_succ, slices_insertionSortOrdered_int_k0, hsub])
    have e : ((((inS P x (d + 1) ++ R').map i64).set (d + 1) (i64 (P.getD d 0))).set d (i64 x)) = (inS P x d ++ R').map i64 := by
      rw [← List.map_set, ← List.map_set, List.set_append_left _ _ (by rw [inS_len]; omega), List.set_append_left _ _ (by rw [List.length_set, inS_len]; omega), inS_step P x d (by omega)]
    rw [e] at s4
    refine ⟨d, by omega, d, rfl, by omega, rfl, s4, fun y hy => ?_, (hkp2.trans k3 (fun _ _ h => h)).trans k4 (fun _ _ h => h)⟩
    rw [List.drop_eq_getElem_cons (by omega)] at hy
    rcases List.mem_cons.1 hy with rfl | hy
    · have : P.getD d 0 = P[d] := by rw [List.getD_eq_getElem?_getD, List.getElem?_eq_getElem (by omega)]; rfl
      omega
    · exact hge y hy
  · (try simp (maxSteps := 1000000) (disch := first | omega | (simp only [Heap.next_push', Heap.next_set']; omega) | (simp; done) | assumption | decide | (refine not_not_intro ?_; assumption)) only [at_zero, at_succ, wp_bnd, wp_lift, wpO_some, wp_ret, nx_nxt, nx_brk, nx_ret, unblk_nxt, unblk_ret, unblk_brk, finM_nxt, finM_ret, outV_one, condM_t, condM_f, condM_dt, condM_df, gd_t, gd_f, gdf_t, gdf_f, gd_skip, gd_dt, gd_df, gdf_dt, gdf_df, pick_t, pick_f, pick_dt, pick_df, not_t, not_f, not_dec, isNil_ptr, isNil_ptr', isNil_pnil, isNil_pnil', nilck_ptr, faddr_ptr, Nat.zero_add, Nat.add_zero, wp_ld1, lenStr_str, lenSlc_slice, strV_str, i64_add, i64_sub, i64_mul, i64_in, int_eqd, int_ned, int_lss, int_leq, int_gtr, int_geq, str_eqd, str_ned, if_true, wp_bndH, wp_withH, wp_need, enc_int, enc_str, enc_byte, enc_bool, List.getElem?_cons_zero, List.getElem?_cons_succ, slices_insertionSortOrdered_int_l2, a1, hsub, a2, c1, c2, less_eq, slices_insertionSortOrdered_int_k3])
    refine fin fun y hy => ?_
    obtain ⟨q, hq, rfl⟩ := List.getElem_of_mem hy
    rw [List.length_take] at hq
    rw [List.getElem_take]
    have hPd : P.getD d 0 = P[d]'(by omega) := by rw [List.getD_eq_getElem?_getD, List.getElem?_eq_getElem (by omega)]; rfl
    rw [hPd] at hless
    by_cases e : q = d
    · subst e; omega
    · have := List.pairwise_iff_getElem.1 hsort q d (by omega) (by omega) (by omega)
      omega
end Go.AM.Cap

/- ports: Flows -/
set_option maxHeartbeats 8000000
namespace Go.AM.Cap
open Go.AM Go.Proofs

def noM (_ : List V) : M V := fail
theorem known_no {P : Program} {f : Nat} (h : plainF P f = true) : Known P f noM := ⟨h, fun N w₀ ρ H w args args' r H' hG hR ha hl => (fail_ne hl).elim⟩
theorem bitsLen_ok (n : Nat) (hn : n ≤ 12) (H : Heap) (Q : V → Heap → Prop) (hQ : ∀ v, Q v H) : wp (A_math_bits_Len [W (BitVec.ofNat 64 n)]) Q H := by
  have key : ∀ m : M V, (m H).map Prod.snd = some H → wp m Q H := fun m h => by
    cases hm : m H with
    | none => rw [hm] at h; cases h
    | some x => rw [hm] at h; obtain ⟨v, H'⟩ := x; cases h; exact ⟨v, _, hm, hQ v⟩
  have : n = 0 ∨ n = 1 ∨ n = 2 ∨ n = 3 ∨ n = 4 ∨ n = 5 ∨ n = 6 ∨ n = 7 ∨ n = 8 ∨ n = 9 ∨ n = 10 ∨ n = 11 ∨ n = 12 := by omega
  rcases this with rfl | rfl | rfl | rfl | rfl | rfl | rfl | rfl | rfl | rfl | rfl | rfl | rfl
  all_goals exact key _ (by kernel_rfl)
theorem sort_ok {H : Heap} {v : V} {l : List Int} (hv : Seg H v (l.map i64)) (hl : l.length ≤ 12) (Q : V → Heap → Prop) (hQ : ∀ u l' H', Seg H' v (l'.map i64) → l'.Perm l → Sorted l' → Keeps (vb v) H H' → Q u H') : wp (A_slices_Sort_S_int_int noM [v]) Q H := by
  show wp (F_slices_Sort_S_int_int noM v) Q H
  have h1 : lenSlc v = some (i64 l.length) := by have := hv.len; rwa [List.length_map] at this
  (try simp (maxSteps := 1000000) (disch := first | omega | (simp only [Heap.next_push', Heap.next_set']; omega) | (simp; done) | assumption | decide | (refine not_not_intro ?_; assumption)) only [at_zero, at_succ, wp_bnd, wp_lift, wpO_some, wp_ret, nx_nxt, nx_brk, nx_ret, unblk_nxt, unblk_ret, unblk_brk, finM_nxt, finM_ret, outV_one, condM_t, condM_f, condM_dt, condM_df, gd_t, gd_f, gdf_t, gdf_f, gd_skip, gd_dt, gd_df, gdf_dt, gdf_df, pick_t, pick_f, pick_dt, pick_df, not_t, not_f, not_dec, isNil_ptr, isNil_ptr', isNil_pnil, isNil_pnil', nilck_ptr, faddr_ptr, Nat.zero_add, Nat.add_zero, wp_ld1, lenStr_str, lenSlc_slice, strV_str, i64_add, i64_sub, i64_mul, i64_in, int_eqd, int_ned, int_lss, int_leq, int_gtr, int_geq, str_eqd, str_ned, if_true, wp_bndH, wp_withH, wp_need, enc_int, enc_str, enc_byte, enc_bool, List.getElem?_cons_zero, List.getElem?_cons_succ, F_slices_Sort_S_int_int, h1, i64_u64])
  refine bitsLen_ok l.length hl _ _ fun b => ?_
  show wp (F_slices_pdqsortOrdered_int noM v (i64 0) (i64 l.length) b) _ H
  (try simp (maxSteps := 1000000) (disch := first | omega | (simp only [Heap.next_push', Heap.next_set']; omega) | (simp; done) | assumption | decide | (refine not_not_intro ?_; assumption)) only [at_zero, at_succ, wp_bnd, wp_lift, wpO_some, wp_ret, nx_nxt, nx_brk, nx_ret, unblk_nxt, unblk_ret, unblk_brk, finM_nxt, finM_ret, outV_one, condM_t, condM_f, condM_dt, condM_df, gd_t, gd_f, gdf_t, gdf_f, gd_skip, gd_dt, gd_df, gdf_dt, gdf_df, pick_t, pick_f, pick_dt, pick_df, not_t, not_f, not_dec, isNil_ptr, isNil_ptr', isNil_pnil, isNil_pnil', nilck_ptr, faddr_ptr, Nat.zero_add, Nat.add_zero, wp_ld1, lenStr_str, lenSlc_slice, strV_str, i64_add, i64_sub, i64_mul, i64_in, int_eqd, int_ned, int_lss, int_leq, int_gtr, int_geq, str_eqd, str_ned, if_true, wp_bndH, wp_withH, wp_need, enc_int, enc_str, enc_byte, enc_bool, List.getElem?_cons_zero, List.getElem?_cons_succ, F_slices_pdqsortOrdered_int])
  refine wp_loop (Inv := fun k vs H' => k = 0 ∧ vs = [v, i64 0, i64 l.length, b, .bool true, .bool true] ∧ H' = H) (n := 0) (by unfold FUEL; omega) ⟨rfl, rfl, rfl⟩ ?_
  rintro k vs H' ⟨rfl, rfl, rfl⟩
  (try simp (maxSteps := 1000000) (disch := first | omega | (simp only [Heap.next_push', Heap.next_set']; omega) | (simp; done) | assumption | decide | (refine not_not_intro ?_; assumption)) only [at_zero, at_succ, wp_bnd, wp_lift, wpO_some, wp_ret, nx_nxt, nx_brk, nx_ret, unblk_nxt, unblk_ret, unblk_brk, finM_nxt, finM_ret, outV_one, condM_t, condM_f, condM_dt, condM_df, gd_t, gd_f, gdf_t, gdf_f, gd_skip, gd_dt, gd_df, gdf_dt, gdf_df, pick_t, pick_f, pick_dt, pick_df, not_t, not_f, not_dec, isNil_ptr, isNil_ptr', isNil_pnil, isNil_pnil', nilck_ptr, faddr_ptr, Nat.zero_add, Nat.add_zero, wp_ld1, lenStr_str, lenSlc_slice, strV_str, i64_add, i64_sub, i64_mul, i64_in, int_eqd, int_ned, int_lss, int_leq, int_gtr, int_geq, str_eqd, str_ned, if_true, wp_bndH, wp_withH, wp_need, enc_int, enc_str, enc_byte, enc_bool, List.getElem?_cons_zero, List.getElem?_cons_succ, slices_pdqsortOrdered_int_l6])
  refine isort_ok hv hl _ fun u l' H2 s p so kk => ?_
  (try simp (maxSteps := 1000000) (disch := first | omega | (simp only [Heap.next_push', Heap.next_set']; omega) | (simp; done) | assumption | decide | (refine not_not_intro ?_; assumption)) only [at_zero, at_succ, wp_bnd, wp_lift, wpO_some, wp_ret, nx_nxt, nx_brk, nx_ret, unblk_nxt, unblk_ret, unblk_brk, finM_nxt, finM_ret, outV_one, condM_t, condM_f, condM_dt, condM_df, gd_t, gd_f, gdf_t, gdf_f, gd_skip, gd_dt, gd_df, gdf_dt, gdf_df, pick_t, pick_f, pick_dt, pick_df, not_t, not_f, not_dec, isNil_ptr, isNil_ptr', isNil_pnil, isNil_pnil', nilck_ptr, faddr_ptr, Nat.zero_add, Nat.add_zero, wp_ld1, lenStr_str, lenSlc_slice, strV_str, i64_add, i64_sub, i64_mul, i64_in, int_eqd, int_ned, int_lss, int_leq, int_gtr, int_geq, str_eqd, str_ned, if_true, wp_bndH, wp_withH, wp_need, enc_int, enc_str, enc_byte, enc_bool, List.getElem?_cons_zero, List.getElem?_cons_succ])
  exact hQ _ l' H2 s p so kk

inductive Reach (ls : List Port) (fr : Int) : Int → Prop
  | base (p : Port) (hp : p ∈ ls) (h : p.src = fr) : Reach ls fr p.dst
  | step (p : Port) (hp : p ∈ ls) (h : Reach ls fr p.src) : Reach ls fr p.dst
theorem nodup_len : ∀ (n : Nat) (l : List Int), l.Nodup → (∀ x ∈ l, 0 ≤ x ∧ x < n) → l.length ≤ n
  | 0, l, _, h => by
    cases l with
    | nil => simp
    | cons x l => have := h x (by simp); omega
  | n + 1, l, hn, h => by
    by_cases hm : (n : Int) ∈ l
    · have h1 := nodup_len n (l.erase n) (hn.erase _) (fun x hx => by
        have h2 := h x (List.mem_of_mem_erase hx)
        have h3 : x ≠ n := ((hn.mem_erase_iff).1 hx).1
        omega)
      have h2 := List.length_erase_of_mem hm
      omega
    · have h1 := nodup_len n l hn (fun x hx => by
        have h2 := h x hx
        have h3 : x ≠ n := fun e => hm (e ▸ hx)
        omega)
      omega
theorem good_dst {q : Port} (h : wrongP q = 0) : (0 ≤ q.src ∧ q.src < 8) ∧ (0 ≤ q.dst ∧ q.dst < 8) := by
  unfold wrongP at h
  repeat' split at h
  all_goals omega

/-- what Flows tells -/
def flowSet (ls : List Port) (fr : Int) (l : List Int) : Prop := Sorted l ∧ l.Nodup ∧ (∀ x ∈ l, 0 ≤ x ∧ x < 8) ∧ ∀ x, x ∈ l ↔ Reach ls fr x
theorem perm_sorted_eq : ∀ (l l' : List Int), l.Nodup → l'.Nodup → Sorted l → Sorted l' → (∀ x, x ∈ l ↔ x ∈ l') → l = l'
  | [], [], _, _, _, _, _ => rfl
  | [], y :: l', _, _, _, _, h => by have := (h y).2 (by simp); simp at this
  | x :: l, [], _, _, _, _, h => by have := (h x).1 (by simp); simp at this
  | x :: l, y :: l', n1, n2, s1, s2, h => by
    obtain ⟨a1, a2⟩ := List.pairwise_cons.1 s1
    obtain ⟨b1, b2⟩ := List.pairwise_cons.1 s2
    obtain ⟨c1, c2⟩ := List.nodup_cons.1 n1
    obtain ⟨d1, d2⟩ := List.nodup_cons.1 n2
    have hxy : x = y := by
      have e1 : y ≤ x := by
        rcases List.mem_cons.1 ((h x).1 (by simp)) with e | e
        · omega
        · exact b1 x e
      have e2 : x ≤ y := by
        rcases List.mem_cons.1 ((h y).2 (by simp)) with e | e
        · omega
        · exact a1 y e
      omega
    subst hxy
    rw [perm_sorted_eq l l' c2 d2 a2 b2 fun z => ⟨fun hz => by
      rcases List.mem_cons.1 ((h z).1 (by simp [hz])) with e | e
      · subst e; exact absurd hz c1
      · exact e, fun hz => by
      rcases List.mem_cons.1 ((h z).2 (by simp [hz])) with e | e
      · subst e; exact absurd hz d1
      · exact e⟩]
theorem flowSet_eq {ls : List Port} {fr : Int} {l l' : List Int} (h : flowSet ls fr l) (h' : flowSet ls fr l') : l = l' :=
  perm_sorted_eq l l' h.2.1 h'.2.1 h.1 h'.1 fun x => (h.2.2.2 x).trans (h'.2.2.2 x).symm
end Go.AM.Cap

/- ports: the program's Flows -/
set_option maxHeartbeats 8000000
namespace Go.AM.Cap
open Go.AM Go.Proofs

/-- what is known in the midst of Flows: what was found is reached; what waits is the start, or found -/
structure Found (ls : List Port) (fr : Int) (o w : List Int) : Prop where
  nd : o.Nodup
  rg : ∀ x ∈ o, 0 ≤ x ∧ x < 8
  re : ∀ x ∈ o, Reach ls fr x
  wa : ∀ x ∈ w, x = fr ∨ x ∈ o
  cl : ∀ y, (y = fr ∨ y ∈ o) → y ∈ w ∨ ∀ p ∈ ls, p.src = y → p.dst ∈ o
  wl : w.length ≤ o.length + 1
theorem Found.len {ls : List Port} {fr : Int} {o w : List Int} (h : Found ls fr o w) : o.length ≤ 8 := nodup_len 8 o h.nd (fun x hx => by have := h.rg x hx; omega)
theorem Found.add {ls : List Port} {fr : Int} {o w : List Int} (h : Found ls fr o w) (hg : ∀ q ∈ ls, wrongP q = 0) {p : Port} (hp : p ∈ ls) {at_ : Int} {w' : List Int} (hw : w = at_ :: w') (hs : p.src = at_) (hn : p.dst ∉ o) : Found ls fr (o ++ [p.dst]) (w ++ [p.dst]) := by
  refine ⟨?_, fun x hx => ?_, fun x hx => ?_, fun x hx => ?_, fun y hy => ?_, by simp; exact h.wl⟩
  · rw [List.nodup_append]
    exact ⟨h.nd, by simp, fun a ha b hb e => by simp at hb; subst hb; subst e; exact hn ha⟩
  · rcases List.mem_append.1 hx with q | q
    · exact h.rg x q
    · simp at q; subst q; exact (good_dst (hg p hp)).2
  · rcases List.mem_append.1 hx with q | q
    · exact h.re x q
    · simp at q; subst q
      rcases h.wa at_ (by rw [hw]; simp) with e | e
      · exact .base p hp (hs.trans e)
      · exact .step p hp (hs ▸ h.re _ e)
  · rcases List.mem_append.1 hx with q | q
    · rcases h.wa x q with e | e
      · exact .inl e
      · exact .inr (List.mem_append.2 (.inl e))
    · exact .inr (List.mem_append.2 (.inr q))
  · rcases hy with e | e
    · rcases h.cl y (.inl e) with q | q
      · exact .inl (List.mem_append.2 (.inl q))
      · exact .inr fun p hp e => List.mem_append.2 (.inl (q p hp e))
    · rcases List.mem_append.1 e with e | e
      · rcases h.cl y (.inr e) with q | q
        · exact .inl (List.mem_append.2 (.inl q))
        · exact .inr fun p hp e => List.mem_append.2 (.inl (q p hp e))
      · exact .inl (List.mem_append.2 (.inr e))
theorem Found.drop {ls : List Port} {fr : Int} {o : List Int} {a : Int} {w : List Int} (h : Found ls fr o (a :: w)) (hd : ∀ p ∈ ls, p.src = a → p.dst ∈ o) : Found ls fr o w :=
  ⟨h.nd, h.rg, h.re, fun x hx => h.wa x (by simp [hx]), fun y hy => by
    rcases h.cl y hy with q | q
    · rcases List.mem_cons.1 q with e | e
      · subst e; exact .inr hd
      · exact .inl e
    · exact .inr q, by have := h.wl; simp at this; omega⟩
theorem Found.done {ls : List Port} {fr : Int} {o : List Int} (h : Found ls fr o []) (x : Int) : x ∈ o ↔ Reach ls fr x := by
  refine ⟨h.re x, fun hr => ?_⟩
  have cl : ∀ y, (y = fr ∨ y ∈ o) → ∀ p ∈ ls, p.src = y → p.dst ∈ o := fun y hy => by
    rcases h.cl y hy with q | q
    · simp at q
    · exact q
  induction hr with
  | base p hp h => exact cl _ (.inl h) p hp rfl
  | step p hp _ ih => exact cl _ (.inr ih) p hp rfl
theorem Found.start (ls : List Port) (fr : Int) : Found ls fr [] [fr] :=
  ⟨List.nodup_nil, by simp, by simp, by simp, by simp, by simp⟩

theorem flows_inner {H0 H : Heap} {lv : V} {ls : List Port} {fr : Int} {O Wv : SV} {o w : List Int} {a : Int} (hl : Sl H0 lv ls) (hsm : ls.length ≤ 16) (hg : ∀ q ∈ ls, wrongP q = 0) (h : Lot H0 H [] [(O, o), (Wv, w)]) (hf : Found ls fr o w) (hw : ∃ w', w = a :: w') (Q : Out → Heap → Prop)
    (hQ1 : ∀ (O' W' : SV) (p : Port) (H' : Heap), Lot H0 H' [] [(O', o ++ [p.dst]), (W', w ++ [p.dst])] → Found ls fr (o ++ [p.dst]) (w ++ [p.dst]) → Q (.brk 1 [lv, O'.v, W'.v]) H')
    (hQ2 : ∀ H', Lot H0 H' [] [(O, o), (Wv, w)] → (∀ p ∈ ls, p.src = a → p.dst ∈ o) → Q (.brk 2 [lv, O.v, Wv.v]) H') :
    wp (loopM FUEL (ports_Flows_l2 noM) [lv, O.v, Wv.v, i64 a, lv, i64 ls.length, i64 0]) Q H := by
  refine wp_loop (Inv := fun k vs H' => ∃ i : Nat, k = ls.length - i ∧ i ≤ ls.length ∧ vs = [lv, O.v, Wv.v, i64 a, lv, i64 ls.length, i64 i] ∧ Lot H0 H' [] [(O, o), (Wv, w)] ∧ ∀ j, j < i → (ls.getD j default).src = a → (ls.getD j default).dst ∈ o) (n := ls.length) (by unfold FUEL; omega)
    ⟨0, by omega, by omega, rfl, h, fun j hj => by omega⟩ ?_
  clear h
  rintro k vs H' ⟨i, hk, hi, rfl, h, hno⟩
  by_cases hlt : i < ls.length
  case neg =>
    have : i = ls.length := by omega
    subst this
    (try simp (maxSteps := 1000000) (disch := first | omega | (simp only [Heap.next_push', Heap.next_set']; omega) | (simp; done) | assumption | decide | (refine not_not_intro ?_; assumption)) only [at_zero, at_succ, wp_bnd, wp_lift, wpO_some, wp_ret, nx_nxt, nx_brk, nx_ret, unblk_nxt, unblk_ret, unblk_brk, finM_nxt, finM_ret, outV_one, condM_t, condM_f, condM_dt, condM_df, gd_t, gd_f, gdf_t, gdf_f, gd_skip, gd_dt, gd_df, gdf_dt, gdf_df, pick_t, pick_f, pick_dt, pick_df, not_t, not_f, not_dec, isNil_ptr, isNil_ptr', isNil_pnil, isNil_pnil', nilck_ptr, faddr_ptr, Nat.zero_add, Nat.add_zero, wp_ld1, lenStr_str, lenSlc_slice, strV_str, i64_add, i64_sub, i64_mul, i64_in, int_eqd, int_ned, int_lss, int_leq, int_gtr, int_geq, str_eqd, str_ned, if_true, wp_bndH, wp_withH, wp_need, enc_int, enc_str, enc_byte, enc_bool, List.getElem?_cons_zero, List.getElem?_cons_succ, cellP_get, cellG_cells, wp_st1g, stG_c, eq_self, true_and, wp_stng, stnG_ok, wp_ldng, ldG_ok, wp_newcg, wp_boxg, Heap.get_push_eq, Heap.get_push_lt, Heap.get_set_eq, Heap.get_set_ne', Heap.next_push', Heap.next_set', Heap.set_push_lt, Heap.set_push_eq, Heap.set_set, fld1_agg, fldn_agg, ext_tuple, outV_nil, outV_two, outV_three, outV_four, chk_ld1g, chkO_int, chkO_bool, chkO_str, chkO_ptr, chkO_slc, chkO_map, List.set_cons_zero, List.set_cons_succ, List.length_cons, List.length_nil, List.drop_succ_cons, List.drop_zero, List.take_succ_cons, List.take_zero, List.nil_append, List.cons_append, splice, isOne_int, isOne_str, isOne_bool, isOne_slice, isOne_pointer, isOne_map, condM_nf, condM_nef, gd_nef, gdf_nef, pick_nef, build_eq, fillA_nil, fillA_one, fillA_agg, Option.map_some, resv_one, resv_two, freeIn_nil, fillA_slc, fillA_int, fillA_str, fillA_bool, fillA_ptr, fillA_map, ports_Flows_l2])
    refine hQ2 _ h fun p hp hs => ?_
    obtain ⟨j, hj, rfl⟩ := List.getElem_of_mem hp
    have := hno j hj
    rw [List.getD_eq_getElem?_getD, List.getElem?_eq_getElem hj] at this
    exact this hs
  have hl' := hl.keep0 h.k
  have hmem : ls.getD i default ∈ ls := by rw [List.getD_eq_getElem?_getD, List.getElem?_eq_getElem hlt]; exact List.getElem_mem hlt
  have hol := hf.len
  have hwl := hf.wl
  have hadd : iaddrS 5 lv (i64 i) = some (ptr (slB lv) (slO lv + i * 5)) := by
    have := hl'.addr' (n := 5) rfl (k := .i64) (i := i) (by omega) (by omega)
    rwa [Int.toNat_natCast] at this
  have hldn : ∀ {Q : V → Heap → Prop}, wp (ldn 5 (ptr (slB lv) (slO lv + i * 5))) Q H' ↔ Q (.agg [i64 (ls.getD i default).kind, i64 (ls.getD i default).src, i64 (ls.getD i default).dst, i64 (ls.getD i default).typ, i64 (ls.getD i default).cap].toArray) H' := fun {Q} => by
    rw [hl'.ldn' (n := 5) rfl hlt default]; rfl
  have hnoi := hno
  generalize hqq : ls.getD i default = q at *
  (try simp (maxSteps := 1000000) (disch := first | omega | (simp only [Heap.next_push', Heap.next_set']; omega) | (simp; done) | assumption | decide | (refine not_not_intro ?_; assumption)) only [at_zero, at_succ, wp_bnd, wp_lift, wpO_some, wp_ret, nx_nxt, nx_brk, nx_ret, unblk_nxt, unblk_ret, unblk_brk, finM_nxt, finM_ret, outV_one, condM_t, condM_f, condM_dt, condM_df, gd_t, gd_f, gdf_t, gdf_f, gd_skip, gd_dt, gd_df, gdf_dt, gdf_df, pick_t, pick_f, pick_dt, pick_df, not_t, not_f, not_dec, isNil_ptr, isNil_ptr', isNil_pnil, isNil_pnil', nilck_ptr, faddr_ptr, Nat.zero_add, Nat.add_zero, wp_ld1, lenStr_str, lenSlc_slice, strV_str, i64_add, i64_sub, i64_mul, i64_in, int_eqd, int_ned, int_lss, int_leq, int_gtr, int_geq, str_eqd, str_ned, if_true, wp_bndH, wp_withH, wp_need, enc_int, enc_str, enc_byte, enc_bool, List.getElem?_cons_zero, List.getElem?_cons_succ, cellP_get, cellG_cells, wp_st1g, stG_c, eq_self, true_and, wp_stng, stnG_ok, wp_ldng, ldG_ok, wp_newcg, wp_boxg, Heap.get_push_eq, Heap.get_push_lt, Heap.get_set_eq, Heap.get_set_ne', Heap.next_push', Heap.next_set', Heap.set_push_lt, Heap.set_push_eq, Heap.set_set, fld1_agg, fldn_agg, ext_tuple, outV_nil, outV_two, outV_three, outV_four, chk_ld1g, chkO_int, chkO_bool, chkO_str, chkO_ptr, chkO_slc, chkO_map, List.set_cons_zero, List.set_cons_succ, List.length_cons, List.length_nil, List.drop_succ_cons, List.drop_zero, List.take_succ_cons, List.take_zero, List.nil_append, List.cons_append, splice, isOne_int, isOne_str, isOne_bool, isOne_slice, isOne_pointer, isOne_map, condM_nf, condM_nef, gd_nef, gdf_nef, pick_nef, build_eq, fillA_nil, fillA_one, fillA_agg, Option.map_some, resv_one, resv_two, freeIn_nil, fillA_slc, fillA_int, fillA_str, fillA_bool, fillA_ptr, fillA_map, ports_Flows_l2, ports_Flows_k1, hadd, hldn])
  have k3 : Keeps [] H' (H'.push (some (.cells true [i64 q.kind, i64 q.src, i64 q.dst, i64 q.typ, i64 q.cap]))) := Keeps.push _ _ _
  have hL := Heap.get_push_self H' (some (.cells true [i64 q.kind, i64 q.src, i64 q.dst, i64 q.typ, i64 q.cap]))
  have hLn : H'.next < (H'.push (some (.cells true [i64 q.kind, i64 q.src, i64 q.dst, i64 q.typ, i64 q.cap]))).next := by simp
  have hOl : ∀ b ∈ vb O.v, b < H'.next := (h.seg 0 _ rfl).lt
  have hWl : ∀ b ∈ vb Wv.v, b < H'.next := (h.seg 1 _ rfl).lt
  have h3 := h.keep k3
  generalize hH3 : H'.push (some (.cells true [i64 q.kind, i64 q.src, i64 q.dst, i64 q.typ, i64 q.cap])) = H3 at *
  generalize hLL : H'.next = L at *
  have next : (q.src = a → q.dst ∈ o) → ∃ k', k' < k ∧ ∃ i' : Nat, k' = ls.length - i' ∧ i' ≤ ls.length ∧ [lv, O.v, Wv.v, i64 a, lv, i64 ls.length, i64 ((i : Int) + 1)] = [lv, O.v, Wv.v, i64 a, lv, i64 ls.length, i64 i'] ∧ Lot H0 H3 [] [(O, o), (Wv, w)] ∧ ∀ j, j < i' → (ls.getD j default).src = a → (ls.getD j default).dst ∈ o := fun hq =>
    ⟨ls.length - (i + 1), by omega, i + 1, rfl, by omega, rfl, h3, fun j hj => by
      by_cases e : j = i
      · subst e; rw [hqq]; exact hq
      · exact hno j (by omega)⟩
  by_cases hs : q.src = a
  case neg =>
    (try simp (maxSteps := 1000000) (disch := first | omega | (simp only [Heap.next_push', Heap.next_set']; omega) | (simp; done) | assumption | decide | (refine not_not_intro ?_; assumption)) only [at_zero, at_succ, wp_bnd, wp_lift, wpO_some, wp_ret, nx_nxt, nx_brk, nx_ret, unblk_nxt, unblk_ret, unblk_brk, finM_nxt, finM_ret, outV_one, condM_t, condM_f, condM_dt, condM_df, gd_t, gd_f, gdf_t, gdf_f, gd_skip, gd_dt, gd_df, gdf_dt, gdf_df, pick_t, pick_f, pick_dt, pick_df, not_t, not_f, not_dec, isNil_ptr, isNil_ptr', isNil_pnil, isNil_pnil', nilck_ptr, faddr_ptr, Nat.zero_add, Nat.add_zero, wp_ld1, lenStr_str, lenSlc_slice, strV_str, i64_add, i64_sub, i64_mul, i64_in, int_eqd, int_ned, int_lss, int_leq, int_gtr, int_geq, str_eqd, str_ned, if_true, wp_bndH, wp_withH, wp_need, enc_int, enc_str, enc_byte, enc_bool, List.getElem?_cons_zero, List.getElem?_cons_succ, cellP_get, cellG_cells, wp_st1g, stG_c, eq_self, true_and, wp_stng, stnG_ok, wp_ldng, ldG_ok, wp_newcg, wp_boxg, Heap.get_push_eq, Heap.get_push_lt, Heap.get_set_eq, Heap.get_set_ne', Heap.next_push', Heap.next_set', Heap.set_push_lt, Heap.set_push_eq, Heap.set_set, fld1_agg, fldn_agg, ext_tuple, outV_nil, outV_two, outV_three, outV_four, chk_ld1g, chkO_int, chkO_bool, chkO_str, chkO_ptr, chkO_slc, chkO_map, List.set_cons_zero, List.set_cons_succ, List.length_cons, List.length_nil, List.drop_succ_cons, List.drop_zero, List.take_succ_cons, List.take_zero, List.nil_append, List.cons_append, splice, isOne_int, isOne_str, isOne_bool, isOne_slice, isOne_pointer, isOne_map, condM_nf, condM_nef, gd_nef, gdf_nef, pick_nef, build_eq, fillA_nil, fillA_one, fillA_agg, Option.map_some, resv_one, resv_two, freeIn_nil, fillA_slc, fillA_int, fillA_str, fillA_bool, fillA_ptr, fillA_map, hL, ports_Flows_k0])
    exact next (fun e => absurd e hs)
  (try simp (maxSteps := 1000000) (disch := first | omega | (simp only [Heap.next_push', Heap.next_set']; omega) | (simp; done) | assumption | decide | (refine not_not_intro ?_; assumption)) only [at_zero, at_succ, wp_bnd, wp_lift, wpO_some, wp_ret, nx_nxt, nx_brk, nx_ret, unblk_nxt, unblk_ret, unblk_brk, finM_nxt, finM_ret, outV_one, condM_t, condM_f, condM_dt, condM_df, gd_t, gd_f, gdf_t, gdf_f, gd_skip, gd_dt, gd_df, gdf_dt, gdf_df, pick_t, pick_f, pick_dt, pick_df, not_t, not_f, not_dec, isNil_ptr, isNil_ptr', isNil_pnil, isNil_pnil', nilck_ptr, faddr_ptr, Nat.zero_add, Nat.add_zero, wp_ld1, lenStr_str, lenSlc_slice, strV_str, i64_add, i64_sub, i64_mul, i64_in, int_eqd, int_ned, int_lss, int_leq, int_gtr, int_geq, str_eqd, str_ned, if_true, wp_bndH, wp_withH, wp_need, enc_int, enc_str, enc_byte, enc_bool, List.getElem?_cons_zero, List.getElem?_cons_succ, cellP_get, cellG_cells, wp_st1g, stG_c, eq_self, true_and, wp_stng, stnG_ok, wp_ldng, ldG_ok, wp_newcg, wp_boxg, Heap.get_push_eq, Heap.get_push_lt, Heap.get_set_eq, Heap.get_set_ne', Heap.next_push', Heap.next_set', Heap.set_push_lt, Heap.set_push_eq, Heap.set_set, fld1_agg, fldn_agg, ext_tuple, outV_nil, outV_two, outV_three, outV_four, chk_ld1g, chkO_int, chkO_bool, chkO_str, chkO_ptr, chkO_slc, chkO_map, List.set_cons_zero, List.set_cons_succ, List.length_cons, List.length_nil, List.drop_succ_cons, List.drop_zero, List.take_succ_cons, List.take_zero, List.nil_append, List.cons_append, splice, isOne_int, isOne_str, isOne_bool, isOne_slice, isOne_pointer, isOne_map, condM_nf, condM_nef, gd_nef, gdf_nef, pick_nef, build_eq, fillA_nil, fillA_one, fillA_agg, Option.map_some, resv_one, resv_two, freeIn_nil, fillA_slc, fillA_int, fillA_str, fillA_bool, fillA_ptr, fillA_map, hL])
  refine contains_ok (l := o) (h3.seg 0 (O, o) rfl) (by omega) q.dst _ ?_
  by_cases hc : q.dst ∈ o
  · (try simp (maxSteps := 1000000) (disch := first | omega | (simp only [Heap.next_push', Heap.next_set']; omega) | (simp; done) | assumption | decide | (refine not_not_intro ?_; assumption)) only [at_zero, at_succ, wp_bnd, wp_lift, wpO_some, wp_ret, nx_nxt, nx_brk, nx_ret, unblk_nxt, unblk_ret, unblk_brk, finM_nxt, finM_ret, outV_one, condM_t, condM_f, condM_dt, condM_df, gd_t, gd_f, gdf_t, gdf_f, gd_skip, gd_dt, gd_df, gdf_dt, gdf_df, pick_t, pick_f, pick_dt, pick_df, not_t, not_f, not_dec, isNil_ptr, isNil_ptr', isNil_pnil, isNil_pnil', nilck_ptr, faddr_ptr, Nat.zero_add, Nat.add_zero, wp_ld1, lenStr_str, lenSlc_slice, strV_str, i64_add, i64_sub, i64_mul, i64_in, int_eqd, int_ned, int_lss, int_leq, int_gtr, int_geq, str_eqd, str_ned, if_true, wp_bndH, wp_withH, wp_need, enc_int, enc_str, enc_byte, enc_bool, List.getElem?_cons_zero, List.getElem?_cons_succ, cellP_get, cellG_cells, wp_st1g, stG_c, eq_self, true_and, wp_stng, stnG_ok, wp_ldng, ldG_ok, wp_newcg, wp_boxg, Heap.get_push_eq, Heap.get_push_lt, Heap.get_set_eq, Heap.get_set_ne', Heap.next_push', Heap.next_set', Heap.set_push_lt, Heap.set_push_eq, Heap.set_set, fld1_agg, fldn_agg, ext_tuple, outV_nil, outV_two, outV_three, outV_four, chk_ld1g, chkO_int, chkO_bool, chkO_str, chkO_ptr, chkO_slc, chkO_map, List.set_cons_zero, List.set_cons_succ, List.length_cons, List.length_nil, List.drop_succ_cons, List.drop_zero, List.take_succ_cons, List.take_zero, List.nil_append, List.cons_append, splice, isOne_int, isOne_str, isOne_bool, isOne_slice, isOne_pointer, isOne_map, condM_nf, condM_nef, gd_nef, gdf_nef, pick_nef, build_eq, fillA_nil, fillA_one, fillA_agg, Option.map_some, resv_one, resv_two, freeIn_nil, fillA_slc, fillA_int, fillA_str, fillA_bool, fillA_ptr, fillA_map, hL, ports_Flows_k0])
    exact next (fun _ => hc)
  · (try simp (maxSteps := 1000000) (disch := first | omega | (simp only [Heap.next_push', Heap.next_set']; omega) | (simp; done) | assumption | decide | (refine not_not_intro ?_; assumption)) only [at_zero, at_succ, wp_bnd, wp_lift, wpO_some, wp_ret, nx_nxt, nx_brk, nx_ret, unblk_nxt, unblk_ret, unblk_brk, finM_nxt, finM_ret, outV_one, condM_t, condM_f, condM_dt, condM_df, gd_t, gd_f, gdf_t, gdf_f, gd_skip, gd_dt, gd_df, gdf_dt, gdf_df, pick_t, pick_f, pick_dt, pick_df, not_t, not_f, not_dec, isNil_ptr, isNil_ptr', isNil_pnil, isNil_pnil', nilck_ptr, faddr_ptr, Nat.zero_add, Nat.add_zero, wp_ld1, lenStr_str, lenSlc_slice, strV_str, i64_add, i64_sub, i64_mul, i64_in, int_eqd, int_ned, int_lss, int_leq, int_gtr, int_geq, str_eqd, str_ned, if_true, wp_bndH, wp_withH, wp_need, enc_int, enc_str, enc_byte, enc_bool, List.getElem?_cons_zero, List.getElem?_cons_succ, cellP_get, cellG_cells, wp_st1g, stG_c, eq_self, true_and, wp_stng, stnG_ok, wp_ldng, ldG_ok, wp_newcg, wp_boxg, Heap.get_push_eq, Heap.get_push_lt, Heap.get_set_eq, Heap.get_set_ne', Heap.next_push', Heap.next_set', Heap.set_push_lt, Heap.set_push_eq, Heap.set_set, fld1_agg, fldn_agg, ext_tuple, outV_nil, outV_two, outV_three, outV_four, chk_ld1g, chkO_int, chkO_bool, chkO_str, chkO_ptr, chkO_slc, chkO_map, List.set_cons_zero, List.set_cons_succ, List.length_cons, List.length_nil, List.drop_succ_cons, List.drop_zero, List.take_succ_cons, List.take_zero, List.nil_append, List.cons_append, splice, isOne_int, isOne_str, isOne_bool, isOne_slice, isOne_pointer, isOne_map, condM_nf, condM_nef, gd_nef, gdf_nef, pick_nef, build_eq, fillA_nil, fillA_one, fillA_agg, Option.map_some, resv_one, resv_two, freeIn_nil, fillA_slc, fillA_int, fillA_str, fillA_bool, fillA_ptr, fillA_map, hL])
    refine app_one (l := o) (h3.seg 0 (O, o) rfl) q.dst (by omega) _ fun O2 H4 s4 k4 f4 => ?_
    have h4 := h3.put (i := 0) (y := (O2, o ++ [q.dst])) rfl k4 s4 (fun b hb => .inr (f4 b hb))
    have h4' : Lot H0 H4 [] [(O2, o ++ [q.dst]), (Wv, w)] := h4
    have hL4 := k4.get hL (fun hm => by have := hOl _ hm; omega)
    (try simp (maxSteps := 1000000) (disch := first | omega | (simp only [Heap.next_push', Heap.next_set']; omega) | (simp; done) | assumption | decide | (refine not_not_intro ?_; assumption)) only [at_zero, at_succ, wp_bnd, wp_lift, wpO_some, wp_ret, nx_nxt, nx_brk, nx_ret, unblk_nxt, unblk_ret, unblk_brk, finM_nxt, finM_ret, outV_one, condM_t, condM_f, condM_dt, condM_df, gd_t, gd_f, gdf_t, gdf_f, gd_skip, gd_dt, gd_df, gdf_dt, gdf_df, pick_t, pick_f, pick_dt, pick_df, not_t, not_f, not_dec, isNil_ptr, isNil_ptr', isNil_pnil, isNil_pnil', nilck_ptr, faddr_ptr, Nat.zero_add, Nat.add_zero, wp_ld1, lenStr_str, lenSlc_slice, strV_str, i64_add, i64_sub, i64_mul, i64_in, int_eqd, int_ned, int_lss, int_leq, int_gtr, int_geq, str_eqd, str_ned, if_true, wp_bndH, wp_withH, wp_need, enc_int, enc_str, enc_byte, enc_bool, List.getElem?_cons_zero, List.getElem?_cons_succ, cellP_get, cellG_cells, wp_st1g, stG_c, eq_self, true_and, wp_stng, stnG_ok, wp_ldng, ldG_ok, wp_newcg, wp_boxg, Heap.get_push_eq, Heap.get_push_lt, Heap.get_set_eq, Heap.get_set_ne', Heap.next_push', Heap.next_set', Heap.set_push_lt, Heap.set_push_eq, Heap.set_set, fld1_agg, fldn_agg, ext_tuple, outV_nil, outV_two, outV_three, outV_four, chk_ld1g, chkO_int, chkO_bool, chkO_str, chkO_ptr, chkO_slc, chkO_map, List.set_cons_zero, List.set_cons_succ, List.length_cons, List.length_nil, List.drop_succ_cons, List.drop_zero, List.take_succ_cons, List.take_zero, List.nil_append, List.cons_append, splice, isOne_int, isOne_str, isOne_bool, isOne_slice, isOne_pointer, isOne_map, condM_nf, condM_nef, gd_nef, gdf_nef, pick_nef, build_eq, fillA_nil, fillA_one, fillA_agg, Option.map_some, resv_one, resv_two, freeIn_nil, fillA_slc, fillA_int, fillA_str, fillA_bool, fillA_ptr, fillA_map, hL4])
    refine app_one (l := w) (h4'.seg 1 (Wv, w) rfl) q.dst (by omega) _ fun W2 H5 s5 k5 f5 => ?_
    have h5 := h4'.put (i := 1) (y := (W2, w ++ [q.dst])) rfl k5 s5 (fun b hb => .inr (f5 b hb))
    (try simp (maxSteps := 1000000) (disch := first | omega | (simp only [Heap.next_push', Heap.next_set']; omega) | (simp; done) | assumption | decide | (refine not_not_intro ?_; assumption)) only [at_zero, at_succ, wp_bnd, wp_lift, wpO_some, wp_ret, nx_nxt, nx_brk, nx_ret, unblk_nxt, unblk_ret, unblk_brk, finM_nxt, finM_ret, outV_one, condM_t, condM_f, condM_dt, condM_df, gd_t, gd_f, gdf_t, gdf_f, gd_skip, gd_dt, gd_df, gdf_dt, gdf_df, pick_t, pick_f, pick_dt, pick_df, not_t, not_f, not_dec, isNil_ptr, isNil_ptr', isNil_pnil, isNil_pnil', nilck_ptr, faddr_ptr, Nat.zero_add, Nat.add_zero, wp_ld1, lenStr_str, lenSlc_slice, strV_str, i64_add, i64_sub, i64_mul, i64_in, int_eqd, int_ned, int_lss, int_leq, int_gtr, int_geq, str_eqd, str_ned, if_true, wp_bndH, wp_withH, wp_need, enc_int, enc_str, enc_byte, enc_bool, List.getElem?_cons_zero, List.getElem?_cons_succ, cellP_get, cellG_cells, wp_st1g, stG_c, eq_self, true_and, wp_stng, stnG_ok, wp_ldng, ldG_ok, wp_newcg, wp_boxg, Heap.get_push_eq, Heap.get_push_lt, Heap.get_set_eq, Heap.get_set_ne', Heap.next_push', Heap.next_set', Heap.set_push_lt, Heap.set_push_eq, Heap.set_set, fld1_agg, fldn_agg, ext_tuple, outV_nil, outV_two, outV_three, outV_four, chk_ld1g, chkO_int, chkO_bool, chkO_str, chkO_ptr, chkO_slc, chkO_map, List.set_cons_zero, List.set_cons_succ, List.length_cons, List.length_nil, List.drop_succ_cons, List.drop_zero, List.take_succ_cons, List.take_zero, List.nil_append, List.cons_append, splice, isOne_int, isOne_str, isOne_bool, isOne_slice, isOne_pointer, isOne_map, condM_nf, condM_nef, gd_nef, gdf_nef, pick_nef, build_eq, fillA_nil, fillA_one, fillA_agg, Option.map_some, resv_one, resv_two, freeIn_nil, fillA_slc, fillA_int, fillA_str, fillA_bool, fillA_ptr, fillA_map, show ((1:Nat) = 3) = False by simp, if_false])
    obtain ⟨w', hw'⟩ := hw
    exact hQ1 O2 W2 q H5 h5 (hf.add hg hmem hw' hs hc)

theorem ports_Flows_ok {H : Heap} {lv : V} {ls : List Port} (hl : Sl H lv ls) (fr : Int) (Q : V → Heap → Prop)
    (hbad : (chkP ls).2 ≠ 0 → ∀ H', Keeps [] H H' → Q (.tuple #[.slice none 0 0, i64 (chkP ls).2]) H')
    (hfar : (chkP ls).2 = 0 → ¬ (0 ≤ fr ∧ fr < 8) → ∀ H', Keeps [] H H' → Q (.tuple #[.slice none 0 0, i64 1]) H')
    (hQ : (chkP ls).2 = 0 → 0 ≤ fr ∧ fr < 8 → ∀ (v : V) (l : List Int) (H' : Heap), Seg H' v (l.map i64) → flowSet ls fr l → Keeps [] H H' → (∀ b ∈ vb v, H.next ≤ b) → Q (.tuple #[v, i64 0]) H') : wp (A_ports_Flows noM [lv, i64 fr]) Q H := by
  show wp (F_ports_Flows noM lv (i64 fr)) Q H
  simp only [F_ports_Flows, wp_bnd]
  refine ports_Check_ok H lv ls hl _ fun H1 k1 => ?_
  by_cases he : (chkP ls).2 ≠ 0
  · (try simp (maxSteps := 1000000) (disch := first | omega | (simp only [Heap.next_push', Heap.next_set']; omega) | (simp; done) | assumption | decide | (refine not_not_intro ?_; assumption)) only [at_zero, at_succ, wp_bnd, wp_lift, wpO_some, wp_ret, nx_nxt, nx_brk, nx_ret, unblk_nxt, unblk_ret, unblk_brk, finM_nxt, finM_ret, outV_one, condM_t, condM_f, condM_dt, condM_df, gd_t, gd_f, gdf_t, gdf_f, gd_skip, gd_dt, gd_df, gdf_dt, gdf_df, pick_t, pick_f, pick_dt, pick_df, not_t, not_f, not_dec, isNil_ptr, isNil_ptr', isNil_pnil, isNil_pnil', nilck_ptr, faddr_ptr, Nat.zero_add, Nat.add_zero, wp_ld1, lenStr_str, lenSlc_slice, strV_str, i64_add, i64_sub, i64_mul, i64_in, int_eqd, int_ned, int_lss, int_leq, int_gtr, int_geq, str_eqd, str_ned, if_true, wp_bndH, wp_withH, wp_need, enc_int, enc_str, enc_byte, enc_bool, List.getElem?_cons_zero, List.getElem?_cons_succ, cellP_get, cellG_cells, wp_st1g, stG_c, eq_self, true_and, wp_stng, stnG_ok, wp_ldng, ldG_ok, wp_newcg, wp_boxg, Heap.get_push_eq, Heap.get_push_lt, Heap.get_set_eq, Heap.get_set_ne', Heap.next_push', Heap.next_set', Heap.set_push_lt, Heap.set_push_eq, Heap.set_set, fld1_agg, fldn_agg, ext_tuple, outV_nil, outV_two, outV_three, outV_four, chk_ld1g, chkO_int, chkO_bool, chkO_str, chkO_ptr, chkO_slc, chkO_map, List.set_cons_zero, List.set_cons_succ, List.length_cons, List.length_nil, List.drop_succ_cons, List.drop_zero, List.take_succ_cons, List.take_zero, List.nil_append, List.cons_append, splice, isOne_int, isOne_str, isOne_bool, isOne_slice, isOne_pointer, isOne_map, condM_nf, condM_nef, gd_nef, gdf_nef, pick_nef, build_eq, fillA_nil, fillA_one, fillA_agg, Option.map_some, resv_one, resv_two, freeIn_nil, fillA_slc, fillA_int, fillA_str, fillA_bool, fillA_ptr, fillA_map])
    exact hbad he H1 k1
  have he0 : (chkP ls).2 = 0 := Decidable.not_not.mp he
  obtain ⟨hsm, hg⟩ := chk_good he0
  by_cases hfr : 0 ≤ fr ∧ fr < 8
  case neg =>
    (try simp (maxSteps := 1000000) (disch := first | omega | (simp only [Heap.next_push', Heap.next_set']; omega) | (simp; done) | assumption | decide | (refine not_not_intro ?_; assumption)) only [at_zero, at_succ, wp_bnd, wp_lift, wpO_some, wp_ret, nx_nxt, nx_brk, nx_ret, unblk_nxt, unblk_ret, unblk_brk, finM_nxt, finM_ret, outV_one, condM_t, condM_f, condM_dt, condM_df, gd_t, gd_f, gdf_t, gdf_f, gd_skip, gd_dt, gd_df, gdf_dt, gdf_df, pick_t, pick_f, pick_dt, pick_df, not_t, not_f, not_dec, isNil_ptr, isNil_ptr', isNil_pnil, isNil_pnil', nilck_ptr, faddr_ptr, Nat.zero_add, Nat.add_zero, wp_ld1, lenStr_str, lenSlc_slice, strV_str, i64_add, i64_sub, i64_mul, i64_in, int_eqd, int_ned, int_lss, int_leq, int_gtr, int_geq, str_eqd, str_ned, if_true, wp_bndH, wp_withH, wp_need, enc_int, enc_str, enc_byte, enc_bool, List.getElem?_cons_zero, List.getElem?_cons_succ, cellP_get, cellG_cells, wp_st1g, stG_c, eq_self, true_and, wp_stng, stnG_ok, wp_ldng, ldG_ok, wp_newcg, wp_boxg, Heap.get_push_eq, Heap.get_push_lt, Heap.get_set_eq, Heap.get_set_ne', Heap.next_push', Heap.next_set', Heap.set_push_lt, Heap.set_push_eq, Heap.set_set, fld1_agg, fldn_agg, ext_tuple, outV_nil, outV_two, outV_three, outV_four, chk_ld1g, chkO_int, chkO_bool, chkO_str, chkO_ptr, chkO_slc, chkO_map, List.set_cons_zero, List.set_cons_succ, List.length_cons, List.length_nil, List.drop_succ_cons, List.drop_zero, List.take_succ_cons, List.take_zero, List.nil_append, List.cons_append, splice, isOne_int, isOne_str, isOne_bool, isOne_slice, isOne_pointer, isOne_map, condM_nf, condM_nef, gd_nef, gdf_nef, pick_nef, build_eq, fillA_nil, fillA_one, fillA_agg, Option.map_some, resv_one, resv_two, freeIn_nil, fillA_slc, fillA_int, fillA_str, fillA_bool, fillA_ptr, fillA_map, ports_Flows_k9, ports_there_eq])
    exact hfar he0 hfr H1 k1
  (try simp (maxSteps := 1000000) (disch := first | omega | (simp only [Heap.next_push', Heap.next_set']; omega) | (simp; done) | assumption | decide | (refine not_not_intro ?_; assumption)) only [at_zero, at_succ, wp_bnd, wp_lift, wpO_some, wp_ret, nx_nxt, nx_brk, nx_ret, unblk_nxt, unblk_ret, unblk_brk, finM_nxt, finM_ret, outV_one, condM_t, condM_f, condM_dt, condM_df, gd_t, gd_f, gdf_t, gdf_f, gd_skip, gd_dt, gd_df, gdf_dt, gdf_df, pick_t, pick_f, pick_dt, pick_df, not_t, not_f, not_dec, isNil_ptr, isNil_ptr', isNil_pnil, isNil_pnil', nilck_ptr, faddr_ptr, Nat.zero_add, Nat.add_zero, wp_ld1, lenStr_str, lenSlc_slice, strV_str, i64_add, i64_sub, i64_mul, i64_in, int_eqd, int_ned, int_lss, int_leq, int_gtr, int_geq, str_eqd, str_ned, if_true, wp_bndH, wp_withH, wp_need, enc_int, enc_str, enc_byte, enc_bool, List.getElem?_cons_zero, List.getElem?_cons_succ, cellP_get, cellG_cells, wp_st1g, stG_c, eq_self, true_and, wp_stng, stnG_ok, wp_ldng, ldG_ok, wp_newcg, wp_boxg, Heap.get_push_eq, Heap.get_push_lt, Heap.get_set_eq, Heap.get_set_ne', Heap.next_push', Heap.next_set', Heap.set_push_lt, Heap.set_push_eq, Heap.set_set, fld1_agg, fldn_agg, ext_tuple, outV_nil, outV_two, outV_three, outV_four, chk_ld1g, chkO_int, chkO_bool, chkO_str, chkO_ptr, chkO_slc, chkO_map, List.set_cons_zero, List.set_cons_succ, List.length_cons, List.length_nil, List.drop_succ_cons, List.drop_zero, List.take_succ_cons, List.take_zero, List.nil_append, List.cons_append, splice, isOne_int, isOne_str, isOne_bool, isOne_slice, isOne_pointer, isOne_map, condM_nf, condM_nef, gd_nef, gdf_nef, pick_nef, build_eq, fillA_nil, fillA_one, fillA_agg, Option.map_some, resv_one, resv_two, freeIn_nil, fillA_slc, fillA_int, fillA_str, fillA_bool, fillA_ptr, fillA_map, ports_Flows_k9, ports_there_eq, ports_Flows_k8])
  refine (wp_bslc (cs := [i64 fr]) (by decide) (by rfl)).mpr ?_
  have k2 := Keeps.push [] H1 (some (.cells true [i64 fr]))
  have kn1 := k1.next
  have L0 : Lot H (H1.push (some (.cells true [i64 fr]))) [] [(nilS, []), (⟨some ⟨H1.next, 0, some 1⟩, 1, 1⟩, [fr])] := by
    have base : Lot H H1 [] [(nilS, []), (nilS, [])] := by
      have hx : ∀ (i : Nat) (x : SV × List Int), [(nilS, ([] : List Int)), (nilS, [])][i]? = some x → x = (nilS, []) := by
        intro i x hx
        have := List.mem_of_getElem? hx
        simp at this
        exact this
      exact ⟨fun i x h => by obtain rfl := hx i x h; exact Seg.nil _, ⟨fun _ => 0, fun _ _ => rfl, fun i x h b hb => by obtain rfl := hx i x h; simp [nilS, SV.v] at hb⟩, by simp, fun i x h b hb => by obtain rfl := hx i x h; simp [nilS, SV.v] at hb, k1⟩
    exact base.put (i := 1) (y := (⟨some ⟨H1.next, 0, some 1⟩, 1, 1⟩, [fr])) rfl (k2.mono (by simp)) (Own.seg (.inr ⟨H1.next, rfl, Heap.get_push_self _ _⟩)) (fun b hb => by simp [SV.v, vb] at hb; right; omega)
  (try simp (maxSteps := 1000000) (disch := first | omega | (simp only [Heap.next_push', Heap.next_set']; omega) | (simp; done) | assumption | decide | (refine not_not_intro ?_; assumption)) only [at_zero, at_succ, wp_bnd, wp_lift, wpO_some, wp_ret, nx_nxt, nx_brk, nx_ret, unblk_nxt, unblk_ret, unblk_brk, finM_nxt, finM_ret, outV_one, condM_t, condM_f, condM_dt, condM_df, gd_t, gd_f, gdf_t, gdf_f, gd_skip, gd_dt, gd_df, gdf_dt, gdf_df, pick_t, pick_f, pick_dt, pick_df, not_t, not_f, not_dec, isNil_ptr, isNil_ptr', isNil_pnil, isNil_pnil', nilck_ptr, faddr_ptr, Nat.zero_add, Nat.add_zero, wp_ld1, lenStr_str, lenSlc_slice, strV_str, i64_add, i64_sub, i64_mul, i64_in, int_eqd, int_ned, int_lss, int_leq, int_gtr, int_geq, str_eqd, str_ned, if_true, wp_bndH, wp_withH, wp_need, enc_int, enc_str, enc_byte, enc_bool, List.getElem?_cons_zero, List.getElem?_cons_succ, cellP_get, cellG_cells, wp_st1g, stG_c, eq_self, true_and, wp_stng, stnG_ok, wp_ldng, ldG_ok, wp_newcg, wp_boxg, Heap.get_push_eq, Heap.get_push_lt, Heap.get_set_eq, Heap.get_set_ne', Heap.next_push', Heap.next_set', Heap.set_push_lt, Heap.set_push_eq, Heap.set_set, fld1_agg, fldn_agg, ext_tuple, outV_nil, outV_two, outV_three, outV_four, chk_ld1g, chkO_int, chkO_bool, chkO_str, chkO_ptr, chkO_slc, chkO_map, List.set_cons_zero, List.set_cons_succ, List.length_cons, List.length_nil, List.drop_succ_cons, List.drop_zero, List.take_succ_cons, List.take_zero, List.nil_append, List.cons_append, splice, isOne_int, isOne_str, isOne_bool, isOne_slice, isOne_pointer, isOne_map, condM_nf, condM_nef, gd_nef, gdf_nef, pick_nef, build_eq, fillA_nil, fillA_one, fillA_agg, Option.map_some, resv_one, resv_two, freeIn_nil, fillA_slc, fillA_int, fillA_str, fillA_bool, fillA_ptr, fillA_map, ports_Flows_k7])
  refine wp_loop (Inv := fun k vs H' => ∃ (O Wv : SV) (o w : List Int), k = 2 * (8 - o.length) + w.length ∧ vs = [lv, O.v, Wv.v] ∧ Lot H H' [] [(O, o), (Wv, w)] ∧ Found ls fr o w) (n := 17) (by unfold FUEL; omega)
    ⟨nilS, ⟨some ⟨H1.next, 0, some 1⟩, 1, 1⟩, [], [fr], by simp, rfl, L0, Found.start ls fr⟩ ?_
  rintro k vs H' ⟨O, Wv, o, w, hk, rfl, h, hf⟩
  have hlW := seg_len1 (h.seg 1 _ rfl)
  have hll := (hl.keep0 h.k).len
  simp only at hlW
  have hol := hf.len
  cases hw : w with
  | nil =>
    subst hw
    (try simp (maxSteps := 1000000) (disch := first | omega | (simp only [Heap.next_push', Heap.next_set']; omega) | (simp; done) | assumption | decide | (refine not_not_intro ?_; assumption)) only [at_zero, at_succ, wp_bnd, wp_lift, wpO_some, wp_ret, nx_nxt, nx_brk, nx_ret, unblk_nxt, unblk_ret, unblk_brk, finM_nxt, finM_ret, outV_one, condM_t, condM_f, condM_dt, condM_df, gd_t, gd_f, gdf_t, gdf_f, gd_skip, gd_dt, gd_df, gdf_dt, gdf_df, pick_t, pick_f, pick_dt, pick_df, not_t, not_f, not_dec, isNil_ptr, isNil_ptr', isNil_pnil, isNil_pnil', nilck_ptr, faddr_ptr, Nat.zero_add, Nat.add_zero, wp_ld1, lenStr_str, lenSlc_slice, strV_str, i64_add, i64_sub, i64_mul, i64_in, int_eqd, int_ned, int_lss, int_leq, int_gtr, int_geq, str_eqd, str_ned, if_true, wp_bndH, wp_withH, wp_need, enc_int, enc_str, enc_byte, enc_bool, List.getElem?_cons_zero, List.getElem?_cons_succ, cellP_get, cellG_cells, wp_st1g, stG_c, eq_self, true_and, wp_stng, stnG_ok, wp_ldng, ldG_ok, wp_newcg, wp_boxg, Heap.get_push_eq, Heap.get_push_lt, Heap.get_set_eq, Heap.get_set_ne', Heap.next_push', Heap.next_set', Heap.set_push_lt, Heap.set_push_eq, Heap.set_set, fld1_agg, fldn_agg, ext_tuple, outV_nil, outV_two, outV_three, outV_four, chk_ld1g, chkO_int, chkO_bool, chkO_str, chkO_ptr, chkO_slc, chkO_map, List.set_cons_zero, List.set_cons_succ, List.length_cons, List.length_nil, List.drop_succ_cons, List.drop_zero, List.take_succ_cons, List.take_zero, List.nil_append, List.cons_append, splice, isOne_int, isOne_str, isOne_bool, isOne_slice, isOne_pointer, isOne_map, condM_nf, condM_nef, gd_nef, gdf_nef, pick_nef, build_eq, fillA_nil, fillA_one, fillA_agg, Option.map_some, resv_one, resv_two, freeIn_nil, fillA_slc, fillA_int, fillA_str, fillA_bool, fillA_ptr, fillA_map, ports_Flows_l5, hlW, List.length_nil, ports_Flows_k6])
    refine sort_ok (l := o) (h.seg 0 (O, o) rfl) (by omega) _ fun u l' H2 s2 p2 so2 k2 => ?_
    (try simp (maxSteps := 1000000) (disch := first | omega | (simp only [Heap.next_push', Heap.next_set']; omega) | (simp; done) | assumption | decide | (refine not_not_intro ?_; assumption)) only [at_zero, at_succ, wp_bnd, wp_lift, wpO_some, wp_ret, nx_nxt, nx_brk, nx_ret, unblk_nxt, unblk_ret, unblk_brk, finM_nxt, finM_ret, outV_one, condM_t, condM_f, condM_dt, condM_df, gd_t, gd_f, gdf_t, gdf_f, gd_skip, gd_dt, gd_df, gdf_dt, gdf_df, pick_t, pick_f, pick_dt, pick_df, not_t, not_f, not_dec, isNil_ptr, isNil_ptr', isNil_pnil, isNil_pnil', nilck_ptr, faddr_ptr, Nat.zero_add, Nat.add_zero, wp_ld1, lenStr_str, lenSlc_slice, strV_str, i64_add, i64_sub, i64_mul, i64_in, int_eqd, int_ned, int_lss, int_leq, int_gtr, int_geq, str_eqd, str_ned, if_true, wp_bndH, wp_withH, wp_need, enc_int, enc_str, enc_byte, enc_bool, List.getElem?_cons_zero, List.getElem?_cons_succ, cellP_get, cellG_cells, wp_st1g, stG_c, eq_self, true_and, wp_stng, stnG_ok, wp_ldng, ldG_ok, wp_newcg, wp_boxg, Heap.get_push_eq, Heap.get_push_lt, Heap.get_set_eq, Heap.get_set_ne', Heap.next_push', Heap.next_set', Heap.set_push_lt, Heap.set_push_eq, Heap.set_set, fld1_agg, fldn_agg, ext_tuple, outV_nil, outV_two, outV_three, outV_four, chk_ld1g, chkO_int, chkO_bool, chkO_str, chkO_ptr, chkO_slc, chkO_map, List.set_cons_zero, List.set_cons_succ, List.length_cons, List.length_nil, List.drop_succ_cons, List.drop_zero, List.take_succ_cons, List.take_zero, List.nil_append, List.cons_append, splice, isOne_int, isOne_str, isOne_bool, isOne_slice, isOne_pointer, isOne_map, condM_nf, condM_nef, gd_nef, gdf_nef, pick_nef, build_eq, fillA_nil, fillA_one, fillA_agg, Option.map_some, resv_one, resv_two, freeIn_nil, fillA_slc, fillA_int, fillA_str, fillA_bool, fillA_ptr, fillA_map])
    refine hQ he0 hfr O.v l' H2 s2 ⟨so2, p2.nodup_iff.2 hf.nd, fun x hx => hf.rg x (p2.mem_iff.1 hx), fun x => (p2.mem_iff).trans (hf.done x)⟩ (h.k.trans k2 (fun b hb hm => by have := h.lowL 0 _ rfl b hm; omega)) (h.lowL 0 _ rfl)
  | cons a w' =>
    have a1 := seg_addr (h.seg 1 (Wv, w) rfl) (i := 0) (by rw [hw]; simp)
    have c1 := seg_cell (h.seg 1 (Wv, w) rfl) (i := 0) (by rw [hw]; simp)
    rw [Nat.add_zero] at a1 c1
    rw [show ((0 : Nat) : Int) = 0 from rfl] at a1
    have ha : w.getD 0 0 = a := by rw [hw]; rfl
    rw [ha] at c1
    have hpos : (w.length : Int) > 0 := by rw [hw, List.length_cons]; omega
    (try simp (maxSteps := 1000000) (disch := first | omega | (simp only [Heap.next_push', Heap.next_set']; omega) | (simp; done) | assumption | decide | (refine not_not_intro ?_; assumption)) only [at_zero, at_succ, wp_bnd, wp_lift, wpO_some, wp_ret, nx_nxt, nx_brk, nx_ret, unblk_nxt, unblk_ret, unblk_brk, finM_nxt, finM_ret, outV_one, condM_t, condM_f, condM_dt, condM_df, gd_t, gd_f, gdf_t, gdf_f, gd_skip, gd_dt, gd_df, gdf_dt, gdf_df, pick_t, pick_f, pick_dt, pick_df, not_t, not_f, not_dec, isNil_ptr, isNil_ptr', isNil_pnil, isNil_pnil', nilck_ptr, faddr_ptr, Nat.zero_add, Nat.add_zero, wp_ld1, lenStr_str, lenSlc_slice, strV_str, i64_add, i64_sub, i64_mul, i64_in, int_eqd, int_ned, int_lss, int_leq, int_gtr, int_geq, str_eqd, str_ned, if_true, wp_bndH, wp_withH, wp_need, enc_int, enc_str, enc_byte, enc_bool, List.getElem?_cons_zero, List.getElem?_cons_succ, cellP_get, cellG_cells, wp_st1g, stG_c, eq_self, true_and, wp_stng, stnG_ok, wp_ldng, ldG_ok, wp_newcg, wp_boxg, Heap.get_push_eq, Heap.get_push_lt, Heap.get_set_eq, Heap.get_set_ne', Heap.next_push', Heap.next_set', Heap.set_push_lt, Heap.set_push_eq, Heap.set_set, fld1_agg, fldn_agg, ext_tuple, outV_nil, outV_two, outV_three, outV_four, chk_ld1g, chkO_int, chkO_bool, chkO_str, chkO_ptr, chkO_slc, chkO_map, List.set_cons_zero, List.set_cons_succ, List.length_cons, List.length_nil, List.drop_succ_cons, List.drop_zero, List.take_succ_cons, List.take_zero, List.nil_append, List.cons_append, splice, isOne_int, isOne_str, isOne_bool, isOne_slice, isOne_pointer, isOne_map, condM_nf, condM_nef, gd_nef, gdf_nef, pick_nef, build_eq, fillA_nil, fillA_one, fillA_agg, Option.map_some, resv_one, resv_two, freeIn_nil, fillA_slc, fillA_int, fillA_str, fillA_bool, fillA_ptr, fillA_map, ports_Flows_l5, hlW, ports_Flows_k4, a1, c1, hll])
    refine flows_inner hl hsm hg h hf ⟨w', hw⟩ _ (fun O' W' p H2 h2 f2 => ?_) (fun H2 h2 hd => ?_)
    · (try simp (maxSteps := 1000000) (disch := first | omega | (simp only [Heap.next_push', Heap.next_set']; omega) | (simp; done) | assumption | decide | (refine not_not_intro ?_; assumption)) only [at_zero, at_succ, wp_bnd, wp_lift, wpO_some, wp_ret, nx_nxt, nx_brk, nx_ret, unblk_nxt, unblk_ret, unblk_brk, finM_nxt, finM_ret, outV_one, condM_t, condM_f, condM_dt, condM_df, gd_t, gd_f, gdf_t, gdf_f, gd_skip, gd_dt, gd_df, gdf_dt, gdf_df, pick_t, pick_f, pick_dt, pick_df, not_t, not_f, not_dec, isNil_ptr, isNil_ptr', isNil_pnil, isNil_pnil', nilck_ptr, faddr_ptr, Nat.zero_add, Nat.add_zero, wp_ld1, lenStr_str, lenSlc_slice, strV_str, i64_add, i64_sub, i64_mul, i64_in, int_eqd, int_ned, int_lss, int_leq, int_gtr, int_geq, str_eqd, str_ned, if_true, wp_bndH, wp_withH, wp_need, enc_int, enc_str, enc_byte, enc_bool, List.getElem?_cons_zero, List.getElem?_cons_succ, cellP_get, cellG_cells, wp_st1g, stG_c, eq_self, true_and, wp_stng, stnG_ok, wp_ldng, ldG_ok, wp_newcg, wp_boxg, Heap.get_push_eq, Heap.get_push_lt, Heap.get_set_eq, Heap.get_set_ne', Heap.next_push', Heap.next_set', Heap.set_push_lt, Heap.set_push_eq, Heap.set_set, fld1_agg, fldn_agg, ext_tuple, outV_nil, outV_two, outV_three, outV_four, chk_ld1g, chkO_int, chkO_bool, chkO_str, chkO_ptr, chkO_slc, chkO_map, List.set_cons_zero, List.set_cons_succ, List.length_cons, List.length_nil, List.drop_succ_cons, List.drop_zero, List.take_succ_cons, List.take_zero, List.nil_append, List.cons_append, splice, isOne_int, isOne_str, isOne_bool, isOne_slice, isOne_pointer, isOne_map, condM_nf, condM_nef, gd_nef, gdf_nef, pick_nef, build_eq, fillA_nil, fillA_one, fillA_agg, Option.map_some, resv_one, resv_two, freeIn_nil, fillA_slc, fillA_int, fillA_str, fillA_bool, fillA_ptr, fillA_map, show ((1:Nat) = 2) = False by simp, if_false])
      have := f2.len
      rw [List.length_append, List.length_singleton] at this
      exact ⟨_, by rw [hk, List.length_append, List.length_append]; simp only [List.length_singleton]; omega, O', W', _, _, rfl, rfl, h2, f2⟩
    · obtain ⟨w4, e4, s4, v4, o4⟩ := (h2.seg 1 (Wv, w) rfl).sub (lo := some (i64 1)) (hi := none) (a := 1) (b := w.length) (by simp [bound]; omega) (fun c _ => by simp [bound]) (by omega) (by simp)
      obtain ⟨W4, rfl⟩ := Seg.sv s4
      rw [show ((w.map i64).drop 1).take (w.length - 1) = (w.drop 1).map i64 by rw [List.take_of_length_le (by simp), List.map_drop]] at s4
      (try simp (maxSteps := 1000000) (disch := first | omega | (simp only [Heap.next_push', Heap.next_set']; omega) | (simp; done) | assumption | decide | (refine not_not_intro ?_; assumption)) only [at_zero, at_succ, wp_bnd, wp_lift, wpO_some, wp_ret, nx_nxt, nx_brk, nx_ret, unblk_nxt, unblk_ret, unblk_brk, finM_nxt, finM_ret, outV_one, condM_t, condM_f, condM_dt, condM_df, gd_t, gd_f, gdf_t, gdf_f, gd_skip, gd_dt, gd_df, gdf_dt, gdf_df, pick_t, pick_f, pick_dt, pick_df, not_t, not_f, not_dec, isNil_ptr, isNil_ptr', isNil_pnil, isNil_pnil', nilck_ptr, faddr_ptr, Nat.zero_add, Nat.add_zero, wp_ld1, lenStr_str, lenSlc_slice, strV_str, i64_add, i64_sub, i64_mul, i64_in, int_eqd, int_ned, int_lss, int_leq, int_gtr, int_geq, str_eqd, str_ned, if_true, wp_bndH, wp_withH, wp_need, enc_int, enc_str, enc_byte, enc_bool, List.getElem?_cons_zero, List.getElem?_cons_succ, cellP_get, cellG_cells, wp_st1g, stG_c, eq_self, true_and, wp_stng, stnG_ok, wp_ldng, ldG_ok, wp_newcg, wp_boxg, Heap.get_push_eq, Heap.get_push_lt, Heap.get_set_eq, Heap.get_set_ne', Heap.next_push', Heap.next_set', Heap.set_push_lt, Heap.set_push_eq, Heap.set_set, fld1_agg, fldn_agg, ext_tuple, outV_nil, outV_two, outV_three, outV_four, chk_ld1g, chkO_int, chkO_bool, chkO_str, chkO_ptr, chkO_slc, chkO_map, List.set_cons_zero, List.set_cons_succ, List.length_cons, List.length_nil, List.drop_succ_cons, List.drop_zero, List.take_succ_cons, List.take_zero, List.nil_append, List.cons_append, splice, isOne_int, isOne_str, isOne_bool, isOne_slice, isOne_pointer, isOne_map, condM_nf, condM_nef, gd_nef, gdf_nef, pick_nef, build_eq, fillA_nil, fillA_one, fillA_agg, Option.map_some, resv_one, resv_two, freeIn_nil, fillA_slc, fillA_int, fillA_str, fillA_bool, fillA_ptr, fillA_map, e4, ports_Flows_k3])
      have h4 := h2.put (i := 1) (y := (W4, w.drop 1)) rfl (Keeps.refl _ _) s4 (fun b hb => .inl (v4 b hb))
      have f4 : Found ls fr o (w.drop 1) := by
        rw [hw] at hf
        rw [hw]
        exact hf.drop hd
      exact ⟨_, by rw [hk, List.length_drop]; omega, O, W4, o, w.drop 1, rfl, rfl, h4, f4⟩
end Go.AM.Cap
