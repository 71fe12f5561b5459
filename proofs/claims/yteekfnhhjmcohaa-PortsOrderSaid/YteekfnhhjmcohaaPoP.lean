/- ports: things that lie beside one another; one queue; SameNums -/
import Derived.Test.YteekfnhhjmcohaaPoN
set_option linter.all false
set_option maxHeartbeats 8000000
namespace Go.AM.Cap
open Go.AM Go.Proofs

/-- slices of numbers beside a thing with the blocks fp: each block has a colour -/
structure Lot (H0 H : Heap) (fp : List Nat) (L : List (SV × List Int)) : Prop where
  seg : ∀ (i : Nat) (x : SV × List Int), L[i]? = some x → Seg H x.1.v (x.2.map i64)
  col : ∃ c : Nat → Nat, (∀ b ∈ fp, c b = 0) ∧ ∀ (i : Nat) (x : SV × List Int), L[i]? = some x → ∀ b ∈ vb x.1.v, c b = i + 1
  lowF : ∀ b ∈ fp, H0.next ≤ b ∧ b < H.next
  lowL : ∀ (i : Nat) (x : SV × List Int), L[i]? = some x → ∀ b ∈ vb x.1.v, H0.next ≤ b
  k : Keeps [] H0 H
section
variable {H0 H H' : Heap} {fp fp' : List Nat} {L : List (SV × List Int)}
theorem Lot.dis (h : Lot H0 H fp L) {i : Nat} {x : SV × List Int} (hi : L[i]? = some x) : ∀ b ∈ fp, b ∉ vb x.1.v := by
  obtain ⟨c, c0, c1⟩ := h.col
  intro b hb hm
  have := c0 b hb
  have := c1 i x hi b hm
  omega
theorem Lot.put (h : Lot H0 H fp L) {i : Nat} {x y : SV × List Int} (hi : L[i]? = some x) (hk : Keeps (vb x.1.v) H H') (hs : Seg H' y.1.v (y.2.map i64)) (hf : ∀ b ∈ vb y.1.v, b ∈ vb x.1.v ∨ H.next ≤ b) : Lot H0 H' fp (L.set i y) := by
  have hil : i < L.length := by
    rcases Nat.lt_or_ge i L.length with q | q
    · exact q
    · rw [List.getElem?_eq_none q] at hi; cases hi
  have hget : ∀ (j : Nat) (z : SV × List Int), (L.set i y)[j]? = some z → (j = i ∧ z = y) ∨ (j ≠ i ∧ L[j]? = some z) := by
    intro j z hz
    by_cases hj : j = i
    · subst hj
      rw [List.getElem?_set_self hil] at hz
      cases hz; exact .inl ⟨rfl, rfl⟩
    · rw [List.getElem?_set_ne (fun e => hj e.symm)] at hz
      exact .inr ⟨hj, hz⟩
  obtain ⟨c, c0, c1⟩ := h.col
  have hn := hk.next
  have hn0 := h.k.next
  refine ⟨fun j z hz => ?_, ⟨fun b => if H.next ≤ b then i + 1 else c b, fun b hb => ?_, fun j z hz b hb => ?_⟩, fun b hb => ⟨(h.lowF b hb).1, by have := (h.lowF b hb).2; omega⟩, fun j z hz b hb => ?_, h.k.trans hk (fun b hb hm => by have := h.lowL i x hi b hm; omega)⟩
  · rcases hget j z hz with ⟨rfl, rfl⟩ | ⟨hj, hz'⟩
    · exact hs
    · exact (h.seg j z hz').keep hk (fun b hb hm => by have := c1 j z hz' b hb; have := c1 i x hi b hm; omega)
  · have := (h.lowF b hb).2
    show (if H.next ≤ b then i + 1 else c b) = 0
    rw [if_neg (by omega)]; exact c0 b hb
  · show (if H.next ≤ b then i + 1 else c b) = j + 1
    rcases hget j z hz with ⟨rfl, rfl⟩ | ⟨hj, hz'⟩
    · split
      · rfl
      · rcases hf b hb with q | q
        · exact c1 _ x hi b q
        · omega
    · have := (h.seg j z hz').lt b hb
      rw [if_neg (by omega)]; exact c1 j z hz' b hb
  · rcases hget j z hz with ⟨rfl, rfl⟩ | ⟨hj, hz'⟩
    · rcases hf b hb with q | q
      · exact h.lowL _ x hi b q
      · omega
    · exact h.lowL j z hz' b hb
theorem Lot.turn (h : Lot H0 H fp L) (hk : Keeps fp H H') (hf : ∀ b ∈ fp', b ∈ fp ∨ H.next ≤ b) (hl : ∀ b ∈ fp', b < H'.next) : Lot H0 H' fp' L := by
  obtain ⟨c, c0, c1⟩ := h.col
  have hn := hk.next
  have hn0 := h.k.next
  refine ⟨fun j z hz => (h.seg j z hz).keep hk (fun b hb hm => h.dis hz b hm hb), ⟨fun b => if H.next ≤ b then 0 else c b, fun b hb => ?_, fun j z hz b hb => ?_⟩, fun b hb => ⟨?_, hl b hb⟩, h.lowL, h.k.trans hk (fun b hb hm => by have := h.lowF b hm; omega)⟩
  · show (if H.next ≤ b then 0 else c b) = 0
    split
    · rfl
    · rcases hf b hb with q | q
      · exact c0 b q
      · omega
  · have := (h.seg j z hz).lt b hb
    show (if H.next ≤ b then 0 else c b) = j + 1
    rw [if_neg (by omega)]; exact c1 j z hz b hb
  · rcases hf b hb with q | q
    · exact (h.lowF b q).1
    · omega
theorem Lot.keep (h : Lot H0 H fp L) (hk : Keeps [] H H') : Lot H0 H' fp L :=
  h.turn (hk.mono (by simp)) (fun b hb => .inl hb) (fun b hb => by have := (h.lowF b hb).2; have := hk.next; omega)
end

def qP (m : Int) : Port := ⟨2, 2, 5, 3, m⟩
theorem chk_qP (m : Int) (h : 1 ≤ m ∧ m ≤ 16) : (chkP [qP m]).2 = 0 := by
  have hw : wrongP (qP m) = 0 := by
    unfold wrongP qP
    simp
    omega
  rw [chkP, if_neg (by simp), chkL, if_neg (by rw [hw]; simp), chkL]
theorem send_one (m : Int) (x : PSt) (n : Int) (hn : 0 ≤ n ∧ n ≤ 1000) : sendS [qP m] [x] 2 0 n = if m ≤ x.s.length then ([{ x with lost := w64 (x.lost + 1) }], 2) else ([{ x with s := x.s ++ [n] }], 0) := by
  have hp : okP [qP m] 2 0 := by unfold okP; simp
  have hf : fits (portAt [qP m] 0).typ n := by right; right; exact ⟨.inl rfl, by omega, by omega⟩
  rw [sendS, if_neg (not_not_intro hp), if_neg (by show ¬ ((2 : Int) ≠ 2); omega), if_neg (not_not_intro hf), if_neg (by show ¬ ((2 : Int) = 1); omega)]
  rfl
theorem recv_one (m : Int) (x : PSt) : recvS [qP m] [x] 5 0 = if x.t.length = 0 then ([x], 0, 0, 5) else ([{ x with t := x.t.drop 1 }], x.t.getD 0 0, 0, 0) := by
  have hp : okP [qP m] 5 0 := by unfold okP; simp
  rw [recvS, if_neg (not_not_intro hp), if_neg (by show ¬ ((5 : Int) ≠ 5); omega), if_neg (c := (portAt [qP m] 0).kind = 1) (by show ¬ ((2 : Int) = 1); omega)]
  rfl
theorem frame_one (m : Int) (x : PSt) : frameAll [qP m] [x] = [{ x with s := [], t := tk (qP m) x x.s.length, lost := lk (qP m) x x.s.length }] := by
  rw [tk_full, lk_full]
  rfl
theorem undo_one (m : Int) (x : PSt) : undoAll [qP m] 2 [x] = [{ x with s := [] }] := rfl

theorem same_ok {H : Heap} {v w : V} {l : List Int} (hv : Seg H v (l.map i64)) (hw : Seg H w (l.map i64)) (hl : l.length ≤ 1000000) (Q : V → Heap → Prop) (hQ : Q (.bool true) H) : wp (A_book_SameNums [v, w]) Q H := by
  show wp (F_book_SameNums v w) Q H
  have h1 : lenSlc v = some (i64 l.length) := by have := hv.len; rwa [List.length_map] at this
  have h2 : lenSlc w = some (i64 l.length) := by have := hw.len; rwa [List.length_map] at this
  (try simp (maxSteps := 1000000) (disch := first | omega | (simp only [Heap.next_push', Heap.next_set']; omega) | (simp; done) | assumption | decide | (refine not_not_intro ?_; assumption)) only [at_zero, at_succ, wp_bnd, wp_lift, wpO_some, wp_ret, nx_nxt, nx_brk, nx_ret, unblk_nxt, unblk_ret, unblk_brk, finM_nxt, finM_ret, outV_one, condM_t, condM_f, condM_dt, condM_df, gd_t, gd_f, gdf_t, gdf_f, gd_skip, gd_dt, gd_df, gdf_dt, gdf_df, pick_t, pick_f, pick_dt, pick_df, not_t, not_f, not_dec, isNil_ptr, isNil_ptr', isNil_pnil, isNil_pnil', nilck_ptr, faddr_ptr, Nat.zero_add, Nat.add_zero, wp_ld1, lenStr_str, lenSlc_slice, strV_str, i64_add, i64_sub, i64_mul, i64_in, int_eqd, int_ned, int_lss, int_leq, int_gtr, int_geq, str_eqd, str_ned, if_true, wp_bndH, wp_withH, wp_need, enc_int, enc_str, enc_byte, enc_bool, List.getElem?_cons_zero, List.getElem?_cons_succ, cellP_get, cellG_cells, wp_st1g, stG_c, eq_self, true_and, wp_stng, stnG_ok, wp_ldng, ldG_ok, wp_newcg, wp_boxg, Heap.get_push_eq, Heap.get_push_lt, Heap.get_set_eq, Heap.get_set_ne', Heap.next_push', Heap.next_set', Heap.set_push_lt, Heap.set_push_eq, Heap.set_set, fld1_agg, fldn_agg, ext_tuple, outV_nil, outV_two, outV_three, outV_four, chk_ld1g, chkO_int, chkO_bool, chkO_str, chkO_ptr, chkO_slc, chkO_map, List.set_cons_zero, List.set_cons_succ, List.length_cons, List.length_nil, List.drop_succ_cons, List.drop_zero, List.take_succ_cons, List.take_zero, List.nil_append, List.cons_append, splice, isOne_int, isOne_str, isOne_bool, isOne_slice, isOne_pointer, isOne_map, condM_nf, condM_nef, gd_nef, gdf_nef, pick_nef, build_eq, fillA_nil, fillA_one, fillA_agg, Option.map_some, resv_one, resv_two, freeIn_nil, fillA_slc, fillA_int, fillA_str, fillA_bool, fillA_ptr, fillA_map, F_book_SameNums, h1, h2, book_SameNums_k4])
  refine wp_loop (Inv := fun k vs H' => ∃ i : Nat, k = l.length - i ∧ i ≤ l.length ∧ vs = [v, w, i64 i] ∧ H' = H) (n := l.length) (by unfold FUEL; omega) ⟨0, by omega, by omega, rfl, rfl⟩ ?_
  rintro k vs H' ⟨i, hk, hi, rfl, rfl⟩
  by_cases h : i < l.length
  · have a1 := hv.addr (k := .i64) (i := i) (by omega) (by simp; omega)
    have a2 := hw.addr (k := .i64) (i := i) (by omega) (by simp; omega)
    rw [Int.toNat_natCast] at a1 a2
    have c1 : cellP H' (ptr (slB v) (slO v + i)) = some (i64 (l.getD i 0)) := by
      rw [hv.cell (by simpa using h), List.getElem?_map, List.getD_eq_getElem?_getD, List.getElem?_eq_getElem h]; rfl
    have c2 : cellP H' (ptr (slB w) (slO w + i)) = some (i64 (l.getD i 0)) := by
      rw [hw.cell (by simpa using h), List.getElem?_map, List.getD_eq_getElem?_getD, List.getElem?_eq_getElem h]; rfl
    (try simp (maxSteps := 1000000) (disch := first | omega | (simp only [Heap.next_push', Heap.next_set']; omega) | (simp; done) | assumption | decide | (refine not_not_intro ?_; assumption)) only [at_zero, at_succ, wp_bnd, wp_lift, wpO_some, wp_ret, nx_nxt, nx_brk, nx_ret, unblk_nxt, unblk_ret, unblk_brk, finM_nxt, finM_ret, outV_one, condM_t, condM_f, condM_dt, condM_df, gd_t, gd_f, gdf_t, gdf_f, gd_skip, gd_dt, gd_df, gdf_dt, gdf_df, pick_t, pick_f, pick_dt, pick_df, not_t, not_f, not_dec, isNil_ptr, isNil_ptr', isNil_pnil, isNil_pnil', nilck_ptr, faddr_ptr, Nat.zero_add, Nat.add_zero, wp_ld1, lenStr_str, lenSlc_slice, strV_str, i64_add, i64_sub, i64_mul, i64_in, int_eqd, int_ned, int_lss, int_leq, int_gtr, int_geq, str_eqd, str_ned, if_true, wp_bndH, wp_withH, wp_need, enc_int, enc_str, enc_byte, enc_bool, List.getElem?_cons_zero, List.getElem?_cons_succ, book_SameNums_l2, h1, book_SameNums_k1, a1, a2, c1, c2, book_SameNums_k0])
    exact ⟨l.length - (i + 1), by omega, i + 1, rfl, by omega, rfl, by trivial⟩
  · have : i = l.length := by omega
    subst this
    (try simp (maxSteps := 1000000) (disch := first | omega | (simp only [Heap.next_push', Heap.next_set']; omega) | (simp; done) | assumption | decide | (refine not_not_intro ?_; assumption)) only [at_zero, at_succ, wp_bnd, wp_lift, wpO_some, wp_ret, nx_nxt, nx_brk, nx_ret, unblk_nxt, unblk_ret, unblk_brk, finM_nxt, finM_ret, outV_one, condM_t, condM_f, condM_dt, condM_df, gd_t, gd_f, gdf_t, gdf_f, gd_skip, gd_dt, gd_df, gdf_dt, gdf_df, pick_t, pick_f, pick_dt, pick_df, not_t, not_f, not_dec, isNil_ptr, isNil_ptr', isNil_pnil, isNil_pnil', nilck_ptr, faddr_ptr, Nat.zero_add, Nat.add_zero, wp_ld1, lenStr_str, lenSlc_slice, strV_str, i64_add, i64_sub, i64_mul, i64_in, int_eqd, int_ned, int_lss, int_leq, int_gtr, int_geq, str_eqd, str_ned, if_true, wp_bndH, wp_withH, wp_need, enc_int, enc_str, enc_byte, enc_bool, List.getElem?_cons_zero, List.getElem?_cons_succ, book_SameNums_l2, h1, book_SameNums_k3])
    exact hQ
end Go.AM.Cap
