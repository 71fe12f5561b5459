/- ports: the law PortsOrder -/
import Derived.Test.YteekfnhhjmcohaaPoP
set_option linter.all false
set_option maxHeartbeats 8000000
namespace Go.AM.Cap
open Go.AM Go.Proofs

def i64s (n : Int) : V := i64 n
/-- how things stand at a turn of PortsOrder -/
structure Ord (H0 H : Heap) (p sb : Nat) (w : V) (m : Int) (gs : List GS) (S T O I : SV) (s t o : List Int) (lost : Int) : Prop where
  box : BoxV H p w sb [qP m] gs
  st : ∃ age, gs.map GS.st = [⟨s, t, age, lost⟩]
  lot : Lot H0 H (foot p sb w gs) [(S, s), (T, t), (O, o), (I, o)]
section
variable {H0 H H' : Heap} {p sb : Nat} {w : V} {m : Int} {gs gs' : List GS} {S T O I : SV} {s t o : List Int} {lost : Int}
theorem Ord.turn (h : Ord H0 H p sb w m gs S T O I s t o lost) {x : PSt} (ht : Turn H H' p w sb [qP m] gs gs' [x]) : BoxV H' p w sb [qP m] gs' ∧ gs'.map GS.st = [x] ∧ Lot H0 H' (foot p sb w gs') [(S, s), (T, t), (O, o), (I, o)] :=
  ⟨ht.box, ht.st, h.lot.turn ht.keeps ht.fresh ht.box.lt⟩
theorem Ord.sizes (h : Ord H0 H p sb w m gs S T O I s t o lost) : s.length ≤ 16 ∧ t.length ≤ 16 := by
  obtain ⟨age, hst⟩ := h.st
  match gs, hst with
  | [g], hst =>
    have e : g.st = ⟨s, t, age, lost⟩ := by simpa using hst
    have hs : g.s = s := congrArg PSt.s e
    have ht : g.t = t := congrArg PSt.t e
    have := h.box.sz 0 g rfl
    rw [hs, ht] at this
    exact this
end
theorem box_aside {H0 H H' : Heap} {p sb : Nat} {w : V} {ls : List Port} {gs : List GS} {L : List (SV × List Int)} (hb : BoxV H p w sb ls gs) (h : Lot H0 H (foot p sb w gs) L) {i : Nat} {x : SV × List Int} (hi : L[i]? = some x) (hk : Keeps (vb x.1.v) H H') : BoxV H' p w sb ls gs := hb.keep hk (h.dis hi)

theorem seg_len1 {H : Heap} {S : SV} {l : List Int} (h : Seg H S.v (l.map i64)) : lenSlc S.v = some (i64 l.length) := by have := h.len; rwa [List.length_map] at this
/-- append(v, n) -/
theorem app_one {H : Heap} {S : SV} {l : List Int} (h : Seg H S.v (l.map i64)) (n : Int) (hl : l.length ≤ 1000000) (Q : V → Heap → Prop) (hQ : ∀ (S' : SV) (H' : Heap), Seg H' S'.v ((l ++ [n]).map i64) → Keeps (vb S.v) H H' → (∀ b ∈ vb S'.v, H.next ≤ b) → Q S'.v H') :
    wp (bslc 1 1 (rep 1 [Value.int .i64 0]) [(0, 1, i64 n)]) (fun x H1 => wp (appV 1 8 S.v x) Q H1) H :=
  seg_apps (new := [i64 n]) h (by decide) (by rfl) (by omega) (by rfl) (by rfl) (by simp; omega) (by simp; omega) fun b H' o k f =>
    hQ ⟨some ⟨b, 0, some 1⟩, (l.map i64 ++ [i64 n]).length, (l.map i64 ++ [i64 n]).length⟩ H' (by rw [List.map_append]; exact o.seg) k (fun c hc => (show c = b by simpa [SV.v, vb] using hc) ▸ f)

/-- what was sent comes behind what is there -/
theorem order_frame {H0 H : Heap} {p sb : Nat} {w av : V} {m : Int} {gs : List GS} {S T O I : SV} {s t o : List Int} {lost next : Int} {i : Nat} {x : PSt} (hx : x.s = s ∧ x.t = t ∧ x.lost = lost) (hm : 1 ≤ m ∧ m ≤ 16) (htm : (t.length : Int) ≤ m) (hlo : w64 lost = lost)
    (hs : s.length ≤ 16) (hb : BoxV H p w sb [qP m] gs) (h : Lot H0 H (foot p sb w gs) [(S, s), (T, t), (O, o), (I, o)]) (Q : Out → Heap → Prop)
    (hQ : ∀ (T' : SV) (H' : Heap), BoxV H' p w sb [qP m] gs → Lot H0 H' (foot p sb w gs) [(S, s), (T', tk (qP m) x s.length), (O, o), (I, o)] → Q (.brk 3 [i64 m, av, ptr p 0, T'.v, O.v, I.v, i64 (lk (qP m) x s.length), i64 next, i64 i]) H') :
    wp (loopM FUEL law20_PortsOrder_l3 [i64 m, av, ptr p 0, T.v, O.v, I.v, i64 lost, i64 next, i64 i, S.v, i64 s.length, i64 0]) Q H := by
  obtain ⟨hxs, hxt, hxl⟩ := hx
  have htm' : (x.t.length : Int) ≤ (qP m).cap := by rw [hxt]; exact htm
  refine wp_loop (Inv := fun k vs H' => ∃ (j : Nat) (T' : SV), k = s.length - j ∧ j ≤ s.length ∧ vs = [i64 m, av, ptr p 0, T'.v, O.v, I.v, i64 (lk (qP m) x j), i64 next, i64 i, S.v, i64 s.length, i64 j] ∧ BoxV H' p w sb [qP m] gs ∧ Lot H0 H' (foot p sb w gs) [(S, s), (T', tk (qP m) x j), (O, o), (I, o)]) (n := s.length) (by unfold FUEL; omega)
    ⟨0, T, by omega, by omega, by rw [lk_zero _ _ htm', hxl, hlo]; rfl, hb, by rw [tk_zero _ _ htm', hxt]; exact h⟩ ?_
  rintro k vs H' ⟨j, T', hk, hj, rfl, hb', h'⟩
  by_cases hlt : j < s.length
  case neg =>
    have : j = s.length := by omega
    subst this
    (try simp (maxSteps := 1000000) (disch := first | omega | (simp only [Heap.next_push', Heap.next_set']; omega) | (simp; done) | assumption | decide | (refine not_not_intro ?_; assumption)) only [at_zero, at_succ, wp_bnd, wp_lift, wpO_some, wp_ret, nx_nxt, nx_brk, nx_ret, unblk_nxt, unblk_ret, unblk_brk, finM_nxt, finM_ret, outV_one, condM_t, condM_f, condM_dt, condM_df, gd_t, gd_f, gdf_t, gdf_f, gd_skip, gd_dt, gd_df, gdf_dt, gdf_df, pick_t, pick_f, pick_dt, pick_df, not_t, not_f, not_dec, isNil_ptr, isNil_ptr', isNil_pnil, isNil_pnil', nilck_ptr, faddr_ptr, Nat.zero_add, Nat.add_zero, wp_ld1, lenStr_str, lenSlc_slice, strV_str, i64_add, i64_sub, i64_mul, i64_in, int_eqd, int_ned, int_lss, int_leq, int_gtr, int_geq, str_eqd, str_ned, if_true, wp_bndH, wp_withH, wp_need, enc_int, enc_str, enc_byte, enc_bool, List.getElem?_cons_zero, List.getElem?_cons_succ, law20_PortsOrder_l3])
    exact hQ T' H' hb' h'
  have sS := h'.seg 0 _ rfl
  have sT := h'.seg 1 _ rfl
  simp only at sS sT
  have a1 := sS.addr (k := .i64) (i := j) (by omega) (by simp; omega)
  rw [Int.toNat_natCast] at a1
  have c1 : cellP H' (ptr (slB S.v) (slO S.v + j)) = some (i64 (s.getD j 0)) := by
    rw [sS.cell (by simpa using hlt), List.getElem?_map, List.getD_eq_getElem?_getD, List.getElem?_eq_getElem hlt]; rfl
  have hlT := seg_len1 sT
  obtain ⟨st1, st2⟩ := tk_step (qP m) x j (by rw [hxs]; exact hlt) hm.1 htm'
  rw [hxs] at st1
  have htl := tk_len (qP m) x j
  by_cases hc : ((tk (qP m) x j).length : Int) < m
  · obtain ⟨e1, e2⟩ := st1 hc
    (try simp (maxSteps := 1000000) (disch := first | omega | (simp only [Heap.next_push', Heap.next_set']; omega) | (simp; done) | assumption | decide | (refine not_not_intro ?_; assumption)) only [at_zero, at_succ, wp_bnd, wp_lift, wpO_some, wp_ret, nx_nxt, nx_brk, nx_ret, unblk_nxt, unblk_ret, unblk_brk, finM_nxt, finM_ret, outV_one, condM_t, condM_f, condM_dt, condM_df, gd_t, gd_f, gdf_t, gdf_f, gd_skip, gd_dt, gd_df, gdf_dt, gdf_df, pick_t, pick_f, pick_dt, pick_df, not_t, not_f, not_dec, isNil_ptr, isNil_ptr', isNil_pnil, isNil_pnil', nilck_ptr, faddr_ptr, Nat.zero_add, Nat.add_zero, wp_ld1, lenStr_str, lenSlc_slice, strV_str, i64_add, i64_sub, i64_mul, i64_in, int_eqd, int_ned, int_lss, int_leq, int_gtr, int_geq, str_eqd, str_ned, if_true, wp_bndH, wp_withH, wp_need, enc_int, enc_str, enc_byte, enc_bool, List.getElem?_cons_zero, List.getElem?_cons_succ, law20_PortsOrder_l3, law20_PortsOrder_k2, a1, c1, hlT])
    refine app_one sT _ (by simp only [qP] at htl; omega) _ fun T2 H2 s2 k2 f2 => ?_
    (try simp (maxSteps := 1000000) (disch := first | omega | (simp only [Heap.next_push', Heap.next_set']; omega) | (simp; done) | assumption | decide | (refine not_not_intro ?_; assumption)) only [at_zero, at_succ, wp_bnd, wp_lift, wpO_some, wp_ret, nx_nxt, nx_brk, nx_ret, unblk_nxt, unblk_ret, unblk_brk, finM_nxt, finM_ret, outV_one, condM_t, condM_f, condM_dt, condM_df, gd_t, gd_f, gdf_t, gdf_f, gd_skip, gd_dt, gd_df, gdf_dt, gdf_df, pick_t, pick_f, pick_dt, pick_df, not_t, not_f, not_dec, isNil_ptr, isNil_ptr', isNil_pnil, isNil_pnil', nilck_ptr, faddr_ptr, Nat.zero_add, Nat.add_zero, wp_ld1, lenStr_str, lenSlc_slice, strV_str, i64_add, i64_sub, i64_mul, i64_in, int_eqd, int_ned, int_lss, int_leq, int_gtr, int_geq, str_eqd, str_ned, if_true, wp_bndH, wp_withH, wp_need, enc_int, enc_str, enc_byte, enc_bool, List.getElem?_cons_zero, List.getElem?_cons_succ, law20_PortsOrder_k1])
    have h2 := h'.put (i := 1) (y := (T2, tk (qP m) x (j + 1))) rfl k2 (by rw [e1]; exact s2) (fun b hb => .inr (f2 b hb))
    exact ⟨s.length - (j + 1), by omega, j + 1, T2, rfl, by omega, by rw [e2]; rfl, box_aside hb' h' (i := 1) rfl k2, h2⟩
  · obtain ⟨e1, e2⟩ := st2 hc
    (try simp (maxSteps := 1000000) (disch := first | omega | (simp only [Heap.next_push', Heap.next_set']; omega) | (simp; done) | assumption | decide | (refine not_not_intro ?_; assumption)) only [at_zero, at_succ, wp_bnd, wp_lift, wpO_some, wp_ret, nx_nxt, nx_brk, nx_ret, unblk_nxt, unblk_ret, unblk_brk, finM_nxt, finM_ret, outV_one, condM_t, condM_f, condM_dt, condM_df, gd_t, gd_f, gdf_t, gdf_f, gd_skip, gd_dt, gd_df, gdf_dt, gdf_df, pick_t, pick_f, pick_dt, pick_df, not_t, not_f, not_dec, isNil_ptr, isNil_ptr', isNil_pnil, isNil_pnil', nilck_ptr, faddr_ptr, Nat.zero_add, Nat.add_zero, wp_ld1, lenStr_str, lenSlc_slice, strV_str, i64_add, i64_sub, i64_mul, i64_in, int_eqd, int_ned, int_lss, int_leq, int_gtr, int_geq, str_eqd, str_ned, if_true, wp_bndH, wp_withH, wp_need, enc_int, enc_str, enc_byte, enc_bool, List.getElem?_cons_zero, List.getElem?_cons_succ, law20_PortsOrder_l3, law20_PortsOrder_k2, a1, c1, hlT, law20_PortsOrder_k1])
    exact ⟨s.length - (j + 1), by omega, j + 1, T', rfl, by omega, by rw [e2]; rfl, hb', by rw [e1]; exact h'⟩
end Go.AM.Cap
