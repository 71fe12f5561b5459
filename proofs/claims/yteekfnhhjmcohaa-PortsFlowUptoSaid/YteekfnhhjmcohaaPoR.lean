import Derived.Test.YteekfnhhjmcohaaPoN
set_option linter.all false
/- ports: things that lie beside one another; one queue; SameNums -/
set_option maxHeartbeats 8000000
namespace Go.AM.Cap
open Go.AM Go.Proofs

/-- slices of numbers beside a thing with the blocks fp: each block has a colour -/
structure Lot (H0 H : Heap) (fp : List Nat) (L : List (SV × List Int)) : Prop where
  seg : ∀ (i : Nat) (x : SV × List Int), L[i]? = some x → Seg H x.1.v (x.2.map i64)
  col : ∃ c : Nat → Nat, (∀ b ∈ fp, c b = 0) ∧ ∀ (i : Nat) (x : SV × List Int), L[i]? = some x → ∀ b ∈ vb x.1.v, c b = i + 1
  lowF : ∀ b ∈ fp, H0.next ≤ b ∧ b < H.next
  lowL : ∀ (i : Nat) (x : SV × List Int), L[i]? = some x → ∀ b ∈ vb x.1.v, H0.next ≤ b
  k : Keeps [] H0 H
section
variable {H0 H H' : Heap} {fp fp' : List Nat} {L : List (SV × List Int)}
theorem Lot.dis (h : Lot H0 H fp L) {i : Nat} {x : SV × List Int} (hi : L[i]? = some x) : ∀ b ∈ fp, b ∉ vb x.1.v := by
  obtain ⟨c, c0, c1⟩ := h.col
  intro b hb hm
  have := c0 b hb
  have := c1 i x hi b hm
  omega
theorem Lot.put (h : Lot H0 H fp L) {i : Nat} {x y : SV × List Int} (hi : L[i]? = some x) (hk : Keeps (vb x.1.v) H H') (hs : Seg H' y.1.v (y.2.map i64)) (hf : ∀ b ∈ vb y.1.v, b ∈ vb x.1.v ∨ H.next ≤ b) : Lot H0 H' fp (L.set i y) := by
  have hil : i < L.length := by
    rcases Nat.lt_or_ge i L.length with q | q
    · exact q
    · rw [List.getElem?_eq_none q] at hi; cases hi
  have hget : ∀ (j : Nat) (z : SV × List Int), (L.set i y)[j]? = some z → (j = i ∧ z = y) ∨ (j ≠ i ∧ L[j]? = some z) := by
    intro j z hz
    by_cases hj : j = i
    · subst hj
      rw [List.getElem?_set_self hil] at hz
      cases hz; exact .inl ⟨rfl, rfl⟩
    · rw [List.getElem?_set_ne (fun e => hj e.symm)] at hz
      exact .inr ⟨hj, hz⟩
  obtain ⟨c, c0, c1⟩ := h.col
  have hn := hk.next
  have hn0 := h.k.next
  refine ⟨fun j z hz => ?_, ⟨fun b => if H.next ≤ b then i + 1 else c b, fun b hb => ?_, fun j z hz b hb => ?_⟩, fun b hb => ⟨(h.lowF b hb).1, by have := (h.lowF b hb).2; omega⟩, fun j z hz b hb => ?_, h.k.trans hk (fun b hb hm => by have := h.lowL i x hi b hm; omega)⟩
  · rcases hget j z hz with ⟨rfl, rfl⟩ | ⟨hj, hz'⟩
    · exact hs
    · exact (h.seg j z hz').keep hk (fun b hb hm => by have := c1 j z hz' b hb; have := c1 i x hi b hm; omega)
  · have := (h.lowF b hb).2
    show (if H.next ≤ b then i + 1 else c b) = 0
    rw [if_neg (by omega)]; exact c0 b hb
  · show (if H.next ≤ b then i + 1 else c b) = j + 1
    rcases hget j z hz with ⟨rfl, rfl⟩ | ⟨hj, hz'⟩
    · split
      · rfl
      · rcases hf b hb with q | q
        · exact c1 _ x hi b q
        · omega
    · have := (h.seg j z hz').lt b hb
      rw [if_neg (by omega)]; exact c1 j z hz' b hb
  · rcases hget j z hz with ⟨rfl, rfl⟩ | ⟨hj, hz'⟩
    · rcases hf b hb with q | q
      · exact h.lowL _ x hi b q
      · omega
    · exact h.lowL j z hz' b hb
theorem Lot.turn (h : Lot H0 H fp L) (hk : Keeps fp H H') (hf : ∀ b ∈ fp', b ∈ fp ∨ H.next ≤ b) (hl : ∀ b ∈ fp', b < H'.next) : Lot H0 H' fp' L := by
  obtain ⟨c, c0, c1⟩ := h.col
  have hn := hk.next
  have hn0 := h.k.next
  refine ⟨fun j z hz => (h.seg j z hz).keep hk (fun b hb hm => h.dis hz b hm hb), ⟨fun b => if H.next ≤ b then 0 else c b, fun b hb => ?_, fun j z hz b hb => ?_⟩, fun b hb => ⟨?_, hl b hb⟩, h.lowL, h.k.trans hk (fun b hb hm => by have := h.lowF b hm; omega)⟩
  · show (if H.next ≤ b then 0 else c b) = 0
    split
    · rfl
    · rcases hf b hb with q | q
      · exact c0 b q
      · omega
  · have := (h.seg j z hz).lt b hb
    show (if H.next ≤ b then 0 else c b) = j + 1
    rw [if_neg (by omega)]; exact c1 j z hz b hb
  · rcases hf b hb with q | q
    · exact (h.lowF b q).1
    · omega
theorem Lot.keep (h : Lot H0 H fp L) (hk : Keeps [] H H') : Lot H0 H' fp L :=
  h.turn (hk.mono (by simp)) (fun b hb => .inl hb) (fun b hb => by have := (h.lowF b hb).2; have := hk.next; omega)
end

def qP (m : Int) : Port := ⟨2, 2, 5, 3, m⟩
theorem chk_qP (m : Int) (h : 1 ≤ m ∧ m ≤ 16) : (chkP [qP m]).2 = 0 := by
  have hw : wrongP (qP m) = 0 := by
    unfold wrongP qP
    simp
    omega
  rw [chkP, if_neg (by simp), chkL, if_neg (by rw [hw]; simp), chkL]
theorem send_one (m : Int) (x : PSt) (n : Int) (hn : 0 ≤ n ∧ n ≤ 1000) : sendS [qP m] [x] 2 0 n = if m ≤ x.s.length then ([{ x with lost := w64 (x.lost + 1) }], 2) else ([{ x with s := x.s ++ [n] }], 0) := by
  have hp : okP [qP m] 2 0 := by unfold okP; simp
  have hf : fits (portAt [qP m] 0).typ n := by right; right; exact ⟨.inl rfl, by omega, by omega⟩
  rw [sendS, if_neg (not_not_intro hp), if_neg (by show ¬ ((2 : Int) ≠ 2); omega), if_neg (not_not_intro hf), if_neg (by show ¬ ((2 : Int) = 1); omega)]
  rfl
theorem recv_one (m : Int) (x : PSt) : recvS [qP m] [x] 5 0 = if x.t.length = 0 then ([x], 0, 0, 5) else ([{ x with t := x.t.drop 1 }], x.t.getD 0 0, 0, 0) := by
  have hp : okP [qP m] 5 0 := by unfold okP; simp
  rw [recvS, if_neg (not_not_intro hp), if_neg (by show ¬ ((5 : Int) ≠ 5); omega), if_neg (c := (portAt [qP m] 0).kind = 1) (by show ¬ ((2 : Int) = 1); omega)]
  rfl
theorem frame_one (m : Int) (x : PSt) : frameAll [qP m] [x] = [{ x with s := [], t := tk (qP m) x x.s.length, lost := lk (qP m) x x.s.length }] := by
  rw [tk_full, lk_full]
  rfl
theorem undo_one (m : Int) (x : PSt) : undoAll [qP m] 2 [x] = [{ x with s := [] }] := rfl

theorem same_ok {H : Heap} {v w : V} {l : List Int} (hv : Seg H v (l.map i64)) (hw : Seg H w (l.map i64)) (hl : l.length ≤ 1000000) (Q : V → Heap → Prop) (hQ : Q (.bool true) H) : wp (A_book_SameNums [v, w]) Q H := by
  show wp (F_book_SameNums v w) Q H
  have h1 : lenSlc v = some (i64 l.length) := by have := hv.len; rwa [List.length_map] at this
  have h2 : lenSlc w = some (i64 l.length) := by have := hw.len; rwa [List.length_map] at this
  (try simp (maxSteps := 1000000) (disch := first | omega | (simp only [Heap.next_push', Heap.next_set']; omega) | (simp; done) | assumption | decide | (refine not_not_intro ?_; assumption)) only [at_zero, at_succ, wp_bnd, wp_lift, wpO_some, wp_ret, nx_nxt, nx_brk, nx_ret, unblk_nxt, unblk_ret, unblk_brk, finM_nxt, finM_ret, outV_one, condM_t, condM_f, condM_dt, condM_df, gd_t, gd_f, gdf_t, gdf_f, gd_skip, gd_dt, gd_df, gdf_dt, gdf_df, pick_t, pick_f, pick_dt, pick_df, not_t, not_f, not_dec, isNil_ptr, isNil_ptr', isNil_pnil, isNil_pnil', nilck_ptr, faddr_ptr, Nat.zero_add, Nat.add_zero, wp_ld1, lenStr_str, lenSlc_slice, strV_str, i64_add, i64_sub, i64_mul, i64_in, int_eqd, int_ned, int_lss, int_leq, int_gtr, int_geq, str_eqd, str_ned, if_true, wp_bndH, wp_withH, wp_need, enc_int, enc_str, enc_byte, enc_bool, List.getElem?_cons_zero, List.getElem?_cons_succ, cellP_get, cellG_cells, wp_st1g, stG_c, eq_self, true_and, wp_stng, stnG_ok, wp_ldng, ldG_ok, wp_newcg, wp_boxg, Heap.get_push_eq, Heap.get_push_lt, Heap.get_set_eq, Heap.get_set_ne', Heap.next_push', Heap.next_set', Heap.set_push_lt, Heap.set_push_eq, Heap.set_set, fld1_agg, fldn_agg, ext_tuple, outV_nil, outV_two, outV_three, outV_four, chk_ld1g, chkO_int, chkO_bool, chkO_str, chkO_ptr, chkO_slc, chkO_map, List.set_cons_zero, List.set_cons_succ, List.length_cons, List.length_nil, List.drop_succ_cons, List.drop_zero, List.take_succ_cons, List.take_zero, List.nil_append, List.cons_append, splice, isOne_int, isOne_str, isOne_bool, isOne_slice, isOne_pointer, isOne_map, condM_nf, condM_nef, gd_nef, gdf_nef, pick_nef, build_eq, fillA_nil, fillA_one, fillA_agg, Option.map_some, resv_one, resv_two, freeIn_nil, fillA_slc, fillA_int, fillA_str, fillA_bool, fillA_ptr, fillA_map, F_book_SameNums, h1, h2, book_SameNums_k4])
  refine wp_loop (Inv := fun k vs H' => ∃ i : Nat, k = l.length - i ∧ i ≤ l.length ∧ vs = [v, w, i64 i] ∧ H' = H) (n := l.length) (by unfold FUEL; omega) ⟨0, by omega, by omega, rfl, rfl⟩ ?_
  rintro k vs H' ⟨i, hk, hi, rfl, rfl⟩
  by_cases h : i < l.length
  · have a1 := hv.addr (k := .i64) (i := i) (by omega) (by simp; omega)
    have a2 := hw.addr (k := .i64) (i := i) (by omega) (by simp; omega)
    rw [Int.toNat_natCast] at a1 a2
    have c1 : cellP H' (ptr (slB v) (slO v + i)) = some (i64 (l.getD i 0)) := by
      rw [hv.cell (by simpa using h), List.getElem?_map, List.getD_eq_getElem?_getD, List.getElem?_eq_getElem h]; rfl
    have c2 : cellP H' (ptr (slB w) (slO w + i)) = some (i64 (l.getD i 0)) := by
      rw [hw.cell (by simpa using h), List.getElem?_map, List.getD_eq_getElem?_getD, List.getElem?_eq_getElem h]; rfl
    (try simp (maxSteps := 1000000) (disch := first | omega | (simp only [Heap.next_push', Heap.next_set']; omega) | (simp; done) | assumption | decide | (refine not_not_intro ?_; assumption)) only [at_zero, at_succ, wp_bnd, wp_lift, wpO_some, wp_ret, nx_nxt, nx_brk, nx_ret, unblk_nxt, unblk_ret, unblk_brk, finM_nxt, finM_ret, outV_one, condM_t, condM_f, condM_dt, condM_df, gd_t, gd_f, gdf_t, gdf_f, gd_skip, gd_dt, gd_df, gdf_dt, gdf_df, pick_t, pick_f, pick_dt, pick_df, not_t, not_f, not_dec, isNil_ptr, isNil_ptr', isNil_pnil, isNil_pnil', nilck_ptr, faddr_ptr, Nat.zero_add, Nat.add_zero, wp_ld1, lenStr_str, lenSlc_slice, strV_str, i64_add, i64_sub, i64_mul, i64_in, int_eqd, int_ned, int_lss, int_leq, int_gtr, int_geq, str_eqd, str_ned, if_true, wp_bndH, wp_withH, wp_need, enc_int, enc_str, enc_byte, enc_bool, List.getElem?_cons_zero, List.getElem?_cons_succ, book_SameNums_l2, h1, book_SameNums_k1, a1, a2, c1, c2, book_SameNums_k0])
    exact ⟨l.length - (i + 1), by omega, i + 1, rfl, by omega, rfl, by trivial⟩
  · have : i = l.length := by omega
    subst this
    (try simp (maxSteps := 1000000) (disch := first | omega | (simp only [Heap.next_push', Heap.next_set']; omega) | (simp; done) | assumption | decide | (refine not_not_intro ?_; assumption)) only [at_zero, at_succ, wp_bnd, wp_lift, wpO_some, wp_ret, nx_nxt, nx_brk, nx_ret, unblk_nxt, unblk_ret, unblk_brk, finM_nxt, finM_ret, outV_one, condM_t, condM_f, condM_dt, condM_df, gd_t, gd_f, gdf_t, gdf_f, gd_skip, gd_dt, gd_df, gdf_dt, gdf_df, pick_t, pick_f, pick_dt, pick_df, not_t, not_f, not_dec, isNil_ptr, isNil_ptr', isNil_pnil, isNil_pnil', nilck_ptr, faddr_ptr, Nat.zero_add, Nat.add_zero, wp_ld1, lenStr_str, lenSlc_slice, strV_str, i64_add, i64_sub, i64_mul, i64_in, int_eqd, int_ned, int_lss, int_leq, int_gtr, int_geq, str_eqd, str_ned, if_true, wp_bndH, wp_withH, wp_need, enc_int, enc_str, enc_byte, enc_bool, List.getElem?_cons_zero, List.getElem?_cons_succ, book_SameNums_l2, h1, book_SameNums_k3])
    exact hQ
end Go.AM.Cap

/- ports: the law PortsOrder -/
set_option maxHeartbeats 8000000
namespace Go.AM.Cap
open Go.AM Go.Proofs

def i64s (n : Int) : V := i64 n
/-- how things stand at a turn of PortsOrder -/
structure Ord (H0 H : Heap) (p sb : Nat) (w : V) (m : Int) (gs : List GS) (S T O I : SV) (s t o : List Int) (lost : Int) : Prop where
  box : BoxV H p w sb [qP m] gs
  st : ∃ age, gs.map GS.st = [⟨s, t, age, lost⟩]
  lot : Lot H0 H (foot p sb w gs) [(S, s), (T, t), (O, o), (I, o)]
section
variable {H0 H H' : Heap} {p sb : Nat} {w : V} {m : Int} {gs gs' : List GS} {S T O I : SV} {s t o : List Int} {lost : Int}
theorem Ord.turn (h : Ord H0 H p sb w m gs S T O I s t o lost) {x : PSt} (ht : Turn H H' p w sb [qP m] gs gs' [x]) : BoxV H' p w sb [qP m] gs' ∧ gs'.map GS.st = [x] ∧ Lot H0 H' (foot p sb w gs') [(S, s), (T, t), (O, o), (I, o)] :=
  ⟨ht.box, ht.st, h.lot.turn ht.keeps ht.fresh ht.box.lt⟩
theorem Ord.sizes (h : Ord H0 H p sb w m gs S T O I s t o lost) : s.length ≤ 16 ∧ t.length ≤ 16 := by
  obtain ⟨age, hst⟩ := h.st
  match gs, hst with
  | [g], hst =>
    have e : g.st = ⟨s, t, age, lost⟩ := by simpa using hst
    have hs : g.s = s := congrArg PSt.s e
    have ht : g.t = t := congrArg PSt.t e
    have := h.box.sz 0 g rfl
    rw [hs, ht] at this
    exact this
end
theorem box_aside {H0 H H' : Heap} {p sb : Nat} {w : V} {ls : List Port} {gs : List GS} {L : List (SV × List Int)} (hb : BoxV H p w sb ls gs) (h : Lot H0 H (foot p sb w gs) L) {i : Nat} {x : SV × List Int} (hi : L[i]? = some x) (hk : Keeps (vb x.1.v) H H') : BoxV H' p w sb ls gs := hb.keep hk (h.dis hi)

theorem seg_len1 {H : Heap} {S : SV} {l : List Int} (h : Seg H S.v (l.map i64)) : lenSlc S.v = some (i64 l.length) := by have := h.len; rwa [List.length_map] at this
/-- append(v, n) -/
theorem app_one {H : Heap} {S : SV} {l : List Int} (h : Seg H S.v (l.map i64)) (n : Int) (hl : l.length ≤ 1000000) (Q : V → Heap → Prop) (hQ : ∀ (S' : SV) (H' : Heap), Seg H' S'.v ((l ++ [n]).map i64) → Keeps (vb S.v) H H' → (∀ b ∈ vb S'.v, H.next ≤ b) → Q S'.v H') :
    wp (bslc 1 1 (rep 1 [Value.int .i64 0]) [(0, 1, i64 n)]) (fun x H1 => wp (appV 1 8 S.v x) Q H1) H :=
  seg_apps (new := [i64 n]) h (by decide) (by rfl) (by omega) (by rfl) (by rfl) (by simp; omega) (by simp; omega) fun b H' o k f =>
    hQ ⟨some ⟨b, 0, some 1⟩, (l.map i64 ++ [i64 n]).length, (l.map i64 ++ [i64 n]).length⟩ H' (by rw [List.map_append]; exact o.seg) k (fun c hc => (show c = b by simpa [SV.v, vb] using hc) ▸ f)

/-- what was sent comes behind what is there -/
theorem order_frame {H0 H : Heap} {p sb : Nat} {w av : V} {m : Int} {gs : List GS} {S T O I : SV} {s t o : List Int} {lost next : Int} {i : Nat} {x : PSt} (hx : x.s = s ∧ x.t = t ∧ x.lost = lost) (hm : 1 ≤ m ∧ m ≤ 16) (htm : (t.length : Int) ≤ m) (hlo : w64 lost = lost)
    (hs : s.length ≤ 16) (hb : BoxV H p w sb [qP m] gs) (h : Lot H0 H (foot p sb w gs) [(S, s), (T, t), (O, o), (I, o)]) (Q : Out → Heap → Prop)
    (hQ : ∀ (T' : SV) (H' : Heap), BoxV H' p w sb [qP m] gs → Lot H0 H' (foot p sb w gs) [(S, s), (T', tk (qP m) x s.length), (O, o), (I, o)] → Q (.brk 3 [i64 m, av, ptr p 0, T'.v, O.v, I.v, i64 (lk (qP m) x s.length), i64 next, i64 i]) H') :
    wp (loopM FUEL law20_PortsOrder_l3 [i64 m, av, ptr p 0, T.v, O.v, I.v, i64 lost, i64 next, i64 i, S.v, i64 s.length, i64 0]) Q H := by
  obtain ⟨hxs, hxt, hxl⟩ := hx
  have htm' : (x.t.length : Int) ≤ (qP m).cap := by rw [hxt]; exact htm
  refine wp_loop (Inv := fun k vs H' => ∃ (j : Nat) (T' : SV), k = s.length - j ∧ j ≤ s.length ∧ vs = [i64 m, av, ptr p 0, T'.v, O.v, I.v, i64 (lk (qP m) x j), i64 next, i64 i, S.v, i64 s.length, i64 j] ∧ BoxV H' p w sb [qP m] gs ∧ Lot H0 H' (foot p sb w gs) [(S, s), (T', tk (qP m) x j), (O, o), (I, o)]) (n := s.length) (by unfold FUEL; omega)
    ⟨0, T, by omega, by omega, by rw [lk_zero _ _ htm', hxl, hlo]; rfl, hb, by rw [tk_zero _ _ htm', hxt]; exact h⟩ ?_
  rintro k vs H' ⟨j, T', hk, hj, rfl, hb', h'⟩
  by_cases hlt : j < s.length
  case neg =>
    have : j = s.length := by omega
    subst this
    (try simp (maxSteps := 1000000) (disch := first | omega | (simp only [Heap.next_push', Heap.next_set']; omega) | (simp; done) | assumption | decide | (refine not_not_intro ?_; assumption)) only [at_zero, at_succ, wp_bnd, wp_lift, wpO_some, wp_ret, nx_nxt, nx_brk, nx_ret, unblk_nxt, unblk_ret, unblk_brk, finM_nxt, finM_ret, outV_one, condM_t, condM_f, condM_dt, condM_df, gd_t, gd_f, gdf_t, gdf_f, gd_skip, gd_dt, gd_df, gdf_dt, gdf_df, pick_t, pick_f, pick_dt, pick_df, not_t, not_f, not_dec, isNil_ptr, isNil_ptr', isNil_pnil, isNil_pnil', nilck_ptr, faddr_ptr, Nat.zero_add, Nat.add_zero, wp_ld1, lenStr_str, lenSlc_slice, strV_str, i64_add, i64_sub, i64_mul, i64_in, int_eqd, int_ned, int_lss, int_leq, int_gtr, int_geq, str_eqd, str_ned, if_true, wp_bndH, wp_withH, wp_need, enc_int, enc_str, enc_byte, enc_bool, List.getElem?_cons_zero, List.getElem?_cons_succ, law20_PortsOrder_l3])
    exact hQ T' H' hb' h'
  have sS := h'.seg 0 _ rfl
  have sT := h'.seg 1 _ rfl
  simp only at sS sT
  have a1 := sS.addr (k := .i64) (i := j) (by omega) (by simp; omega)
  rw [Int.toNat_natCast] at a1
  have c1 : cellP H' (ptr (slB S.v) (slO S.v + j)) = some (i64 (s.getD j 0)) := by
    rw [sS.cell (by simpa using hlt), List.getElem?_map, List.getD_eq_getElem?_getD, List.getElem?_eq_getElem hlt]; rfl
  have hlT := seg_len1 sT
  obtain ⟨st1, st2⟩ := tk_step (qP m) x j (by rw [hxs]; exact hlt) hm.1 htm'
  rw [hxs] at st1
  have htl := tk_len (qP m) x j
  by_cases hc : ((tk (qP m) x j).length : Int) < m
  · obtain ⟨e1, e2⟩ := st1 hc
    (try simp (maxSteps := 1000000) (disch := first | omega | (simp only [Heap.next_push', Heap.next_set']; omega) | (simp; done) | assumption | decide | (refine not_not_intro ?_; assumption)) only [at_zero, at_succ, wp_bnd, wp_lift, wpO_some, wp_ret, nx_nxt, nx_brk, nx_ret, unblk_nxt, unblk_ret, unblk_brk, finM_nxt, finM_ret, outV_one, condM_t, condM_f, condM_dt, condM_df, gd_t, gd_f, gdf_t, gdf_f, gd_skip, gd_dt, gd_df, gdf_dt, gdf_df, pick_t, pick_f, pick_dt, pick_df, not_t, not_f, not_dec, isNil_ptr, isNil_ptr', isNil_pnil, isNil_pnil', nilck_ptr, faddr_ptr, Nat.zero_add, Nat.add_zero, wp_ld1, lenStr_str, lenSlc_slice, strV_str, i64_add, i64_sub, i64_mul, i64_in, int_eqd, int_ned, int_lss, int_leq, int_gtr, int_geq, str_eqd, str_ned, if_true, wp_bndH, wp_withH, wp_need, enc_int, enc_str, enc_byte, enc_bool, List.getElem?_cons_zero, List.getElem?_cons_succ, law20_PortsOrder_l3, law20_PortsOrder_k2, a1, c1, hlT])
    refine app_one sT _ (by simp only [qP] at htl; omega) _ fun T2 H2 s2 k2 f2 => ?_
    (try simp (maxSteps := 1000000) (disch := first | omega | (simp only [Heap.next_push', Heap.next_set']; omega) | (simp; done) | assumption | decide | (refine not_not_intro ?_; assumption)) only [at_zero, at_succ, wp_bnd, wp_lift, wpO_some, wp_ret, nx_nxt, nx_brk, nx_ret, unblk_nxt, unblk_ret, unblk_brk, finM_nxt, finM_ret, outV_one, condM_t, condM_f, condM_dt, condM_df, gd_t, gd_f, gdf_t, gdf_f, gd_skip, gd_dt, gd_df, gdf_dt, gdf_df, pick_t, pick_f, pick_dt, pick_df, not_t, not_f, not_dec, isNil_ptr, isNil_ptr', isNil_pnil, isNil_pnil', nilck_ptr, faddr_ptr, Nat.zero_add, Nat.add_zero, wp_ld1, lenStr_str, lenSlc_slice, strV_str, i64_add, i64_sub, i64_mul, i64_in, int_eqd, int_ned, int_lss, int_leq, int_gtr, int_geq, str_eqd, str_ned, if_true, wp_bndH, wp_withH, wp_need, enc_int, enc_str, enc_byte, enc_bool, List.getElem?_cons_zero, List.getElem?_cons_succ, law20_PortsOrder_k1])
    have h2 := h'.put (i := 1) (y := (T2, tk (qP m) x (j + 1))) rfl k2 (by rw [e1]; exact s2) (fun b hb => .inr (f2 b hb))
    exact ⟨s.length - (j + 1), by omega, j + 1, T2, rfl, by omega, by rw [e2]; rfl, box_aside hb' h' (i := 1) rfl k2, h2⟩
  · obtain ⟨e1, e2⟩ := st2 hc
    (try simp (maxSteps := 1000000) (disch := first | omega | (simp only [Heap.next_push', Heap.next_set']; omega) | (simp; done) | assumption | decide | (refine not_not_intro ?_; assumption)) only [at_zero, at_succ, wp_bnd, wp_lift, wpO_some, wp_ret, nx_nxt, nx_brk, nx_ret, unblk_nxt, unblk_ret, unblk_brk, finM_nxt, finM_ret, outV_one, condM_t, condM_f, condM_dt, condM_df, gd_t, gd_f, gdf_t, gdf_f, gd_skip, gd_dt, gd_df, gdf_dt, gdf_df, pick_t, pick_f, pick_dt, pick_df, not_t, not_f, not_dec, isNil_ptr, isNil_ptr', isNil_pnil, isNil_pnil', nilck_ptr, faddr_ptr, Nat.zero_add, Nat.add_zero, wp_ld1, lenStr_str, lenSlc_slice, strV_str, i64_add, i64_sub, i64_mul, i64_in, int_eqd, int_ned, int_lss, int_leq, int_gtr, int_geq, str_eqd, str_ned, if_true, wp_bndH, wp_withH, wp_need, enc_int, enc_str, enc_byte, enc_bool, List.getElem?_cons_zero, List.getElem?_cons_succ, law20_PortsOrder_l3, law20_PortsOrder_k2, a1, c1, hlT, law20_PortsOrder_k1])
    exact ⟨s.length - (j + 1), by omega, j + 1, T', rfl, by omega, by rw [e2]; rfl, hb', by rw [e1]; exact h'⟩
end Go.AM.Cap

/- ports: the law PortsOrder, its loop and its end -/
set_option maxHeartbeats 8000000
namespace Go.AM.Cap
open Go.AM Go.Proofs

theorem eqK_dd (p q : Prop) [Decidable p] [Decidable q] : notIf true (eqK .b (.bool (decide p)) (.bool (decide q))) = some (.bool (decide (¬ (p ↔ q)))) := by
  show some (Value.bool (!(decide p == decide q))) = _
  congr 2
  by_cases hp : p <;> by_cases hq : q <;> simp [hp, hq]
def nilS : SV := ⟨none, 0, 0⟩

theorem order_loop {H0 H : Heap} {p sb : Nat} {w av : V} {m : Int} {gs : List GS} {acts : List Act} (hm : 1 ≤ m ∧ m ≤ 16) (ha : Sl H0 av acts) (h0 : Ord H0 H p sb w m gs nilS nilS nilS nilS [] [] [] 0) (Q : Out → Heap → Prop)
    (hQ : ∀ (gs : List GS) (S T O I : SV) (s t o : List Int) (lost : Int) (H' : Heap), Ord H0 H' p sb w m gs S T O I s t o lost → o.length ≤ 150 → Q (.brk 0 [ptr p 0, S.v, T.v, O.v, I.v, i64 lost]) H') :
    wp (loopM FUEL law20_PortsOrder_l8 [i64 m, av, ptr p 0, .slice none 0 0, .slice none 0 0, .slice none 0 0, .slice none 0 0, i64 0, i64 0, i64 0]) Q H := by
  refine wp_loop (Inv := fun k vs H' => ∃ (i : Nat) (gs : List GS) (S T O I : SV) (s t o : List Int) (lost next : Int), k = 150 - i ∧ i ≤ 150 ∧ i ≤ acts.length ∧ vs = [i64 m, av, ptr p 0, S.v, T.v, O.v, I.v, i64 lost, i64 next, i64 i] ∧ Ord H0 H' p sb w m gs S T O I s t o lost ∧ (t.length : Int) ≤ m ∧ (0 ≤ lost ∧ lost ≤ 40 * i) ∧ (0 ≤ next ∧ next ≤ i) ∧ o.length ≤ i) (n := 150) (by unfold FUEL; omega)
    ⟨0, gs, nilS, nilS, nilS, nilS, [], [], [], 0, 0, by omega, by omega, by omega, rfl, h0, by simp; omega, by omega, by omega, by simp⟩ ?_
  clear h0 gs
  rintro k vs H' ⟨i, gs, S, T, O, I, s, t, o, lost, next, hk, hi, hi2, rfl, hO, htm, hlo, hnx, hol⟩
  have ha' := ha.keep0 hO.lot.k
  have hal := ha'.len
  by_cases h : i < acts.length
  case neg =>
    (try simp (maxSteps := 1000000) (disch := first | omega | (simp only [Heap.next_push', Heap.next_set']; omega) | (simp; done) | assumption | decide | (refine not_not_intro ?_; assumption)) only [at_zero, at_succ, wp_bnd, wp_lift, wpO_some, wp_ret, nx_nxt, nx_brk, nx_ret, unblk_nxt, unblk_ret, unblk_brk, finM_nxt, finM_ret, outV_one, condM_t, condM_f, condM_dt, condM_df, gd_t, gd_f, gdf_t, gdf_f, gd_skip, gd_dt, gd_df, gdf_dt, gdf_df, pick_t, pick_f, pick_dt, pick_df, not_t, not_f, not_dec, isNil_ptr, isNil_ptr', isNil_pnil, isNil_pnil', nilck_ptr, faddr_ptr, Nat.zero_add, Nat.add_zero, wp_ld1, lenStr_str, lenSlc_slice, strV_str, i64_add, i64_sub, i64_mul, i64_in, int_eqd, int_ned, int_lss, int_leq, int_gtr, int_geq, str_eqd, str_ned, if_true, wp_bndH, wp_withH, wp_need, enc_int, enc_str, enc_byte, enc_bool, List.getElem?_cons_zero, List.getElem?_cons_succ, law20_PortsOrder_l8, hal])
    exact hQ _ _ _ _ _ _ _ _ _ _ hO (by omega)
  by_cases h150 : i < 150
  case neg =>
    (try simp (maxSteps := 1000000) (disch := first | omega | (simp only [Heap.next_push', Heap.next_set']; omega) | (simp; done) | assumption | decide | (refine not_not_intro ?_; assumption)) only [at_zero, at_succ, wp_bnd, wp_lift, wpO_some, wp_ret, nx_nxt, nx_brk, nx_ret, unblk_nxt, unblk_ret, unblk_brk, finM_nxt, finM_ret, outV_one, condM_t, condM_f, condM_dt, condM_df, gd_t, gd_f, gdf_t, gdf_f, gd_skip, gd_dt, gd_df, gdf_dt, gdf_df, pick_t, pick_f, pick_dt, pick_df, not_t, not_f, not_dec, isNil_ptr, isNil_ptr', isNil_pnil, isNil_pnil', nilck_ptr, faddr_ptr, Nat.zero_add, Nat.add_zero, wp_ld1, lenStr_str, lenSlc_slice, strV_str, i64_add, i64_sub, i64_mul, i64_in, int_eqd, int_ned, int_lss, int_leq, int_gtr, int_geq, str_eqd, str_ned, if_true, wp_bndH, wp_withH, wp_need, enc_int, enc_str, enc_byte, enc_bool, List.getElem?_cons_zero, List.getElem?_cons_succ, law20_PortsOrder_l8, hal])
    exact hQ _ _ _ _ _ _ _ _ _ _ hO (by omega)
  generalize hac : acts.getD i default = a
  have hadd : iaddrS 4 av (i64 i) = some (ptr (slB av) (slO av + i * 4)) := by
    have := ha'.addr' (n := 4) rfl (k := .i64) (i := i) (by omega) (by omega)
    rwa [Int.toNat_natCast] at this
  have hcell : cellP H' (ptr (slB av) (slO av + i * 4)) = some (i64 a.kind) := by
    have := ha'.cell' (n := 4) (off := 0) rfl h (by omega) default
    rw [Nat.add_zero, hac] at this
    exact this
  have hc := amongI_range a.kind 4 (by omega) (by omega)
  obtain ⟨age, hst⟩ := hO.st
  obtain ⟨hs16, ht16⟩ := hO.sizes
  have hlS := seg_len1 (hO.lot.seg 0 _ rfl)
  have hlT := seg_len1 (hO.lot.seg 1 _ rfl)
  simp only at hlS hlT
  (try simp (maxSteps := 1000000) (disch := first | omega | (simp only [Heap.next_push', Heap.next_set']; omega) | (simp; done) | assumption | decide | (refine not_not_intro ?_; assumption)) only [at_zero, at_succ, wp_bnd, wp_lift, wpO_some, wp_ret, nx_nxt, nx_brk, nx_ret, unblk_nxt, unblk_ret, unblk_brk, finM_nxt, finM_ret, outV_one, condM_t, condM_f, condM_dt, condM_df, gd_t, gd_f, gdf_t, gdf_f, gd_skip, gd_dt, gd_df, gdf_dt, gdf_df, pick_t, pick_f, pick_dt, pick_df, not_t, not_f, not_dec, isNil_ptr, isNil_ptr', isNil_pnil, isNil_pnil', nilck_ptr, faddr_ptr, Nat.zero_add, Nat.add_zero, wp_ld1, lenStr_str, lenSlc_slice, strV_str, i64_add, i64_sub, i64_mul, i64_in, int_eqd, int_ned, int_lss, int_leq, int_gtr, int_geq, str_eqd, str_ned, if_true, wp_bndH, wp_withH, wp_need, enc_int, enc_str, enc_byte, enc_bool, List.getElem?_cons_zero, List.getElem?_cons_succ, law20_PortsOrder_l8, hal, law20_PortsOrder_k7, hadd, hcell, among_eq])
  generalize amongI a.kind 4 = c at *
  by_cases c0 : c = 0
  · (try simp (maxSteps := 1000000) (disch := first | omega | (simp only [Heap.next_push', Heap.next_set']; omega) | (simp; done) | assumption | decide | (refine not_not_intro ?_; assumption)) only [at_zero, at_succ, wp_bnd, wp_lift, wpO_some, wp_ret, nx_nxt, nx_brk, nx_ret, unblk_nxt, unblk_ret, unblk_brk, finM_nxt, finM_ret, outV_one, condM_t, condM_f, condM_dt, condM_df, gd_t, gd_f, gdf_t, gdf_f, gd_skip, gd_dt, gd_df, gdf_dt, gdf_df, pick_t, pick_f, pick_dt, pick_df, not_t, not_f, not_dec, isNil_ptr, isNil_ptr', isNil_pnil, isNil_pnil', nilck_ptr, faddr_ptr, Nat.zero_add, Nat.add_zero, wp_ld1, lenStr_str, lenSlc_slice, strV_str, i64_add, i64_sub, i64_mul, i64_in, int_eqd, int_ned, int_lss, int_leq, int_gtr, int_geq, str_eqd, str_ned, if_true, wp_bndH, wp_withH, wp_need, enc_int, enc_str, enc_byte, enc_bool, List.getElem?_cons_zero, List.getElem?_cons_succ])
    refine ports_Send_ok hO.box 2 0 (next + 1) _ fun gs1 H1 t1 => ?_
    rw [hst, send_one m _ (next + 1) (by omega)] at t1 ⊢
    by_cases hf : m ≤ (s.length : Int)
    · rw [if_pos (show m ≤ ((PSt.mk s t age lost).s.length : Int) from hf)] at t1 ⊢
      obtain ⟨b1, st1, l1⟩ := hO.turn t1
      (try simp (maxSteps := 1000000) (disch := first | omega | (simp only [Heap.next_push', Heap.next_set']; omega) | (simp; done) | assumption | decide | (refine not_not_intro ?_; assumption)) only [at_zero, at_succ, wp_bnd, wp_lift, wpO_some, wp_ret, nx_nxt, nx_brk, nx_ret, unblk_nxt, unblk_ret, unblk_brk, finM_nxt, finM_ret, outV_one, condM_t, condM_f, condM_dt, condM_df, gd_t, gd_f, gdf_t, gdf_f, gd_skip, gd_dt, gd_df, gdf_dt, gdf_df, pick_t, pick_f, pick_dt, pick_df, not_t, not_f, not_dec, isNil_ptr, isNil_ptr', isNil_pnil, isNil_pnil', nilck_ptr, faddr_ptr, Nat.zero_add, Nat.add_zero, wp_ld1, lenStr_str, lenSlc_slice, strV_str, i64_add, i64_sub, i64_mul, i64_in, int_eqd, int_ned, int_lss, int_leq, int_gtr, int_geq, str_eqd, str_ned, if_true, wp_bndH, wp_withH, wp_need, enc_int, enc_str, enc_byte, enc_bool, List.getElem?_cons_zero, List.getElem?_cons_succ, hlS, law20_PortsOrder_k6])
      exact ⟨150 - (i + 1), by omega, i + 1, gs1, S, T, O, I, s, t, o, lost + 1, next + 1, rfl, by omega, by omega, rfl, ⟨b1, ⟨age, by rw [st1, w64_idem (lost + 1) (by omega)]⟩, l1⟩, htm, by omega, by omega, by omega⟩
    · rw [if_neg (show ¬ m ≤ ((PSt.mk s t age lost).s.length : Int) from hf)] at t1 ⊢
      obtain ⟨b1, st1, l1⟩ := hO.turn t1
      (try simp (maxSteps := 1000000) (disch := first | omega | (simp only [Heap.next_push', Heap.next_set']; omega) | (simp; done) | assumption | decide | (refine not_not_intro ?_; assumption)) only [at_zero, at_succ, wp_bnd, wp_lift, wpO_some, wp_ret, nx_nxt, nx_brk, nx_ret, unblk_nxt, unblk_ret, unblk_brk, finM_nxt, finM_ret, outV_one, condM_t, condM_f, condM_dt, condM_df, gd_t, gd_f, gdf_t, gdf_f, gd_skip, gd_dt, gd_df, gdf_dt, gdf_df, pick_t, pick_f, pick_dt, pick_df, not_t, not_f, not_dec, isNil_ptr, isNil_ptr', isNil_pnil, isNil_pnil', nilck_ptr, faddr_ptr, Nat.zero_add, Nat.add_zero, wp_ld1, lenStr_str, lenSlc_slice, strV_str, i64_add, i64_sub, i64_mul, i64_in, int_eqd, int_ned, int_lss, int_leq, int_gtr, int_geq, str_eqd, str_ned, if_true, wp_bndH, wp_withH, wp_need, enc_int, enc_str, enc_byte, enc_bool, List.getElem?_cons_zero, List.getElem?_cons_succ, hlS])
      refine app_one (l1.seg 0 _ rfl) (next + 1) (by simp only; omega) _ fun S2 H2 s2 k2 f2 => ?_
      (try simp (maxSteps := 1000000) (disch := first | omega | (simp only [Heap.next_push', Heap.next_set']; omega) | (simp; done) | assumption | decide | (refine not_not_intro ?_; assumption)) only [at_zero, at_succ, wp_bnd, wp_lift, wpO_some, wp_ret, nx_nxt, nx_brk, nx_ret, unblk_nxt, unblk_ret, unblk_brk, finM_nxt, finM_ret, outV_one, condM_t, condM_f, condM_dt, condM_df, gd_t, gd_f, gdf_t, gdf_f, gd_skip, gd_dt, gd_df, gdf_dt, gdf_df, pick_t, pick_f, pick_dt, pick_df, not_t, not_f, not_dec, isNil_ptr, isNil_ptr', isNil_pnil, isNil_pnil', nilck_ptr, faddr_ptr, Nat.zero_add, Nat.add_zero, wp_ld1, lenStr_str, lenSlc_slice, strV_str, i64_add, i64_sub, i64_mul, i64_in, int_eqd, int_ned, int_lss, int_leq, int_gtr, int_geq, str_eqd, str_ned, if_true, wp_bndH, wp_withH, wp_need, enc_int, enc_str, enc_byte, enc_bool, List.getElem?_cons_zero, List.getElem?_cons_succ, law20_PortsOrder_k6])
      exact ⟨150 - (i + 1), by omega, i + 1, gs1, S2, T, O, I, s ++ [next + 1], t, o, lost, next + 1, rfl, by omega, by omega, rfl, ⟨box_aside b1 l1 (i := 0) rfl k2, ⟨age, st1⟩, l1.put (i := 0) (y := (S2, s ++ [next + 1])) rfl k2 s2 (fun b hb => .inr (f2 b hb))⟩, htm, by omega, by omega, by omega⟩
  by_cases c1 : c = 1
  · (try simp (maxSteps := 1000000) (disch := first | omega | (simp only [Heap.next_push', Heap.next_set']; omega) | (simp; done) | assumption | decide | (refine not_not_intro ?_; assumption)) only [at_zero, at_succ, wp_bnd, wp_lift, wpO_some, wp_ret, nx_nxt, nx_brk, nx_ret, unblk_nxt, unblk_ret, unblk_brk, finM_nxt, finM_ret, outV_one, condM_t, condM_f, condM_dt, condM_df, gd_t, gd_f, gdf_t, gdf_f, gd_skip, gd_dt, gd_df, gdf_dt, gdf_df, pick_t, pick_f, pick_dt, pick_df, not_t, not_f, not_dec, isNil_ptr, isNil_ptr', isNil_pnil, isNil_pnil', nilck_ptr, faddr_ptr, Nat.zero_add, Nat.add_zero, wp_ld1, lenStr_str, lenSlc_slice, strV_str, i64_add, i64_sub, i64_mul, i64_in, int_eqd, int_ned, int_lss, int_leq, int_gtr, int_geq, str_eqd, str_ned, if_true, wp_bndH, wp_withH, wp_need, enc_int, enc_str, enc_byte, enc_bool, List.getElem?_cons_zero, List.getElem?_cons_succ])
    refine ports_Recv_ok hO.box 5 0 _ fun gs1 H1 t1 => ?_
    rw [hst, recv_one] at t1 ⊢
    by_cases ht0 : t.length = 0
    · rw [if_pos (show (PSt.mk s t age lost).t.length = 0 from ht0)] at t1 ⊢
      obtain ⟨b1, st1, l1⟩ := hO.turn t1
      (try simp (maxSteps := 1000000) (disch := first | omega | (simp only [Heap.next_push', Heap.next_set']; omega) | (simp; done) | assumption | decide | (refine not_not_intro ?_; assumption)) only [at_zero, at_succ, wp_bnd, wp_lift, wpO_some, wp_ret, nx_nxt, nx_brk, nx_ret, unblk_nxt, unblk_ret, unblk_brk, finM_nxt, finM_ret, outV_one, condM_t, condM_f, condM_dt, condM_df, gd_t, gd_f, gdf_t, gdf_f, gd_skip, gd_dt, gd_df, gdf_dt, gdf_df, pick_t, pick_f, pick_dt, pick_df, not_t, not_f, not_dec, isNil_ptr, isNil_ptr', isNil_pnil, isNil_pnil', nilck_ptr, faddr_ptr, Nat.zero_add, Nat.add_zero, wp_ld1, lenStr_str, lenSlc_slice, strV_str, i64_add, i64_sub, i64_mul, i64_in, int_eqd, int_ned, int_lss, int_leq, int_gtr, int_geq, str_eqd, str_ned, if_true, wp_bndH, wp_withH, wp_need, enc_int, enc_str, enc_byte, enc_bool, List.getElem?_cons_zero, List.getElem?_cons_succ, ext_tuple, List.getElem?_cons_zero, hlT, eqK_dd, law20_PortsOrder_k0, law20_PortsOrder_k6])
      exact ⟨150 - (i + 1), by omega, i + 1, gs1, S, T, O, I, s, t, o, lost, next, rfl, by omega, by omega, rfl, ⟨b1, ⟨age, st1⟩, l1⟩, htm, by omega, by omega, by omega⟩
    · rw [if_neg (show ¬ (PSt.mk s t age lost).t.length = 0 from ht0)] at t1 ⊢
      obtain ⟨b1, st1, l1⟩ := hO.turn t1
      have g0 : (PSt.mk s t age lost).t.getD 0 0 = t.getD 0 0 := rfl
      rw [g0]
      (try simp (maxSteps := 1000000) (disch := first | omega | (simp only [Heap.next_push', Heap.next_set']; omega) | (simp; done) | assumption | decide | (refine not_not_intro ?_; assumption)) only [at_zero, at_succ, wp_bnd, wp_lift, wpO_some, wp_ret, nx_nxt, nx_brk, nx_ret, unblk_nxt, unblk_ret, unblk_brk, finM_nxt, finM_ret, outV_one, condM_t, condM_f, condM_dt, condM_df, gd_t, gd_f, gdf_t, gdf_f, gd_skip, gd_dt, gd_df, gdf_dt, gdf_df, pick_t, pick_f, pick_dt, pick_df, not_t, not_f, not_dec, isNil_ptr, isNil_ptr', isNil_pnil, isNil_pnil', nilck_ptr, faddr_ptr, Nat.zero_add, Nat.add_zero, wp_ld1, lenStr_str, lenSlc_slice, strV_str, i64_add, i64_sub, i64_mul, i64_in, int_eqd, int_ned, int_lss, int_leq, int_gtr, int_geq, str_eqd, str_ned, if_true, wp_bndH, wp_withH, wp_need, enc_int, enc_str, enc_byte, enc_bool, List.getElem?_cons_zero, List.getElem?_cons_succ, ext_tuple, List.getElem?_cons_zero, hlT, eqK_dd, true_iff, law20_PortsOrder_k0])
      refine app_one (l1.seg 2 _ rfl) (t.getD 0 0) (by simp only; omega) _ fun O2 H2 s2 k2 f2 => ?_
      have b2 := box_aside b1 l1 (i := 2) rfl k2
      have l2 := l1.put (i := 2) (y := (O2, o ++ [t.getD 0 0])) rfl k2 s2 (fun b hb => .inr (f2 b hb))
      have l2' : Lot H0 H2 (foot p sb w gs1) [(S, s), (T, t), (O2, o ++ [t.getD 0 0]), (I, o)] := l2
      have sT := l2'.seg 1 _ rfl
      simp only at sT
      have a1 := sT.addr (k := .i64) (i := 0) (by omega) (by simp; omega)
      rw [show (0 : Int).toNat = 0 from rfl, Nat.add_zero] at a1
      have cc : cellP H2 (ptr (slB T.v) (slO T.v)) = some (i64 (t.getD 0 0)) := by
        have := sT.cell (i := 0) (by simp; omega)
        rw [Nat.add_zero] at this
        rw [this, List.getElem?_map, List.getD_eq_getElem?_getD, List.getElem?_eq_getElem (by omega)]; rfl
      (try simp (maxSteps := 1000000) (disch := first | omega | (simp only [Heap.next_push', Heap.next_set']; omega) | (simp; done) | assumption | decide | (refine not_not_intro ?_; assumption)) only [at_zero, at_succ, wp_bnd, wp_lift, wpO_some, wp_ret, nx_nxt, nx_brk, nx_ret, unblk_nxt, unblk_ret, unblk_brk, finM_nxt, finM_ret, outV_one, condM_t, condM_f, condM_dt, condM_df, gd_t, gd_f, gdf_t, gdf_f, gd_skip, gd_dt, gd_df, gdf_dt, gdf_df, pick_t, pick_f, pick_dt, pick_df, not_t, not_f, not_dec, isNil_ptr, isNil_ptr', isNil_pnil, isNil_pnil', nilck_ptr, faddr_ptr, Nat.zero_add, Nat.add_zero, wp_ld1, lenStr_str, lenSlc_slice, strV_str, i64_add, i64_sub, i64_mul, i64_in, int_eqd, int_ned, int_lss, int_leq, int_gtr, int_geq, str_eqd, str_ned, if_true, wp_bndH, wp_withH, wp_need, enc_int, enc_str, enc_byte, enc_bool, List.getElem?_cons_zero, List.getElem?_cons_succ, a1, cc])
      refine app_one (l2'.seg 3 _ rfl) (t.getD 0 0) (by simp only; omega) _ fun I2 H3 s3 k3 f3 => ?_
      have b3 := box_aside b2 l2' (i := 3) rfl k3
      have l3 := l2'.put (i := 3) (y := (I2, o ++ [t.getD 0 0])) rfl k3 s3 (fun b hb => .inr (f3 b hb))
      have l3' : Lot H0 H3 (foot p sb w gs1) [(S, s), (T, t), (O2, o ++ [t.getD 0 0]), (I2, o ++ [t.getD 0 0])] := l3
      have sT3 := l3'.seg 1 _ rfl
      simp only at sT3
      obtain ⟨w4, e4, s4, v4, o4⟩ := sT3.sub (lo := some (i64 1)) (hi := none) (a := 1) (b := t.length) (by simp [bound]; omega) (fun c _ => by simp [bound]) (by omega) (by simp)
      obtain ⟨T4, rfl⟩ := Seg.sv s4
      rw [show ((t.map i64).drop 1).take (t.length - 1) = (t.drop 1).map i64 by rw [List.take_of_length_le (by simp), List.map_drop]] at s4
      (try simp (maxSteps := 1000000) (disch := first | omega | (simp only [Heap.next_push', Heap.next_set']; omega) | (simp; done) | assumption | decide | (refine not_not_intro ?_; assumption)) only [at_zero, at_succ, wp_bnd, wp_lift, wpO_some, wp_ret, nx_nxt, nx_brk, nx_ret, unblk_nxt, unblk_ret, unblk_brk, finM_nxt, finM_ret, outV_one, condM_t, condM_f, condM_dt, condM_df, gd_t, gd_f, gdf_t, gdf_f, gd_skip, gd_dt, gd_df, gdf_dt, gdf_df, pick_t, pick_f, pick_dt, pick_df, not_t, not_f, not_dec, isNil_ptr, isNil_ptr', isNil_pnil, isNil_pnil', nilck_ptr, faddr_ptr, Nat.zero_add, Nat.add_zero, wp_ld1, lenStr_str, lenSlc_slice, strV_str, i64_add, i64_sub, i64_mul, i64_in, int_eqd, int_ned, int_lss, int_leq, int_gtr, int_geq, str_eqd, str_ned, if_true, wp_bndH, wp_withH, wp_need, enc_int, enc_str, enc_byte, enc_bool, List.getElem?_cons_zero, List.getElem?_cons_succ, e4, law20_PortsOrder_k6])
      have l4 := l3'.put (i := 1) (y := (T4, t.drop 1)) rfl (Keeps.refl _ _) s4 (fun b hb => .inl (v4 b hb))
      exact ⟨150 - (i + 1), by omega, i + 1, gs1, S, T4, O2, I2, s, t.drop 1, o ++ [t.getD 0 0], lost, next, rfl, by omega, by omega, rfl, ⟨b3, ⟨age, st1⟩, l4⟩, by rw [List.length_drop]; omega, by omega, by omega, by simp; omega⟩
  by_cases c2 : c = 2
  · (try simp (maxSteps := 1000000) (disch := first | omega | (simp only [Heap.next_push', Heap.next_set']; omega) | (simp; done) | assumption | decide | (refine not_not_intro ?_; assumption)) only [at_zero, at_succ, wp_bnd, wp_lift, wpO_some, wp_ret, nx_nxt, nx_brk, nx_ret, unblk_nxt, unblk_ret, unblk_brk, finM_nxt, finM_ret, outV_one, condM_t, condM_f, gd_t, gd_f, gdf_t, gdf_f, gd_skip, gd_dt, gd_df, gdf_dt, gdf_df, pick_t, pick_f, pick_dt, pick_df, not_t, not_f, not_dec, isNil_ptr, isNil_ptr', isNil_pnil, isNil_pnil', nilck_ptr, faddr_ptr, Nat.zero_add, Nat.add_zero, wp_ld1, lenStr_str, lenSlc_slice, strV_str, i64_add, i64_sub, i64_mul, i64_in, int_eqd, int_ned, int_lss, int_leq, int_gtr, int_geq, str_eqd, str_ned, if_true, wp_bndH, wp_withH, wp_need, enc_int, enc_str, enc_byte, enc_bool, List.getElem?_cons_zero, List.getElem?_cons_succ, c2, show decide ((2:Int) = 0) = false from rfl, show decide ((2:Int) = 1) = false from rfl, show decide ((2:Int) = 2) = true from rfl])
    rw [decide_true, condM_t]
    refine wp_bnd.mpr ?_
    refine ports_Frame_ok hO.box _ fun gs1 H1 v1 t1 => ?_
    rw [hst, frame_one] at t1
    obtain ⟨b1, st1, l1⟩ := hO.turn t1
    (try simp (maxSteps := 1000000) (disch := first | omega | (simp only [Heap.next_push', Heap.next_set']; omega) | (simp; done) | assumption | decide | (refine not_not_intro ?_; assumption)) only [at_zero, at_succ, wp_bnd, wp_lift, wpO_some, wp_ret, nx_nxt, nx_brk, nx_ret, unblk_nxt, unblk_ret, unblk_brk, finM_nxt, finM_ret, outV_one, condM_t, condM_f, condM_dt, condM_df, gd_t, gd_f, gdf_t, gdf_f, gd_skip, gd_dt, gd_df, gdf_dt, gdf_df, pick_t, pick_f, pick_dt, pick_df, not_t, not_f, not_dec, isNil_ptr, isNil_ptr', isNil_pnil, isNil_pnil', nilck_ptr, faddr_ptr, Nat.zero_add, Nat.add_zero, wp_ld1, lenStr_str, lenSlc_slice, strV_str, i64_add, i64_sub, i64_mul, i64_in, int_eqd, int_ned, int_lss, int_leq, int_gtr, int_geq, str_eqd, str_ned, if_true, wp_bndH, wp_withH, wp_need, enc_int, enc_str, enc_byte, enc_bool, List.getElem?_cons_zero, List.getElem?_cons_succ, hlS])
    refine order_frame (x := ⟨s, t, age, lost⟩) ⟨rfl, rfl, rfl⟩ hm htm (w64_idem lost (by omega)) hs16 b1 l1 _ fun T2 H2 b2 l2 => ?_
    (try simp (maxSteps := 1000000) (disch := first | omega | (simp only [Heap.next_push', Heap.next_set']; omega) | (simp; done) | assumption | decide | (refine not_not_intro ?_; assumption)) only [at_zero, at_succ, wp_bnd, wp_lift, wpO_some, wp_ret, nx_nxt, nx_brk, nx_ret, unblk_nxt, unblk_ret, unblk_brk, finM_nxt, finM_ret, outV_one, condM_t, condM_f, condM_dt, condM_df, gd_t, gd_f, gdf_t, gdf_f, gd_skip, gd_dt, gd_df, gdf_dt, gdf_df, pick_t, pick_f, pick_dt, pick_df, not_t, not_f, not_dec, isNil_ptr, isNil_ptr', isNil_pnil, isNil_pnil', nilck_ptr, faddr_ptr, Nat.zero_add, Nat.add_zero, wp_ld1, lenStr_str, lenSlc_slice, strV_str, i64_add, i64_sub, i64_mul, i64_in, int_eqd, int_ned, int_lss, int_leq, int_gtr, int_geq, str_eqd, str_ned, if_true, wp_bndH, wp_withH, wp_need, enc_int, enc_str, enc_byte, enc_bool, List.getElem?_cons_zero, List.getElem?_cons_succ, law20_PortsOrder_k4, law20_PortsOrder_k6])
    have l3 := l2.put (i := 0) (y := (nilS, [])) rfl (Keeps.refl _ _) (Seg.nil _) (fun b hb => by simp [nilS, SV.v] at hb)
    have htl : (tk (qP m) ⟨s, t, age, lost⟩ s.length).length ≤ m.toNat := tk_len (qP m) ⟨s, t, age, lost⟩ s.length
    have hlk : 0 ≤ lk (qP m) ⟨s, t, age, lost⟩ s.length ∧ lk (qP m) ⟨s, t, age, lost⟩ s.length ≤ lost + 32 := by
      have e : ((PSt.mk s t age lost).t ++ (PSt.mk s t age lost).s.take s.length).length = t.length + s.length := by simp
      rw [lk, e]
      show 0 ≤ w64 (lost + if ((t.length + s.length : Nat) : Int) - m > 0 then ((t.length + s.length : Nat) : Int) - m else 0) ∧ w64 (lost + if ((t.length + s.length : Nat) : Int) - m > 0 then ((t.length + s.length : Nat) : Int) - m else 0) ≤ lost + 32
      by_cases hgt : ((t.length + s.length : Nat) : Int) - m > 0
      · rw [if_pos hgt, w64_idem _ (by omega)]; omega
      · rw [if_neg hgt, w64_idem _ (by omega)]; omega
    exact ⟨150 - (i + 1), by omega, i + 1, gs1, nilS, T2, O, I, [], tk (qP m) ⟨s, t, age, lost⟩ s.length, o, lk (qP m) ⟨s, t, age, lost⟩ s.length, next, rfl, by omega, by omega, rfl, ⟨b2, ⟨age, st1⟩, l3⟩, by omega, by omega, by omega, by omega⟩
  · (try simp (maxSteps := 1000000) (disch := first | omega | (simp only [Heap.next_push', Heap.next_set']; omega) | (simp; done) | assumption | decide | (refine not_not_intro ?_; assumption)) only [at_zero, at_succ, wp_bnd, wp_lift, wpO_some, wp_ret, nx_nxt, nx_brk, nx_ret, unblk_nxt, unblk_ret, unblk_brk, finM_nxt, finM_ret, outV_one, condM_t, condM_f, condM_dt, condM_df, gd_t, gd_f, gdf_t, gdf_f, gd_skip, gd_dt, gd_df, gdf_dt, gdf_df, pick_t, pick_f, pick_dt, pick_df, not_t, not_f, not_dec, isNil_ptr, isNil_ptr', isNil_pnil, isNil_pnil', nilck_ptr, faddr_ptr, Nat.zero_add, Nat.add_zero, wp_ld1, lenStr_str, lenSlc_slice, strV_str, i64_add, i64_sub, i64_mul, i64_in, int_eqd, int_ned, int_lss, int_leq, int_gtr, int_geq, str_eqd, str_ned, if_true, wp_bndH, wp_withH, wp_need, enc_int, enc_str, enc_byte, enc_bool, List.getElem?_cons_zero, List.getElem?_cons_succ])
    refine ports_Undo_ok hO.box 2 _ (fun hb => absurd (by omega) hb) fun _ gs1 H1 t1 => ?_
    rw [hst, undo_one] at t1
    obtain ⟨b1, st1, l1⟩ := hO.turn t1
    (try simp (maxSteps := 1000000) (disch := first | omega | (simp only [Heap.next_push', Heap.next_set']; omega) | (simp; done) | assumption | decide | (refine not_not_intro ?_; assumption)) only [at_zero, at_succ, wp_bnd, wp_lift, wpO_some, wp_ret, nx_nxt, nx_brk, nx_ret, unblk_nxt, unblk_ret, unblk_brk, finM_nxt, finM_ret, outV_one, condM_t, condM_f, condM_dt, condM_df, gd_t, gd_f, gdf_t, gdf_f, gd_skip, gd_dt, gd_df, gdf_dt, gdf_df, pick_t, pick_f, pick_dt, pick_df, not_t, not_f, not_dec, isNil_ptr, isNil_ptr', isNil_pnil, isNil_pnil', nilck_ptr, faddr_ptr, Nat.zero_add, Nat.add_zero, wp_ld1, lenStr_str, lenSlc_slice, strV_str, i64_add, i64_sub, i64_mul, i64_in, int_eqd, int_ned, int_lss, int_leq, int_gtr, int_geq, str_eqd, str_ned, if_true, wp_bndH, wp_withH, wp_need, enc_int, enc_str, enc_byte, enc_bool, List.getElem?_cons_zero, List.getElem?_cons_succ, law20_PortsOrder_k5, law20_PortsOrder_k6])
    have l3 := l1.put (i := 0) (y := (nilS, [])) rfl (Keeps.refl _ _) (Seg.nil _) (fun b hb => by simp [nilS, SV.v] at hb)
    exact ⟨150 - (i + 1), by omega, i + 1, gs1, nilS, T, O, I, [], t, o, lost, next, rfl, by omega, by omega, rfl, ⟨b1, ⟨age, st1⟩, l3⟩, htm, by omega, by omega, by omega⟩

theorem PortsOrder_ok (H : Heap) {av : V} {acts : List Act} (most : Int) (ha : Sl H av acts) (Q : V → Heap → Prop) (hQ : ∀ H', Q (.bool true) H') : wp (A_law20_PortsOrder [i64 most, av]) Q H := by
  show wp (F_law20_PortsOrder (i64 most) av) Q H
  (try simp (maxSteps := 1000000) (disch := first | omega | (simp only [Heap.next_push', Heap.next_set']; omega) | (simp; done) | assumption | decide | (refine not_not_intro ?_; assumption)) only [at_zero, at_succ, wp_bnd, wp_lift, wpO_some, wp_ret, nx_nxt, nx_brk, nx_ret, unblk_nxt, unblk_ret, unblk_brk, finM_nxt, finM_ret, outV_one, condM_t, condM_f, condM_dt, condM_df, gd_t, gd_f, gdf_t, gdf_f, gd_skip, gd_dt, gd_df, gdf_dt, gdf_df, pick_t, pick_f, pick_dt, pick_df, not_t, not_f, not_dec, isNil_ptr, isNil_ptr', isNil_pnil, isNil_pnil', nilck_ptr, faddr_ptr, Nat.zero_add, Nat.add_zero, wp_ld1, lenStr_str, lenSlc_slice, strV_str, i64_add, i64_sub, i64_mul, i64_in, int_eqd, int_ned, int_lss, int_leq, int_gtr, int_geq, str_eqd, str_ned, if_true, wp_bndH, wp_withH, wp_need, enc_int, enc_str, enc_byte, enc_bool, List.getElem?_cons_zero, List.getElem?_cons_succ, cellP_get, cellG_cells, wp_st1g, stG_c, eq_self, true_and, wp_stng, stnG_ok, wp_ldng, ldG_ok, wp_newcg, wp_boxg, Heap.get_push_eq, Heap.get_push_lt, Heap.get_set_eq, Heap.get_set_ne', Heap.next_push', Heap.next_set', Heap.set_push_lt, Heap.set_push_eq, Heap.set_set, fld1_agg, fldn_agg, ext_tuple, outV_nil, outV_two, outV_three, outV_four, chk_ld1g, chkO_int, chkO_bool, chkO_str, chkO_ptr, chkO_slc, chkO_map, List.set_cons_zero, List.set_cons_succ, List.length_cons, List.length_nil, List.drop_succ_cons, List.drop_zero, List.take_succ_cons, List.take_zero, List.nil_append, List.cons_append, splice, isOne_int, isOne_str, isOne_bool, isOne_slice, isOne_pointer, isOne_map, condM_nf, condM_nef, gd_nef, gdf_nef, pick_nef, build_eq, fillA_nil, fillA_one, fillA_agg, Option.map_some, resv_one, resv_two, freeIn_nil, fillA_slc, fillA_int, fillA_str, fillA_bool, fillA_ptr, fillA_map, F_law20_PortsOrder])
  refine works_ok _ _ fun H1 k1 => ?_
  have hr := amongI_range most 16 (by omega) (by omega)
  (try simp (maxSteps := 1000000) (disch := first | omega | (simp only [Heap.next_push', Heap.next_set']; omega) | (simp; done) | assumption | decide | (refine not_not_intro ?_; assumption)) only [at_zero, at_succ, wp_bnd, wp_lift, wpO_some, wp_ret, nx_nxt, nx_brk, nx_ret, unblk_nxt, unblk_ret, unblk_brk, finM_nxt, finM_ret, outV_one, condM_t, condM_f, condM_dt, condM_df, gd_t, gd_f, gdf_t, gdf_f, gd_skip, gd_dt, gd_df, gdf_dt, gdf_df, pick_t, pick_f, pick_dt, pick_df, not_t, not_f, not_dec, isNil_ptr, isNil_ptr', isNil_pnil, isNil_pnil', nilck_ptr, faddr_ptr, Nat.zero_add, Nat.add_zero, wp_ld1, lenStr_str, lenSlc_slice, strV_str, i64_add, i64_sub, i64_mul, i64_in, int_eqd, int_ned, int_lss, int_leq, int_gtr, int_geq, str_eqd, str_ned, if_true, wp_bndH, wp_withH, wp_need, enc_int, enc_str, enc_byte, enc_bool, List.getElem?_cons_zero, List.getElem?_cons_succ, cellP_get, cellG_cells, wp_st1g, stG_c, eq_self, true_and, wp_stng, stnG_ok, wp_ldng, ldG_ok, wp_newcg, wp_boxg, Heap.get_push_eq, Heap.get_push_lt, Heap.get_set_eq, Heap.get_set_ne', Heap.next_push', Heap.next_set', Heap.set_push_lt, Heap.set_push_eq, Heap.set_set, fld1_agg, fldn_agg, ext_tuple, outV_nil, outV_two, outV_three, outV_four, chk_ld1g, chkO_int, chkO_bool, chkO_str, chkO_ptr, chkO_slc, chkO_map, List.set_cons_zero, List.set_cons_succ, List.length_cons, List.length_nil, List.drop_succ_cons, List.drop_zero, List.take_succ_cons, List.take_zero, List.nil_append, List.cons_append, splice, isOne_int, isOne_str, isOne_bool, isOne_slice, isOne_pointer, isOne_map, condM_nf, condM_nef, gd_nef, gdf_nef, pick_nef, build_eq, fillA_nil, fillA_one, fillA_agg, Option.map_some, resv_one, resv_two, freeIn_nil, fillA_slc, fillA_int, fillA_str, fillA_bool, fillA_ptr, fillA_map, law20_PortsOrder_k11, among_eq])
  generalize hmm : 1 + amongI most 16 = m
  have hm : 1 ≤ m ∧ m ≤ 16 := by omega
  refine (wp_bslc (cs := encs [qP m]) (by decide) (by rfl)).mpr ?_
  have k2 := Keeps.push [] H1 (some (.cells true (encs [qP m])))
  have hs : Sl (H1.push (some (.cells true (encs [qP m])))) (slc H1.next 0 5 1 1) [qP m] := .inr ⟨_, _, _, _, _, _, rfl, Nat.le_refl _, Heap.get_push_self _ _, .inr ⟨by show 0 + 1 * 5 ≤ 5; omega, rfl⟩, .inr rfl⟩
  have hn2 : (H1.push (some (.cells true (encs [qP m])))).next = H1.next + 1 := by simp
  (try simp (maxSteps := 1000000) (disch := first | omega | (simp only [Heap.next_push', Heap.next_set']; omega) | (simp; done) | assumption | decide | (refine not_not_intro ?_; assumption)) only [at_zero, at_succ, wp_bnd, wp_lift, wpO_some, wp_ret, nx_nxt, nx_brk, nx_ret, unblk_nxt, unblk_ret, unblk_brk, finM_nxt, finM_ret, outV_one, condM_t, condM_f, condM_dt, condM_df, gd_t, gd_f, gdf_t, gdf_f, gd_skip, gd_dt, gd_df, gdf_dt, gdf_df, pick_t, pick_f, pick_dt, pick_df, not_t, not_f, not_dec, isNil_ptr, isNil_ptr', isNil_pnil, isNil_pnil', nilck_ptr, faddr_ptr, Nat.zero_add, Nat.add_zero, wp_ld1, lenStr_str, lenSlc_slice, strV_str, i64_add, i64_sub, i64_mul, i64_in, int_eqd, int_ned, int_lss, int_leq, int_gtr, int_geq, str_eqd, str_ned, if_true, wp_bndH, wp_withH, wp_need, enc_int, enc_str, enc_byte, enc_bool, List.getElem?_cons_zero, List.getElem?_cons_succ, cellP_get, cellG_cells, wp_st1g, stG_c, eq_self, true_and, wp_stng, stnG_ok, wp_ldng, ldG_ok, wp_newcg, wp_boxg, Heap.get_push_eq, Heap.get_push_lt, Heap.get_set_eq, Heap.get_set_ne', Heap.next_push', Heap.next_set', Heap.set_push_lt, Heap.set_push_eq, Heap.set_set, fld1_agg, fldn_agg, ext_tuple, outV_nil, outV_two, outV_three, outV_four, chk_ld1g, chkO_int, chkO_bool, chkO_str, chkO_ptr, chkO_slc, chkO_map, List.set_cons_zero, List.set_cons_succ, List.length_cons, List.length_nil, List.drop_succ_cons, List.drop_zero, List.take_succ_cons, List.take_zero, List.nil_append, List.cons_append, splice, isOne_int, isOne_str, isOne_bool, isOne_slice, isOne_pointer, isOne_map, condM_nf, condM_nef, gd_nef, gdf_nef, pick_nef, build_eq, fillA_nil, fillA_one, fillA_agg, Option.map_some, resv_one, resv_two, freeIn_nil, fillA_slc, fillA_int, fillA_str, fillA_bool, fillA_ptr, fillA_map])
  refine ports_New_ok hs _ (fun h => absurd (chk_qP m hm) h) fun _ p w sb gs H3 hb hst k3 hf => ?_
  have hn1 := k1.next
  have k03 := (k1.trans k2 (fun _ _ h => h)).trans k3 (fun _ _ h => h)
  (try simp (maxSteps := 1000000) (disch := first | omega | (simp only [Heap.next_push', Heap.next_set']; omega) | (simp; done) | assumption | decide | (refine not_not_intro ?_; assumption)) only [at_zero, at_succ, wp_bnd, wp_lift, wpO_some, wp_ret, nx_nxt, nx_brk, nx_ret, unblk_nxt, unblk_ret, unblk_brk, finM_nxt, finM_ret, outV_one, condM_t, condM_f, condM_dt, condM_df, gd_t, gd_f, gdf_t, gdf_f, gd_skip, gd_dt, gd_df, gdf_dt, gdf_df, pick_t, pick_f, pick_dt, pick_df, not_t, not_f, not_dec, isNil_ptr, isNil_ptr', isNil_pnil, isNil_pnil', nilck_ptr, faddr_ptr, Nat.zero_add, Nat.add_zero, wp_ld1, lenStr_str, lenSlc_slice, strV_str, i64_add, i64_sub, i64_mul, i64_in, int_eqd, int_ned, int_lss, int_leq, int_gtr, int_geq, str_eqd, str_ned, if_true, wp_bndH, wp_withH, wp_need, enc_int, enc_str, enc_byte, enc_bool, List.getElem?_cons_zero, List.getElem?_cons_succ, cellP_get, cellG_cells, wp_st1g, stG_c, eq_self, true_and, wp_stng, stnG_ok, wp_ldng, ldG_ok, wp_newcg, wp_boxg, Heap.get_push_eq, Heap.get_push_lt, Heap.get_set_eq, Heap.get_set_ne', Heap.next_push', Heap.next_set', Heap.set_push_lt, Heap.set_push_eq, Heap.set_set, fld1_agg, fldn_agg, ext_tuple, outV_nil, outV_two, outV_three, outV_four, chk_ld1g, chkO_int, chkO_bool, chkO_str, chkO_ptr, chkO_slc, chkO_map, List.set_cons_zero, List.set_cons_succ, List.length_cons, List.length_nil, List.drop_succ_cons, List.drop_zero, List.take_succ_cons, List.take_zero, List.nil_append, List.cons_append, splice, isOne_int, isOne_str, isOne_bool, isOne_slice, isOne_pointer, isOne_map, condM_nf, condM_nef, gd_nef, gdf_nef, pick_nef, build_eq, fillA_nil, fillA_one, fillA_agg, Option.map_some, resv_one, resv_two, freeIn_nil, fillA_slc, fillA_int, fillA_str, fillA_bool, fillA_ptr, fillA_map, law20_PortsOrder_k10])
  have L0 : Lot H H3 (foot p sb w gs) [(nilS, []), (nilS, []), (nilS, []), (nilS, [])] := by
    have hx : ∀ (i : Nat) (x : SV × List Int), [(nilS, ([] : List Int)), (nilS, []), (nilS, []), (nilS, [])][i]? = some x → x = (nilS, []) := by
      intro i x hx
      have := List.mem_of_getElem? hx
      simp at this
      exact this
    refine ⟨fun i x h => by obtain rfl := hx i x h; exact Seg.nil _, ⟨fun _ => 0, fun _ _ => rfl, fun i x h b hb => by obtain rfl := hx i x h; simp [nilS, SV.v] at hb⟩, fun b hm => ⟨by have := hf b hm; omega, hb.lt b hm⟩, fun i x h b hb => by obtain rfl := hx i x h; simp [nilS, SV.v] at hb, k03⟩
  refine order_loop hm ha ⟨hb, ⟨0, by rw [hst]; rfl⟩, L0⟩ _ fun gs2 S T O I s t o lost H4 hO ho => ?_
  (try simp (maxSteps := 1000000) (disch := first | omega | (simp only [Heap.next_push', Heap.next_set']; omega) | (simp; done) | assumption | decide | (refine not_not_intro ?_; assumption)) only [at_zero, at_succ, wp_bnd, wp_lift, wpO_some, wp_ret, nx_nxt, nx_brk, nx_ret, unblk_nxt, unblk_ret, unblk_brk, finM_nxt, finM_ret, outV_one, condM_t, condM_f, condM_dt, condM_df, gd_t, gd_f, gdf_t, gdf_f, gd_skip, gd_dt, gd_df, gdf_dt, gdf_df, pick_t, pick_f, pick_dt, pick_df, not_t, not_f, not_dec, isNil_ptr, isNil_ptr', isNil_pnil, isNil_pnil', nilck_ptr, faddr_ptr, Nat.zero_add, Nat.add_zero, wp_ld1, lenStr_str, lenSlc_slice, strV_str, i64_add, i64_sub, i64_mul, i64_in, int_eqd, int_ned, int_lss, int_leq, int_gtr, int_geq, str_eqd, str_ned, if_true, wp_bndH, wp_withH, wp_need, enc_int, enc_str, enc_byte, enc_bool, List.getElem?_cons_zero, List.getElem?_cons_succ, cellP_get, cellG_cells, wp_st1g, stG_c, eq_self, true_and, wp_stng, stnG_ok, wp_ldng, ldG_ok, wp_newcg, wp_boxg, Heap.get_push_eq, Heap.get_push_lt, Heap.get_set_eq, Heap.get_set_ne', Heap.next_push', Heap.next_set', Heap.set_push_lt, Heap.set_push_eq, Heap.set_set, fld1_agg, fldn_agg, ext_tuple, outV_nil, outV_two, outV_three, outV_four, chk_ld1g, chkO_int, chkO_bool, chkO_str, chkO_ptr, chkO_slc, chkO_map, List.set_cons_zero, List.set_cons_succ, List.length_cons, List.length_nil, List.drop_succ_cons, List.drop_zero, List.take_succ_cons, List.take_zero, List.nil_append, List.cons_append, splice, isOne_int, isOne_str, isOne_bool, isOne_slice, isOne_pointer, isOne_map, condM_nf, condM_nef, gd_nef, gdf_nef, pick_nef, build_eq, fillA_nil, fillA_one, fillA_agg, Option.map_some, resv_one, resv_two, freeIn_nil, fillA_slc, fillA_int, fillA_str, fillA_bool, fillA_ptr, fillA_map, law20_PortsOrder_k9])
  obtain ⟨age, hst4⟩ := hO.st
  refine ports_Waits_ok hO.box 0 _ fun H5 k5 => ?_
  rw [hst4, show waitsS [PSt.mk s t age lost] 0 = ((s.length : Int), (t.length : Int), lost, 0) from rfl]
  have l5 := hO.lot.keep k5
  have q1 := seg_len1 (l5.seg 0 _ rfl)
  have q2 := seg_len1 (l5.seg 1 _ rfl)
  simp only at q1 q2
  (try simp (maxSteps := 1000000) (disch := first | omega | (simp only [Heap.next_push', Heap.next_set']; omega) | (simp; done) | assumption | decide | (refine not_not_intro ?_; assumption)) only [at_zero, at_succ, wp_bnd, wp_lift, wpO_some, wp_ret, nx_nxt, nx_brk, nx_ret, unblk_nxt, unblk_ret, unblk_brk, finM_nxt, finM_ret, outV_one, condM_t, condM_f, condM_dt, condM_df, gd_t, gd_f, gdf_t, gdf_f, gd_skip, gd_dt, gd_df, gdf_dt, gdf_df, pick_t, pick_f, pick_dt, pick_df, not_t, not_f, not_dec, isNil_ptr, isNil_ptr', isNil_pnil, isNil_pnil', nilck_ptr, faddr_ptr, Nat.zero_add, Nat.add_zero, wp_ld1, lenStr_str, lenSlc_slice, strV_str, i64_add, i64_sub, i64_mul, i64_in, int_eqd, int_ned, int_lss, int_leq, int_gtr, int_geq, str_eqd, str_ned, if_true, wp_bndH, wp_withH, wp_need, enc_int, enc_str, enc_byte, enc_bool, List.getElem?_cons_zero, List.getElem?_cons_succ, cellP_get, cellG_cells, wp_st1g, stG_c, eq_self, true_and, wp_stng, stnG_ok, wp_ldng, ldG_ok, wp_newcg, wp_boxg, Heap.get_push_eq, Heap.get_push_lt, Heap.get_set_eq, Heap.get_set_ne', Heap.next_push', Heap.next_set', Heap.set_push_lt, Heap.set_push_eq, Heap.set_set, fld1_agg, fldn_agg, ext_tuple, outV_nil, outV_two, outV_three, outV_four, chk_ld1g, chkO_int, chkO_bool, chkO_str, chkO_ptr, chkO_slc, chkO_map, List.set_cons_zero, List.set_cons_succ, List.length_cons, List.length_nil, List.drop_succ_cons, List.drop_zero, List.take_succ_cons, List.take_zero, List.nil_append, List.cons_append, splice, isOne_int, isOne_str, isOne_bool, isOne_slice, isOne_pointer, isOne_map, condM_nf, condM_nef, gd_nef, gdf_nef, pick_nef, build_eq, fillA_nil, fillA_one, fillA_agg, Option.map_some, resv_one, resv_two, freeIn_nil, fillA_slc, fillA_int, fillA_str, fillA_bool, fillA_ptr, fillA_map])
  refine same_ok (l := o) (l5.seg 2 (O, o) rfl) (l5.seg 3 (I, o) rfl) (by omega) _ ?_
  (try simp (maxSteps := 1000000) (disch := first | omega | (simp only [Heap.next_push', Heap.next_set']; omega) | (simp; done) | assumption | decide | (refine not_not_intro ?_; assumption)) only [at_zero, at_succ, wp_bnd, wp_lift, wpO_some, wp_ret, nx_nxt, nx_brk, nx_ret, unblk_nxt, unblk_ret, unblk_brk, finM_nxt, finM_ret, outV_one, condM_t, condM_f, condM_dt, condM_df, gd_t, gd_f, gdf_t, gdf_f, gd_skip, gd_dt, gd_df, gdf_dt, gdf_df, pick_t, pick_f, pick_dt, pick_df, not_t, not_f, not_dec, isNil_ptr, isNil_ptr', isNil_pnil, isNil_pnil', nilck_ptr, faddr_ptr, Nat.zero_add, Nat.add_zero, wp_ld1, lenStr_str, lenSlc_slice, strV_str, i64_add, i64_sub, i64_mul, i64_in, int_eqd, int_ned, int_lss, int_leq, int_gtr, int_geq, str_eqd, str_ned, if_true, wp_bndH, wp_withH, wp_need, enc_int, enc_str, enc_byte, enc_bool, List.getElem?_cons_zero, List.getElem?_cons_succ, cellP_get, cellG_cells, wp_st1g, stG_c, eq_self, true_and, wp_stng, stnG_ok, wp_ldng, ldG_ok, wp_newcg, wp_boxg, Heap.get_push_eq, Heap.get_push_lt, Heap.get_set_eq, Heap.get_set_ne', Heap.next_push', Heap.next_set', Heap.set_push_lt, Heap.set_push_eq, Heap.set_set, fld1_agg, fldn_agg, ext_tuple, outV_nil, outV_two, outV_three, outV_four, chk_ld1g, chkO_int, chkO_bool, chkO_str, chkO_ptr, chkO_slc, chkO_map, List.set_cons_zero, List.set_cons_succ, List.length_cons, List.length_nil, List.drop_succ_cons, List.drop_zero, List.take_succ_cons, List.take_zero, List.nil_append, List.cons_append, splice, isOne_int, isOne_str, isOne_bool, isOne_slice, isOne_pointer, isOne_map, condM_nf, condM_nef, gd_nef, gdf_nef, pick_nef, build_eq, fillA_nil, fillA_one, fillA_agg, Option.map_some, resv_one, resv_two, freeIn_nil, fillA_slc, fillA_int, fillA_str, fillA_bool, fillA_ptr, fillA_map, q1, q2])
  exact hQ _
end Go.AM.Cap
