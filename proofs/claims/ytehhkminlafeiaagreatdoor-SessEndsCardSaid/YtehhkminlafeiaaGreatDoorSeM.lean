import Derived.Test.YtehhkminlafeiaaGreatDoorSeL
import Derived.Test.YtehhkminlafeiaaGreatDoorAmSep
set_option linter.all false
/- sess: the law SessEnds -/
set_option maxHeartbeats 16000000
namespace Go.AM.Cap
open Go.AM Go.Proofs

theorem tick_liv (idle F n f : Int) : tickD (livD idle F n f) = if F + 1 - f < idle then livD idle (F + 1) n f else gonD idle (F + 1) := by
  unfold tickD
  by_cases h : F + 1 - f < idle
  · rw [if_pos h]
    simp [livD, h]
  · rw [if_neg h]
    simp [livD, gonD, h]
theorem tick_gon (idle F : Int) : tickD (gonD idle F) = gonD idle (F + 1) := rfl
/-- what the desk is after g ticks in which its session was not used -/
def waitD (over : Bool) (idle F n g : Int) : Dk := if over = true ∨ g ≥ idle then gonD idle (F + g) else livD idle (F + g) n F
theorem tick_wait (over : Bool) (idle F n g : Int) : tickD (waitD over idle F n g) = waitD over idle F n (g + 1) := by
  unfold waitD
  by_cases h : over = true ∨ g ≥ idle
  · rw [if_pos h, if_pos (h.imp id (fun q => by omega)), tick_gon, Int.add_assoc]
  · rw [if_neg h, tick_liv]
    by_cases q : F + g + 1 - F < idle
    · rw [if_pos q, if_neg (fun z => z.elim (fun z => h (.inl z)) (fun z => by omega)), Int.add_assoc]
    · rw [if_neg q, if_pos (.inr (by omega)), Int.add_assoc]
theorem waitD_ok (over : Bool) {idle F n g : Int} (h1 : 1 ≤ idle ∧ idle ≤ 100000) (h2 : 0 ≤ F) (h3 : F + g ≤ 10000) (hg : 0 ≤ g) (h4 : 1 ≤ n ∧ n ≤ 10000) : (waitD over idle F n g).Ok 10000 := by
  unfold waitD
  split
  · exact gonD_ok h1 (by omega) h3
  · exact livD_ok h1 (by omega) h3 h4
theorem ends_ok {n : Int} : (messageS keyK 1 n []).2 = 0 := by
  have e : encI [numI 1, numI n] = (sv (fullI [numI 1, numI n]), 0) := by
    refine encI_of (by simp) (fun x hx => ?_) ?_
    · simp only [List.mem_cons, List.not_mem_nil, or_false] at hx
      rcases hx with rfl | rfl <;> rfl
    · rw [fullI_length]
      simp only [List.flatMap_cons, List.flatMap_nil, List.length_append, oneI_num, List.append_nil]
      decide
  unfold messageS
  rw [packS_two, e]
theorem one_flat : fillA (rep 1 [(Value.int .i64 0 : V)]) [(0, 1, (Value.int .i64 1))] = some (encs [(1 : Int)]) := by rfl

theorem ends_gone {H0 H : Heap} (hb : Base H0) (hT : Tok H0) {G : List V → M V} {d : Nat} {e F n j : Int} {v1 : V} (h : DeskAt H0 H d (gonD e F) []) (hi : 1 ≤ e ∧ e ≤ 20) (hF : 0 ≤ F ∧ F ≤ 10000) (hn : 1 ≤ n ∧ n ≤ 1000) (Q : Out → Heap → Prop)
    (hQ : ∀ H', DeskAt H0 H' d (gonD e F) [] → Q (.brk 1 [i64 e, v1, ptr d 0, .string keyK, i64 n, .bool true, i64 j]) H') : wp (law25_SessEnds_k6 G asF [i64 e, v1, ptr d 0, .string keyK, i64 n, .bool true, i64 j, .string (messageS keyK 1 n []).1]) Q H := by
  have ok := gonD_ok (idle := e) (F := F) (by omega) hF.1 hF.2
  have hme := ends_ok (n := n)
  have hsz := message_size (k := keyK) (id := 1) (n := n) (says := [])
  have hop := open_gon (idle := e) (F := F) hme (by omega) (fun x hx => absurd hx List.not_mem_nil)
  generalize messageS keyK 1 n [] = m at *
  (try simp (maxSteps := 1000000) (disch := first | omega | (simp only [Heap.next_push', Heap.next_set']; omega) | (simp; done) | assumption | decide | (refine not_not_intro ?_; assumption)) only [Z1, Z2, splice, law25_SessEnds_k6])
  refine open_ok hb hT h ok (by omega) m.1 (by omega) _ fun w H1 h1 => ?_
  rw [hop] at h1 ⊢
  dsimp only at h1 ⊢
  (try simp (maxSteps := 1000000) (disch := first | omega | (simp only [Heap.next_push', Heap.next_set']; omega) | (simp; done) | assumption | decide | (refine not_not_intro ?_; assumption)) only [Z1, Z2, splice])
  refine sessions_ok h1.less ok _ fun w2 H2 h2 => ?_
  have o2 : OwnF H2 w2 ([] : List Int) := h2.added
  have hl : lenSlc w2 = some (i64 0) := o2.len
  (try simp (maxSteps := 1000000) (disch := first | omega | (simp only [Heap.next_push', Heap.next_set']; omega) | (simp; done) | assumption | decide | (refine not_not_intro ?_; assumption)) only [Z1, Z2, splice, hl, law25_SessEnds_k3])
  exact hQ _ h2.less
theorem ends_live {H0 H : Heap} (hb : Base H0) (hT : Tok H0) {G : List V → M V} {d : Nat} {e F f n j : Int} {v1 : V} (h : DeskAt H0 H d (livD e F n f) []) (hi : 1 ≤ e ∧ e ≤ 20) (hF : 0 ≤ f ∧ f ≤ F ∧ F ≤ 10000) (hn : 1 ≤ n ∧ n ≤ 1000) (Q : Out → Heap → Prop)
    (hQ : ∀ H', DeskAt H0 H' d (livD e F (n + 1) F) [] → Q (.nxt [i64 e, v1, ptr d 0, .string keyK, i64 (n + 1), .bool false, i64 j]) H') : wp (law25_SessEnds_k6 G asF [i64 e, v1, ptr d 0, .string keyK, i64 n, .bool false, i64 j, .string (messageS keyK 1 n []).1]) Q H := by
  have ok := livD_ok (idle := e) (F := F) (n := n) (f := f) (by omega) (by omega) (by omega) (by omega)
  have ok2 := livD_ok (idle := e) (F := F) (n := n + 1) (f := F) (by omega) (by omega) (by omega) (by omega)
  have hme := ends_ok (n := n)
  have hsz := message_size (k := keyK) (id := 1) (n := n) (says := [])
  have hop := open_liv (idle := e) (F := F) (n := n) (f := f) hme (by omega) (fun x hx => absurd hx List.not_mem_nil) (by omega)
  rw [if_pos rfl] at hop
  generalize messageS keyK 1 n [] = m at *
  (try simp (maxSteps := 1000000) (disch := first | omega | (simp only [Heap.next_push', Heap.next_set']; omega) | (simp; done) | assumption | decide | (refine not_not_intro ?_; assumption)) only [Z1, Z2, splice, law25_SessEnds_k6])
  refine open_ok hb hT h ok (by omega) m.1 (by omega) _ fun w H1 h1 => ?_
  rw [hop] at h1 ⊢
  dsimp only at h1 ⊢
  (try simp (maxSteps := 1000000) (disch := first | omega | (simp only [Heap.next_push', Heap.next_set']; omega) | (simp; done) | assumption | decide | (refine not_not_intro ?_; assumption)) only [Z1, Z2, splice, law25_SessEnds_k5])
  refine sessions_ok h1.less ok2 _ fun w2 H2 h2 => ?_
  have o2 : OwnF H2 w2 ([1] : List Int) := h2.added
  (try simp (maxSteps := 1000000) (disch := first | omega | (simp only [Heap.next_push', Heap.next_set']; omega) | (simp; done) | assumption | decide | (refine not_not_intro ?_; assumption)) only [Z1, Z2, splice])
  refine (wp_bslc (cs := encs [(1 : Int)]) (by rfl) one_flat).mpr ?_
  have h3 := h2.less.keep0 (Keeps.push [] H2 (some (.cells true (encs [(1 : Int)]))))
  have o3 := ownF_push (H := H2) (xs := [(1 : Int)]) (n := 1) (m := 1) rfl rfl
  have o2' := o2.keep0 (Keeps.push [] H2 (some (.cells true (encs [(1 : Int)]))))
  generalize H2.push (some (.cells true (encs [(1 : Int)]))) = H3 at *
  (try simp (maxSteps := 1000000) (disch := first | omega | (simp only [Heap.next_push', Heap.next_set']; omega) | (simp; done) | assumption | decide | (refine not_not_intro ?_; assumption)) only [Z1, Z2, splice])
  refine sameInts_ok o2'.sl o3.sl (by simp) _ ?_
  rw [decide_eq_true rfl]
  (try simp (maxSteps := 1000000) (disch := first | omega | (simp only [Heap.next_push', Heap.next_set']; omega) | (simp; done) | assumption | decide | (refine not_not_intro ?_; assumption)) only [Z1, Z2, splice, law25_SessEnds_k4])
  exact hQ _ h3
theorem SessEnds_ok {H : Heap} {G : List V → M V} (hb : Base H) (hT : Tok H) (idle : Int) {v1 : V} {l1 : List Int} (h1 : Sl H v1 l1) (Q : V → Heap → Prop) (hQ : ∀ H', Keeps [] H H' → Q (.bool true) H') :
    wp (A_law25_SessEnds G asF [i64 idle, v1]) Q H := by
  show wp (F_law25_SessEnds G asF (i64 idle) v1) Q H
  have hl1 := h1.len
  have hk32 : keyK.size = 32 := prove_size _ _ _
  unfold F_law25_SessEnds
  rw [wp_bnd, wp_bnd, wp_bnd]
  refine sworks_ok (Hp.start H) hb hT _ fun H1 st1 => ?_
  have hm := samong_eq idle 20 (by decide)
  obtain ⟨r1, r2⟩ := amongJ_range idle 20 (by decide) (by decide)
  generalize amongJ idle 20 = z at *
  (try simp (maxSteps := 1000000) (disch := first | omega | (simp only [Heap.next_push', Heap.next_set']; omega) | (simp; done) | assumption | decide | (refine not_not_intro ?_; assumption)) only [Z1, Z2, splice, law25_SessEnds_k15, hm])
  obtain ⟨e, he⟩ : ∃ e, 1 + z = e := ⟨_, rfl⟩
  have hi : 1 ≤ e ∧ e ≤ 20 := by omega
  rw [he]
  refine desk_ok st1 hb e (by omega) _ fun d H2 hd2 ok2 => ?_
  rw [livD_one] at hd2
  (try simp (maxSteps := 1000000) (disch := first | omega | (simp only [Heap.next_push', Heap.next_set']; omega) | (simp; done) | assumption | decide | (refine not_not_intro ?_; assumption)) only [Z1, Z2, splice, law25_SessEnds_k14])
  refine wp_loop (Inv := fun k vs H' => ∃ (j : Nat) (over : Bool) (n F : Int) , k = 20 - j ∧ j ≤ 20 ∧ j ≤ l1.length ∧ vs = [i64 e, v1, ptr d 0, .string keyK, i64 n, .bool over, i64 j] ∧ DeskAt H H' d (if over = true then gonD e F else livD e F n F) [] ∧ 1 ≤ n ∧ n ≤ 1 + j ∧ 0 ≤ F ∧ F ≤ 25 * j) (n := 20) (by unfold FUEL; omega)
    ⟨0, false, 1, 0, by omega, by omega, by omega, rfl, hd2, by omega, by omega, by omega, by omega⟩ ?_
  rintro k vs H3 ⟨j, over, n, F, hk, hj, hjl, rfl, hd3, hn1, hn2, hF1, hF2⟩
  have fin : ¬ (j < l1.length ∧ j < 20) → wp (law25_SessEnds_k13 G asF [ptr d 0, .string keyK, i64 n, .bool over]) (fun b H' => wp (finM b fun vs => ret (outV [at_ vs 0])) Q H') H3 := by
    intro _
    cases over with
    | true =>
      rw [if_pos rfl] at hd3
      have ok := gonD_ok (idle := e) (F := F) (by omega) hF1 (by omega)
      (try simp (maxSteps := 1000000) (disch := first | omega | (simp only [Heap.next_push', Heap.next_set']; omega) | (simp; done) | assumption | decide | (refine not_not_intro ?_; assumption)) only [Z1, Z2, splice, law25_SessEnds_k13])
      refine logout_ok hd3 ok 1 _ fun H4 hd4 => ?_
      rw [show logoutD (gonD e F) 1 = (251, gonD e F) from rfl] at hd4 ⊢
      dsimp only at hd4 ⊢
      (try simp (maxSteps := 1000000) (disch := first | omega | (simp only [Heap.next_push', Heap.next_set']; omega) | (simp; done) | assumption | decide | (refine not_not_intro ?_; assumption)) only [Z1, Z2, splice])
      exact hQ _ hd4.keeps
    | false =>
      rw [if_neg (by decide)] at hd3
      have ok := livD_ok (idle := e) (F := F) (n := n) (f := F) (by omega) (by omega) (by omega) (by omega)
      have hme := ends_ok (n := n)
      have hop := open_gon (idle := e) (F := F) hme (by omega) (fun x hx => absurd hx List.not_mem_nil)
      have hsz := message_size (k := keyK) (id := 1) (n := n) (says := [])
      (try simp (maxSteps := 1000000) (disch := first | omega | (simp only [Heap.next_push', Heap.next_set']; omega) | (simp; done) | assumption | decide | (refine not_not_intro ?_; assumption)) only [Z1, Z2, splice, law25_SessEnds_k13, law25_SessEnds_k12])
      refine message_ok (hb.keep hd3.keeps) keyK (by omega) (Sl.nil _) (by simp) 1 n _ fun H4 k4 => ?_
      have hd4 := hd3.keep0 k4
      generalize messageS keyK 1 n [] = m at *
      rw [hme]
      (try simp (maxSteps := 1000000) (disch := first | omega | (simp only [Heap.next_push', Heap.next_set']; omega) | (simp; done) | assumption | decide | (refine not_not_intro ?_; assumption)) only [Z1, Z2, splice])
      refine logout_ok hd4 ok 1 _ fun H5 hd5 => ?_
      rw [show logoutD (livD e F n F) 1 = (0, gonD e F) from by rfl] at hd5 ⊢
      dsimp only at hd5 ⊢
      have ok5 := gonD_ok (idle := e) (F := F) (by omega) hF1 (by omega)
      (try simp (maxSteps := 1000000) (disch := first | omega | (simp only [Heap.next_push', Heap.next_set']; omega) | (simp; done) | assumption | decide | (refine not_not_intro ?_; assumption)) only [Z1, Z2, splice, law25_SessEnds_k11])
      refine open_ok hb hT hd5 ok5 (by omega) m.1 (by omega) _ fun w H6 hd6 => ?_
      rw [hop] at hd6 ⊢
      dsimp only at hd6 ⊢
      (try simp (maxSteps := 1000000) (disch := first | omega | (simp only [Heap.next_push', Heap.next_set']; omega) | (simp; done) | assumption | decide | (refine not_not_intro ?_; assumption)) only [Z1, Z2, splice])
      refine logout_ok hd6.less ok5 1 _ fun H7 hd7 => ?_
      rw [show logoutD (gonD e F) 1 = (251, gonD e F) from rfl] at hd7 ⊢
      dsimp only at hd7 ⊢
      (try simp (maxSteps := 1000000) (disch := first | omega | (simp only [Heap.next_push', Heap.next_set']; omega) | (simp; done) | assumption | decide | (refine not_not_intro ?_; assumption)) only [Z1, Z2, splice])
      exact hQ _ hd7.keeps
  by_cases hlt : j < l1.length
  case neg =>
    have fin' := fin (fun q => hlt q.1)
    (try simp (maxSteps := 1000000) (disch := first | omega | (simp only [Heap.next_push', Heap.next_set']; omega) | (simp; done) | assumption | decide | (refine not_not_intro ?_; assumption)) only [Z1, Z2, splice, law25_SessEnds_l10, hl1])
    exact fin'
  by_cases hlt2 : j < 20
  case neg =>
    have fin' := fin (fun q => hlt2 q.2)
    (try simp (maxSteps := 1000000) (disch := first | omega | (simp only [Heap.next_push', Heap.next_set']; omega) | (simp; done) | assumption | decide | (refine not_not_intro ?_; assumption)) only [Z1, Z2, splice, law25_SessEnds_l10, hl1])
    exact fin'
  have s1 := h1.keep0 hd3.keeps
  have a0 := s1.addr1 rfl (k := .i64) (i := (j : Int)) (by omega) (by omega)
  have c0 := s1.cell1 rfl hlt 0
  rw [Int.toNat_natCast] at a0
  rw [cellP_get] at c0
  have c0' : cellG (H3.get (slB v1)) (slO v1 + j) = some (i64 (l1.getD j 0)) := c0
  have hm2 := samong_eq (l1.getD j 0) 25 (by decide)
  obtain ⟨q1, q2⟩ := amongJ_range (l1.getD j 0) 25 (by decide) (by decide)
  generalize amongJ (l1.getD j 0) 25 = g at *
  have hd3' : DeskAt H H3 d (waitD over e F n 0) [] := by
    unfold waitD
    cases over with
    | true => rw [if_pos rfl] at hd3; rw [if_pos (.inl rfl), Int.add_zero]; exact hd3
    | false => rw [if_neg (by decide)] at hd3; rw [if_neg (fun z => z.elim (fun z => by cases z) (fun z => by omega)), Int.add_zero]; exact hd3
  (try simp (maxSteps := 1000000) (disch := first | omega | (simp only [Heap.next_push', Heap.next_set']; omega) | (simp; done) | assumption | decide | (refine not_not_intro ?_; assumption)) only [Z1, Z2, splice, law25_SessEnds_l10, hl1, law25_SessEnds_k9, a0, c0', hm2])
  refine wp_loop (Inv := fun k vs H' => ∃ t : Nat, k = g.toNat - t ∧ (t : Int) ≤ g ∧ vs = [i64 e, v1, ptr d 0, .string keyK, i64 n, .bool over, i64 j, i64 g, i64 g, i64 t] ∧ DeskAt H H' d (waitD over e F n t) []) (n := g.toNat) (by unfold FUEL; omega)
    ⟨0, by omega, by omega, rfl, hd3'⟩ ?_
  rintro k' vs' H4 ⟨t, hk', ht, rfl, hd4⟩
  by_cases hlt3 : (t : Int) < g
  case pos =>
    have ok := waitD_ok over (idle := e) (F := F) (n := n) (g := t) (by omega) hF1 (by omega) (by omega) (by omega)
    (try simp (maxSteps := 1000000) (disch := first | omega | (simp only [Heap.next_push', Heap.next_set']; omega) | (simp; done) | assumption | decide | (refine not_not_intro ?_; assumption)) only [Z1, Z2, splice, law25_SessEnds_l2, law25_SessEnds_k1])
    refine tick_ok hd4 ok (by omega) _ fun H5 hd5 => ?_
    rw [tick_wait] at hd5
    (try simp (maxSteps := 1000000) (disch := first | omega | (simp only [Heap.next_push', Heap.next_set']; omega) | (simp; done) | assumption | decide | (refine not_not_intro ?_; assumption)) only [Z1, Z2, splice, law25_SessEnds_k0])
    exact ⟨g.toNat - (t + 1), by omega, t + 1, rfl, by omega, by push_cast; rfl, by push_cast; exact hd5⟩
  have htg : (t : Int) = g := by omega
  rw [htg] at hd4
  have ok4 := waitD_ok over (idle := e) (F := F) (n := n) (g := g) (by omega) hF1 (by omega) (by omega) (by omega)
  have hme := ends_ok (n := n)
  have hsz := message_size (k := keyK) (id := 1) (n := n) (says := [])
  by_cases hov : over = true ∨ g ≥ e
  · have hw : waitD over e F n g = gonD e (F + g) := by unfold waitD; rw [if_pos hov]
    rw [hw] at hd4 ok4
    cases over with
    | true =>
      (try simp (maxSteps := 1000000) (disch := first | omega | (simp only [Heap.next_push', Heap.next_set']; omega) | (simp; done) | assumption | decide | (refine not_not_intro ?_; assumption)) only [Z1, Z2, splice, law25_SessEnds_l2, law25_SessEnds_k7])
      refine message_ok (hb.keep hd4.keeps) keyK (by omega) (Sl.nil _) (by simp) 1 n _ fun H5 k5 => ?_
      rw [hme]
      (try simp (maxSteps := 1000000) (disch := first | omega | (simp only [Heap.next_push', Heap.next_set']; omega) | (simp; done) | assumption | decide | (refine not_not_intro ?_; assumption)) only [Z1, Z2, splice])
      refine ends_gone hb hT (hd4.keep0 k5) hi (by omega) (by omega) _ fun H6 hd6 => ?_
      (try simp (maxSteps := 1000000) (disch := first | omega | (simp only [Heap.next_push', Heap.next_set']; omega) | (simp; done) | assumption | decide | (refine not_not_intro ?_; assumption)) only [Z1, Z2, splice, law25_SessEnds_k8])
      exact ⟨20 - (j + 1), by omega, j + 1, true, n, F + g, rfl, by omega, by omega, by push_cast; rfl, by rw [if_pos rfl]; exact hd6, by omega, by omega, by omega, by omega⟩
    | false =>
      have hge : g ≥ e := hov.resolve_left (by decide)
      (try simp (maxSteps := 1000000) (disch := first | omega | (simp only [Heap.next_push', Heap.next_set']; omega) | (simp; done) | assumption | decide | (refine not_not_intro ?_; assumption)) only [Z1, Z2, splice, law25_SessEnds_l2, law25_SessEnds_k7])
      refine message_ok (hb.keep hd4.keeps) keyK (by omega) (Sl.nil _) (by simp) 1 n _ fun H5 k5 => ?_
      rw [hme]
      (try simp (maxSteps := 1000000) (disch := first | omega | (simp only [Heap.next_push', Heap.next_set']; omega) | (simp; done) | assumption | decide | (refine not_not_intro ?_; assumption)) only [Z1, Z2, splice])
      first | rw [decide_eq_true hge] | skip
      refine ends_gone hb hT (hd4.keep0 k5) hi (by omega) (by omega) _ fun H6 hd6 => ?_
      (try simp (maxSteps := 1000000) (disch := first | omega | (simp only [Heap.next_push', Heap.next_set']; omega) | (simp; done) | assumption | decide | (refine not_not_intro ?_; assumption)) only [Z1, Z2, splice, law25_SessEnds_k8])
      exact ⟨20 - (j + 1), by omega, j + 1, true, n, F + g, rfl, by omega, by omega, by push_cast; rfl, by rw [if_pos rfl]; exact hd6, by omega, by omega, by omega, by omega⟩
  · have hw : waitD over e F n g = livD e (F + g) n F := by unfold waitD; rw [if_neg hov]
    rw [hw] at hd4 ok4
    cases over with
    | true => exact absurd (.inl rfl) hov
    | false =>
      have hge : ¬ g ≥ e := fun q => hov (.inr q)
      (try simp (maxSteps := 1000000) (disch := first | omega | (simp only [Heap.next_push', Heap.next_set']; omega) | (simp; done) | assumption | decide | (refine not_not_intro ?_; assumption)) only [Z1, Z2, splice, law25_SessEnds_l2, law25_SessEnds_k7])
      refine message_ok (hb.keep hd4.keeps) keyK (by omega) (Sl.nil _) (by simp) 1 n _ fun H5 k5 => ?_
      rw [hme]
      (try simp (maxSteps := 1000000) (disch := first | omega | (simp only [Heap.next_push', Heap.next_set']; omega) | (simp; done) | assumption | decide | (refine not_not_intro ?_; assumption)) only [Z1, Z2, splice])
      first | rw [decide_eq_false hge] | skip
      refine ends_live hb hT (hd4.keep0 k5) hi (by omega) (by omega) _ fun H6 hd6 => ?_
      (try simp (maxSteps := 1000000) (disch := first | omega | (simp only [Heap.next_push', Heap.next_set']; omega) | (simp; done) | assumption | decide | (refine not_not_intro ?_; assumption)) only [Z1, Z2, splice, law25_SessEnds_k8])
      exact ⟨20 - (j + 1), by omega, j + 1, false, n + 1, F + g, rfl, by omega, by omega, by push_cast; rfl, by rw [if_neg (by decide)]; exact hd6, by omega, by omega, by omega, by omega⟩
end Go.AM.Cap
