import Derived.Test.YtehhkminlafeiaaGreatDoorSeK
import Derived.Test.YtehhkminlafeiaaGreatDoorAmSep
set_option linter.all false
/- sess: the laws SessOnce, SessEnds -/
set_option maxHeartbeats 16000000
namespace Go.AM.Cap
open Go.AM Go.Proofs

theorem DeskAt.less {H0 H : Heap} {d : Nat} {D : Dk} {L : List Thing} {t : Thing} (h : DeskAt H0 H d D (t :: L)) : DeskAt H0 H d D L := by
  obtain ⟨uv, icv, cv, isv, sv', st⟩ := h
  exact ⟨uv, icv, cv, isv, sv', desk_x st⟩
theorem DeskAt.added {H0 H : Heap} {d : Nat} {D : Dk} {L : List Thing} {t : Thing} (h : DeskAt H0 H d D (t :: L)) : t.P H := by
  obtain ⟨uv, icv, cv, isv, sv', st⟩ := h
  exact st.at (i := 6) rfl
/-- the laws' desk with the next number n, the frame F, used in the frame f -/
def livD (idle F n f : Int) : Dk := ⟨[annU, bobU], idle, F, 1, [], 1, [(1, ⟨annU, keyK, n, f⟩)]⟩
theorem livD_ok {idle F n f : Int} (h1 : 1 ≤ idle ∧ idle ≤ 100000) (h2 : 0 ≤ f ∧ f ≤ F) (h3 : F ≤ 10000) (h4 : 1 ≤ n ∧ n ≤ 10000) : (livD idle F n f).Ok 10000 := by
  have h0 := h2.1
  refine ⟨by simp [livD], fun u hu => ?_, h1, ⟨by dsimp only [livD]; omega, h3⟩, ⟨by dsimp only [livD]; omega, by dsimp only [livD]; omega⟩, ⟨by dsimp only [livD]; omega, by dsimp only [livD]; omega⟩, by simp [livD], by simp [livD], fun c hc => absurd hc List.not_mem_nil, fun s hs => ?_⟩
  · simp only [livD, List.mem_cons, List.not_mem_nil, or_false] at hu
    rcases hu with rfl | rfl
    · exact ⟨by decide, by rfl⟩
    · exact ⟨by decide, by rfl⟩
  · simp only [livD, List.mem_singleton] at hs
    subst hs
    exact ⟨by simp [livD], prove_size _ _ _, by dsimp only; omega, by dsimp only [livD]; omega, by dsimp only; omega, by dsimp only; omega, by dsimp only; omega, by dsimp only [livD]; omega⟩
theorem open_liv {idle F n f : Int} {m : Int} {says : List It} (h : (messageS keyK 1 m says).2 = 0) (hm : 1 ≤ m ∧ m ≤ 1073741824) (hs : ∀ x ∈ says, okI x) (hn : n ≤ 10000) :
    openD (livD idle F n f) (messageS keyK 1 m says).1 = if m = n then ((1, annS', says, 0), livD idle F (n + 1) F) else ((0, ⟨#[]⟩, [], 250), livD idle F n f) := by
  rw [opens_message (D := livD idle F n f) (i := 0) h (by decide) hm hs rfl rfl]
  have e : ((livD idle F n f).sl.getD 0 default).2 = ⟨annU, keyK, n, f⟩ := rfl
  rw [e]
  dsimp only
  by_cases q : m = n
  · rw [if_pos q, if_pos q]
    unfold usedS
    dsimp only
    rw [if_neg (by omega)]
    rfl
  · rw [if_neg q, if_neg q]
theorem oneI_num (n : Int) : (oneI (numI n)).length = 9 := by
  unfold oneI
  rw [if_neg (by simp [numI]), List.length_cons, be8_length]

/-! ### SessOnce -/
def xI : It := ⟨true, 0, ⟨#[120]⟩⟩
theorem once_ok (n v : Int) : (messageS keyK 1 n [numI v, xI]).2 = 0 := by
  have e : encI [numI 1, numI n, numI v, xI] = (sv (fullI [numI 1, numI n, numI v, xI]), 0) := by
    refine encI_of (by simp) (fun x hx => ?_) ?_
    · simp only [List.mem_cons, List.not_mem_nil, or_false] at hx
      rcases hx with rfl | rfl | rfl | rfl <;> rfl
    · rw [fullI_length]
      simp only [List.flatMap_cons, List.flatMap_nil, List.length_append, oneI_num, List.append_nil]
      decide
  unfold messageS
  rw [packS_two, e]
theorem two_says (v : Int) : fillA (rep 2 [Value.bool false, Value.int .i64 0, (Value.string ⟨#[]⟩ : V)]) [(0, 3, .agg #[.bool false, i64 v, .string ⟨#[]⟩]), (3, 3, .agg #[.bool true, .int .i64 0, .string ⟨#[120]⟩])] = some (encs [numI v, xI]) := by rfl
theorem SessOnce_step {H0 H : Heap} (hb : Base H0) (hT : Tok H0) {G : List V → M V} {d : Nat} {nx n v i : Int} {v0 v1 : V} (h : DeskAt H0 H d (livD 1000 0 nx 0) []) (hnx : 1 ≤ nx ∧ nx ≤ 1000) (hn : 1 ≤ n ∧ n ≤ 12) (hv : okI (numI v)) (Q : Out → Heap → Prop)
    (hQ : ∀ nx' H', DeskAt H0 H' d (livD 1000 0 nx' 0) [] → (nx' = nx ∨ nx' = nx + 1) → Q (.nxt [v0, v1, ptr d 0, .string keyK, i64 nx', i64 i]) H') : wp (law25_SessOnce_k2 G asF [v0, v1, ptr d 0, .string keyK, i64 nx, i64 i, i64 n, i64 v]) Q H := by
  have ok := livD_ok (idle := 1000) (F := 0) (n := nx) (f := 0) (by decide) (by decide) (by decide) (by omega)
  (try simp (maxSteps := 1000000) (disch := first | omega | (simp only [Heap.next_push', Heap.next_set']; omega) | (simp; done) | assumption | decide | (refine not_not_intro ?_; assumption)) only [Z1, Z2, splice, law25_SessOnce_k2])
  refine (wp_bslc (cs := encs [numI v, xI]) (by rfl) (two_says v)).mpr ?_
  have h1 := h.keep0 (Keeps.push [] H (some (.cells true (encs [numI v, xI]))))
  have o1 := ownF_push (H := H) (xs := [numI v, xI]) (n := 3) (m := 2) rfl rfl
  generalize H.push (some (.cells true (encs [numI v, xI]))) = H1 at *
  (try simp (maxSteps := 1000000) (disch := first | omega | (simp only [Heap.next_push', Heap.next_set']; omega) | (simp; done) | assumption | decide | (refine not_not_intro ?_; assumption)) only [Z1, Z2, splice])
  have hk32 : keyK.size = 32 := prove_size _ _ _
  refine message_ok (hb.keep h1.keeps) keyK (by omega) o1.sl (by simp) 1 n _ fun H2 k2 => ?_
  have h2 := h1.keep0 k2
  have hme := once_ok n v
  have hop := open_liv (idle := 1000) (F := 0) (n := nx) (f := 0) hme (by omega) (fun x hx => by
    simp only [List.mem_cons, List.not_mem_nil, or_false] at hx
    rcases hx with rfl | rfl
    · exact hv
    · exact ⟨by decide, by decide⟩) (by omega)
  have hsz := message_size (k := keyK) (id := 1) (n := n) (says := [numI v, xI])
  generalize messageS keyK 1 n [numI v, xI] = m at *
  rw [hme]
  (try simp (maxSteps := 1000000) (disch := first | omega | (simp only [Heap.next_push', Heap.next_set']; omega) | (simp; done) | assumption | decide | (refine not_not_intro ?_; assumption)) only [Z1, Z2, splice, law25_SessOnce_k1])
  refine open_ok hb hT h2 ok (by omega) m.1 (by omega) _ fun w H3 h3 => ?_
  rw [hop] at h3 ⊢
  have e1 : notIf true (eqK .b (.bool (decide ((0 : Int) = 0))) (.bool (decide (n = n)))) = some (.bool (!(decide ((0 : Int) = 0) == decide (n = n)))) := rfl
  by_cases hq : n = nx
  · rw [if_pos hq] at h3 ⊢
    subst hq
    have o3 := h3.added
    have o3' : Sl H3 w [numI v, xI] := o3
    have ek : ∀ a b : Bool, notIf true (eqK .b (.bool a) (.bool b)) = some (.bool (!(a == b))) := fun _ _ => rfl
    have l1 : (⟨#[97, 110, 110]⟩ : ByteArray) = annS' := rfl
    dsimp only at h3 ⊢
    (try simp (maxSteps := 1000000) (disch := first | omega | (simp only [Heap.next_push', Heap.next_set']; omega) | (simp; done) | assumption | decide | (refine not_not_intro ?_; assumption)) only [Z1, Z2, splice, ek, decide_true, beq_self_eq_true, Bool.not_true, law25_SessOnce_k0, l1])
    refine (wp_bslc (cs := encs [numI v, xI]) (by rfl) (two_says v)).mpr ?_
    have h4 := h3.keep0 (Keeps.push [] H3 (some (.cells true (encs [numI v, xI]))))
    have o4 := ownF_push (H := H3) (xs := [numI v, xI]) (n := 3) (m := 2) rfl rfl
    have o3'' := o3'.keep0 (Keeps.push [] H3 (some (.cells true (encs [numI v, xI]))))
    generalize H3.push (some (.cells true (encs [numI v, xI]))) = H4 at *
    (try simp (maxSteps := 1000000) (disch := first | omega | (simp only [Heap.next_push', Heap.next_set']; omega) | (simp; done) | assumption | decide | (refine not_not_intro ?_; assumption)) only [Z1, Z2, splice])
    refine same_ok o3'' o4.sl (by simp) _ ?_
    rw [decide_eq_true rfl]
    (try simp (maxSteps := 1000000) (disch := first | omega | (simp only [Heap.next_push', Heap.next_set']; omega) | (simp; done) | assumption | decide | (refine not_not_intro ?_; assumption)) only [Z1, Z2, splice])
    exact hQ _ _ h4.less (.inr rfl)
  · rw [if_neg hq] at h3 ⊢
    have ek : ∀ a b : Bool, notIf true (eqK .b (.bool a) (.bool b)) = some (.bool (!(a == b))) := fun _ _ => rfl
    dsimp only at h3 ⊢
    have d1 : decide ((250 : Int) = 0) = false := rfl
    (try simp (maxSteps := 1000000) (disch := first | omega | (simp only [Heap.next_push', Heap.next_set']; omega) | (simp; done) | assumption | decide | (refine not_not_intro ?_; assumption)) only [Z1, Z2, splice, ek, decide_eq_false hq, d1, beq_self_eq_true, Bool.not_true, law25_SessOnce_k0])
    exact hQ _ _ h3.less (.inl rfl)

theorem SessOnce_ok {H : Heap} {G : List V → M V} (hb : Base H) (hT : Tok H) {v0 v1 : V} {l0 l1 : List Int} (h0 : Sl H v0 l0) (h1 : Sl H v1 l1) (hok : ∀ x ∈ l1, okI (numI x)) (Q : V → Heap → Prop) (hQ : ∀ H', Keeps [] H H' → Q (.bool true) H') :
    wp (A_law25_SessOnce G asF [v0, v1]) Q H := by
  show wp (F_law25_SessOnce G asF v0 v1) Q H
  have hl0 := h0.len
  have hl1 := h1.len
  unfold F_law25_SessOnce
  rw [wp_bnd, wp_bnd]
  refine desk_ok (Hp.start H) hb 1000 (by decide) _ fun d H1 hd1 ok1 => ?_
  obtain ⟨uv, icv, cv, isv, sv', st1⟩ := hd1
  (try simp (maxSteps := 1000000) (disch := first | omega | (simp only [Heap.next_push', Heap.next_set']; omega) | (simp; done) | assumption | decide | (refine not_not_intro ?_; assumption)) only [Z1, Z2, splice])
  refine sworks_ok st1 hb hT _ fun H2 st2 => ?_
  have hd2 : DeskAt H H2 d (livD 1000 0 1 0) [] := ⟨_, _, _, _, _, st2⟩
  (try simp (maxSteps := 1000000) (disch := first | omega | (simp only [Heap.next_push', Heap.next_set']; omega) | (simp; done) | assumption | decide | (refine not_not_intro ?_; assumption)) only [Z1, Z2, splice, law25_SessOnce_k7])
  refine wp_loop (Inv := fun k vs H' => ∃ (j : Nat) (nx : Int), k = 40 - j ∧ j ≤ 40 ∧ j ≤ l0.length ∧ vs = [v0, v1, ptr d 0, .string keyK, i64 nx, i64 j] ∧ DeskAt H H' d (livD 1000 0 nx 0) [] ∧ 1 ≤ nx ∧ nx ≤ 1 + j) (n := 40) (by unfold FUEL; omega)
    ⟨0, 1, by omega, by omega, by omega, rfl, hd2, by omega, by omega⟩ ?_
  rintro k vs H3 ⟨j, nx, hk, hj, hjl, rfl, hd3, hx1, hx2⟩
  by_cases hlt : j < l0.length
  case neg =>
    (try simp (maxSteps := 1000000) (disch := first | omega | (simp only [Heap.next_push', Heap.next_set']; omega) | (simp; done) | assumption | decide | (refine not_not_intro ?_; assumption)) only [Z1, Z2, splice, law25_SessOnce_l5, hl0, law25_SessOnce_k6])
    exact hQ _ hd3.keeps
  by_cases hlt2 : j < 40
  case neg =>
    (try simp (maxSteps := 1000000) (disch := first | omega | (simp only [Heap.next_push', Heap.next_set']; omega) | (simp; done) | assumption | decide | (refine not_not_intro ?_; assumption)) only [Z1, Z2, splice, law25_SessOnce_l5, hl0, law25_SessOnce_k6])
    exact hQ _ hd3.keeps
  have s0 := h0.keep0 hd3.keeps
  have s1 := h1.keep0 hd3.keeps
  have a0 := s0.addr1 rfl (k := .i64) (i := (j : Int)) (by omega) (by omega)
  have c0 := s0.cell1 rfl hlt 0
  rw [Int.toNat_natCast] at a0
  rw [cellP_get] at c0
  have c0' : cellG (H3.get (slB v0)) (slO v0 + j) = some (i64 (l0.getD j 0)) := c0
  have hm := samong_eq (l0.getD j 0) 12 (by decide)
  obtain ⟨r1, r2⟩ := amongJ_range (l0.getD j 0) 12 (by decide) (by decide)
  generalize amongJ (l0.getD j 0) 12 = z at *
  have hz : (1 : Int) ≤ 1 + z ∧ 1 + z ≤ 12 := by omega
  by_cases hlt1 : j < l1.length
  · have a1 := s1.addr1 rfl (k := .i64) (i := (j : Int)) (by omega) (by omega)
    have c1 := s1.cell1 rfl hlt1 0
    rw [Int.toNat_natCast] at a1
    rw [cellP_get] at c1
    have c1' : cellG (H3.get (slB v1)) (slO v1 + j) = some (i64 (l1.getD j 0)) := c1
    have hokv := hok _ (getD_mem' (d := 0) hlt1)
    (try simp (maxSteps := 1000000) (disch := first | omega | (simp only [Heap.next_push', Heap.next_set']; omega) | (simp; done) | assumption | decide | (refine not_not_intro ?_; assumption)) only [Z1, Z2, splice, law25_SessOnce_l5, hl0, law25_SessOnce_k4, a0, c0', hm, hl1, a1, c1'])
    refine SessOnce_step hb hT hd3 ⟨hx1, by omega⟩ hz hokv _ fun nx' H4 hd4 hnx => ?_
    (try simp (maxSteps := 1000000) (disch := first | omega | (simp only [Heap.next_push', Heap.next_set']; omega) | (simp; done) | assumption | decide | (refine not_not_intro ?_; assumption)) only [Z1, Z2, splice, law25_SessOnce_k3])
    exact ⟨40 - (j + 1), by omega, j + 1, nx', rfl, by omega, by omega, by push_cast; rfl, hd4, by omega, by omega⟩
  · (try simp (maxSteps := 1000000) (disch := first | omega | (simp only [Heap.next_push', Heap.next_set']; omega) | (simp; done) | assumption | decide | (refine not_not_intro ?_; assumption)) only [Z1, Z2, splice, law25_SessOnce_l5, hl0, law25_SessOnce_k4, a0, c0', hm, hl1])
    refine SessOnce_step hb hT hd3 ⟨hx1, by omega⟩ hz (v := 0) ⟨by decide, by decide⟩ _ fun nx' H4 hd4 hnx => ?_
    (try simp (maxSteps := 1000000) (disch := first | omega | (simp only [Heap.next_push', Heap.next_set']; omega) | (simp; done) | assumption | decide | (refine not_not_intro ?_; assumption)) only [Z1, Z2, splice, law25_SessOnce_k3])
    exact ⟨40 - (j + 1), by omega, j + 1, nx', rfl, by omega, by omega, by push_cast; rfl, hd4, by omega, by omega⟩
end Go.AM.Cap
