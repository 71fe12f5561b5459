import Derived.Test.YtcmimkacafphkaaGreatDoorCoH
import Derived.Test.YtcmimkacafphkaaGreatDoorAmOwnF
import Derived.Test.YtcmimkacafphkaaGreatDoorAmOpenF
set_option linter.all false
/- code: numbers put together -/
set_option maxHeartbeats 8000000
namespace Go.AM.Cap
open Go.AM Go.Proofs

theorem sub_hi1 {b s n c h : Nat} {k : IntKind} (hs : s ≠ 0) (hc : h ≤ c) (h0 : 0 < c) : subV s (slc b 0 s n c) none (some (.int k (h : Int))) = some (slc b 0 s h c) := by
  have e1 : bound n c (some (.int k (h : Int))) = some h := by simp [bound, hc]
  simp only [subV, e1]
  simp [bound, cutAt, show c ≠ 0 by omega]
theorem ownF_app0 {α : Type} [Flat α] {b n c bytes : Nat} {x : V} {cs : List V} {ys : List α} {H : Heap} {Q : V → Heap → Prop} (hs : Flat.size α = n) (hg : H.get b = some (.cells true cs)) (hx : Sl H x ys) (hne : ys ≠ []) (hb : ys.length * bytes ≤ 35184372088832) (hb2 : ys.length ≤ 35184372088832)
    (hQ : ∀ H', OwnF H' (slc H.next 0 n ys.length ys.length) ys → Keeps [b] H H' → H'.next = H.next + 1 → Q (slc H.next 0 n ys.length ys.length) H') : wp (appV n bytes (slc b 0 n 0 c) x) Q H := by
  subst hs
  obtain ⟨a, c', rfl, hc⟩ := sl_cells rfl hx hne
  have h0 : ys.length ≠ 0 := fun h => hne (List.eq_nil_of_length_eq_zero h)
  have hone := encs_one ys
  have hel := encs_length ys
  have hcs0 : cellsOfSlice H (Flat.size α) (slc b 0 (Flat.size α) 0 c) = some [] := rfl
  refine ⟨slc H.next 0 (Flat.size α) ys.length ys.length, (H.set b none).push (some (.cells true (encs ys))), ?_, hQ _ ?_ ?_ (by simp)⟩
  · simp only [appV, hc, appTo, h0, if_false, hcs0, giveUp, hg, if_true]
    rw [if_pos ⟨by rw [Nat.zero_add]; exact hb, by omega, hone, hel⟩]
    simp
  · have := ownF_push (H := H.set b none) (xs := ys) (n := Flat.size α) (m := ys.length) rfl rfl
    simpa using this
  · exact ⟨by simp, fun d hd hn => by rw [Heap.get_push_lt (by simpa using hd), Heap.get_set_ne _ _ _ (by simpa using hn)]⟩

/-- what is put together so far: nothing, in a block of its own; or all -/
def SoonI (H : Heap) (w : V) (xs : List Int) : Prop := (xs = [] ∧ ∃ b c cs, w = slc b 0 1 0 c ∧ H.get b = some (.cells true cs)) ∨ OwnF H w xs
theorem SoonI.lt {H : Heap} {w : V} {xs : List Int} (h : SoonI H w xs) : ∀ b ∈ vb w, b < H.next := by
  rcases h with ⟨_, b, c, cs, rfl, hg⟩ | h
  · simpa using Heap.get_lt hg
  · exact h.lt
theorem SoonI.keep0 {H H' : Heap} {w : V} {xs : List Int} (h : SoonI H w xs) (hk : Keeps [] H H') : SoonI H' w xs := by
  rcases h with ⟨e, b, c, cs, rfl, hg⟩ | h
  · exact .inl ⟨e, b, c, cs, rfl, hk.get hg (by simp)⟩
  · exact .inr (h.keep0 hk)
theorem SoonI.app {H : Heap} {w x : V} {xs ys : List Int} {Q : V → Heap → Prop} (h : SoonI H w xs) (hx : Sl H x ys) (hb : xs.length + ys.length ≤ 1000000000) (hQ : ∀ w' H', SoonI H' w' (xs ++ ys) → Keeps (vb w) H H' → (∀ b ∈ vb w', b ∈ vb w ∨ H.next ≤ b) → Q w' H') : wp (appV 1 8 w x) Q H := by
  by_cases hne : ys = []
  · subst hne
    have hf : ∃ a c, x = .slice a 0 c := by
      rcases hx with ⟨rfl, _⟩ | ⟨bb, o, u, c, rfl, _⟩
      · exact ⟨_, _, rfl⟩
      · exact ⟨_, _, rfl⟩
    obtain ⟨a, c, rfl⟩ := hf
    have hw : ∃ p n c', w = .slice p n c' := by
      rcases h with ⟨_, b, c, cs, rfl, _⟩ | h
      · exact ⟨_, _, _, rfl⟩
      · rcases h with ⟨rfl, _⟩ | ⟨b, rfl, _⟩
        · exact ⟨_, _, _, rfl⟩
        · exact ⟨_, _, _, rfl⟩
    obtain ⟨p, n, c', rfl⟩ := hw
    refine ⟨.slice p n c', H, ?_, hQ _ H (by rw [List.append_nil]; exact h) (Keeps.refl _ _) (fun b hb => .inl hb)⟩
    rfl
  · rcases h with ⟨rfl, b, c, cs, rfl, hg⟩ | h
    · refine ownF_app0 (α := Int) rfl hg hx hne (by simp at hb; omega) (by simp at hb; omega) fun H' o k n => hQ _ H' (.inr (by rw [List.nil_append]; exact o)) (by simpa using k) fun d hd => .inr (by simp at hd; omega)
    · exact ownF_appV (α := Int) rfl h hx (by omega) (by omega) fun w' H' o k v => hQ w' H' (.inr o) k v
theorem SoonI.own {H : Heap} {w : V} {xs : List Int} (h : SoonI H w xs) (hne : xs ≠ []) : OwnF H w xs := h.resolve_left fun q => hne q.1

theorem growI_ok {H : Heap} (n : Nat) (hn : 0 < n) (hn2 : n ≤ 1000000000) (Q : V → Heap → Prop) (hQ : ∀ w H', Keeps [] H H' → SoonI H' w [] → (∀ b ∈ vb w, H.next ≤ b) → Q w H') : wp (A_slices_Grow_S_int_int [.slice none 0 0, i64 n]) Q H := by
  show wp (F_slices_Grow_S_int_int (.slice none 0 0) (i64 n)) Q H
  have hc0 : capV (.slice none 0 0) = some (i64 0) := rfl
  have hs0 : subV 1 (.slice none 0 0) none (some (i64 0)) = some (.slice none 0 0) := by rfl
  have hl0 : lenSlc (.slice none 0 0) = some (i64 0) := rfl
  have hpos : ((n : Nat) : Int) > 0 := by omega
  (try simp (maxSteps := 1000000) (disch := first | omega | (simp only [Z3]; omega) | (simp; done) | assumption | decide | (refine not_not_intro ?_; assumption)) only [Z1, Z2, splice, F_slices_Grow_S_int_int, slices_Grow_S_int_int_k1, hc0, hl0, Int.sub_self, Int.sub_zero, hs0])
  have hrep : rep n [(Value.int .i64 0 : V)] = encs (List.replicate n (default : Int)) := rep_encs (default : Int) _ rfl n
  have e : appZ 1 8 [Value.int .i64 0] (.slice none 0 0) (i64 n) = appTo 1 8 (.slice none 0 0) n (some (encs (List.replicate n (default : Int)))) := by
    funext K
    simp only [appZ]
    rw [if_pos ⟨rfl, by omega, by simp; omega, by simp; omega⟩]
    simp only [Int.toNat_natCast, hrep]
  rw [e]
  refine ownF_appTo (α := Int) (xs := []) (ys := List.replicate n (default : Int)) rfl (OwnF.nil _) (by simp) (fun _ => rfl) (by simp; omega) (by simp; omega) fun w H1 o k v => ?_
  rw [List.nil_append] at o
  rcases o with ⟨_, q⟩ | ⟨b, rfl, g⟩
  · exfalso
    have := congrArg List.length q
    simp at this; omega
  · have hl : (List.replicate n (default : Int)).length = n := by simp
    rw [hl] at v ⊢
    have hsub := sub_hi1 (b := b) (s := 1) (n := n) (c := n) (h := 0) (k := .i64) (by omega) (by omega) hn
    have h3 : Flat.size Int = 1 := rfl
    rw [h3] at v ⊢
    have hsub' : subV 1 (slc b 0 1 n n) none (some (i64 0)) = some (slc b 0 1 0 n) := hsub
    (try simp (maxSteps := 1000000) (disch := first | omega | (simp only [Z3]; omega) | (simp; done) | assumption | decide | (refine not_not_intro ?_; assumption)) only [Z1, Z2, splice, hsub', slices_Grow_S_int_int_k0])
    refine hQ _ H1 (by simpa using k) (.inl ⟨rfl, b, n, _, rfl, g⟩) fun c hc => ?_
    have hcb : c = b := by simpa using hc
    subst hcb
    rcases v c (by simp) with q | q
    · simp at q
    · exact q

theorem SoonI.sl {H : Heap} {w : V} {xs : List Int} (h : SoonI H w xs) : Sl H w xs := by
  rcases h with ⟨rfl, b, c, cs, rfl, hg⟩ | h
  · exact .inr ⟨b, 0, 1, c, rfl, by simp, Heap.get_lt hg, .inl rfl, .inr rfl⟩
  · exact h.sl
theorem growI0_ok {H : Heap} (n : Nat) (hn2 : n ≤ 1000000000) (Q : V → Heap → Prop) (hQ : ∀ w H', Keeps [] H H' → SoonI H' w [] → (∀ b ∈ vb w, H.next ≤ b) → Q w H') : wp (A_slices_Grow_S_int_int [.slice none 0 0, i64 n]) Q H := by
  by_cases hn : 0 < n
  · exact growI_ok n hn hn2 Q hQ
  have : n = 0 := by omega
  subst this
  show wp (F_slices_Grow_S_int_int (.slice none 0 0) (i64 0)) Q H
  have hc0 : capV (.slice none 0 0) = some (i64 0) := rfl
  have hl0 : lenSlc (.slice none 0 0) = some (i64 0) := rfl
  (try simp (maxSteps := 1000000) (disch := first | omega | (simp only [Z3]; omega) | (simp; done) | assumption | decide | (refine not_not_intro ?_; assumption)) only [Z1, Z2, splice, F_slices_Grow_S_int_int, slices_Grow_S_int_int_k1, hc0, hl0, slices_Grow_S_int_int_k0])
  exact hQ _ H (Keeps.refl _ _) (.inr (OwnF.nil H)) (by simp)

def catN (ps : List (In Int)) : List Int := ps.flatMap (·.xs)
theorem catN_step {ps : List (In Int)} {j : Nat} (h : j < ps.length) : catN (ps.take (j + 1)) = catN (ps.take j) ++ (ps.getD j default).xs := by
  unfold catN
  rw [List.take_succ, List.getElem?_eq_getElem h, List.flatMap_append, List.getD_eq_getElem?_getD, List.getElem?_eq_getElem h]
  simp
theorem catN_le (ps : List (In Int)) (j : Nat) : (catN (ps.take j)).length ≤ (catN ps).length := by
  have : catN ps = catN (ps.take j) ++ catN (ps.drop j) := by
    unfold catN; rw [← List.flatMap_append, List.take_append_drop]
  rw [this, List.length_append]; omega
theorem concatI_ok {H : Heap} {x : V} {ps : List (In Int)} (h : Sl2 H x ps) (hps : ps.length ≤ 1000) (hb : (catN ps).length ≤ 1000000000) (Q : V → Heap → Prop) (hQ : ∀ w H', Keeps [] H H' → Sl H' w (catN ps) → Q w H') : wp (A_slices_Concat_S_int_int [x]) Q H := by
  show wp (F_slices_Concat_S_int_int x) Q H
  have hlen := h.out.len
  (try simp (maxSteps := 1000000) (disch := first | omega | (simp only [Z3]; omega) | (simp; done) | assumption | decide | (refine not_not_intro ?_; assumption)) only [Z1, Z2, splice, F_slices_Concat_S_int_int, hlen])
  refine wp_loop (Inv := fun k vs H' => ∃ j : Nat, k = ps.length - j ∧ j ≤ ps.length ∧ vs = [x, i64 (catN (ps.take j)).length, x, i64 ps.length, i64 j] ∧ H' = H) (n := ps.length) (by unfold FUEL; omega)
    ⟨0, by omega, by omega, by simp [catN], rfl⟩ ?_
  rintro k vs H' ⟨j, hk, hj, rfl, he⟩
  rw [he]; clear he H'
  by_cases hlt : j < ps.length
  case pos =>
    obtain ⟨a1, c1⟩ := h.get hlt
    rw [cellP_get] at c1
    have hl1 := (h.at hlt).len
    have hst := catN_step hlt
    have hle := catN_le ps (j + 1)
    rw [hst, List.length_append] at hle
    have hn0 : ¬ (((catN (ps.take j)).length : Int) + ((ps.getD j default).xs.length : Int) < 0) := by omega
    (try simp (maxSteps := 1000000) (disch := first | omega | (simp only [Z3]; omega) | (simp; done) | assumption | decide | (refine not_not_intro ?_; assumption)) only [Z1, Z2, splice, slices_Concat_S_int_int_l2, slices_Concat_S_int_int_k1, a1, c1, hl1, slices_Concat_S_int_int_k0])
    refine ⟨ps.length - (j + 1), by omega, j + 1, rfl, by omega, ?_⟩
    rw [hst, List.length_append]
    first | exact ⟨by push_cast; rfl, trivial⟩ | (push_cast; rfl)
  have : j = ps.length := by omega
  subst this
  rw [List.take_length]
  (try simp (maxSteps := 1000000) (disch := first | omega | (simp only [Z3]; omega) | (simp; done) | assumption | decide | (refine not_not_intro ?_; assumption)) only [Z1, Z2, splice, slices_Concat_S_int_int_l2, slices_Concat_S_int_int_k7])
  refine growI0_ok _ hb _ fun w0 H1 k1 s1 v1 => ?_
  (try simp (maxSteps := 1000000) (disch := first | omega | (simp only [Z3]; omega) | (simp; done) | assumption | decide | (refine not_not_intro ?_; assumption)) only [Z1, Z2, splice, hlen])
  refine wp_loop (Inv := fun k vs H' => ∃ (j : Nat) (w : V), k = ps.length - j ∧ j ≤ ps.length ∧ vs = [w, x, i64 ps.length, i64 j] ∧ SoonI H' w (catN (ps.take j)) ∧ Keeps [] H H' ∧ (∀ b ∈ vb w, H.next ≤ b)) (n := ps.length) (by unfold FUEL; omega)
    ⟨0, w0, by omega, by omega, rfl, s1, k1, v1⟩ ?_
  rintro k vs H2 ⟨j, w, hk, hj, rfl, s2, k2, v2⟩
  by_cases hlt : j < ps.length
  case neg =>
    have : j = ps.length := by omega
    subst this
    rw [List.take_length] at s2
    (try simp (maxSteps := 1000000) (disch := first | omega | (simp only [Z3]; omega) | (simp; done) | assumption | decide | (refine not_not_intro ?_; assumption)) only [Z1, Z2, splice, slices_Concat_S_int_int_l5, slices_Concat_S_int_int_k6])
    exact hQ _ _ k2 s2.sl
  have h2 := h.keep0 k2
  obtain ⟨a1, c1⟩ := h2.get hlt
  rw [cellP_get] at c1
  have hst := catN_step hlt
  have hle := catN_le ps (j + 1)
  rw [hst, List.length_append] at hle
  (try simp (maxSteps := 1000000) (disch := first | omega | (simp only [Z3]; omega) | (simp; done) | assumption | decide | (refine not_not_intro ?_; assumption)) only [Z1, Z2, splice, slices_Concat_S_int_int_l5, slices_Concat_S_int_int_k4, a1, c1])
  refine s2.app (h2.at hlt) (by omega) fun w3 H3 s3 k3 v3 => ?_
  (try simp (maxSteps := 1000000) (disch := first | omega | (simp only [Z3]; omega) | (simp; done) | assumption | decide | (refine not_not_intro ?_; assumption)) only [Z1, Z2, splice, slices_Concat_S_int_int_k3])
  refine ⟨ps.length - (j + 1), by omega, j + 1, w3, rfl, by omega, by push_cast; rfl, by rw [hst]; exact s3, k2.trans k3 fun b hb hm => by have := v2 b hm; omega, fun b hb => ?_⟩
  rcases v3 b hb with q | q
  · exact v2 b q
  · exact Nat.le_trans k2.next q

end Go.AM.Cap
