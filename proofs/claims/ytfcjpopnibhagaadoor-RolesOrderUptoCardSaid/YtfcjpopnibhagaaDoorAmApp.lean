/- Slices that are copied; makes that float. -/
import Derived.Test.YtfcjpopnibhagaaDoorAmMaps
import Derived.Test.YtfcjpopnibhagaaDoorAmSeg
set_option linter.all false
namespace Go.AM

/-- append(an empty own slice, x...) -/
theorem app_empty {α : Type} [Flat α] {H : Heap} {b n bytes : Nat} {xv : V} {xs : List α} {Q : V → Heap → Prop} (hs : Flat.size α = n) (hb : H.get b = some (.cells true [])) (hx : Sl H xv xs) (hn : xs.length * n ≤ 1000000) (hl : xs.length ≤ 1000000) (hby : bytes ≤ 1000) (hQ : ∀ w H', (w = slc b 0 n 0 0 ∧ xs = [] ∧ H' = H ∨ w = slc H.next 0 n xs.length xs.length ∧ H'.get H.next = some (.cells true (encs xs)) ∧ Keeps [b] H H' ∧ xs ≠ [] ∧ H'.next = H.next + 1) → Q w H') : wp (appV n bytes (slc b 0 n 0 0) xv) Q H := by
  subst hs
  by_cases h0 : xs = []
  · subst h0
    refine ⟨slc b 0 (Flat.size α) 0 0, H, ?_, hQ _ _ (.inl ⟨rfl, rfl, rfl⟩)⟩
    rcases hx with ⟨rfl, _⟩ | ⟨bb, o, u, c, rfl, _⟩ <;> rfl
  · have hne : xs.length ≠ 0 := fun h => h0 (List.eq_nil_of_length_eq_zero h)
    have hc : cellsOfSlice H (Flat.size α) xv = some (encs xs) := by
      rcases hx with ⟨rfl, e⟩ | ⟨bb, o, u, c, rfl, hc, _, hl2, _⟩
      · exact absurd e h0
      · rcases hl2 with e | ⟨rw, cs, hg, q1, q2⟩
        · exact absurd e h0
        · simp only [cellsOfSlice, hne, if_false, cellsAt, hg]
          rw [if_pos q1, q2]
    have hf : ∃ a c, xv = .slice a xs.length c := by
      rcases hx with ⟨rfl, e⟩ | ⟨bb, o, u, c, rfl, _⟩
      · exact absurd e h0
      · exact ⟨_, _, rfl⟩
    obtain ⟨a, c, rfl⟩ := hf
    have hlt := Heap.get_lt hb
    have hone := encs_one xs
    have hel := encs_length xs
    have hcs0 : cellsOfSlice H (Flat.size α) (slc b 0 (Flat.size α) 0 0) = some [] := rfl
    have hm : xs.length * bytes ≤ 1000000 * 1000 := Nat.mul_le_mul hl hby
    refine ⟨slc H.next 0 (Flat.size α) xs.length xs.length, (H.set b none).push (some (.cells true (encs xs))), ?_, hQ _ _ (.inr ⟨rfl, ?_, ?_, h0, by simp⟩)⟩
    · simp only [appV, hc, appTo, hne, if_false, hcs0, giveUp, hb, if_true]
      rw [if_pos ⟨by rw [Nat.zero_add]; omega, by omega, hone, hel⟩]
      simp
    · have := Heap.get_push_self (H.set b none) (some (.cells true (encs xs)))
      simpa using this
    · exact ⟨by simp, fun c hc hn => by rw [Heap.get_push_lt (by simpa using hc), Heap.get_set_ne _ _ _ (by simpa using hn)]⟩


theorem wp_flt_mkmap {id : Nat} {H : Heap} {Q : V → Heap → Prop} (h : H.get id = none) (hl : id < H.next) (hQ : Q (.map (some id)) (H.set id (some (.map true [])))) : wp (flt id mkmap) Q H := by
  have e : mkmap ⟨[]⟩ = some (.map (some 0), ⟨[some (.map true [])]⟩) := rfl
  have : Nat.blt id H.next = true := by simpa [Nat.blt_eq] using hl
  exact ⟨_, _, by simp only [flt, e, h, this, cond_true, reloc], hQ⟩
theorem resv_keeps (n : Nat) (H : Heap) : Keeps [] H (resv H n) := ⟨by rw [(resv_spec n H).2]; omega, fun b _ _ => (resv_spec n H).1 b⟩
theorem resv_free {n : Nat} {H : Heap} {b : Nat} (h : H.next ≤ b) : (resv H n).get b = none := by
  rw [(resv_spec n H).1]
  cases hg : H.get b with
  | none => rfl
  | some x => have := Heap.get_lt hg; omega
theorem resv_next (n : Nat) (H : Heap) : (resv H n).next = H.next + n := (resv_spec n H).2
theorem freeIn_all {H : Heap} : ∀ {l : List Nat}, (∀ b ∈ l, H.get b = none ∧ b < H.next) → freeIn H l = true
  | [], _ => rfl
  | b :: l, h => by
    rw [freeIn_cons (h b (by simp)).1 (h b (by simp)).2]
    exact freeIn_all fun c hc => h c (by simp [hc])
end Go.AM
