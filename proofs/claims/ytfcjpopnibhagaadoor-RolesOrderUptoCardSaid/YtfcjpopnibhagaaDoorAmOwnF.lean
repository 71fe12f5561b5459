/- Own slices of flat things. -/
import Derived.Test.YtfcjpopnibhagaaDoorAmApp
import Derived.Test.YtfcjpopnibhagaaDoorAmStr
set_option linter.all false
namespace Go.AM
section
variable {α : Type} [Flat α]
/-- a slice of one's own whose elements are xs, at its block's start, with no room -/
def OwnF (H : Heap) (v : V) (xs : List α) : Prop := (v = .slice none 0 0 ∧ xs = []) ∨ ∃ b, v = slc b 0 (Flat.size α) xs.length xs.length ∧ H.get b = some (.cells true (encs xs))
theorem OwnF.nil (H : Heap) : OwnF H (.slice none 0 0) ([] : List α) := .inl ⟨rfl, rfl⟩
theorem OwnF.keep {S : List Nat} {H H' : Heap} {v : V} {l : List α} (h : OwnF H v l) (hk : Keeps S H H') (hn : ∀ b ∈ vb v, b ∉ S) : OwnF H' v l := by
  rcases h with h | ⟨b, rfl, hb⟩
  · exact .inl h
  · exact .inr ⟨b, rfl, hk.get hb (hn b (by simp))⟩
theorem OwnF.keep0 {H H' : Heap} {v : V} {l : List α} (h : OwnF H v l) (hk : Keeps [] H H') : OwnF H' v l := h.keep hk (by simp)
theorem OwnF.len {H : Heap} {v : V} {l : List α} (h : OwnF H v l) : lenSlc v = some (i64 l.length) := by
  rcases h with ⟨rfl, rfl⟩ | ⟨b, rfl, _⟩ <;> rfl
theorem OwnF.lt {H : Heap} {v : V} {l : List α} (h : OwnF H v l) : ∀ b ∈ vb v, b < H.next := by
  rcases h with ⟨rfl, rfl⟩ | ⟨b, rfl, hb⟩
  · simp
  · simpa using Heap.get_lt hb
theorem OwnF.isOne {H : Heap} {v : V} {l : List α} (h : OwnF H v l) : v.isOne = true := by
  rcases h with ⟨rfl, rfl⟩ | ⟨b, rfl, _⟩ <;> rfl
theorem OwnF.sl {H : Heap} {v : V} {l : List α} (h : OwnF H v l) : Sl H v l := by
  rcases h with ⟨rfl, rfl⟩ | ⟨b, rfl, hb⟩
  · exact Sl.nil H
  · refine .inr ⟨b, 0, Flat.size α, l.length, rfl, Nat.le_refl _, Heap.get_lt hb, .inr ⟨true, encs l, hb, by rw [encs_length]; omega, ?_⟩, .inr rfl⟩
    rw [List.drop_zero, List.take_of_length_le (by rw [encs_length]; exact Nat.le_refl _)]
theorem ownF_push {H : Heap} {xs : List α} {n m : Nat} (hs : Flat.size α = n) (hm : xs.length = m) : OwnF (H.push (some (.cells true (encs xs)))) (slc H.next 0 n m m) xs := by
  subst hs hm; exact .inr ⟨_, rfl, Heap.get_push_self _ _⟩

theorem ownF_appTo {v : V} {xs ys : List α} {n m bytes : Nat} {new : Option (List V)} {H : Heap} {Q : V → Heap → Prop} (hs : Flat.size α = n) (hv : OwnF H v xs) (hm : ys.length = m) (hnew : ys ≠ [] → new = some (encs ys)) (hb : (xs.length + m) * bytes ≤ 35184372088832) (hb2 : xs.length + m ≤ 35184372088832)
    (hQ : ∀ w H', OwnF H' w (xs ++ ys) → Keeps (vb v) H H' → (∀ b ∈ vb w, b ∈ vb v ∨ H.next ≤ b) → Q w H') : wp (appTo n bytes v m new) Q H := by
  subst hs hm
  by_cases h0 : ys = []
  · subst h0
    have hf : ∃ x len cap, v = .slice x len cap := by
      rcases hv with ⟨rfl, _⟩ | ⟨b, rfl, _⟩
      · exact ⟨_, _, _, rfl⟩
      · exact ⟨_, _, _, rfl⟩
    obtain ⟨x, len, cap, rfl⟩ := hf
    exact ⟨_, H, rfl, hQ _ _ (by rw [List.append_nil]; exact hv) (Keeps.refl _ _) (fun b hb => .inl hb)⟩
  have hne : ys.length ≠ 0 := fun h => h0 (List.eq_nil_of_length_eq_zero h)
  rw [hnew h0]
  have hone := encs_one ys
  have hel := encs_length ys
  rcases hv with ⟨rfl, rfl⟩ | ⟨b, rfl, hg⟩
  · have e1 : cellsOfSlice H (Flat.size α) (.slice none 0 0) = some [] := rfl
    have e2 : giveUp H (Flat.size α) (.slice none 0 0) = some H := rfl
    refine ⟨slc H.next 0 (Flat.size α) ys.length ys.length, H.push (some (.cells true (encs ys))), ?_, hQ _ _ ?_ (Keeps.push _ _ _) (fun b hb => .inr (by simp at hb; omega))⟩
    · simp only [List.length_nil, Nat.zero_add] at hb hb2
      simp only [appTo, hne, if_false, e1, e2]
      rw [if_pos ⟨by rw [Nat.zero_add]; exact hb, by omega, hone, hel⟩]
      simp
    · exact ownF_push rfl (by simp)
  · have hcs : cellsOfSlice H (Flat.size α) (slc b 0 (Flat.size α) xs.length xs.length) = some (encs xs) := by
      simp only [cellsOfSlice]
      split
      · rename_i h1; rw [List.eq_nil_of_length_eq_zero h1]; rfl
      · have e : (encs xs).length = xs.length * Flat.size α := encs_length xs
        simp only [cellsAt, hg, Nat.zero_add, List.drop_zero]
        rw [if_pos (by omega), List.take_of_length_le (by omega)]
    refine ⟨slc H.next 0 (Flat.size α) (xs.length + ys.length) (xs.length + ys.length), (H.set b none).push (some (.cells true (encs xs ++ encs ys))), ?_, hQ _ _ ?_ ?_ (fun c hc => .inr (by simp at hc; omega))⟩
    · simp only [appTo, hne, if_false, hcs, giveUp, hg, if_true]
      rw [if_pos ⟨hb, hb2, hone, hel⟩]
      simp
    · rw [← encs_append]
      have := ownF_push (H := H.set b none) (xs := xs ++ ys) (n := Flat.size α) (m := xs.length + ys.length) rfl (by simp)
      simpa using this
    · exact ⟨by simp, fun c hc hn => by rw [Heap.get_push_lt (by simpa using hc), Heap.get_set_ne _ _ _ (by simpa using hn)]⟩
theorem sl_cells {H : Heap} {v : V} {xs : List α} {n : Nat} (hs : Flat.size α = n) (h : Sl H v xs) (hne : xs ≠ []) : ∃ a c, v = .slice a xs.length c ∧ cellsOfSlice H n v = some (encs xs) := by
  subst hs
  rcases h with ⟨rfl, e⟩ | ⟨bb, o, u, c, rfl, hc, _, hl2, _⟩
  · exact absurd e hne
  · rcases hl2 with e | ⟨rw, cs, hg, q1, q2⟩
    · exact absurd e hne
    · refine ⟨_, _, rfl, ?_⟩
      have hn : xs.length ≠ 0 := fun h => hne (List.eq_nil_of_length_eq_zero h)
      simp only [cellsOfSlice, hn, if_false, cellsAt, hg]
      rw [if_pos q1, q2]
theorem ownF_appV {v x : V} {xs ys : List α} {n bytes : Nat} {H : Heap} {Q : V → Heap → Prop} (hs : Flat.size α = n) (hv : OwnF H v xs) (hx : Sl H x ys) (hb : (xs.length + ys.length) * bytes ≤ 35184372088832) (hb2 : xs.length + ys.length ≤ 35184372088832)
    (hQ : ∀ w H', OwnF H' w (xs ++ ys) → Keeps (vb v) H H' → (∀ b ∈ vb w, b ∈ vb v ∨ H.next ≤ b) → Q w H') : wp (appV n bytes v x) Q H := by
  by_cases h0 : ys = []
  · subst h0
    have hf : ∃ a c, x = .slice a 0 c := by
      rcases hx with ⟨rfl, _⟩ | ⟨bb, o, u, c, rfl, _⟩
      · exact ⟨_, _, rfl⟩
      · exact ⟨_, _, rfl⟩
    obtain ⟨a, c, rfl⟩ := hf
    exact ownF_appTo (ys := ([] : List α)) hs hv rfl (fun h => absurd rfl h) hb hb2 hQ
  · obtain ⟨a, c, rfl, hc⟩ := sl_cells hs hx h0
    exact ownF_appTo hs hv rfl (fun _ => hc) hb hb2 hQ
/-- append(v, x, y, ..) -/
theorem ownF_apps {v : V} {xs ys : List α} {n m bytes : Nat} {zero : List V} {parts : List (Nat × Nat × V)} {H : Heap} {Q : V → Heap → Prop} (hs : Flat.size α = n) (hv : OwnF H v xs) (hz : zero.all flatV = true) (hf : fillA zero parts = some (encs ys)) (hm : ys.length = m) (hb : (xs.length + m) * bytes ≤ 35184372088832) (hb2 : xs.length + m ≤ 35184372088832)
    (hQ : ∀ w H', OwnF H' w (xs ++ ys) → Keeps (vb v) H H' → (∀ b ∈ vb w, b ∈ vb v ∨ H.next ≤ b) → Q w H') : wp (bslc n m zero parts) (fun x H1 => wp (appV n bytes v x) Q H1) H := by
  subst hm
  refine (wp_bslc hz hf).mpr ?_
  have hk := Keeps.push [] H (some (.cells true (encs ys)))
  refine ownF_appV hs (hv.keep0 hk) (ownF_push hs rfl).sl hb hb2 fun w H' h1 h2 h3 => hQ w H' h1 ?_ fun b hb => (h3 b hb).imp id fun q => by simp at q; omega
  exact ⟨by have := h2.next; simp at this; omega, fun c hc hn => by rw [h2.same c (by simp; omega) hn, Heap.get_push_lt hc]⟩
end

theorem encs_bytes (l : List (BitVec 8)) : encs l = l.map B := by
  induction l with
  | nil => rfl
  | cons x l ih => rw [encs_cons, ih]; rfl
theorem ownF_appS {v : V} {xs : List (BitVec 8)} {s : ByteArray} {H : Heap} {Q : V → Heap → Prop} (hv : OwnF H v xs) (hb : xs.length + s.size ≤ 35184372088832)
    (hQ : ∀ w H', OwnF H' w (xs ++ bv s) → Keeps (vb v) H H' → (∀ b ∈ vb w, b ∈ vb v ∨ H.next ≤ b) → Q w H') : wp (appS v (.string s)) Q H := by
  refine ownF_appTo (ys := bv s) (n := 1) rfl hv (bv_length s) (fun _ => ?_) (by omega) hb hQ
  rw [bytesV_bv, encs_bytes]
theorem ownF_b2s {v : V} {l : List (BitVec 8)} {H : Heap} {Q : V → Heap → Prop} (hv : OwnF H v l) (hQ : Q (.string (sv l)) H) : wp (b2s v) Q H := by
  refine own_b2s (l := l) ?_ hQ
  rw [← encs_bytes]
  rcases hv with ⟨rfl, rfl⟩ | ⟨b, rfl, hg⟩
  · exact .inl ⟨rfl, rfl⟩
  · refine .inr ⟨b, ?_, hg⟩
    have e : (encs l).length = l.length := by rw [encs_length]; exact Nat.mul_one _
    rw [e]; rfl
end Go.AM
