/- Slices that one owns: elements of one cell. -/
import Derived.Test.YtfcjpopnibhagaaDoorAmWp
set_option linter.all false
namespace Go.AM

/-- blocks that were there are as they were, but those of S -/
structure Keeps (S : List Nat) (H H' : Heap) : Prop where
  next : H.next ≤ H'.next
  same : ∀ b, b < H.next → b ∉ S → H'.get b = H.get b

theorem Keeps.refl (S : List Nat) (H : Heap) : Keeps S H H := ⟨Nat.le_refl _, fun _ _ _ => rfl⟩
theorem Keeps.trans {S S' : List Nat} {H H1 H2 : Heap} (h : Keeps S H H1) (h' : Keeps S' H1 H2) (hs : ∀ b, b < H.next → b ∈ S' → b ∈ S) : Keeps S H H2 :=
  ⟨Nat.le_trans h.next h'.next, fun b hb hn => by rw [h'.same b (Nat.lt_of_lt_of_le hb h.next) (fun hi => hn (hs b hb hi)), h.same b hb hn]⟩
theorem Keeps.mono {S S' : List Nat} {H H1 : Heap} (h : Keeps S H H1) (hs : ∀ b, b ∈ S → b ∈ S') : Keeps S' H H1 := ⟨h.next, fun b hb hn => h.same b hb fun hi => hn (hs b hi)⟩
theorem Keeps.get {S : List Nat} {H H' : Heap} (h : Keeps S H H') {b : Nat} {x : Blk} (hb : H.get b = some x) (hn : b ∉ S) : H'.get b = some x := by
  rw [h.same b (Heap.get_lt hb) hn]; exact hb
theorem Keeps.push (S : List Nat) (H : Heap) (x : Option Blk) : Keeps S H (H.push x) := ⟨by simp, fun b hb _ => Heap.get_push_lt hb⟩
theorem Keeps.set {S : List Nat} {H : Heap} {b : Nat} {x : Option Blk} (h : b ∈ S) : Keeps S H (H.set b x) := ⟨by simp, fun c _ hn => Heap.get_set_ne _ _ _ fun e => hn (e ▸ h)⟩

/-- the block of a slice -/
def vb (v : V) : List Nat := match v with | .slice (some ⟨b, _, _⟩) _ _ => [b] | _ => []
@[simp] theorem vb_nil (n c : Nat) : vb (.slice none n c) = [] := rfl
@[simp] theorem vb_slc (b o u n c : Nat) : vb (slc b o u n c) = [b] := rfl

/-- an own slice with the elements l -/
def Own (H : Heap) (v : V) (l : List V) : Prop := (v = .slice none 0 0 ∧ l = []) ∨ ∃ b, v = slc b 0 1 l.length l.length ∧ H.get b = some (.cells true l)

theorem Own.nil (H : Heap) : Own H (.slice none 0 0) [] := .inl ⟨rfl, rfl⟩
theorem Own.keep {S : List Nat} {H H' : Heap} {v : V} {l : List V} (h : Own H v l) (hk : Keeps S H H') (hn : ∀ b ∈ vb v, b ∉ S) : Own H' v l := by
  rcases h with h | ⟨b, rfl, hb⟩
  · exact .inl h
  · exact .inr ⟨b, rfl, hk.get hb (hn b (by simp))⟩
theorem Own.len {H : Heap} {v : V} {l : List V} (h : Own H v l) : lenSlc v = some (i64 l.length) := by
  rcases h with ⟨rfl, rfl⟩ | ⟨b, rfl, hb⟩ <;> rfl
theorem Own.lt {H : Heap} {v : V} {l : List V} (h : Own H v l) : ∀ b ∈ vb v, b < H.next := by
  rcases h with ⟨rfl, rfl⟩ | ⟨b, rfl, hb⟩
  · simp
  · simpa using Heap.get_lt hb
theorem Own.idx {H : Heap} {v : V} {l : List V} (h : Own H v l) {k : IntKind} {i : Nat} (hi : i < l.length) : ∃ b, iaddrS 1 v (.int k i) = some (ptr b i) ∧ cellP H (ptr b i) = some l[i] := by
  rcases h with ⟨rfl, rfl⟩ | ⟨b, rfl, hb⟩
  · simp at hi
  · refine ⟨b, ?_, ?_⟩
    · rw [iaddrS_slc (by omega) (by omega)]; simp
    · rw [cellP_ptr hb]; simp [hi]

theorem wp_appV {v x : V} {l new : List V} {m bytes : Nat} {a : Option Addr} {c : Nat} {H : Heap} {Q : V → Heap → Prop} (hv : Own H v l) (hx : x = .slice a m c) (hc : cellsOfSlice H 1 x = some new) (hm : m ≠ 0) (hl : new.length = m) (hone : new.all Value.isOne = true)
    (hb : (l.length + m) * bytes ≤ 35184372088832) (hb2 : l.length + m ≤ 35184372088832) (hQ : ∀ b H', Own H' (slc b 0 1 (l ++ new).length (l ++ new).length) (l ++ new) → Keeps (vb v) H H' → b = H.next → H'.next = H.next + 1 → Q (slc b 0 1 (l ++ new).length (l ++ new).length) H') : wp (appV 1 bytes v x) Q H := by
  subst hx
  rcases hv with ⟨rfl, rfl⟩ | ⟨b, rfl, hg⟩
  · refine ⟨slc H.next 0 1 m m, H.push (some (.cells true new)), ?_, ?_⟩
    · have e1 : cellsOfSlice H 1 (.slice none 0 0) = some [] := rfl
      have e2 : giveUp H 1 (.slice none 0 0) = some H := rfl
      simp only [List.length_nil, Nat.zero_add] at hb hb2
      simp only [appV, appTo, hm, if_false, hc, e1, e2]
      rw [if_pos ⟨by rw [Nat.zero_add]; exact hb, by omega, hone, by omega⟩]
      simp
    · have := hQ H.next (H.push (some (.cells true new))) (.inr ⟨H.next, by simp, Heap.get_push_self _ _⟩) (Keeps.push _ _ _) rfl (by simp)
      simpa [hl] using this
  · refine ⟨slc H.next 0 1 (l.length + m) (l.length + m), (H.set b none).push (some (.cells true (l ++ new))), ?_, ?_⟩
    · have hcs : cellsOfSlice H 1 (slc b 0 1 l.length l.length) = some l := by
        simp only [cellsOfSlice]
        split
        · rename_i h0; rw [List.eq_nil_of_length_eq_zero h0]
        · simp [cellsAt, hg]
      simp only [appV, appTo, hm, if_false, hc, hcs, giveUp, hg, if_true]
      rw [if_pos ⟨hb, hb2, hone, by omega⟩]
      simp
    · have := hQ H.next ((H.set b none).push (some (.cells true (l ++ new)))) (.inr ⟨H.next, by simp, by have := Heap.get_push_self (H.set b none) (some (.cells true (l ++ new))); simpa using this⟩) ⟨by simp, fun c hc hn => by rw [Heap.get_push_lt (by simpa using hc), Heap.get_set_ne _ _ _ (by simpa using hn)]⟩ rfl (by simp)
      simpa [hl] using this

/-- append(v, x, y, ..) -/
theorem wp_app {v : V} {l new zero : List V} {parts : List (Nat × Nat × V)} {m bytes : Nat} {H : Heap} {Q : V → Heap → Prop} (hv : Own H v l) (hz : zero.all flatV = true) (hf : fillA zero parts = some new) (hm : m ≠ 0) (hl : new.length = m) (hone : new.all Value.isOne = true)
    (hb : (l.length + m) * bytes ≤ 35184372088832) (hb2 : l.length + m ≤ 35184372088832) (hQ : ∀ b H', Own H' (slc b 0 1 (l ++ new).length (l ++ new).length) (l ++ new) → Keeps (vb v) H H' → H.next ≤ b → Q (slc b 0 1 (l ++ new).length (l ++ new).length) H') :
    wp (bslc 1 m zero parts) (fun x H1 => wp (appV 1 bytes v x) Q H1) H := by
  refine (wp_bslc hz hf).mpr ?_
  have hk := Keeps.push [] H (some (.cells true new))
  refine wp_appV (hv.keep hk (by simp)) rfl ?_ hm hl hone hb hb2 fun b H' h1 h2 h3 h4 => hQ b H' h1 ?_ (by simp at h3; omega)
  · have := Heap.get_push_self H (some (.cells true new))
    simp [cellsOfSlice, hm, cellsAt, this, hl]
    rw [← hl, List.take_length]
  · exact ⟨by have := h2.next; simp at this; omega, fun c hc hn => by rw [h2.same c (by simp; omega) hn, Heap.get_push_lt hc]⟩

/-- string(v) -/
theorem wp_b2s {v : V} {l : List V} {bs : List UInt8} {H : Heap} {Q : V → Heap → Prop} (hv : Own H v l) (hl : bytesOf? l = some bs) (hQ : Q (.string ⟨bs.toArray⟩) H) : wp (b2s v) Q H := by
  rcases hv with ⟨rfl, rfl⟩ | ⟨b, rfl, hg⟩
  · simp [bytesOf?] at hl; subst hl
    exact ⟨_, _, rfl, hQ⟩
  · refine ⟨_, _, ?_, hQ⟩
    simp [b2s, cellsAt, hg, hl]

end Go.AM
