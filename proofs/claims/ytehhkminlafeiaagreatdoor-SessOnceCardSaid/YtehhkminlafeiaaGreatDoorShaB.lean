import Derived.Test.YtehhkminlafeiaaGreatDoorShaA
set_option linter.all false
/- sha: ShaB -/
namespace Go.AM.Cap
open Go.AM Go.Proofs
theorem own_bslc {H : Heap} {zero new : List V} {parts : List (Nat × Nat × V)} {m : Nat} {Q : V → Heap → Prop} (hz : zero.all flatV = true) (hf : fillA zero parts = some new) (hl : new.length = m)
    (hQ : ∀ v H', Own H' v new → Keeps [] H H' → (∀ x ∈ vb v, H.next ≤ x) → Q v H') : wp (bslc 1 m zero parts) Q H := by
  refine (wp_bslc hz hf).mpr ?_
  subst hl
  exact hQ _ _ (.inr ⟨_, rfl, Heap.get_push_self _ _⟩) (Keeps.push _ _ _) (by simp)

end Go.AM.Cap
