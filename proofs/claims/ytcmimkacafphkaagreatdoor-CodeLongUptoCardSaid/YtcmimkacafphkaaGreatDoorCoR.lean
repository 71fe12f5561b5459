import Derived.Test.YtcmimkacafphkaaGreatDoorCoQ
set_option linter.all false
/- code: what is put behind; CodeOwn on the machine -/
set_option maxHeartbeats 16000000
namespace Go.AM.Cap
open Go.AM Go.Proofs

theorem check_zero {p : PIm} : (checkS p).2 = 0 ↔ SoundP p ∧ ∀ i ∈ p.code, mayB p.types p.code.length i = true := by
  unfold checkS
  by_cases hs : SoundP p
  · rw [if_pos hs]
    cases hi : idxP (fun i => !mayB p.types p.code.length i) p.code with
    | none =>
      rw [idxP_none] at hi
      simp only [true_iff]
      exact ⟨hs, fun i hm => by have := hi i hm; simpa using this⟩
    | some j =>
      obtain ⟨h1, h2, _⟩ := idxP_spec (d := default) hi
      refine ⟨fun q => absurd q (by show ¬ ((130 : Int) = 0); decide), fun q => ?_⟩
      have := q.2 _ (getD_mem' (d := default) h1)
      rw [this] at h2
      cases h2
  · rw [if_neg hs]
    exact ⟨fun q => absurd q (by show ¬ ((130 : Int) = 0); decide), fun q => absurd q.1 hs⟩
theorem check_code (p : PIm) : (checkS p).2 = 0 ∨ (checkS p).2 = 130 := by
  unfold checkS
  split
  · split
    · exact .inr rfl
    · exact .inl rfl
  · exact .inr rfl
end Go.AM.Cap
