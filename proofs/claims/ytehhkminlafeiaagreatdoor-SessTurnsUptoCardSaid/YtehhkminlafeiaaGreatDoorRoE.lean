import Derived.Test.YtehhkminlafeiaaGreatDoorRoD
import Derived.KernelRfl
import Derived.Test.YtehhkminlafeiaaGreatDoorAmOpenF
set_option linter.all false
/- roles: the plain law; works -/
set_option maxHeartbeats 8000000
namespace Go.AM.Cap
open Go.AM Go.Proofs

/-- users that may be -/
structure OkUs (l : List Us) (parts : Int) : Prop where
  range : 1 ≤ parts ∧ parts ≤ 8
  len : l.length ≤ 8
  each : ∀ u ∈ l, formedS u = true ∧ wrongS u.rs.xs parts = 0
  names : l.Pairwise fun u w => u.name ≠ w.name
theorem findS_none {l : List Us} {n : ByteArray} : findS l n = none ↔ ∀ u ∈ l, u.name ≠ n := by
  unfold findS
  rw [idxP_none]
  simp
theorem checkGo_ok {parts : Int} : ∀ {r ah : List Us}, (checkGo parts ah r).2 = 0 → (∀ u ∈ r, formedS u = true ∧ wrongS u.rs.xs parts = 0) ∧ (r.Pairwise fun u w => u.name ≠ w.name) ∧ ∀ u ∈ ah, ∀ w ∈ r, u.name ≠ w.name
  | [], _, _ => ⟨fun u hu => by simp at hu, .nil, fun u _ w hw => by simp at hw⟩
  | u :: r, ah, h => by
    unfold checkGo at h
    split at h
    · rename_i h1
      split at h
      · cases h
      · rename_i h2
        split at h
        · rename_i h3
          obtain ⟨g1, g2, g3⟩ := checkGo_ok h
          have h2' : findS ah u.name = none := by
            cases hq : findS ah u.name with
            | none => rfl
            | some i => rw [hq] at h2; exact absurd rfl h2
          rw [findS_none] at h2'
          refine ⟨fun w hw => ?_, ?_, fun x hx w hw => ?_⟩
          · rcases List.mem_cons.1 hw with rfl | hw
            · exact ⟨h1, h3⟩
            · exact g1 w hw
          · exact List.pairwise_cons.2 ⟨fun w hw => g3 u (by simp) w hw, g2⟩
          · rcases List.mem_cons.1 hw with rfl | hw
            · exact h2' x hx
            · exact g3 x (by simp [hx]) w hw
        · rename_i h3; exact absurd h h3
    · cases h
theorem chkUs_ok {l : List Us} {parts : Int} (h : (chkUs l parts).2 = 0) : OkUs l parts := by
  unfold chkUs at h
  split at h
  · cases h
  · rename_i h1
    split at h
    · cases h
    · rename_i h2
      obtain ⟨g1, g2, _⟩ := checkGo_ok h
      exact ⟨by omega, by omega, g1, g2⟩
end Go.AM.Cap
