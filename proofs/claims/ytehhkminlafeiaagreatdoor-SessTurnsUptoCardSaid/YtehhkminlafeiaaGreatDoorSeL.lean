import Derived.Test.YtehhkminlafeiaaGreatDoorSeK
import Derived.Test.YtehhkminlafeiaaGreatDoorAmOpenF
set_option linter.all false
/- sess: the laws SessOnce, SessEnds -/
set_option maxHeartbeats 16000000
namespace Go.AM.Cap
open Go.AM Go.Proofs

theorem DeskAt.less {H0 H : Heap} {d : Nat} {D : Dk} {L : List Thing} {t : Thing} (h : DeskAt H0 H d D (t :: L)) : DeskAt H0 H d D L := by
  obtain ⟨uv, icv, cv, isv, sv', st⟩ := h
  exact ⟨uv, icv, cv, isv, sv', desk_x st⟩
/-- the laws' desk with the next number n, the frame F, used in the frame f -/
def livD (idle F n f : Int) : Dk := ⟨[annU, bobU], idle, F, 1, [], 1, [(1, ⟨annU, keyK, n, f⟩)]⟩
theorem livD_ok {idle F n f : Int} (h1 : 1 ≤ idle ∧ idle ≤ 100000) (h2 : 0 ≤ f ∧ f ≤ F) (h3 : F ≤ 10000) (h4 : 1 ≤ n ∧ n ≤ 10000) : (livD idle F n f).Ok 10000 := by
  have h0 := h2.1
  refine ⟨by simp [livD], fun u hu => ?_, h1, ⟨by dsimp only [livD]; omega, h3⟩, ⟨by dsimp only [livD]; omega, by dsimp only [livD]; omega⟩, ⟨by dsimp only [livD]; omega, by dsimp only [livD]; omega⟩, by simp [livD], by simp [livD], fun c hc => absurd hc List.not_mem_nil, fun s hs => ?_⟩
  · simp only [livD, List.mem_cons, List.not_mem_nil, or_false] at hu
    rcases hu with rfl | rfl
    · exact ⟨by decide, by rfl⟩
    · exact ⟨by decide, by rfl⟩
  · simp only [livD, List.mem_singleton] at hs
    subst hs
    exact ⟨by simp [livD], prove_size _ _ _, by dsimp only; omega, by dsimp only [livD]; omega, by dsimp only; omega, by dsimp only; omega, by dsimp only; omega, by dsimp only [livD]; omega⟩
theorem open_liv {idle F n f : Int} {m : Int} {says : List It} (h : (messageS keyK 1 m says).2 = 0) (hm : 1 ≤ m ∧ m ≤ 1073741824) (hs : ∀ x ∈ says, okI x) (hn : n ≤ 10000) :
    openD (livD idle F n f) (messageS keyK 1 m says).1 = if m = n then ((1, annS', says, 0), livD idle F (n + 1) F) else ((0, ⟨#[]⟩, [], 250), livD idle F n f) := by
  rw [opens_message (D := livD idle F n f) (i := 0) h (by decide) hm hs rfl rfl]
  have e : ((livD idle F n f).sl.getD 0 default).2 = ⟨annU, keyK, n, f⟩ := rfl
  rw [e]
  dsimp only
  by_cases q : m = n
  · rw [if_pos q, if_pos q]
    unfold usedS
    dsimp only
    rw [if_neg (by omega)]
    rfl
  · rw [if_neg q, if_neg q]
end Go.AM.Cap
