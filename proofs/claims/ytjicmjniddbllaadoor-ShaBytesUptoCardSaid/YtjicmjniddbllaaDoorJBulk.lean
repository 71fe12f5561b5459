/- What the bound on the arguments gives. -/
import Derived.Test.YtjicmjniddbllaaDoorShaG
import Derived.Test.YtjicmjniddbllaaDoorJTabs
import Derived.Test.YtjicmjniddbllaaDoorAmOpen
set_option linter.all false
namespace Go.AM.Cap
open Go.AM Go.Proofs Go.Proofs.YtjicmjniddbllaaDoor

theorem bulk_strs {H : Type} {d : DataW H} {l : List ByteArray} (h : (d = .nil ∧ l = []) ∨ ∃ rest, d = .slice (l.map datS) rest) : (cat l).length + l.length ≤ Rows.uptoBulk d := by
  have key : ∀ l : List ByteArray, (cat l).length + l.length ≤ Rows.uptoBulkAll (l.map (datS (H := H))) := by
    intro l
    induction l with
    | nil => simp [cat, Rows.uptoBulkAll]
    | cons s l ih =>
      have e : (bv s).length = s.data.toList.length := by rw [bv_length]; rfl
      simp only [cat, List.flatMap_cons, List.length_append, List.length_cons, List.map_cons, Rows.uptoBulkAll, datS, Rows.uptoBulk] at ih ⊢
      omega
  rcases h with ⟨rfl, rfl⟩ | ⟨rest, rfl⟩
  · simp [cat]
  · have := key l
    simp only [Rows.uptoBulk]
    omega
end Go.AM.Cap
