import Derived.Test.YtbnjeldcndpdoaaPnJ
import Derived.Test.YtbnjeldcndpdoaaAmMap
set_option linter.all false
/- points: the law PointsApart -/
set_option maxHeartbeats 8000000
namespace Go.AM.Cap
open Go.AM Go.Proofs

theorem sl_get {α : Type} [Flat α] [Inhabited α] {H : Heap} {v : V} {l : List α} (h : Sl H v l) {n : Nat} (hs : Flat.size α = n) {i : Nat} (hi : i < l.length) : iaddrS n v (i64 i) = some (ptr (slB v) (slO v + i * n)) ∧ (∀ {Q : V → Heap → Prop}, wp (ldn n (ptr (slB v) (slO v + i * n))) Q H ↔ Q (.agg (Flat.enc (l.getD i default)).toArray) H) := by
  have q := h.addr' hs (k := .i64) (i := i) (by omega) (by omega)
  rw [Int.toNat_natCast] at q
  exact ⟨q, fun {Q} => h.ldn' hs hi default⟩
end Go.AM.Cap
