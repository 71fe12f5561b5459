import Derived.Test.YtehhkminlafeiaaGreatDoorWiI
import Derived.Test.YtehhkminlafeiaaGreatDoorAmOpenF
set_option linter.all false
/- wire: the reference's Decode; the lists' book -/
set_option maxHeartbeats 16000000
namespace Go.AM.Cap
open Go.AM Go.Proofs

end Go.AM.Cap

/- wire: the lists' book; works -/
set_option maxHeartbeats 16000000
namespace Go.AM.Cap
open Go.AM Go.Proofs

theorem eq_two (a b c d : Int) : eqAgg [.i, .i] (.agg (#[i64 a, i64 b] : Array V)) (.agg (#[i64 c, i64 d] : Array V)) = some (decide (a = c ∧ b = d)) := by
  show eqKs [.i, .i] [i64 a, i64 b] [i64 c, i64 d] = _
  simp only [eqKs, eqK, if_true]
  by_cases h1 : a = c
  · subst h1
    by_cases h2 : b = d
    · subst h2; simp
    · have e : (b == d) = false := by simpa using h2
      simp [e, h2]
  · have e : (a == c) = false := by simpa using h1
    simp [e, h1]
theorem notIf_t (b : Bool) : notIf true (some b) = some (.bool (!b)) := rfl
theorem sub_hi {b s n c h : Nat} {k : IntKind} (hs : s ≠ 0) (hc : h ≤ c) (h0 : 0 < c) : subV s (slc b 0 s n c) none (some (.int k (h : Int))) = some (slc b 0 s h c) := by
  have e1 : bound n c (some (.int k (h : Int))) = some h := by simp [bound, hc]
  simp only [subV, e1]
  simp [bound, cutAt, show c ≠ 0 by omega]
end Go.AM.Cap
