import Derived.Test.YtjchglndancedaaGreatDoorFun2
import Derived.Test.YtjchglndancedaaGreatDoorAmMaps
import Derived.Test.YtjchglndancedaaGreatDoorAmOpenF
set_option linter.all false
/- num: which values fit -/
namespace Go.AM.Cap
open Go.AM Go.Proofs
def fits (t n : Int) : Prop := (t = 1 ∧ (n = 0 ∨ n = 1)) ∨ (t = 2 ∧ -32768 ≤ n ∧ n ≤ 32767) ∨ ((t = 3 ∨ t = 4) ∧ -2147483648 ≤ n ∧ n ≤ 2147483647)
instance (t n : Int) : Decidable (fits t n) := by unfold fits; exact inferInstance
end Go.AM.Cap
