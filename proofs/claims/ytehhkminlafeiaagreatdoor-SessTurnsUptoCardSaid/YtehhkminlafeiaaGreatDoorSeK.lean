import Derived.Test.YtehhkminlafeiaaGreatDoorSeJ
import Derived.Test.YtehhkminlafeiaaGreatDoorAmOpenF
set_option linter.all false
/- sess: the laws SessMakes, SessReplies -/
set_option maxHeartbeats 16000000
namespace Go.AM.Cap
open Go.AM Go.Proofs

/-! ### SessReplies -/
def amongJ (x n : Int) : Int := (IntKind.i64.wrap (x.tmod n + n)).tmod n
theorem samong_eq (x n : Int) (hn : n ≠ 0) : A_law25_among [i64 x, i64 n] = ret (i64 (amongJ x n)) := eq_ret fun H => by
  show wp (F_law25_among (i64 x) (i64 n)) _ H
  (try simp (maxSteps := 1000000) (disch := first | omega | (simp only [Z3]; omega) | (simp; done) | assumption | decide | (refine not_not_intro ?_; assumption)) only [Z1, Z2, splice, F_law25_among, int_rem])
  exact ⟨rfl, trivial⟩
theorem amongJ_range (x n : Int) (h0 : 0 < n) (h1 : n ≤ 1000000) : 0 ≤ amongJ x n ∧ amongJ x n < n := by
  have a := Int.lt_tmod_of_pos x h0
  have b := Int.tmod_lt_of_pos x h0
  unfold amongJ
  rw [i64_in (n := x.tmod n + n) (by omega) (by omega)]
  exact ⟨Int.tmod_nonneg _ (by omega), Int.tmod_lt_of_pos _ h0⟩
end Go.AM.Cap
