import Derived.Test.YtcmimkacafphkaaGreatDoorCoT
import Derived.Test.YtcmimkacafphkaaGreatDoorWiE
set_option linter.all false
/- code: the bytes of instructions -/
set_option maxHeartbeats 8000000
namespace Go.AM.Cap
open Go.AM Go.Proofs

def b8 (n : Int) : BitVec 8 := BitVec.ofInt 8 n
theorem cvi_b8 (n : Int) : cvi .u8 (i64 n) = some (B (b8 n)) := by
  rw [cvi_int, IntKind.wrap_u8]
  show _ = some (Value.int .u8 ((BitVec.ofInt 8 n).toNat : Int))
  rw [BitVec.toNat_ofInt]
  congr 2
  omega
theorem shr_8 (n : Int) : bin .shr (i64 n) (.int .u64 8) = some (i64 (n / 256)) := by
  show some (Value.int .i64 (Int.fdiv n (2 ^ (min (Int.toNat 8) 64)))) = _
  rw [show ((2 : Int) ^ (min (Int.toNat 8) 64)) = 256 from rfl, Int.fdiv_eq_ediv_of_nonneg _ (by omega)]
theorem shr_k (n : Int) (j : Nat) (hj : j ≤ 5) : bin .shr (i64 n) (i64 (40 - 8 * (j : Int))) = some (i64 (n / 2 ^ (40 - 8 * j))) := by
  have e : (40 - 8 * (j : Int)).toNat = 40 - 8 * j := by omega
  have h : bin .shr (i64 n) (i64 (40 - 8 * (j : Int))) = if 40 - 8 * (j : Int) < 0 then none else some (Value.int .i64 (Int.fdiv n (2 ^ (min (40 - 8 * (j : Int)).toNat 64)))) := by
    rcases (show j = 0 ∨ j = 1 ∨ j = 2 ∨ j = 3 ∨ j = 4 ∨ j = 5 by omega) with rfl | rfl | rfl | rfl | rfl | rfl <;> rfl
  rw [h, if_neg (by omega), e, Nat.min_eq_left (by omega), Int.fdiv_eq_ediv_of_nonneg _ (Int.le_of_lt (Int.pow_pos (by omega)))]
def nB (n : Int) (j : Nat) : List (BitVec 8) := (List.range j).map fun i => b8 (n / 2 ^ (40 - 8 * i))
theorem nB_succ (n : Int) (j : Nat) : nB n (j + 1) = nB n j ++ [b8 (n / 2 ^ (40 - 8 * j))] := by
  unfold nB
  rw [List.range_succ, List.map_append]
  rfl
theorem nB_length (n : Int) (j : Nat) : (nB n j).length = j := by simp [nB]
def insB (i : Ins) : List (BitVec 8) := [b8 i.op, b8 (i.a / 256), b8 i.a, b8 (i.b / 256), b8 i.b] ++ nB i.n 6
theorem insB_length (i : Ins) : (insB i).length = 11 := by simp [insB, nB_length]
def codeB (l : List Ins) : List (BitVec 8) := l.flatMap insB
theorem codeB_length (l : List Ins) : (codeB l).length = 11 * l.length := by
  induction l with
  | nil => rfl
  | cons i l ih => simp only [codeB, List.flatMap_cons, List.length_append] at ih ⊢; rw [insB_length, ih]; simp; omega
theorem codeB_take {l : List Ins} {j : Nat} (h : j < l.length) : codeB (l.take (j + 1)) = codeB (l.take j) ++ insB (l.getD j default) := by
  rw [take_succ_getD h default]; simp [codeB]
end Go.AM.Cap
