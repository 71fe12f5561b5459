import Derived.Test.YtcmimkacafphkaaGreatDoorWiB
import Derived.Test.YtcmimkacafphkaaGreatDoorAmSlc
import Derived.Test.YtcmimkacafphkaaGreatDoorAmOwnF
import Derived.Test.YtcmimkacafphkaaGreatDoorAmOpenF
set_option linter.all false
/- wire: numbers, unsigned, bad, fault -/
set_option maxHeartbeats 8000000
namespace Go.AM.Cap
open Go.AM Go.Proofs

theorem i64_w64 (n : Int) : cvi .u64 (i64 n) = some (W (BitVec.ofInt 64 n)) := by
  simp only [cvi, wrapW]
/-- the variable errors.errorType as it must be -/
def Tok (H : Heap) : Prop := H.cell 2 0 = some (.chan (some TOK))
theorem Tok.keep {S : List Nat} {H H' : Heap} (h : Tok H) (hk : Keeps S H H') (hs : 2 ∉ S) : Tok H' := by
  unfold Tok Heap.cell at *
  have : H.get 2 ≠ none := fun e => by rw [e] at h; cases h
  have hlt : 2 < H.next := by
    cases hg : H.get 2 with
    | none => exact absurd hg this
    | some x => exact Heap.get_lt hg
  rw [hk.same 2 hlt hs]; exact h
theorem Tok.keep0 {H H' : Heap} (h : Tok H) (hk : Keeps [] H H') : Tok H' := h.keep hk (by simp)
theorem Tok.lt {H : Heap} (h : Tok H) : 2 < H.next := by
  unfold Tok Heap.cell at h
  cases hg : H.get 2 with
  | none => rw [hg] at h; cases h
  | some x => exact Heap.get_lt hg
end Go.AM.Cap
