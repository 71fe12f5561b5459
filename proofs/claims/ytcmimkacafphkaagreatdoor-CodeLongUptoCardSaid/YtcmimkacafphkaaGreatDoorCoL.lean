import Derived.Test.YtcmimkacafphkaaGreatDoorCoK
import Derived.Lib.ItoaLen
import Derived.Test.YtcmimkacafphkaaGreatDoorAmOpenF
set_option linter.all false
/- code: Show, its own and the document's -/
set_option maxHeartbeats 8000000
namespace Go.AM.Cap
open Go.AM Go.Proofs

/-! ### digits -/
theorem dec_small {u : Nat} (h : u < 10) : Lib.decDigits u = [UInt8.ofNat (48 + u)] := by rw [Lib.decDigits, dif_pos h]
def bya (l : List UInt8) : ByteArray := ⟨l.toArray⟩
theorem bya_size (l : List UInt8) : (bya l).size = l.length := by simp [bya, ByteArray.size]
end Go.AM.Cap
