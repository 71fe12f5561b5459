import Derived.Test.YtcmimkacafphkaaGreatDoorWiAs
import Derived.Test.YtcmimkacafphkaaGreatDoorFun
import Derived.Test.YtcmimkacafphkaaGreatDoorAmOpenF
import Derived.Test.YtcmimkacafphkaaGreatDoorAmOwnF
set_option linter.all false
/- wire: errors.As on the abstract machine; fault -/
set_option maxHeartbeats 8000000
namespace Go.AM.Cap
open Go.AM Go.Proofs Go.Proofs.YtcmimkacafphkaaGreatDoor

/-- the cell of errors.errorType -/
def TOK : Nat := 189 * 1099511627776 + 8 * 1048576 + 92
end Go.AM.Cap
