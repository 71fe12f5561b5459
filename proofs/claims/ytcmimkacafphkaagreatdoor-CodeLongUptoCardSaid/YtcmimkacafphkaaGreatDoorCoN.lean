import Derived.Test.YtcmimkacafphkaaGreatDoorCoM
import Derived.Test.YtcmimkacafphkaaGreatDoorAmOpenF
set_option linter.all false
/- code: the document's Show -/
set_option maxHeartbeats 8000000
namespace Go.AM.Cap
open Go.AM Go.Proofs

end Go.AM.Cap
