import Derived.Test.YtcmimkacafphkaaGreatDoorCoO
import Derived.Test.YtcmimkacafphkaaGreatDoorAmOpenF
set_option linter.all false
/- code: CodeShows on the machine -/
set_option maxHeartbeats 8000000
namespace Go.AM.Cap
open Go.AM Go.Proofs

end Go.AM.Cap
