import Derived.Test.YtehhkminlafeiaaGreatDoorSeH
import Derived.Test.YtehhkminlafeiaaGreatDoorAmOpenF
import Derived.Test.YtehhkminlafeiaaGreatDoorRoC
set_option linter.all false
/- sess: a desk's calls: Logout, Tick, Sessions, Reply -/
set_option maxHeartbeats 16000000
namespace Go.AM.Cap
open Go.AM Go.Proofs

end Go.AM.Cap

/- roles: Needs, asked, May, Aims, works -/
set_option maxHeartbeats 8000000
namespace Go.AM.Cap
open Go.AM Go.Proofs

end Go.AM.Cap
