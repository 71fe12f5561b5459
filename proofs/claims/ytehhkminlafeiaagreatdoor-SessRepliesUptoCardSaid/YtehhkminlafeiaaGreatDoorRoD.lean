import Derived.Test.YtehhkminlafeiaaGreatDoorRoC
import Derived.Test.YtehhkminlafeiaaGreatDoorAmSep
set_option linter.all false
/- roles: Needs, asked, May, Aims, works -/
set_option maxHeartbeats 8000000
namespace Go.AM.Cap
open Go.AM Go.Proofs

end Go.AM.Cap
