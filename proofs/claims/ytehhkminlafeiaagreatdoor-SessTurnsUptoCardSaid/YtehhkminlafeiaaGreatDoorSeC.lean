import Derived.Test.YtehhkminlafeiaaGreatDoorSeB
import Derived.Test.YtehhkminlafeiaaGreatDoorAmOpenF
set_option linter.all false
/- sess: the reference's Message and Read -/
set_option maxHeartbeats 16000000
namespace Go.AM.Cap
open Go.AM Go.Proofs

end Go.AM.Cap
