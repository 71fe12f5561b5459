import Derived.Test.YtbnjeldcndpdoaaPnN
import Derived.Test.YtbnjeldcndpdoaaPnL
import Derived.Test.YtbnjeldcndpdoaaAmMap
set_option linter.all false
/- points: PointsForce on the machine -/
set_option maxHeartbeats 8000000
namespace Go.AM.Cap
open Go.AM Go.Proofs

end Go.AM.Cap
