import Derived.Test.YtcmimkacafphkaaGreatDoorCoR
import Derived.Test.YtcmimkacafphkaaGreatDoorAmOpenF
import Derived.Test.YtcmimkacafphkaaGreatDoorProg
import Derived.WalkKit
import Derived.LaidEql
import Derived.Stop.Asserts
import Derived.RowKitTokens
set_option linter.all false
/- code: CodeOwn on the machine -/
set_option maxHeartbeats 16000000
namespace Go.AM.Cap
open Go.AM Go.Proofs

end Go.AM.Cap

/- wire: errors.As at a target of type *broken: what it does. -/
set_option maxHeartbeats 8000000
namespace Go.Proofs.YtcmimkacafphkaaGreatDoor.AsWalk
open Go.RowKit Go.Extern.Stop Go.Stop Go.Extern Go.Proofs

end Go.Proofs.YtcmimkacafphkaaGreatDoor.AsWalk
