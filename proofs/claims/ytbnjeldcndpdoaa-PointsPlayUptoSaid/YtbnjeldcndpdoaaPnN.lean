import Derived.Test.YtbnjeldcndpdoaaPnK
set_option linter.all false
/- points: a point that is forced, the plain law -/
set_option maxHeartbeats 4000000
namespace Go.AM.Cap
open Go.AM Go.Proofs

/-- the same bank, with other forced points -/
def Bk.wf (B : Bk) (f : List (Int × Int)) : Bk := { B with fo := f }
end Go.AM.Cap
