/- An append onto a row of the call's own, at a step of a region that draws its order. No program in sight. -/
import Derived.Deep.RegionLaw
import Derived.Test.YtamjhpdgclbfgaaXLibRowM
namespace Go.Kq
open Go.RowKit

end Go.Kq
