/- Chapter 09: the reference's Quick: the walk. Printed by gen_qrq.py. -/
import Derived.Deep.RegionHeld
import Derived.Test.YtamjhpdgclbfgaaXNtCM
import Derived.Test.YtamjhpdgclbfgaaXNtI
import Derived.Test.YtamjhpdgclbfgaaXSsAM
import Derived.Test.YtamjhpdgclbfgaaXLibAppS
namespace Go.Proofs.Ytamjhpdgclbfgaa
open Go.RowKit Go.Kq

end Go.Proofs.Ytamjhpdgclbfgaa
