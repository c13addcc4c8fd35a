/- Chapter 09: the reference's used: the walk. Printed by gen_nte.py. · Chapter 09: the reference's Rank and less: the walks. · Chapter 09: the reference's less: the walk. -/
import Derived.Test.YtamjhpdgclbfgaaXNtD
namespace Go.Proofs.Ytamjhpdgclbfgaa
open Go.RowKit Go.Kq

end Go.Proofs.Ytamjhpdgclbfgaa

namespace Go.Proofs.Ytamjhpdgclbfgaa
open Go.RowKit Go.Kq

end Go.Proofs.Ytamjhpdgclbfgaa

namespace Go.Proofs.Ytamjhpdgclbfgaa
open Go.RowKit Go.Kq

end Go.Proofs.Ytamjhpdgclbfgaa
