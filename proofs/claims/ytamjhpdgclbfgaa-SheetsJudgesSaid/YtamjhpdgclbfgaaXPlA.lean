/- Chapter 09: plain: the reference's least number of plates in two steps is the program's. -/
import Derived.Test.YtamjhpdgclbfgaaXLibBoxM
namespace Go.Proofs.Ytamjhpdgclbfgaa
open Go.RowKit Go.Kq

theorem ceil_two (n a b : Int) (hb : 0 < b) : (n + a * b - 1) / (a * b) = ((n + b - 1) / b + a - 1) / a := by
  have e1 : a * b = b * a := Int.mul_comm _ _
  have e2 : n + a * b - 1 = (n + b - 1) + b * (a - 1) := by
    rw [Int.mul_sub, e1]
    omega
  rw [e2, e1, ← Int.ediv_ediv_of_nonneg (by omega), Int.add_mul_ediv_left _ _ (by omega)]
  congr 1
  omega
end Go.Proofs.Ytamjhpdgclbfgaa
