/- Contracts of the small functions on integers. -/
import Derived.Test.YtbgfdhghhaoabaaBase
namespace Go.Proofs.Ytbgfdhghhaoabaa
open Go.RowKit

def inB (n lo hi : Int) : Bool := decide (lo ≤ n) && decide (n ≤ hi)
theorem inB_true {n lo hi : Int} : inB n lo hi = true ↔ lo ≤ n ∧ n ≤ hi := by simp [inB]
theorem inB_false {n lo hi : Int} : inB n lo hi = false ↔ n < lo ∨ hi < n := by simp [inB]; omega

end Go.Proofs.Ytbgfdhghhaoabaa
