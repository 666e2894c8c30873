/- Constants: the law compares constants alone. -/
import Derived.Test.YtbgfdhghhaoabaaBase
namespace Go.Proofs.Ytbgfdhghhaoabaa
open Go.RowKit
set_option maxRecDepth 100000 in
set_option maxHeartbeats 4000000 in
theorem FnExactConstants_walk {w : World} : Calls Try.prog 3 #[] w fun e w' => e = .returned (.bool true) ∧ Below w.heap.size w w' := by
  go_enter Try.func3, Try.ntmps3
  go_wp2
  go_ret
  exact ⟨rfl, Below.refl _ _⟩
end Go.Proofs.Ytbgfdhghhaoabaa
