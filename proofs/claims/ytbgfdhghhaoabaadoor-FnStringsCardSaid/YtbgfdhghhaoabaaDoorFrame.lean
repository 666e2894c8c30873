/- What the proofs of all rows of this seat share. -/
import Derived.Test.YtbgfdhghhaoabaaDoorRows
import Derived.Test.YtbgfdhghhaoabaaDoorBase
import Derived.ProofKit
import Derived.OpenShut
import Derived.ShutString
import Derived.ChangeOld
import Derived.Below
import Derived.SizedLaws
namespace Go.Proofs.YtbgfdhghhaoabaaDoor
open Go.ChangeShapes Go.WideShapes Go.ChangeAt Go.RowKit
theorem own : ownKnob Tryd.prog.godebug = none := by kernel_rfl
theorem laidOut : laidOutB Tryd.prog = true := by kernel_rfl
end Go.Proofs.YtbgfdhghhaoabaaDoor
