/- What the proofs of all rows of this seat share. -/
import Derived.Test.YtmnlkcclcnnhmaaGreatDoorRows
import Derived.Test.YtmnlkcclcnnhmaaGreatDoorBase
import Derived.ProofKit
import Derived.OpenShut
import Derived.ShutString
import Derived.ChangeOld
import Derived.Below
import Derived.SizedLaws
namespace Go.Proofs.YtmnlkcclcnnhmaaGreatDoor
open Go.ChangeShapes Go.WideShapes Go.ChangeAt Go.RowKit
theorem own : ownKnob Tryz.prog.godebug = none := by kernel_rfl
theorem laidOut : laidOutB Tryz.prog = true := by kernel_rfl
end Go.Proofs.YtmnlkcclcnnhmaaGreatDoor
