/-
  No cell of these rows narrows 'for every input' (looked for: loops, veiled, ifaces, maps, wideKeys, modest, calm, conditions, laid).
  DERIVED. THE GIVEN ROWS OF THIS SEAT. 9 by the template 'for every input the law returns true; each argument reads behind the call as it read before'; 0 by the template 'total and deterministic' (their statements: YtilmgpjbampcaaaTotals.lean).
  GIVEN WITH THE SEED: the statements are not yours to turn. If you find one false, say at which input.
  Laid BY PROGRAM, IN A SANDBOX (cutbox-rows.mjs): the forced cells as the released guide's own fill.sh prints them over the translation b1a131091c159a53… (all of the seat's roots in one cut). By AI agents, Wed Nov 11 2026. No macro, syntax, notation, axiom, sorry.
-/
import Derived.Test.YtilmgpjbampcaaaChecked
import GoSem.Claim
import GoSem.ClaimJoined
import GoSem.ClaimMapViews
import Derived.JoinedTies
import Derived.KernelRfl
namespace Go.Proofs.Ytilmgpjbampcaaa
/- THE CELL 'sum', in the pinned program and in every row, IS THE sha256 OF THE DUMP (.gsa) THAT YtilmgpjbampcaaaProg.lean LOADS. Nothing in Lean hashes anything: it is a label: what it is worth is what the hold of that sum in a sandbox is worth. -/
noncomputable def Try.pinned : Pinned := { name := "ytilmgpjbampcaaa", sum := "b1a131091c159a53e62ce684a274392448a15c6121e16b11021956114d02e433", checked := Try.checked }
namespace Rows
def none {H : Type} : Left H := { results := [], args := [] }

/-- 'laws.FnExactIsStamp': WHATEVER THE INPUT: true; the input reads as it did. -/
def fnExactIsStampSpec : ChangeSpec := { name := "fnExactIsStamp", fn := fun _ => fun
  | [d] => { results := [.lit (.bool true)], args := [d] }
  | _ => none }
def fnExactIsStampRow : OpenClaim := { program := "ytilmgpjbampcaaa", sum := "b1a131091c159a53e62ce684a274392448a15c6121e16b11021956114d02e433", func := "loop.example/g01062/laws.FnExactIsStamp", spec := "fnExactIsStamp", apart := false }
def FnExactIsStampSaid : Prop := fnExactIsStampRow.holds Try.pinned (OpenSpec.ofChange fnExactIsStampSpec)

/-- ITS FALSE NEIGHBOUR: 'it returns false'. Refute it at one input. -/
def fnExactIsStampWrong : ChangeSpec := { name := "fnExactIsStamp", fn := fun _ => fun
  | [d] => { results := [.lit (.bool false)], args := [d] }
  | _ => none }
def FnExactIsStampWrongFalsely : Prop := fnExactIsStampRow.holds Try.pinned (OpenSpec.ofChange fnExactIsStampWrong)

/-- 'laws.FnExactAreStamps': WHATEVER THE INPUT: true; the input reads as it did. -/
def fnExactAreStampsSpec : ChangeSpec := { name := "fnExactAreStamps", fn := fun _ => fun
  | [d] => { results := [.lit (.bool true)], args := [d] }
  | _ => none }
def fnExactAreStampsRow : OpenClaim := { program := "ytilmgpjbampcaaa", sum := "b1a131091c159a53e62ce684a274392448a15c6121e16b11021956114d02e433", func := "loop.example/g01062/laws.FnExactAreStamps", spec := "fnExactAreStamps", apart := false }
def FnExactAreStampsSaid : Prop := fnExactAreStampsRow.holds Try.pinned (OpenSpec.ofChange fnExactAreStampsSpec)

/-- ITS FALSE NEIGHBOUR: 'it returns false'. Refute it at one input. -/
def fnExactAreStampsWrong : ChangeSpec := { name := "fnExactAreStamps", fn := fun _ => fun
  | [d] => { results := [.lit (.bool false)], args := [d] }
  | _ => none }
def FnExactAreStampsWrongFalsely : Prop := fnExactAreStampsRow.holds Try.pinned (OpenSpec.ofChange fnExactAreStampsWrong)

/-- 'laws.FnExactValueOf': WHATEVER THE INPUT: true; the input reads as it did. -/
def fnExactValueOfSpec : ChangeSpec := { name := "fnExactValueOf", fn := fun _ => fun
  | [d1, d2] => { results := [.lit (.bool true)], args := [d1, d2] }
  | _ => none }
def fnExactValueOfRow : OpenClaim := { program := "ytilmgpjbampcaaa", sum := "b1a131091c159a53e62ce684a274392448a15c6121e16b11021956114d02e433", func := "loop.example/g01062/laws.FnExactValueOf", spec := "fnExactValueOf", apart := false }
def FnExactValueOfSaid : Prop := fnExactValueOfRow.holds Try.pinned (OpenSpec.ofChange fnExactValueOfSpec)

/-- ITS FALSE NEIGHBOUR: 'it returns false'. Refute it at one input. -/
def fnExactValueOfWrong : ChangeSpec := { name := "fnExactValueOf", fn := fun _ => fun
  | [d1, d2] => { results := [.lit (.bool false)], args := [d1, d2] }
  | _ => none }
def FnExactValueOfWrongFalsely : Prop := fnExactValueOfRow.holds Try.pinned (OpenSpec.ofChange fnExactValueOfWrong)

/-- 'laws.FnExactIssuedBy': WHATEVER THE INPUT: true; the input reads as it did. -/
def fnExactIssuedBySpec : ChangeSpec := { name := "fnExactIssuedBy", fn := fun _ => fun
  | [d1, d2] => { results := [.lit (.bool true)], args := [d1, d2] }
  | _ => none }
def fnExactIssuedByRow : OpenClaim := { program := "ytilmgpjbampcaaa", sum := "b1a131091c159a53e62ce684a274392448a15c6121e16b11021956114d02e433", func := "loop.example/g01062/laws.FnExactIssuedBy", spec := "fnExactIssuedBy", apart := false }
def FnExactIssuedBySaid : Prop := fnExactIssuedByRow.holds Try.pinned (OpenSpec.ofChange fnExactIssuedBySpec)

/-- ITS FALSE NEIGHBOUR: 'it returns false'. Refute it at one input. -/
def fnExactIssuedByWrong : ChangeSpec := { name := "fnExactIssuedBy", fn := fun _ => fun
  | [d1, d2] => { results := [.lit (.bool false)], args := [d1, d2] }
  | _ => none }
def FnExactIssuedByWrongFalsely : Prop := fnExactIssuedByRow.holds Try.pinned (OpenSpec.ofChange fnExactIssuedByWrong)

/-- 'laws.FnExactCanFrank': WHATEVER THE INPUT: true; the input reads as it did. -/
def fnExactCanFrankSpec : ChangeSpec := { name := "fnExactCanFrank", fn := fun _ => fun
  | [d1, d2] => { results := [.lit (.bool true)], args := [d1, d2] }
  | _ => none }
def fnExactCanFrankRow : OpenClaim := { program := "ytilmgpjbampcaaa", sum := "b1a131091c159a53e62ce684a274392448a15c6121e16b11021956114d02e433", func := "loop.example/g01062/laws.FnExactCanFrank", spec := "fnExactCanFrank", apart := false }
def FnExactCanFrankSaid : Prop := fnExactCanFrankRow.holds Try.pinned (OpenSpec.ofChange fnExactCanFrankSpec)

/-- ITS FALSE NEIGHBOUR: 'it returns false'. Refute it at one input. -/
def fnExactCanFrankWrong : ChangeSpec := { name := "fnExactCanFrank", fn := fun _ => fun
  | [d1, d2] => { results := [.lit (.bool false)], args := [d1, d2] }
  | _ => none }
def FnExactCanFrankWrongFalsely : Prop := fnExactCanFrankRow.holds Try.pinned (OpenSpec.ofChange fnExactCanFrankWrong)

/-- 'laws.FnExactByColor': WHATEVER THE INPUT: true; the input reads as it did. -/
def fnExactByColorSpec : ChangeSpec := { name := "fnExactByColor", fn := fun _ => fun
  | [d] => { results := [.lit (.bool true)], args := [d] }
  | _ => none }
def fnExactByColorRow : OpenClaim := { program := "ytilmgpjbampcaaa", sum := "b1a131091c159a53e62ce684a274392448a15c6121e16b11021956114d02e433", func := "loop.example/g01062/laws.FnExactByColor", spec := "fnExactByColor", apart := false }
def FnExactByColorSaid : Prop := fnExactByColorRow.holds Try.pinned (OpenSpec.ofChange fnExactByColorSpec)

/-- ITS FALSE NEIGHBOUR: 'it returns false'. Refute it at one input. -/
def fnExactByColorWrong : ChangeSpec := { name := "fnExactByColor", fn := fun _ => fun
  | [d] => { results := [.lit (.bool false)], args := [d] }
  | _ => none }
def FnExactByColorWrongFalsely : Prop := fnExactByColorRow.holds Try.pinned (OpenSpec.ofChange fnExactByColorWrong)

/-- 'laws.FnExactFewestStamps': WHATEVER THE INPUT: true; the input reads as it did. -/
def fnExactFewestStampsSpec : ChangeSpec := { name := "fnExactFewestStamps", fn := fun _ => fun
  | [d1, d2, d3] => { results := [.lit (.bool true)], args := [d1, d2, d3] }
  | _ => none }
def fnExactFewestStampsRow : OpenClaim := { program := "ytilmgpjbampcaaa", sum := "b1a131091c159a53e62ce684a274392448a15c6121e16b11021956114d02e433", func := "loop.example/g01062/laws.FnExactFewestStamps", spec := "fnExactFewestStamps", apart := false }
def FnExactFewestStampsSaid : Prop := fnExactFewestStampsRow.holds Try.pinned (OpenSpec.ofChange fnExactFewestStampsSpec)

/-- ITS FALSE NEIGHBOUR: 'it returns false'. Refute it at one input. -/
def fnExactFewestStampsWrong : ChangeSpec := { name := "fnExactFewestStamps", fn := fun _ => fun
  | [d1, d2, d3] => { results := [.lit (.bool false)], args := [d1, d2, d3] }
  | _ => none }
def FnExactFewestStampsWrongFalsely : Prop := fnExactFewestStampsRow.holds Try.pinned (OpenSpec.ofChange fnExactFewestStampsWrong)

/-- 'laws.FnExactLeastOver': WHATEVER THE INPUT: true; the input reads as it did. -/
def fnExactLeastOverSpec : ChangeSpec := { name := "fnExactLeastOver", fn := fun _ => fun
  | [d1, d2, d3] => { results := [.lit (.bool true)], args := [d1, d2, d3] }
  | _ => none }
def fnExactLeastOverRow : OpenClaim := { program := "ytilmgpjbampcaaa", sum := "b1a131091c159a53e62ce684a274392448a15c6121e16b11021956114d02e433", func := "loop.example/g01062/laws.FnExactLeastOver", spec := "fnExactLeastOver", unfollowed := true, recurses := true, apart := false }
def FnExactLeastOverSaid : Prop := fnExactLeastOverRow.holds Try.pinned (OpenSpec.ofChange fnExactLeastOverSpec)

/-- ITS FALSE NEIGHBOUR: 'it returns false'. Refute it at one input. -/
def fnExactLeastOverWrong : ChangeSpec := { name := "fnExactLeastOver", fn := fun _ => fun
  | [d1, d2, d3] => { results := [.lit (.bool false)], args := [d1, d2, d3] }
  | _ => none }
def FnExactLeastOverWrongFalsely : Prop := fnExactLeastOverRow.holds Try.pinned (OpenSpec.ofChange fnExactLeastOverWrong)

/-- 'laws.FnFrankings': WHATEVER THE INPUT: true; the input reads as it did. -/
def fnFrankingsSpec : ChangeSpec := { name := "fnFrankings", fn := fun _ => fun
  | [d] => { results := [.lit (.bool true)], args := [d] }
  | _ => none }
def fnFrankingsRow : OpenClaim := { program := "ytilmgpjbampcaaa", sum := "b1a131091c159a53e62ce684a274392448a15c6121e16b11021956114d02e433", func := "loop.example/g01062/laws.FnFrankings", spec := "fnFrankings", unfollowed := true, recurses := true, apart := false }
def FnFrankingsSaid : Prop := fnFrankingsRow.holds Try.pinned (OpenSpec.ofChange fnFrankingsSpec)

/-- ITS FALSE NEIGHBOUR: 'it returns false'. Refute it at one input. -/
def fnFrankingsWrong : ChangeSpec := { name := "fnFrankings", fn := fun _ => fun
  | [d] => { results := [.lit (.bool false)], args := [d] }
  | _ => none }
def FnFrankingsWrongFalsely : Prop := fnFrankingsRow.holds Try.pinned (OpenSpec.ofChange fnFrankingsWrong)

/- THE SECOND FORM. 'bulk': how many values and letters a reading holds, each counted each time it is reached (what is shared counts as often as it is met; a slice's spare places count too). A statement '..UptoSaid' is the law's where the arguments, and the package variables that the reading takes, are together of bulk at most 1048576: NARROWER than '..Said'. Prove '..Said' where nothing that the law and all that it calls make is longer than what came in: it says more and counts as full. Else prove '..UptoSaid'. A law counts once. -/
mutual
def uptoBulk {H : Type} : DataW H → Nat
  | .lit (.string bytes) => bytes.length + 1
  | .lit _ => 1
  | .nil => 1
  | .ptr d => uptoBulk d + 1
  | .slice elems spare => uptoBulkAll elems + uptoBulkAll spare + 1
  | .agg parts => uptoBulkAll parts + 1
  | .iface _ d => uptoBulk d + 1
  | .map entries => uptoBulkEntries entries + 1
  | .held _ => 1
def uptoBulkAll {H : Type} : List (DataW H) → Nat
  | [] => 0
  | d :: r => uptoBulk d + uptoBulkAll r
def uptoBulkEntries {H : Type} : List (Lit × DataW H) → Nat
  | [] => 0
  | x :: r => uptoBulkEntry x + uptoBulkEntries r
def uptoBulkEntry {H : Type} : Lit × DataW H → Nat
  | (.string bytes, d) => bytes.length + uptoBulk d + 1
  | (_, d) => uptoBulk d + 1
 end
def uptoSmall : (H : Type) → List (DataW H) → Bool := fun _ ds => decide (uptoBulkAll ds ≤ 1048576)
def OpenSpec.upto (s : _root_.Go.ChangeSpec) : _root_.Go.OpenSpec := { _root_.Go.OpenSpec.ofChange s with cond := some uptoSmall }

/-- 'laws.FnExactIsStamp', WHERE WHAT IT READS IS OF BULK AT MOST 1048576: true; the input reads as it did. -/
def fnExactIsStampUptoRow : OpenClaim := { program := "ytilmgpjbampcaaa", sum := "b1a131091c159a53e62ce684a274392448a15c6121e16b11021956114d02e433", func := "loop.example/g01062/laws.FnExactIsStamp", spec := "fnExactIsStamp", apart := false, narrowed := true }
def FnExactIsStampUptoSaid : Prop := fnExactIsStampUptoRow.holds Try.pinned (OpenSpec.upto fnExactIsStampSpec)

/-- 'laws.FnExactAreStamps', WHERE WHAT IT READS IS OF BULK AT MOST 1048576: true; the input reads as it did. -/
def fnExactAreStampsUptoRow : OpenClaim := { program := "ytilmgpjbampcaaa", sum := "b1a131091c159a53e62ce684a274392448a15c6121e16b11021956114d02e433", func := "loop.example/g01062/laws.FnExactAreStamps", spec := "fnExactAreStamps", apart := false, narrowed := true }
def FnExactAreStampsUptoSaid : Prop := fnExactAreStampsUptoRow.holds Try.pinned (OpenSpec.upto fnExactAreStampsSpec)

/-- 'laws.FnExactValueOf', WHERE WHAT IT READS IS OF BULK AT MOST 1048576: true; the input reads as it did. -/
def fnExactValueOfUptoRow : OpenClaim := { program := "ytilmgpjbampcaaa", sum := "b1a131091c159a53e62ce684a274392448a15c6121e16b11021956114d02e433", func := "loop.example/g01062/laws.FnExactValueOf", spec := "fnExactValueOf", apart := false, narrowed := true }
def FnExactValueOfUptoSaid : Prop := fnExactValueOfUptoRow.holds Try.pinned (OpenSpec.upto fnExactValueOfSpec)

/-- 'laws.FnExactIssuedBy', WHERE WHAT IT READS IS OF BULK AT MOST 1048576: true; the input reads as it did. -/
def fnExactIssuedByUptoRow : OpenClaim := { program := "ytilmgpjbampcaaa", sum := "b1a131091c159a53e62ce684a274392448a15c6121e16b11021956114d02e433", func := "loop.example/g01062/laws.FnExactIssuedBy", spec := "fnExactIssuedBy", apart := false, narrowed := true }
def FnExactIssuedByUptoSaid : Prop := fnExactIssuedByUptoRow.holds Try.pinned (OpenSpec.upto fnExactIssuedBySpec)

/-- 'laws.FnExactCanFrank', WHERE WHAT IT READS IS OF BULK AT MOST 1048576: true; the input reads as it did. -/
def fnExactCanFrankUptoRow : OpenClaim := { program := "ytilmgpjbampcaaa", sum := "b1a131091c159a53e62ce684a274392448a15c6121e16b11021956114d02e433", func := "loop.example/g01062/laws.FnExactCanFrank", spec := "fnExactCanFrank", apart := false, narrowed := true }
def FnExactCanFrankUptoSaid : Prop := fnExactCanFrankUptoRow.holds Try.pinned (OpenSpec.upto fnExactCanFrankSpec)

/-- 'laws.FnExactByColor', WHERE WHAT IT READS IS OF BULK AT MOST 1048576: true; the input reads as it did. -/
def fnExactByColorUptoRow : OpenClaim := { program := "ytilmgpjbampcaaa", sum := "b1a131091c159a53e62ce684a274392448a15c6121e16b11021956114d02e433", func := "loop.example/g01062/laws.FnExactByColor", spec := "fnExactByColor", apart := false, narrowed := true }
def FnExactByColorUptoSaid : Prop := fnExactByColorUptoRow.holds Try.pinned (OpenSpec.upto fnExactByColorSpec)

/-- 'laws.FnExactFewestStamps', WHERE WHAT IT READS IS OF BULK AT MOST 1048576: true; the input reads as it did. -/
def fnExactFewestStampsUptoRow : OpenClaim := { program := "ytilmgpjbampcaaa", sum := "b1a131091c159a53e62ce684a274392448a15c6121e16b11021956114d02e433", func := "loop.example/g01062/laws.FnExactFewestStamps", spec := "fnExactFewestStamps", apart := false, narrowed := true }
def FnExactFewestStampsUptoSaid : Prop := fnExactFewestStampsUptoRow.holds Try.pinned (OpenSpec.upto fnExactFewestStampsSpec)

/-- 'laws.FnExactLeastOver', WHERE WHAT IT READS IS OF BULK AT MOST 1048576: true; the input reads as it did. -/
def fnExactLeastOverUptoRow : OpenClaim := { program := "ytilmgpjbampcaaa", sum := "b1a131091c159a53e62ce684a274392448a15c6121e16b11021956114d02e433", func := "loop.example/g01062/laws.FnExactLeastOver", spec := "fnExactLeastOver", unfollowed := true, recurses := true, apart := false, narrowed := true }
def FnExactLeastOverUptoSaid : Prop := fnExactLeastOverUptoRow.holds Try.pinned (OpenSpec.upto fnExactLeastOverSpec)

/-- 'laws.FnFrankings', WHERE WHAT IT READS IS OF BULK AT MOST 1048576: true; the input reads as it did. -/
def fnFrankingsUptoRow : OpenClaim := { program := "ytilmgpjbampcaaa", sum := "b1a131091c159a53e62ce684a274392448a15c6121e16b11021956114d02e433", func := "loop.example/g01062/laws.FnFrankings", spec := "fnFrankings", unfollowed := true, recurses := true, apart := false, narrowed := true }
def FnFrankingsUptoSaid : Prop := fnFrankingsUptoRow.holds Try.pinned (OpenSpec.upto fnFrankingsSpec)

end Rows
end Go.Proofs.Ytilmgpjbampcaaa
