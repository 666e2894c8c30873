/-
  No cell of these rows narrows 'for every input' (looked for: loops, veiled, ifaces, maps, wideKeys, modest, calm, conditions, laid).
  DERIVED. THE GIVEN ROWS OF THIS SEAT. 2 by the template 'for every input the law returns true; each argument reads behind the call as it read before'; 0 by the template 'total and deterministic' (their statements: YtidiecffahaojaaTotals.lean).
  GIVEN WITH THE SEED: the statements are not yours to turn. If you find one false, say at which input.
  Laid BY PROGRAM, IN A SANDBOX (cutbox-rows.mjs): the forced cells as the released guide's own fill.sh prints them over the translation 443caf92ab6026df… (all of the seat's roots in one cut). By AI agents, Wed Nov 11 2026. No macro, syntax, notation, axiom, sorry.
-/
import Derived.Test.YtidiecffahaojaaChecked
import GoSem.Claim
import GoSem.ClaimJoined
import GoSem.ClaimMapViews
import Derived.JoinedTies
import Derived.KernelRfl
namespace Go.Proofs.Ytidiecffahaojaa
/- THE CELL 'sum', in the pinned program and in every row, IS THE sha256 OF THE DUMP (.gsa) THAT YtidiecffahaojaaProg.lean LOADS. Nothing in Lean hashes anything: it is a label: what it is worth is what the hold of that sum in a sandbox is worth. -/
noncomputable def Try.pinned : Pinned := { name := "ytidiecffahaojaa", sum := "443caf92ab6026df8e7b46fa77d2128066a824a9331898cf6fd1a8cd1de24c8a", checked := Try.checked }
namespace Rows
def none {H : Type} : Left H := { results := [], args := [] }

/-- 'laws.FnExactSameGauges': WHATEVER THE INPUT: true; the input reads as it did. -/
def fnExactSameGaugesSpec : ChangeSpec := { name := "fnExactSameGauges", fn := fun _ => fun
  | [d] => { results := [.lit (.bool true)], args := [d] }
  | _ => none }
def fnExactSameGaugesRow : OpenClaim := { program := "ytidiecffahaojaa", sum := "443caf92ab6026df8e7b46fa77d2128066a824a9331898cf6fd1a8cd1de24c8a", func := "loop.example/g01062/laws.FnExactSameGauges", spec := "fnExactSameGauges", unfollowed := true, recurses := true, apart := false }
def FnExactSameGaugesSaid : Prop := fnExactSameGaugesRow.holds Try.pinned (OpenSpec.ofChange fnExactSameGaugesSpec)

/-- ITS FALSE NEIGHBOUR: 'it returns false'. Refute it at one input. -/
def fnExactSameGaugesWrong : ChangeSpec := { name := "fnExactSameGauges", fn := fun _ => fun
  | [d] => { results := [.lit (.bool false)], args := [d] }
  | _ => none }
def FnExactSameGaugesWrongFalsely : Prop := fnExactSameGaugesRow.holds Try.pinned (OpenSpec.ofChange fnExactSameGaugesWrong)

/-- 'laws.FnTeeth': WHATEVER THE INPUT: true; the input reads as it did. -/
def fnTeethSpec : ChangeSpec := { name := "fnTeeth", fn := fun _ => fun
  | [d] => { results := [.lit (.bool true)], args := [d] }
  | _ => none }
def fnTeethRow : OpenClaim := { program := "ytidiecffahaojaa", sum := "443caf92ab6026df8e7b46fa77d2128066a824a9331898cf6fd1a8cd1de24c8a", func := "loop.example/g01062/laws.FnTeeth", spec := "fnTeeth", apart := false }
def FnTeethSaid : Prop := fnTeethRow.holds Try.pinned (OpenSpec.ofChange fnTeethSpec)

/-- ITS FALSE NEIGHBOUR: 'it returns false'. Refute it at one input. -/
def fnTeethWrong : ChangeSpec := { name := "fnTeeth", fn := fun _ => fun
  | [d] => { results := [.lit (.bool false)], args := [d] }
  | _ => none }
def FnTeethWrongFalsely : Prop := fnTeethRow.holds Try.pinned (OpenSpec.ofChange fnTeethWrong)

/- THE SECOND FORM. 'bulk': how many values and letters a reading holds, each counted each time it is reached (what is shared counts as often as it is met; a slice's spare places count too). A statement '..UptoSaid' is the law's where the arguments, and the package variables that the reading takes, are together of bulk at most 1048576: NARROWER than '..Said'. Prove '..Said' where nothing that the law and all that it calls make is longer than what came in: it says more and counts as full. Else prove '..UptoSaid'. A law counts once. -/
mutual
def uptoBulk {H : Type} : DataW H → Nat
  | .lit (.string bytes) => bytes.length + 1
  | .lit _ => 1
  | .nil => 1
  | .ptr d => uptoBulk d + 1
  | .slice elems spare => uptoBulkAll elems + uptoBulkAll spare + 1
  | .agg parts => uptoBulkAll parts + 1
  | .iface _ d => uptoBulk d + 1
  | .map entries => uptoBulkEntries entries + 1
  | .held _ => 1
def uptoBulkAll {H : Type} : List (DataW H) → Nat
  | [] => 0
  | d :: r => uptoBulk d + uptoBulkAll r
def uptoBulkEntries {H : Type} : List (Lit × DataW H) → Nat
  | [] => 0
  | x :: r => uptoBulkEntry x + uptoBulkEntries r
def uptoBulkEntry {H : Type} : Lit × DataW H → Nat
  | (.string bytes, d) => bytes.length + uptoBulk d + 1
  | (_, d) => uptoBulk d + 1
 end
def uptoSmall : (H : Type) → List (DataW H) → Bool := fun _ ds => decide (uptoBulkAll ds ≤ 1048576)
def OpenSpec.upto (s : _root_.Go.ChangeSpec) : _root_.Go.OpenSpec := { _root_.Go.OpenSpec.ofChange s with cond := some uptoSmall }

/-- 'laws.FnExactSameGauges', WHERE WHAT IT READS IS OF BULK AT MOST 1048576: true; the input reads as it did. -/
def fnExactSameGaugesUptoRow : OpenClaim := { program := "ytidiecffahaojaa", sum := "443caf92ab6026df8e7b46fa77d2128066a824a9331898cf6fd1a8cd1de24c8a", func := "loop.example/g01062/laws.FnExactSameGauges", spec := "fnExactSameGauges", unfollowed := true, recurses := true, apart := false, narrowed := true }
def FnExactSameGaugesUptoSaid : Prop := fnExactSameGaugesUptoRow.holds Try.pinned (OpenSpec.upto fnExactSameGaugesSpec)

/-- 'laws.FnTeeth', WHERE WHAT IT READS IS OF BULK AT MOST 1048576: true; the input reads as it did. -/
def fnTeethUptoRow : OpenClaim := { program := "ytidiecffahaojaa", sum := "443caf92ab6026df8e7b46fa77d2128066a824a9331898cf6fd1a8cd1de24c8a", func := "loop.example/g01062/laws.FnTeeth", spec := "fnTeeth", apart := false, narrowed := true }
def FnTeethUptoSaid : Prop := fnTeethUptoRow.holds Try.pinned (OpenSpec.upto fnTeethSpec)

end Rows
end Go.Proofs.Ytidiecffahaojaa
