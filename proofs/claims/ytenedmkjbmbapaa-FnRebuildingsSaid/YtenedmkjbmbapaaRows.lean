/-
  No cell of these rows narrows 'for every input' (looked for: loops, veiled, ifaces, maps, wideKeys, modest, calm, conditions, laid).
  DERIVED. THE GIVEN ROWS OF THIS SEAT. 5 by the template 'for every input the law returns true; each argument reads behind the call as it read before'; 0 by the template 'total and deterministic' (their statements: YtenedmkjbmbapaaTotals.lean).
  GIVEN WITH THE SEED: the statements are not yours to turn. If you find one false, say at which input.
  Laid BY PROGRAM, IN A SANDBOX (cutbox-rows.mjs): the forced cells as the released guide's own fill.sh prints them over the translation 758fbaf7498555fc… (all of the seat's roots in one cut). By AI agents, Wed Nov 11 2026. No macro, syntax, notation, axiom, sorry.
-/
import Derived.Test.YtenedmkjbmbapaaChecked
import GoSem.Claim
import GoSem.ClaimJoined
import GoSem.ClaimMapViews
import Derived.JoinedTies
import Derived.KernelRfl
namespace Go.Proofs.Ytenedmkjbmbapaa
/- THE CELL 'sum', in the pinned program and in every row, IS THE sha256 OF THE DUMP (.gsa) THAT YtenedmkjbmbapaaProg.lean LOADS. Nothing in Lean hashes anything: it is a label: what it is worth is what the hold of that sum in a sandbox is worth. -/
noncomputable def Try.pinned : Pinned := { name := "ytenedmkjbmbapaa", sum := "758fbaf7498555fce54550ef6adb04c79abbe49bff5d11e375b7017dc7b55e44", checked := Try.checked }
namespace Rows
def none {H : Type} : Left H := { results := [], args := [] }

/-- 'laws.FnExactCountRebuildings': WHATEVER THE INPUT: true; the input reads as it did. -/
def fnExactCountRebuildingsSpec : ChangeSpec := { name := "fnExactCountRebuildings", fn := fun _ => fun
  | [d1, d2, d3, d4] => { results := [.lit (.bool true)], args := [d1, d2, d3, d4] }
  | _ => none }
def fnExactCountRebuildingsRow : OpenClaim := { program := "ytenedmkjbmbapaa", sum := "758fbaf7498555fce54550ef6adb04c79abbe49bff5d11e375b7017dc7b55e44", func := "loop.example/g01062/laws.FnExactCountRebuildings", spec := "fnExactCountRebuildings", inPlace := ["internal/abi.NoEscape", "internal/bytealg.MakeNoZero"], unfollowed := true, recurses := true, apart := false }
def FnExactCountRebuildingsSaid : Prop := fnExactCountRebuildingsRow.holds Try.pinned (OpenSpec.ofChange fnExactCountRebuildingsSpec)

/-- ITS FALSE NEIGHBOUR: 'it returns false'. Refute it at one input. -/
def fnExactCountRebuildingsWrong : ChangeSpec := { name := "fnExactCountRebuildings", fn := fun _ => fun
  | [d1, d2, d3, d4] => { results := [.lit (.bool false)], args := [d1, d2, d3, d4] }
  | _ => none }
def FnExactCountRebuildingsWrongFalsely : Prop := fnExactCountRebuildingsRow.holds Try.pinned (OpenSpec.ofChange fnExactCountRebuildingsWrong)

/-- 'laws.FnExactFirstRebuilding': WHATEVER THE INPUT: true; the input reads as it did. -/
def fnExactFirstRebuildingSpec : ChangeSpec := { name := "fnExactFirstRebuilding", fn := fun _ => fun
  | [d1, d2, d3] => { results := [.lit (.bool true)], args := [d1, d2, d3] }
  | _ => none }
def fnExactFirstRebuildingRow : OpenClaim := { program := "ytenedmkjbmbapaa", sum := "758fbaf7498555fce54550ef6adb04c79abbe49bff5d11e375b7017dc7b55e44", func := "loop.example/g01062/laws.FnExactFirstRebuilding", spec := "fnExactFirstRebuilding", inPlace := ["internal/abi.NoEscape", "internal/bytealg.MakeNoZero"], unfollowed := true, recurses := true, apart := false }
def FnExactFirstRebuildingSaid : Prop := fnExactFirstRebuildingRow.holds Try.pinned (OpenSpec.ofChange fnExactFirstRebuildingSpec)

/-- ITS FALSE NEIGHBOUR: 'it returns false'. Refute it at one input. -/
def fnExactFirstRebuildingWrong : ChangeSpec := { name := "fnExactFirstRebuilding", fn := fun _ => fun
  | [d1, d2, d3] => { results := [.lit (.bool false)], args := [d1, d2, d3] }
  | _ => none }
def FnExactFirstRebuildingWrongFalsely : Prop := fnExactFirstRebuildingRow.holds Try.pinned (OpenSpec.ofChange fnExactFirstRebuildingWrong)

/-- 'laws.FnExactFullestRebuilding': WHATEVER THE INPUT: true; the input reads as it did. -/
def fnExactFullestRebuildingSpec : ChangeSpec := { name := "fnExactFullestRebuilding", fn := fun _ => fun
  | [d1, d2, d3] => { results := [.lit (.bool true)], args := [d1, d2, d3] }
  | _ => none }
def fnExactFullestRebuildingRow : OpenClaim := { program := "ytenedmkjbmbapaa", sum := "758fbaf7498555fce54550ef6adb04c79abbe49bff5d11e375b7017dc7b55e44", func := "loop.example/g01062/laws.FnExactFullestRebuilding", spec := "fnExactFullestRebuilding", inPlace := ["internal/abi.NoEscape", "internal/bytealg.MakeNoZero", "internal/bytealg.CountString", "internal/bytealg.IndexByteString", "internal/bytealg.IndexString"], unfollowed := true, recurses := true, named := ["internal/bytealg.MaxLen"], apart := false }
def FnExactFullestRebuildingSaid : Prop := fnExactFullestRebuildingRow.holds Try.pinned (OpenSpec.ofChange fnExactFullestRebuildingSpec)

/-- ITS FALSE NEIGHBOUR: 'it returns false'. Refute it at one input. -/
def fnExactFullestRebuildingWrong : ChangeSpec := { name := "fnExactFullestRebuilding", fn := fun _ => fun
  | [d1, d2, d3] => { results := [.lit (.bool false)], args := [d1, d2, d3] }
  | _ => none }
def FnExactFullestRebuildingWrongFalsely : Prop := fnExactFullestRebuildingRow.holds Try.pinned (OpenSpec.ofChange fnExactFullestRebuildingWrong)

/-- 'laws.FnBlocks': WHATEVER THE INPUT: true; the input reads as it did. -/
def fnBlocksSpec : ChangeSpec := { name := "fnBlocks", fn := fun _ => fun
  | [d] => { results := [.lit (.bool true)], args := [d] }
  | _ => none }
def fnBlocksRow : OpenClaim := { program := "ytenedmkjbmbapaa", sum := "758fbaf7498555fce54550ef6adb04c79abbe49bff5d11e375b7017dc7b55e44", func := "loop.example/g01062/laws.FnBlocks", spec := "fnBlocks", inPlace := ["internal/abi.NoEscape", "internal/bytealg.MakeNoZero", "internal/bytealg.CountString", "internal/bytealg.IndexByteString", "internal/bytealg.IndexString"], named := ["internal/bytealg.MaxLen"], apart := false }
def FnBlocksSaid : Prop := fnBlocksRow.holds Try.pinned (OpenSpec.ofChange fnBlocksSpec)

/-- ITS FALSE NEIGHBOUR: 'it returns false'. Refute it at one input. -/
def fnBlocksWrong : ChangeSpec := { name := "fnBlocks", fn := fun _ => fun
  | [d] => { results := [.lit (.bool false)], args := [d] }
  | _ => none }
def FnBlocksWrongFalsely : Prop := fnBlocksRow.holds Try.pinned (OpenSpec.ofChange fnBlocksWrong)

/-- 'laws.FnRebuildings': WHATEVER THE INPUT: true; the input reads as it did. -/
def fnRebuildingsSpec : ChangeSpec := { name := "fnRebuildings", fn := fun _ => fun
  | [d] => { results := [.lit (.bool true)], args := [d] }
  | _ => none }
def fnRebuildingsRow : OpenClaim := { program := "ytenedmkjbmbapaa", sum := "758fbaf7498555fce54550ef6adb04c79abbe49bff5d11e375b7017dc7b55e44", func := "loop.example/g01062/laws.FnRebuildings", spec := "fnRebuildings", inPlace := ["internal/abi.NoEscape", "internal/bytealg.MakeNoZero", "internal/bytealg.CountString", "internal/bytealg.IndexByteString", "internal/bytealg.IndexString"], unfollowed := true, recurses := true, named := ["internal/bytealg.MaxLen"], apart := false }
def FnRebuildingsSaid : Prop := fnRebuildingsRow.holds Try.pinned (OpenSpec.ofChange fnRebuildingsSpec)

/-- ITS FALSE NEIGHBOUR: 'it returns false'. Refute it at one input. -/
def fnRebuildingsWrong : ChangeSpec := { name := "fnRebuildings", fn := fun _ => fun
  | [d] => { results := [.lit (.bool false)], args := [d] }
  | _ => none }
def FnRebuildingsWrongFalsely : Prop := fnRebuildingsRow.holds Try.pinned (OpenSpec.ofChange fnRebuildingsWrong)

/- THE SECOND FORM. 'bulk': how many values and letters a reading holds, each counted each time it is reached (what is shared counts as often as it is met; a slice's spare places count too). A statement '..UptoSaid' is the law's where the arguments, and the package variables that the reading takes, are together of bulk at most 1048576: NARROWER than '..Said'. Prove '..Said' where nothing that the law and all that it calls make is longer than what came in: it says more and counts as full. Else prove '..UptoSaid'. A law counts once. -/
mutual
def uptoBulk {H : Type} : DataW H → Nat
  | .lit (.string bytes) => bytes.length + 1
  | .lit _ => 1
  | .nil => 1
  | .ptr d => uptoBulk d + 1
  | .slice elems spare => uptoBulkAll elems + uptoBulkAll spare + 1
  | .agg parts => uptoBulkAll parts + 1
  | .iface _ d => uptoBulk d + 1
  | .map entries => uptoBulkEntries entries + 1
  | .held _ => 1
def uptoBulkAll {H : Type} : List (DataW H) → Nat
  | [] => 0
  | d :: r => uptoBulk d + uptoBulkAll r
def uptoBulkEntries {H : Type} : List (Lit × DataW H) → Nat
  | [] => 0
  | x :: r => uptoBulkEntry x + uptoBulkEntries r
def uptoBulkEntry {H : Type} : Lit × DataW H → Nat
  | (.string bytes, d) => bytes.length + uptoBulk d + 1
  | (_, d) => uptoBulk d + 1
 end
def uptoSmall : (H : Type) → List (DataW H) → Bool := fun _ ds => decide (uptoBulkAll ds ≤ 1048576)
def OpenSpec.upto (s : _root_.Go.ChangeSpec) : _root_.Go.OpenSpec := { _root_.Go.OpenSpec.ofChange s with cond := some uptoSmall }

/-- 'laws.FnExactCountRebuildings', WHERE WHAT IT READS IS OF BULK AT MOST 1048576: true; the input reads as it did. -/
def fnExactCountRebuildingsUptoRow : OpenClaim := { program := "ytenedmkjbmbapaa", sum := "758fbaf7498555fce54550ef6adb04c79abbe49bff5d11e375b7017dc7b55e44", func := "loop.example/g01062/laws.FnExactCountRebuildings", spec := "fnExactCountRebuildings", inPlace := ["internal/abi.NoEscape", "internal/bytealg.MakeNoZero"], unfollowed := true, recurses := true, apart := false, narrowed := true }
def FnExactCountRebuildingsUptoSaid : Prop := fnExactCountRebuildingsUptoRow.holds Try.pinned (OpenSpec.upto fnExactCountRebuildingsSpec)

/-- 'laws.FnExactFirstRebuilding', WHERE WHAT IT READS IS OF BULK AT MOST 1048576: true; the input reads as it did. -/
def fnExactFirstRebuildingUptoRow : OpenClaim := { program := "ytenedmkjbmbapaa", sum := "758fbaf7498555fce54550ef6adb04c79abbe49bff5d11e375b7017dc7b55e44", func := "loop.example/g01062/laws.FnExactFirstRebuilding", spec := "fnExactFirstRebuilding", inPlace := ["internal/abi.NoEscape", "internal/bytealg.MakeNoZero"], unfollowed := true, recurses := true, apart := false, narrowed := true }
def FnExactFirstRebuildingUptoSaid : Prop := fnExactFirstRebuildingUptoRow.holds Try.pinned (OpenSpec.upto fnExactFirstRebuildingSpec)

/-- 'laws.FnExactFullestRebuilding', WHERE WHAT IT READS IS OF BULK AT MOST 1048576: true; the input reads as it did. -/
def fnExactFullestRebuildingUptoRow : OpenClaim := { program := "ytenedmkjbmbapaa", sum := "758fbaf7498555fce54550ef6adb04c79abbe49bff5d11e375b7017dc7b55e44", func := "loop.example/g01062/laws.FnExactFullestRebuilding", spec := "fnExactFullestRebuilding", inPlace := ["internal/abi.NoEscape", "internal/bytealg.MakeNoZero", "internal/bytealg.CountString", "internal/bytealg.IndexByteString", "internal/bytealg.IndexString"], unfollowed := true, recurses := true, named := ["internal/bytealg.MaxLen"], apart := false, narrowed := true }
def FnExactFullestRebuildingUptoSaid : Prop := fnExactFullestRebuildingUptoRow.holds Try.pinned (OpenSpec.upto fnExactFullestRebuildingSpec)

/-- 'laws.FnBlocks', WHERE WHAT IT READS IS OF BULK AT MOST 1048576: true; the input reads as it did. -/
def fnBlocksUptoRow : OpenClaim := { program := "ytenedmkjbmbapaa", sum := "758fbaf7498555fce54550ef6adb04c79abbe49bff5d11e375b7017dc7b55e44", func := "loop.example/g01062/laws.FnBlocks", spec := "fnBlocks", inPlace := ["internal/abi.NoEscape", "internal/bytealg.MakeNoZero", "internal/bytealg.CountString", "internal/bytealg.IndexByteString", "internal/bytealg.IndexString"], named := ["internal/bytealg.MaxLen"], apart := false, narrowed := true }
def FnBlocksUptoSaid : Prop := fnBlocksUptoRow.holds Try.pinned (OpenSpec.upto fnBlocksSpec)

/-- 'laws.FnRebuildings', WHERE WHAT IT READS IS OF BULK AT MOST 1048576: true; the input reads as it did. -/
def fnRebuildingsUptoRow : OpenClaim := { program := "ytenedmkjbmbapaa", sum := "758fbaf7498555fce54550ef6adb04c79abbe49bff5d11e375b7017dc7b55e44", func := "loop.example/g01062/laws.FnRebuildings", spec := "fnRebuildings", inPlace := ["internal/abi.NoEscape", "internal/bytealg.MakeNoZero", "internal/bytealg.CountString", "internal/bytealg.IndexByteString", "internal/bytealg.IndexString"], unfollowed := true, recurses := true, named := ["internal/bytealg.MaxLen"], apart := false, narrowed := true }
def FnRebuildingsUptoSaid : Prop := fnRebuildingsUptoRow.holds Try.pinned (OpenSpec.upto fnRebuildingsSpec)

end Rows
end Go.Proofs.Ytenedmkjbmbapaa
