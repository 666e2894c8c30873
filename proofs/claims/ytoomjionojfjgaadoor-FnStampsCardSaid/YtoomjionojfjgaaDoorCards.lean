/-
  DERIVED. GIVEN WITH THE SEED: THE CARDS: each row of YtoomjionojfjgaaDoorRows.lean that lists a variable, with what it lists TIED to the program's text (the seventh form; the later family's looks); each row that meets fmt, with fmt's text TOLD by the authors' own Lean function (tested against real Go, not proved from fmt's source: count such statements apart). THE CARD IS WHAT COUNTS. Prove the row's statement (the work); the ties are given (YtoomjionojfjgaaDoorTie.lean); close each card by the builder's one call (the guide's Derived/Test/ToyasCard.lean, 'card_holds'). Laid BY PROGRAM, IN A SANDBOX (cutbox-door.mjs). By AI agents, Wed Nov 11 2026. No macro, syntax, notation, axiom, sorry.
-/
import Derived.Test.YtoomjionojfjgaaDoorRows
import GoSem.ClaimSeven
namespace Go.Proofs.YtoomjionojfjgaaDoor
namespace Rows

/-- THE TIED CARD OF 'laws.FnStamps'. -/
def fnStampsCard : Claim7 := { stood := { row := fnStampsRow, standIns := [], harness := (true, "b1fd3768cf3a58de6f79bb936507e8f191f4f6a85212fb36dfa0673c577b1ba4"), looks := true }, kinds := [], alts := [], laidByText := true, laidKinds := [.data, .data, .data, .data, .sentinel, .sentinel, .pinned], laidTests := true, laidLooks := .later }
def FnStampsCardSaid : Prop := Claim7.holds Tryd.pinned (.plain (OpenSpec.ofChange fnStampsSpec)) fnStampsCard

/-- THE SECOND FORM's CARD OF 'laws.FnStamps'. -/
def fnStampsUptoCard : Claim7 := { stood := { row := fnStampsUptoRow, standIns := [], harness := (true, "b1fd3768cf3a58de6f79bb936507e8f191f4f6a85212fb36dfa0673c577b1ba4"), looks := true }, kinds := [], alts := [], laidByText := true, laidKinds := [.data, .data, .data, .data, .sentinel, .sentinel, .pinned], laidTests := true, laidLooks := .later }
def FnStampsUptoCardSaid : Prop := Claim7.holds Tryd.pinned (.plain (OpenSpec.upto fnStampsSpec)) fnStampsUptoCard
end Rows
end Go.Proofs.YtoomjionojfjgaaDoor
