/-
  DERIVED. GIVEN WITH THE SEED: THE CARDS: each row of YtmnjjbeapbnccaaDoorRows.lean that lists a variable, with what it lists TIED to the program's text (the seventh form; the later family's looks); each row that meets fmt, with fmt's text TOLD by the authors' own Lean function (tested against real Go, not proved from fmt's source: count such statements apart). THE CARD IS WHAT COUNTS. Prove the row's statement (the work); the ties are given (YtmnjjbeapbnccaaDoorTie.lean); close each card by the builder's one call (the guide's Derived/Test/ToyasCard.lean, 'card_holds'). Laid BY PROGRAM, IN A SANDBOX (cutbox-door.mjs). By AI agents, Wed Nov 11 2026. No macro, syntax, notation, axiom, sorry.
-/
import Derived.Test.YtmnjjbeapbnccaaDoorRows
import GoSem.ClaimSeven
namespace Go.Proofs.YtmnjjbeapbnccaaDoor
namespace Rows

/-- THE TIED CARD OF 'laws.FnExactPaperText'. -/
def fnExactPaperTextCard : Claim7 := { stood := { row := fnExactPaperTextRow, standIns := [], harness := (true, "025ac55da434cb242da31141c5eec3df26324e61ac546a04b5b1f1f1688c1bcb"), looks := true }, kinds := [], alts := [], laidByText := true, laidKinds := [.data, .data, .data], laidTests := true, laidLooks := .later }
def FnExactPaperTextCardSaid : Prop := Claim7.holds Tryd.pinned (.plain (OpenSpec.ofChange fnExactPaperTextSpec)) fnExactPaperTextCard

/-- THE TIED CARD OF 'laws.FnExactParsePaper'. -/
def fnExactParsePaperCard : Claim7 := { stood := { row := fnExactParsePaperRow, standIns := [], harness := (true, "025ac55da434cb242da31141c5eec3df26324e61ac546a04b5b1f1f1688c1bcb"), looks := true }, kinds := [], alts := [], laidByText := true, laidKinds := [.data, .data, .data, .data, .sentinel, .sentinel, .pinned], laidTests := true, laidLooks := .later }
def FnExactParsePaperCardSaid : Prop := Claim7.holds Tryd.pinned (.plain (OpenSpec.ofChange fnExactParsePaperSpec)) fnExactParsePaperCard

/-- THE SECOND FORM's CARD OF 'laws.FnExactPaperText'. -/
def fnExactPaperTextUptoCard : Claim7 := { stood := { row := fnExactPaperTextUptoRow, standIns := [], harness := (true, "025ac55da434cb242da31141c5eec3df26324e61ac546a04b5b1f1f1688c1bcb"), looks := true }, kinds := [], alts := [], laidByText := true, laidKinds := [.data, .data, .data], laidTests := true, laidLooks := .later }
def FnExactPaperTextUptoCardSaid : Prop := Claim7.holds Tryd.pinned (.plain (OpenSpec.upto fnExactPaperTextSpec)) fnExactPaperTextUptoCard

/-- THE SECOND FORM's CARD OF 'laws.FnExactParsePaper'. -/
def fnExactParsePaperUptoCard : Claim7 := { stood := { row := fnExactParsePaperUptoRow, standIns := [], harness := (true, "025ac55da434cb242da31141c5eec3df26324e61ac546a04b5b1f1f1688c1bcb"), looks := true }, kinds := [], alts := [], laidByText := true, laidKinds := [.data, .data, .data, .data, .sentinel, .sentinel, .pinned], laidTests := true, laidLooks := .later }
def FnExactParsePaperUptoCardSaid : Prop := Claim7.holds Tryd.pinned (.plain (OpenSpec.upto fnExactParsePaperSpec)) fnExactParsePaperUptoCard
end Rows
end Go.Proofs.YtmnjjbeapbnccaaDoor
