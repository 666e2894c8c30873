/-
  DERIVED. GIVEN WITH THE SEED: THE CARDS: each row of YtjhikmeoeakfiaaDoorRows.lean that lists a variable, with what it lists TIED to the program's text (the seventh form; the later family's looks); each row that meets fmt, with fmt's text TOLD by the authors' own Lean function (tested against real Go, not proved from fmt's source: count such statements apart). THE CARD IS WHAT COUNTS. Prove the row's statement (the work); the ties are given (YtjhikmeoeakfiaaDoorTie.lean); close each card by the builder's one call (the guide's Derived/Test/ToyasCard.lean, 'card_holds'). Laid BY PROGRAM, IN A SANDBOX (cutbox-door.mjs). By AI agents, Wed Nov 11 2026. No macro, syntax, notation, axiom, sorry.
-/
import Derived.Test.YtjhikmeoeakfiaaDoorRows
import GoSem.ClaimSeven
namespace Go.Proofs.YtjhikmeoeakfiaaDoor
namespace Rows

/-- THE TIED CARD OF 'laws.FnExactFaceText'. -/
def fnExactFaceTextCard : Claim7 := { stood := { row := fnExactFaceTextRow, standIns := [], harness := (true, "7642e9feac263c519b72da468ab54b4e41f89c44fe4fc1b7e6e9f095bb673d93"), looks := true }, kinds := [], alts := [], laidByText := true, laidKinds := [.data, .data, .data], laidTests := true, laidLooks := .later }
def FnExactFaceTextCardSaid : Prop := Claim7.holds Tryd.pinned (.plain (OpenSpec.ofChange fnExactFaceTextSpec)) fnExactFaceTextCard

/-- THE TIED CARD OF 'laws.FnExactStampText'. -/
def fnExactStampTextCard : Claim7 := { stood := { row := fnExactStampTextRow, standIns := [], harness := (true, "7642e9feac263c519b72da468ab54b4e41f89c44fe4fc1b7e6e9f095bb673d93"), looks := true }, kinds := [], alts := [], laidByText := true, laidKinds := [.data, .data, .data], laidTests := true, laidLooks := .later }
def FnExactStampTextCardSaid : Prop := Claim7.holds Tryd.pinned (.plain (OpenSpec.ofChange fnExactStampTextSpec)) fnExactStampTextCard

/-- THE TIED CARD OF 'laws.FnExactParseStamp'. -/
def fnExactParseStampCard : Claim7 := { stood := { row := fnExactParseStampRow, standIns := [], harness := (true, "7642e9feac263c519b72da468ab54b4e41f89c44fe4fc1b7e6e9f095bb673d93"), looks := true }, kinds := [], alts := [], laidByText := true, laidKinds := [.data, .data, .data, .data, .sentinel, .sentinel, .pinned], laidTests := true, laidLooks := .later }
def FnExactParseStampCardSaid : Prop := Claim7.holds Tryd.pinned (.plain (OpenSpec.ofChange fnExactParseStampSpec)) fnExactParseStampCard

/-- THE SECOND FORM's CARD OF 'laws.FnExactFaceText'. -/
def fnExactFaceTextUptoCard : Claim7 := { stood := { row := fnExactFaceTextUptoRow, standIns := [], harness := (true, "7642e9feac263c519b72da468ab54b4e41f89c44fe4fc1b7e6e9f095bb673d93"), looks := true }, kinds := [], alts := [], laidByText := true, laidKinds := [.data, .data, .data], laidTests := true, laidLooks := .later }
def FnExactFaceTextUptoCardSaid : Prop := Claim7.holds Tryd.pinned (.plain (OpenSpec.upto fnExactFaceTextSpec)) fnExactFaceTextUptoCard

/-- THE SECOND FORM's CARD OF 'laws.FnExactStampText'. -/
def fnExactStampTextUptoCard : Claim7 := { stood := { row := fnExactStampTextUptoRow, standIns := [], harness := (true, "7642e9feac263c519b72da468ab54b4e41f89c44fe4fc1b7e6e9f095bb673d93"), looks := true }, kinds := [], alts := [], laidByText := true, laidKinds := [.data, .data, .data], laidTests := true, laidLooks := .later }
def FnExactStampTextUptoCardSaid : Prop := Claim7.holds Tryd.pinned (.plain (OpenSpec.upto fnExactStampTextSpec)) fnExactStampTextUptoCard

/-- THE SECOND FORM's CARD OF 'laws.FnExactParseStamp'. -/
def fnExactParseStampUptoCard : Claim7 := { stood := { row := fnExactParseStampUptoRow, standIns := [], harness := (true, "7642e9feac263c519b72da468ab54b4e41f89c44fe4fc1b7e6e9f095bb673d93"), looks := true }, kinds := [], alts := [], laidByText := true, laidKinds := [.data, .data, .data, .data, .sentinel, .sentinel, .pinned], laidTests := true, laidLooks := .later }
def FnExactParseStampUptoCardSaid : Prop := Claim7.holds Tryd.pinned (.plain (OpenSpec.upto fnExactParseStampSpec)) fnExactParseStampUptoCard
end Rows
end Go.Proofs.YtjhikmeoeakfiaaDoor
