/-
  DERIVED. GIVEN WITH THE SEED: THE CARDS: each row of YtjldgcpmdcoejaaGreatDoorRows.lean that lists a variable, with what it lists TIED to the program's text (the seventh form; the later family's looks); each row that meets fmt, with fmt's text TOLD by the authors' own Lean function (tested against real Go, not proved from fmt's source: count such statements apart). THE CARD IS WHAT COUNTS. Prove the row's statement (the work); the ties are given (YtjldgcpmdcoejaaGreatDoorTie.lean); close each card by the builder's one call (the guide's Derived/Test/ToyasCard.lean, 'card_holds'). Laid BY PROGRAM, IN A SANDBOX (cutbox-door.mjs). By AI agents, Wed Nov 11 2026. No macro, syntax, notation, axiom, sorry.
-/
import Derived.Test.YtjldgcpmdcoejaaGreatDoorRows
import GoSem.ClaimSeven
namespace Go.Proofs.YtjldgcpmdcoejaaGreatDoor
namespace Rows

/-- THE TIED CARD OF 'vernacularlaw19.MessagePrints'. -/
def messagePrintsCard : Claim7 := { stood := { row := messagePrintsRow, standIns := [], harness := (true, "c7c71943f6d3fa340871856fc409aacfd072a497f1d31ebeed0f9bfe0915414f"), looks := true }, kinds := [], alts := [], laidByText := true, laidKinds := [.data, .data, .data, .data, .sentinel, .sentinel, .listed, .data, .pinned], laidTests := true, laidLooks := .later }
def MessagePrintsCardSaid : Prop := Claim7.holds Tryz.pinned (.plain (OpenSpec.ofChange messagePrintsSpec)) messagePrintsCard

/-- THE TIED CARD OF 'vernacularlaw19.MessagePlain'. -/
def messagePlainCard : Claim7 := { stood := { row := messagePlainRow, standIns := [], harness := (true, "c7c71943f6d3fa340871856fc409aacfd072a497f1d31ebeed0f9bfe0915414f"), looks := true }, kinds := [], alts := [], laidByText := true, laidKinds := [.data, .data, .data, .data, .sentinel, .sentinel, .listed, .data, .pinned], laidTests := true, laidLooks := .later }
def MessagePlainCardSaid : Prop := Claim7.holds Tryz.pinned (.plain (OpenSpec.ofChange messagePlainSpec)) messagePlainCard

/-- THE TIED CARD OF 'vernacularlaw19.MessageBack'. -/
def messageBackCard : Claim7 := { stood := { row := messageBackRow, standIns := [], harness := (true, "c7c71943f6d3fa340871856fc409aacfd072a497f1d31ebeed0f9bfe0915414f"), looks := true }, kinds := [], alts := [], laidByText := true, laidKinds := [.data, .data, .data, .data, .sentinel, .sentinel, .listed, .data, .pinned], laidTests := true, laidLooks := .later }
def MessageBackCardSaid : Prop := Claim7.holds Tryz.pinned (.plain (OpenSpec.ofChange messageBackSpec)) messageBackCard

/-- THE TIED CARD OF 'vernacularlaw19.MessageParts'. -/
def messagePartsCard : Claim7 := { stood := { row := messagePartsRow, standIns := [], harness := (true, "c7c71943f6d3fa340871856fc409aacfd072a497f1d31ebeed0f9bfe0915414f"), looks := true }, kinds := [], alts := [], laidByText := true, laidKinds := [.data, .data, .data, .data, .sentinel, .sentinel, .listed, .data, .pinned], laidTests := true, laidLooks := .later }
def MessagePartsCardSaid : Prop := Claim7.holds Tryz.pinned (.plain (OpenSpec.ofChange messagePartsSpec)) messagePartsCard

/-- THE TIED CARD OF 'vernacularlaw19.MessageTexts'. -/
def messageTextsCard : Claim7 := { stood := { row := messageTextsRow, standIns := [], harness := (true, "c7c71943f6d3fa340871856fc409aacfd072a497f1d31ebeed0f9bfe0915414f"), looks := true }, kinds := [], alts := [], laidByText := true, laidKinds := [.data, .data, .data, .data, .sentinel, .sentinel, .listed, .data, .pinned], laidTests := true, laidLooks := .later }
def MessageTextsCardSaid : Prop := Claim7.holds Tryz.pinned (.plain (OpenSpec.ofChange messageTextsSpec)) messageTextsCard

/-- THE TIED CARD OF 'vernacularlaw19.MessageNames'. -/
def messageNamesCard : Claim7 := { stood := { row := messageNamesRow, standIns := [], harness := (true, "c7c71943f6d3fa340871856fc409aacfd072a497f1d31ebeed0f9bfe0915414f"), looks := true }, kinds := [], alts := [], laidByText := true, laidKinds := [.data, .data, .data, .data, .sentinel, .sentinel, .listed, .data, .pinned], laidTests := true, laidLooks := .later }
def MessageNamesCardSaid : Prop := Claim7.holds Tryz.pinned (.plain (OpenSpec.ofChange messageNamesSpec)) messageNamesCard

/-- THE SECOND FORM's CARD OF 'vernacularlaw19.MessagePrints'. -/
def messagePrintsUptoCard : Claim7 := { stood := { row := messagePrintsUptoRow, standIns := [], harness := (true, "c7c71943f6d3fa340871856fc409aacfd072a497f1d31ebeed0f9bfe0915414f"), looks := true }, kinds := [], alts := [], laidByText := true, laidKinds := [.data, .data, .data, .data, .sentinel, .sentinel, .listed, .data, .pinned], laidTests := true, laidLooks := .later }
def MessagePrintsUptoCardSaid : Prop := Claim7.holds Tryz.pinned (.plain (OpenSpec.upto messagePrintsSpec)) messagePrintsUptoCard

/-- THE SECOND FORM's CARD OF 'vernacularlaw19.MessagePlain'. -/
def messagePlainUptoCard : Claim7 := { stood := { row := messagePlainUptoRow, standIns := [], harness := (true, "c7c71943f6d3fa340871856fc409aacfd072a497f1d31ebeed0f9bfe0915414f"), looks := true }, kinds := [], alts := [], laidByText := true, laidKinds := [.data, .data, .data, .data, .sentinel, .sentinel, .listed, .data, .pinned], laidTests := true, laidLooks := .later }
def MessagePlainUptoCardSaid : Prop := Claim7.holds Tryz.pinned (.plain (OpenSpec.upto messagePlainSpec)) messagePlainUptoCard

/-- THE SECOND FORM's CARD OF 'vernacularlaw19.MessageBack'. -/
def messageBackUptoCard : Claim7 := { stood := { row := messageBackUptoRow, standIns := [], harness := (true, "c7c71943f6d3fa340871856fc409aacfd072a497f1d31ebeed0f9bfe0915414f"), looks := true }, kinds := [], alts := [], laidByText := true, laidKinds := [.data, .data, .data, .data, .sentinel, .sentinel, .listed, .data, .pinned], laidTests := true, laidLooks := .later }
def MessageBackUptoCardSaid : Prop := Claim7.holds Tryz.pinned (.plain (OpenSpec.upto messageBackSpec)) messageBackUptoCard

/-- THE SECOND FORM's CARD OF 'vernacularlaw19.MessageParts'. -/
def messagePartsUptoCard : Claim7 := { stood := { row := messagePartsUptoRow, standIns := [], harness := (true, "c7c71943f6d3fa340871856fc409aacfd072a497f1d31ebeed0f9bfe0915414f"), looks := true }, kinds := [], alts := [], laidByText := true, laidKinds := [.data, .data, .data, .data, .sentinel, .sentinel, .listed, .data, .pinned], laidTests := true, laidLooks := .later }
def MessagePartsUptoCardSaid : Prop := Claim7.holds Tryz.pinned (.plain (OpenSpec.upto messagePartsSpec)) messagePartsUptoCard

/-- THE SECOND FORM's CARD OF 'vernacularlaw19.MessageTexts'. -/
def messageTextsUptoCard : Claim7 := { stood := { row := messageTextsUptoRow, standIns := [], harness := (true, "c7c71943f6d3fa340871856fc409aacfd072a497f1d31ebeed0f9bfe0915414f"), looks := true }, kinds := [], alts := [], laidByText := true, laidKinds := [.data, .data, .data, .data, .sentinel, .sentinel, .listed, .data, .pinned], laidTests := true, laidLooks := .later }
def MessageTextsUptoCardSaid : Prop := Claim7.holds Tryz.pinned (.plain (OpenSpec.upto messageTextsSpec)) messageTextsUptoCard

/-- THE SECOND FORM's CARD OF 'vernacularlaw19.MessageNames'. -/
def messageNamesUptoCard : Claim7 := { stood := { row := messageNamesUptoRow, standIns := [], harness := (true, "c7c71943f6d3fa340871856fc409aacfd072a497f1d31ebeed0f9bfe0915414f"), looks := true }, kinds := [], alts := [], laidByText := true, laidKinds := [.data, .data, .data, .data, .sentinel, .sentinel, .listed, .data, .pinned], laidTests := true, laidLooks := .later }
def MessageNamesUptoCardSaid : Prop := Claim7.holds Tryz.pinned (.plain (OpenSpec.upto messageNamesSpec)) messageNamesUptoCard
end Rows
end Go.Proofs.YtjldgcpmdcoejaaGreatDoor
