/-
  DERIVED. GIVEN WITH THE SEED: THE CARDS: each row of YtmfoiceofhcicaaGreatDoorRows.lean that lists a variable, with what it lists TIED to the program's text (the seventh form; the later family's looks); each row that meets fmt, with fmt's text TOLD by the authors' own Lean function (tested against real Go, not proved from fmt's source: count such statements apart). THE CARD IS WHAT COUNTS. Prove the row's statement (the work); the ties are given (YtmfoiceofhcicaaGreatDoorTie.lean); close each card by the builder's one call (the guide's Derived/Test/ToyasCard.lean, 'card_holds'). Laid BY PROGRAM, IN A SANDBOX (cutbox-door.mjs). By AI agents, Wed Nov 11 2026. No macro, syntax, notation, axiom, sorry.
-/
import Derived.Test.YtmfoiceofhcicaaGreatDoorRows
import GoSem.ClaimSeven
namespace Go.Proofs.YtmfoiceofhcicaaGreatDoor
namespace Rows

/-- THE TIED CARD OF 'vernacularlaw20.CodeAhead'. -/
def codeAheadCard : Claim7 := { stood := { row := codeAheadRow, standIns := [], harness := (true, "5fafaff8b4b3f001dc7b4879d65694a60d1ac046bab359befe27903c4de527f2"), looks := true }, kinds := [], alts := [], laidByText := true, laidKinds := [.data, .data, .data, .data, .sentinel, .sentinel, .listed, .data, .pinned], laidTests := true, laidLooks := .later }
def CodeAheadCardSaid : Prop := Claim7.holds Tryz.pinned (.plain (OpenSpec.ofChange codeAheadSpec)) codeAheadCard

/-- THE TIED CARD OF 'vernacularlaw20.CodeCompiles'. -/
def codeCompilesCard : Claim7 := { stood := { row := codeCompilesRow, standIns := [], harness := (true, "5fafaff8b4b3f001dc7b4879d65694a60d1ac046bab359befe27903c4de527f2"), looks := true }, kinds := [], alts := [], laidByText := true, laidKinds := [.data, .data, .data, .data, .sentinel, .sentinel, .listed, .data, .pinned], laidTests := true, laidLooks := .later }
def CodeCompilesCardSaid : Prop := Claim7.holds Tryz.pinned (.plain (OpenSpec.ofChange codeCompilesSpec)) codeCompilesCard

/-- THE TIED CARD OF 'vernacularlaw20.CodeTurned'. -/
def codeTurnedCard : Claim7 := { stood := { row := codeTurnedRow, standIns := [], harness := (true, "5fafaff8b4b3f001dc7b4879d65694a60d1ac046bab359befe27903c4de527f2"), looks := true }, kinds := [], alts := [], laidByText := true, laidKinds := [.data, .data, .data, .data, .sentinel, .sentinel, .listed, .data, .pinned], laidTests := true, laidLooks := .later }
def CodeTurnedCardSaid : Prop := Claim7.holds Tryz.pinned (.plain (OpenSpec.ofChange codeTurnedSpec)) codeTurnedCard

/-- THE TIED CARD OF 'vernacularlaw20.CodeThere'. -/
def codeThereCard : Claim7 := { stood := { row := codeThereRow, standIns := [], harness := (true, "5fafaff8b4b3f001dc7b4879d65694a60d1ac046bab359befe27903c4de527f2"), looks := true }, kinds := [], alts := [], laidByText := true, laidKinds := [.data, .data, .data, .data, .sentinel, .sentinel, .listed, .data, .pinned], laidTests := true, laidLooks := .later }
def CodeThereCardSaid : Prop := Claim7.holds Tryz.pinned (.plain (OpenSpec.ofChange codeThereSpec)) codeThereCard

/-- THE TIED CARD OF 'vernacularlaw20.CodeLifts'. -/
def codeLiftsCard : Claim7 := { stood := { row := codeLiftsRow, standIns := [], harness := (true, "5fafaff8b4b3f001dc7b4879d65694a60d1ac046bab359befe27903c4de527f2"), looks := true }, kinds := [], alts := [], laidByText := true, laidKinds := [.data, .data, .data, .data, .sentinel, .sentinel, .listed, .data, .pinned], laidTests := true, laidLooks := .later }
def CodeLiftsCardSaid : Prop := Claim7.holds Tryz.pinned (.plain (OpenSpec.ofChange codeLiftsSpec)) codeLiftsCard

/-- THE TIED CARD OF 'vernacularlaw20.CodeOps'. -/
def codeOpsCard : Claim7 := { stood := { row := codeOpsRow, standIns := [], harness := (true, "5fafaff8b4b3f001dc7b4879d65694a60d1ac046bab359befe27903c4de527f2"), looks := true }, kinds := [], alts := [], laidByText := true, laidKinds := [.data, .data, .data, .data, .sentinel, .sentinel, .listed, .data, .pinned], laidTests := true, laidLooks := .later }
def CodeOpsCardSaid : Prop := Claim7.holds Tryz.pinned (.plain (OpenSpec.ofChange codeOpsSpec)) codeOpsCard

/-- THE SECOND FORM's CARD OF 'vernacularlaw20.CodeAhead'. -/
def codeAheadUptoCard : Claim7 := { stood := { row := codeAheadUptoRow, standIns := [], harness := (true, "5fafaff8b4b3f001dc7b4879d65694a60d1ac046bab359befe27903c4de527f2"), looks := true }, kinds := [], alts := [], laidByText := true, laidKinds := [.data, .data, .data, .data, .sentinel, .sentinel, .listed, .data, .pinned], laidTests := true, laidLooks := .later }
def CodeAheadUptoCardSaid : Prop := Claim7.holds Tryz.pinned (.plain (OpenSpec.upto codeAheadSpec)) codeAheadUptoCard

/-- THE SECOND FORM's CARD OF 'vernacularlaw20.CodeCompiles'. -/
def codeCompilesUptoCard : Claim7 := { stood := { row := codeCompilesUptoRow, standIns := [], harness := (true, "5fafaff8b4b3f001dc7b4879d65694a60d1ac046bab359befe27903c4de527f2"), looks := true }, kinds := [], alts := [], laidByText := true, laidKinds := [.data, .data, .data, .data, .sentinel, .sentinel, .listed, .data, .pinned], laidTests := true, laidLooks := .later }
def CodeCompilesUptoCardSaid : Prop := Claim7.holds Tryz.pinned (.plain (OpenSpec.upto codeCompilesSpec)) codeCompilesUptoCard

/-- THE SECOND FORM's CARD OF 'vernacularlaw20.CodeTurned'. -/
def codeTurnedUptoCard : Claim7 := { stood := { row := codeTurnedUptoRow, standIns := [], harness := (true, "5fafaff8b4b3f001dc7b4879d65694a60d1ac046bab359befe27903c4de527f2"), looks := true }, kinds := [], alts := [], laidByText := true, laidKinds := [.data, .data, .data, .data, .sentinel, .sentinel, .listed, .data, .pinned], laidTests := true, laidLooks := .later }
def CodeTurnedUptoCardSaid : Prop := Claim7.holds Tryz.pinned (.plain (OpenSpec.upto codeTurnedSpec)) codeTurnedUptoCard

/-- THE SECOND FORM's CARD OF 'vernacularlaw20.CodeThere'. -/
def codeThereUptoCard : Claim7 := { stood := { row := codeThereUptoRow, standIns := [], harness := (true, "5fafaff8b4b3f001dc7b4879d65694a60d1ac046bab359befe27903c4de527f2"), looks := true }, kinds := [], alts := [], laidByText := true, laidKinds := [.data, .data, .data, .data, .sentinel, .sentinel, .listed, .data, .pinned], laidTests := true, laidLooks := .later }
def CodeThereUptoCardSaid : Prop := Claim7.holds Tryz.pinned (.plain (OpenSpec.upto codeThereSpec)) codeThereUptoCard

/-- THE SECOND FORM's CARD OF 'vernacularlaw20.CodeLifts'. -/
def codeLiftsUptoCard : Claim7 := { stood := { row := codeLiftsUptoRow, standIns := [], harness := (true, "5fafaff8b4b3f001dc7b4879d65694a60d1ac046bab359befe27903c4de527f2"), looks := true }, kinds := [], alts := [], laidByText := true, laidKinds := [.data, .data, .data, .data, .sentinel, .sentinel, .listed, .data, .pinned], laidTests := true, laidLooks := .later }
def CodeLiftsUptoCardSaid : Prop := Claim7.holds Tryz.pinned (.plain (OpenSpec.upto codeLiftsSpec)) codeLiftsUptoCard

/-- THE SECOND FORM's CARD OF 'vernacularlaw20.CodeOps'. -/
def codeOpsUptoCard : Claim7 := { stood := { row := codeOpsUptoRow, standIns := [], harness := (true, "5fafaff8b4b3f001dc7b4879d65694a60d1ac046bab359befe27903c4de527f2"), looks := true }, kinds := [], alts := [], laidByText := true, laidKinds := [.data, .data, .data, .data, .sentinel, .sentinel, .listed, .data, .pinned], laidTests := true, laidLooks := .later }
def CodeOpsUptoCardSaid : Prop := Claim7.holds Tryz.pinned (.plain (OpenSpec.upto codeOpsSpec)) codeOpsUptoCard
end Rows
end Go.Proofs.YtmfoiceofhcicaaGreatDoor
