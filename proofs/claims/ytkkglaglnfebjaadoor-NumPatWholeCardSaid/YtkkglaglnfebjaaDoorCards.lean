/-
  DERIVED. GIVEN WITH THE SEED: THE CARDS: each row of YtkkglaglnfebjaaDoorRows.lean that lists a variable, with what it lists TIED to the program's text (the seventh form; the later family's looks); each row that meets fmt, with fmt's text TOLD by the authors' own Lean function (tested against real Go, not proved from fmt's source: count such statements apart). THE CARD IS WHAT COUNTS. Prove the row's statement (the work); the ties are given (YtkkglaglnfebjaaDoorTie.lean); close each card by the builder's one call (the guide's Derived/Test/ToyasCard.lean, 'card_holds'). Laid BY PROGRAM, IN A SANDBOX (cutbox-door.mjs). By AI agents, Wed Nov 11 2026. No macro, syntax, notation, axiom, sorry.
-/
import Derived.Test.YtkkglaglnfebjaaDoorRows
import GoSem.ClaimSeven
namespace Go.Proofs.YtkkglaglnfebjaaDoor
namespace Rows

/-- THE TIED CARD OF 'vernacularlaw16.NumPatParses'. -/
def numPatParsesCard : Claim7 := { stood := { row := numPatParsesRow, standIns := [], harness := (true, "a727b6ba093f549a9ff73c71104b799b4858bdbadb427d71989da69bb4108361"), looks := false }, kinds := [], alts := [], laidByText := true, laidKinds := [.data, .pinned], laidTests := true, laidLooks := .later }
def NumPatParsesCardSaid : Prop := Claim7.holds Tryd.pinned (.plain (OpenSpec.ofChange numPatParsesSpec)) numPatParsesCard

/-- THE TIED CARD OF 'vernacularlaw16.NumPatPrints'. -/
def numPatPrintsCard : Claim7 := { stood := { row := numPatPrintsRow, standIns := [], harness := (true, "a727b6ba093f549a9ff73c71104b799b4858bdbadb427d71989da69bb4108361"), looks := false }, kinds := [], alts := [], laidByText := true, laidKinds := [.data, .pinned], laidTests := true, laidLooks := .later }
def NumPatPrintsCardSaid : Prop := Claim7.holds Tryd.pinned (.plain (OpenSpec.ofChange numPatPrintsSpec)) numPatPrintsCard

/-- THE TIED CARD OF 'vernacularlaw16.NumPatBelow'. -/
def numPatBelowCard : Claim7 := { stood := { row := numPatBelowRow, standIns := [], harness := (true, "a727b6ba093f549a9ff73c71104b799b4858bdbadb427d71989da69bb4108361"), looks := false }, kinds := [], alts := [], laidByText := true, laidKinds := [.data, .pinned], laidTests := true, laidLooks := .later }
def NumPatBelowCardSaid : Prop := Claim7.holds Tryd.pinned (.plain (OpenSpec.ofChange numPatBelowSpec)) numPatBelowCard

/-- THE TIED CARD OF 'vernacularlaw16.NumPatGroups'. -/
def numPatGroupsCard : Claim7 := { stood := { row := numPatGroupsRow, standIns := [], harness := (true, "a727b6ba093f549a9ff73c71104b799b4858bdbadb427d71989da69bb4108361"), looks := false }, kinds := [], alts := [], laidByText := true, laidKinds := [.data, .pinned], laidTests := true, laidLooks := .later }
def NumPatGroupsCardSaid : Prop := Claim7.holds Tryd.pinned (.plain (OpenSpec.ofChange numPatGroupsSpec)) numPatGroupsCard

/-- THE TIED CARD OF 'vernacularlaw16.NumPatPieces'. -/
def numPatPiecesCard : Claim7 := { stood := { row := numPatPiecesRow, standIns := [], harness := (true, "a727b6ba093f549a9ff73c71104b799b4858bdbadb427d71989da69bb4108361"), looks := false }, kinds := [], alts := [], laidByText := true, laidKinds := [.data, .pinned], laidTests := true, laidLooks := .later }
def NumPatPiecesCardSaid : Prop := Claim7.holds Tryd.pinned (.plain (OpenSpec.ofChange numPatPiecesSpec)) numPatPiecesCard

/-- THE TIED CARD OF 'vernacularlaw16.NumPatDigits'. -/
def numPatDigitsCard : Claim7 := { stood := { row := numPatDigitsRow, standIns := [], harness := (true, "a727b6ba093f549a9ff73c71104b799b4858bdbadb427d71989da69bb4108361"), looks := false }, kinds := [], alts := [], laidByText := true, laidKinds := [.data, .pinned], laidTests := true, laidLooks := .later }
def NumPatDigitsCardSaid : Prop := Claim7.holds Tryd.pinned (.plain (OpenSpec.ofChange numPatDigitsSpec)) numPatDigitsCard

/-- THE TIED CARD OF 'vernacularlaw16.NumPatWhole'. -/
def numPatWholeCard : Claim7 := { stood := { row := numPatWholeRow, standIns := [], harness := (true, "a727b6ba093f549a9ff73c71104b799b4858bdbadb427d71989da69bb4108361"), looks := false }, kinds := [], alts := [], laidByText := true, laidKinds := [.data, .pinned], laidTests := true, laidLooks := .later }
def NumPatWholeCardSaid : Prop := Claim7.holds Tryd.pinned (.plain (OpenSpec.ofChange numPatWholeSpec)) numPatWholeCard

/-- THE SECOND FORM's CARD OF 'vernacularlaw16.NumPatParses'. -/
def numPatParsesUptoCard : Claim7 := { stood := { row := numPatParsesUptoRow, standIns := [], harness := (true, "a727b6ba093f549a9ff73c71104b799b4858bdbadb427d71989da69bb4108361"), looks := false }, kinds := [], alts := [], laidByText := true, laidKinds := [.data, .pinned], laidTests := true, laidLooks := .later }
def NumPatParsesUptoCardSaid : Prop := Claim7.holds Tryd.pinned (.plain (OpenSpec.upto numPatParsesSpec)) numPatParsesUptoCard

/-- THE SECOND FORM's CARD OF 'vernacularlaw16.NumPatPrints'. -/
def numPatPrintsUptoCard : Claim7 := { stood := { row := numPatPrintsUptoRow, standIns := [], harness := (true, "a727b6ba093f549a9ff73c71104b799b4858bdbadb427d71989da69bb4108361"), looks := false }, kinds := [], alts := [], laidByText := true, laidKinds := [.data, .pinned], laidTests := true, laidLooks := .later }
def NumPatPrintsUptoCardSaid : Prop := Claim7.holds Tryd.pinned (.plain (OpenSpec.upto numPatPrintsSpec)) numPatPrintsUptoCard

/-- THE SECOND FORM's CARD OF 'vernacularlaw16.NumPatBelow'. -/
def numPatBelowUptoCard : Claim7 := { stood := { row := numPatBelowUptoRow, standIns := [], harness := (true, "a727b6ba093f549a9ff73c71104b799b4858bdbadb427d71989da69bb4108361"), looks := false }, kinds := [], alts := [], laidByText := true, laidKinds := [.data, .pinned], laidTests := true, laidLooks := .later }
def NumPatBelowUptoCardSaid : Prop := Claim7.holds Tryd.pinned (.plain (OpenSpec.upto numPatBelowSpec)) numPatBelowUptoCard

/-- THE SECOND FORM's CARD OF 'vernacularlaw16.NumPatGroups'. -/
def numPatGroupsUptoCard : Claim7 := { stood := { row := numPatGroupsUptoRow, standIns := [], harness := (true, "a727b6ba093f549a9ff73c71104b799b4858bdbadb427d71989da69bb4108361"), looks := false }, kinds := [], alts := [], laidByText := true, laidKinds := [.data, .pinned], laidTests := true, laidLooks := .later }
def NumPatGroupsUptoCardSaid : Prop := Claim7.holds Tryd.pinned (.plain (OpenSpec.upto numPatGroupsSpec)) numPatGroupsUptoCard

/-- THE SECOND FORM's CARD OF 'vernacularlaw16.NumPatPieces'. -/
def numPatPiecesUptoCard : Claim7 := { stood := { row := numPatPiecesUptoRow, standIns := [], harness := (true, "a727b6ba093f549a9ff73c71104b799b4858bdbadb427d71989da69bb4108361"), looks := false }, kinds := [], alts := [], laidByText := true, laidKinds := [.data, .pinned], laidTests := true, laidLooks := .later }
def NumPatPiecesUptoCardSaid : Prop := Claim7.holds Tryd.pinned (.plain (OpenSpec.upto numPatPiecesSpec)) numPatPiecesUptoCard

/-- THE SECOND FORM's CARD OF 'vernacularlaw16.NumPatDigits'. -/
def numPatDigitsUptoCard : Claim7 := { stood := { row := numPatDigitsUptoRow, standIns := [], harness := (true, "a727b6ba093f549a9ff73c71104b799b4858bdbadb427d71989da69bb4108361"), looks := false }, kinds := [], alts := [], laidByText := true, laidKinds := [.data, .pinned], laidTests := true, laidLooks := .later }
def NumPatDigitsUptoCardSaid : Prop := Claim7.holds Tryd.pinned (.plain (OpenSpec.upto numPatDigitsSpec)) numPatDigitsUptoCard

/-- THE SECOND FORM's CARD OF 'vernacularlaw16.NumPatWhole'. -/
def numPatWholeUptoCard : Claim7 := { stood := { row := numPatWholeUptoRow, standIns := [], harness := (true, "a727b6ba093f549a9ff73c71104b799b4858bdbadb427d71989da69bb4108361"), looks := false }, kinds := [], alts := [], laidByText := true, laidKinds := [.data, .pinned], laidTests := true, laidLooks := .later }
def NumPatWholeUptoCardSaid : Prop := Claim7.holds Tryd.pinned (.plain (OpenSpec.upto numPatWholeSpec)) numPatWholeUptoCard
end Rows
end Go.Proofs.YtkkglaglnfebjaaDoor
