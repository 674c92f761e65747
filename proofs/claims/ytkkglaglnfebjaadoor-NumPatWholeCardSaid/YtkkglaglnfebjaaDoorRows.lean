/-
  NARROWER THAN 'FOR EVERY INPUT', by the rows' own cells (each row's printed sentence says how): NumPatParses: laid · NumPatPrints: laid · NumPatBelow: laid · NumPatGroups: laid · NumPatPieces: laid · NumPatDigits: laid · NumPatWhole: laid.
  DERIVED. THE GIVEN ROWS OF THIS SEAT. 7 by the template 'for every input the law returns true; each argument reads behind the call as it read before'; 0 by the template 'total and deterministic' (their statements: YtkkglaglnfebjaaDoorTotals.lean).
  GIVEN WITH THE SEED: the statements are not yours to turn. If you find one false, say at which input.
  Laid BY PROGRAM, IN A SANDBOX (cutbox-rows.mjs): the forced cells as the released guide's own fill.sh prints them over the translation 61d8994c4dd9c9a0… (all of the seat's roots in one cut). By AI agents, Wed Nov 11 2026. No macro, syntax, notation, axiom, sorry.
-/
import Derived.Test.YtkkglaglnfebjaaDoorChecked
import GoSem.PinnedTables
import GoSem.Claim
import GoSem.ClaimJoined
import GoSem.ClaimMapViews
import Derived.JoinedTies
import Derived.KernelRfl
namespace Go.Proofs.YtkkglaglnfebjaaDoor
/- THE CELL 'sum', in the pinned program and in every row, IS THE sha256 OF THE DUMP (.gsa) THAT YtkkglaglnfebjaaDoorProg.lean LOADS. Nothing in Lean hashes anything: it is a label: what it is worth is what the hold of that sum in a sandbox is worth. -/
noncomputable def Tryd.pinned : Pinned := { name := "ytkkglaglnfebjaadoor", sum := "61d8994c4dd9c9a0d30477dd1bd5720c9701803d0b9d0144a183c2946ddbd1af", checked := Tryd.checked }
namespace Rows
def none {H : Type} : Left H := { results := [], args := [] }

/- WHAT THE LISTED PACKAGE-LEVEL VARIABLES READ AS WHEN THE CALL BEGINS. Each datum BY PROGRAM (the guide's laid-datum.mjs) off the statement by which the dump's own 'gosem.cut.vars' lays the variable. In a bare row this is a premise. The card (YtkkglaglnfebjaaDoorCards.lean) ties it to the program's text. -/
def laid_unicode_utf8_acceptRanges {H : Type} : DataW H := .agg [.agg [.lit (.int .u8 128), .lit (.int .u8 191)], .agg [.lit (.int .u8 160), .lit (.int .u8 191)], .agg [.lit (.int .u8 128), .lit (.int .u8 159)], .agg [.lit (.int .u8 144), .lit (.int .u8 191)], .agg [.lit (.int .u8 128), .lit (.int .u8 143)], .agg [.lit (.int .u8 0), .lit (.int .u8 0)], .agg [.lit (.int .u8 0), .lit (.int .u8 0)], .agg [.lit (.int .u8 0), .lit (.int .u8 0)], .agg [.lit (.int .u8 0), .lit (.int .u8 0)], .agg [.lit (.int .u8 0), .lit (.int .u8 0)], .agg [.lit (.int .u8 0), .lit (.int .u8 0)], .agg [.lit (.int .u8 0), .lit (.int .u8 0)], .agg [.lit (.int .u8 0), .lit (.int .u8 0)], .agg [.lit (.int .u8 0), .lit (.int .u8 0)], .agg [.lit (.int .u8 0), .lit (.int .u8 0)], .agg [.lit (.int .u8 0), .lit (.int .u8 0)]]
/-- One of Go's own tables, pinned by name: the form's constant. -/
def laid_unicode_utf8_first : DataW Unit := Go.Pinned.utf8First

/-- 'vernacularlaw16.NumPatParses': WHATEVER THE INPUT: true; the input reads as it did. -/
def numPatParsesSpec : ChangeSpec := { name := "numPatParses", fn := fun _ => fun
  | [d] => { results := [.lit (.bool true)], args := [d] }
  | _ => none }
def numPatParsesRow : OpenClaim := { program := "ytkkglaglnfebjaadoor", sum := "61d8994c4dd9c9a0d30477dd1bd5720c9701803d0b9d0144a183c2946ddbd1af", func := "vernacular/vernacularlaw16.NumPatParses", spec := "numPatParses", inPlace := ["internal/bytealg.IndexByteString", "internal/abi.NoEscape", "internal/bytealg.IndexString", "internal/bytealg.MakeNoZero"], named := ["unicode/utf8.first", "unicode/utf8.acceptRanges", "internal/bytealg.MaxLen"], apart := false, laid := [("unicode/utf8.acceptRanges", laid_unicode_utf8_acceptRanges), ("unicode/utf8.first", laid_unicode_utf8_first)] }
def NumPatParsesSaid : Prop := numPatParsesRow.holds Tryd.pinned (OpenSpec.ofChange numPatParsesSpec)

/-- ITS FALSE NEIGHBOUR: 'it returns false'. Refute it at one input. -/
def numPatParsesWrong : ChangeSpec := { name := "numPatParses", fn := fun _ => fun
  | [d] => { results := [.lit (.bool false)], args := [d] }
  | _ => none }
def NumPatParsesWrongFalsely : Prop := numPatParsesRow.holds Tryd.pinned (OpenSpec.ofChange numPatParsesWrong)

/-- 'vernacularlaw16.NumPatPrints': WHATEVER THE INPUT: true; the input reads as it did. -/
def numPatPrintsSpec : ChangeSpec := { name := "numPatPrints", fn := fun _ => fun
  | [d1, d2] => { results := [.lit (.bool true)], args := [d1, d2] }
  | _ => none }
def numPatPrintsRow : OpenClaim := { program := "ytkkglaglnfebjaadoor", sum := "61d8994c4dd9c9a0d30477dd1bd5720c9701803d0b9d0144a183c2946ddbd1af", func := "vernacular/vernacularlaw16.NumPatPrints", spec := "numPatPrints", inPlace := ["internal/bytealg.IndexByteString", "internal/abi.NoEscape", "internal/bytealg.IndexString", "internal/bytealg.MakeNoZero"], named := ["unicode/utf8.first", "unicode/utf8.acceptRanges", "internal/bytealg.MaxLen"], apart := false, laid := [("unicode/utf8.acceptRanges", laid_unicode_utf8_acceptRanges), ("unicode/utf8.first", laid_unicode_utf8_first)] }
def NumPatPrintsSaid : Prop := numPatPrintsRow.holds Tryd.pinned (OpenSpec.ofChange numPatPrintsSpec)

/-- ITS FALSE NEIGHBOUR: 'it returns false'. Refute it at one input. -/
def numPatPrintsWrong : ChangeSpec := { name := "numPatPrints", fn := fun _ => fun
  | [d1, d2] => { results := [.lit (.bool false)], args := [d1, d2] }
  | _ => none }
def NumPatPrintsWrongFalsely : Prop := numPatPrintsRow.holds Tryd.pinned (OpenSpec.ofChange numPatPrintsWrong)

/-- 'vernacularlaw16.NumPatBelow': WHATEVER THE INPUT: true; the input reads as it did. -/
def numPatBelowSpec : ChangeSpec := { name := "numPatBelow", fn := fun _ => fun
  | [d] => { results := [.lit (.bool true)], args := [d] }
  | _ => none }
def numPatBelowRow : OpenClaim := { program := "ytkkglaglnfebjaadoor", sum := "61d8994c4dd9c9a0d30477dd1bd5720c9701803d0b9d0144a183c2946ddbd1af", func := "vernacular/vernacularlaw16.NumPatBelow", spec := "numPatBelow", inPlace := ["internal/bytealg.IndexByteString", "internal/abi.NoEscape", "internal/bytealg.IndexString", "internal/bytealg.MakeNoZero"], named := ["unicode/utf8.first", "unicode/utf8.acceptRanges", "internal/bytealg.MaxLen"], apart := false, laid := [("unicode/utf8.acceptRanges", laid_unicode_utf8_acceptRanges), ("unicode/utf8.first", laid_unicode_utf8_first)] }
def NumPatBelowSaid : Prop := numPatBelowRow.holds Tryd.pinned (OpenSpec.ofChange numPatBelowSpec)

/-- ITS FALSE NEIGHBOUR: 'it returns false'. Refute it at one input. -/
def numPatBelowWrong : ChangeSpec := { name := "numPatBelow", fn := fun _ => fun
  | [d] => { results := [.lit (.bool false)], args := [d] }
  | _ => none }
def NumPatBelowWrongFalsely : Prop := numPatBelowRow.holds Tryd.pinned (OpenSpec.ofChange numPatBelowWrong)

/-- 'vernacularlaw16.NumPatGroups': WHATEVER THE INPUT: true; the input reads as it did. -/
def numPatGroupsSpec : ChangeSpec := { name := "numPatGroups", fn := fun _ => fun
  | [d1, d2, d3] => { results := [.lit (.bool true)], args := [d1, d2, d3] }
  | _ => none }
def numPatGroupsRow : OpenClaim := { program := "ytkkglaglnfebjaadoor", sum := "61d8994c4dd9c9a0d30477dd1bd5720c9701803d0b9d0144a183c2946ddbd1af", func := "vernacular/vernacularlaw16.NumPatGroups", spec := "numPatGroups", inPlace := ["internal/bytealg.IndexByteString", "internal/abi.NoEscape", "internal/bytealg.IndexString", "internal/bytealg.MakeNoZero"], unfollowed := true, recurses := true, named := ["unicode/utf8.first", "unicode/utf8.acceptRanges", "internal/bytealg.MaxLen"], apart := false, laid := [("unicode/utf8.acceptRanges", laid_unicode_utf8_acceptRanges), ("unicode/utf8.first", laid_unicode_utf8_first)] }
def NumPatGroupsSaid : Prop := numPatGroupsRow.holds Tryd.pinned (OpenSpec.ofChange numPatGroupsSpec)

/-- ITS FALSE NEIGHBOUR: 'it returns false'. Refute it at one input. -/
def numPatGroupsWrong : ChangeSpec := { name := "numPatGroups", fn := fun _ => fun
  | [d1, d2, d3] => { results := [.lit (.bool false)], args := [d1, d2, d3] }
  | _ => none }
def NumPatGroupsWrongFalsely : Prop := numPatGroupsRow.holds Tryd.pinned (OpenSpec.ofChange numPatGroupsWrong)

/-- 'vernacularlaw16.NumPatPieces': WHATEVER THE INPUT: true; the input reads as it did. -/
def numPatPiecesSpec : ChangeSpec := { name := "numPatPieces", fn := fun _ => fun
  | [d1, d2, d3] => { results := [.lit (.bool true)], args := [d1, d2, d3] }
  | _ => none }
def numPatPiecesRow : OpenClaim := { program := "ytkkglaglnfebjaadoor", sum := "61d8994c4dd9c9a0d30477dd1bd5720c9701803d0b9d0144a183c2946ddbd1af", func := "vernacular/vernacularlaw16.NumPatPieces", spec := "numPatPieces", inPlace := ["internal/bytealg.IndexByteString", "internal/abi.NoEscape", "internal/bytealg.IndexString", "internal/bytealg.MakeNoZero"], unfollowed := true, recurses := true, named := ["unicode/utf8.first", "unicode/utf8.acceptRanges", "internal/bytealg.MaxLen"], apart := false, laid := [("unicode/utf8.acceptRanges", laid_unicode_utf8_acceptRanges), ("unicode/utf8.first", laid_unicode_utf8_first)] }
def NumPatPiecesSaid : Prop := numPatPiecesRow.holds Tryd.pinned (OpenSpec.ofChange numPatPiecesSpec)

/-- ITS FALSE NEIGHBOUR: 'it returns false'. Refute it at one input. -/
def numPatPiecesWrong : ChangeSpec := { name := "numPatPieces", fn := fun _ => fun
  | [d1, d2, d3] => { results := [.lit (.bool false)], args := [d1, d2, d3] }
  | _ => none }
def NumPatPiecesWrongFalsely : Prop := numPatPiecesRow.holds Tryd.pinned (OpenSpec.ofChange numPatPiecesWrong)

/-- 'vernacularlaw16.NumPatDigits': WHATEVER THE INPUT: true; the input reads as it did. -/
def numPatDigitsSpec : ChangeSpec := { name := "numPatDigits", fn := fun _ => fun
  | [d1, d2] => { results := [.lit (.bool true)], args := [d1, d2] }
  | _ => none }
def numPatDigitsRow : OpenClaim := { program := "ytkkglaglnfebjaadoor", sum := "61d8994c4dd9c9a0d30477dd1bd5720c9701803d0b9d0144a183c2946ddbd1af", func := "vernacular/vernacularlaw16.NumPatDigits", spec := "numPatDigits", inPlace := ["internal/bytealg.IndexByteString", "internal/abi.NoEscape", "internal/bytealg.IndexString", "internal/bytealg.MakeNoZero", "internal/bytealg.abigen_runtime_cmpstring"], recurses := true, named := ["unicode/utf8.first", "unicode/utf8.acceptRanges", "internal/bytealg.MaxLen"], apart := false, laid := [("unicode/utf8.acceptRanges", laid_unicode_utf8_acceptRanges), ("unicode/utf8.first", laid_unicode_utf8_first)] }
def NumPatDigitsSaid : Prop := numPatDigitsRow.holds Tryd.pinned (OpenSpec.ofChange numPatDigitsSpec)

/-- ITS FALSE NEIGHBOUR: 'it returns false'. Refute it at one input. -/
def numPatDigitsWrong : ChangeSpec := { name := "numPatDigits", fn := fun _ => fun
  | [d1, d2] => { results := [.lit (.bool false)], args := [d1, d2] }
  | _ => none }
def NumPatDigitsWrongFalsely : Prop := numPatDigitsRow.holds Tryd.pinned (OpenSpec.ofChange numPatDigitsWrong)

/-- 'vernacularlaw16.NumPatWhole': WHATEVER THE INPUT: true; the input reads as it did. -/
def numPatWholeSpec : ChangeSpec := { name := "numPatWhole", fn := fun _ => fun
  | [d1, d2] => { results := [.lit (.bool true)], args := [d1, d2] }
  | _ => none }
def numPatWholeRow : OpenClaim := { program := "ytkkglaglnfebjaadoor", sum := "61d8994c4dd9c9a0d30477dd1bd5720c9701803d0b9d0144a183c2946ddbd1af", func := "vernacular/vernacularlaw16.NumPatWhole", spec := "numPatWhole", inPlace := ["internal/bytealg.IndexByteString", "internal/abi.NoEscape", "internal/bytealg.IndexString", "internal/bytealg.MakeNoZero", "internal/bytealg.abigen_runtime_cmpstring"], unfollowed := true, recurses := true, named := ["unicode/utf8.first", "unicode/utf8.acceptRanges", "internal/bytealg.MaxLen"], apart := false, laid := [("unicode/utf8.acceptRanges", laid_unicode_utf8_acceptRanges), ("unicode/utf8.first", laid_unicode_utf8_first)] }
def NumPatWholeSaid : Prop := numPatWholeRow.holds Tryd.pinned (OpenSpec.ofChange numPatWholeSpec)

/-- ITS FALSE NEIGHBOUR: 'it returns false'. Refute it at one input. -/
def numPatWholeWrong : ChangeSpec := { name := "numPatWhole", fn := fun _ => fun
  | [d1, d2] => { results := [.lit (.bool false)], args := [d1, d2] }
  | _ => none }
def NumPatWholeWrongFalsely : Prop := numPatWholeRow.holds Tryd.pinned (OpenSpec.ofChange numPatWholeWrong)

/- THE SECOND FORM. 'bulk': how many values and letters a reading holds, each counted each time it is reached (what is shared counts as often as it is met; a slice's spare places count too). A statement '..UptoSaid' is the law's where the arguments, and the package variables that the reading takes, are together of bulk at most 1048576: NARROWER than '..Said'. Prove '..Said' where nothing that the law and all that it calls make is longer than what came in: it says more and counts as full. Else prove '..UptoSaid'. A law counts once. -/
mutual
def uptoBulk {H : Type} : DataW H → Nat
  | .lit (.string bytes) => bytes.length + 1
  | .lit _ => 1
  | .nil => 1
  | .ptr d => uptoBulk d + 1
  | .slice elems spare => uptoBulkAll elems + uptoBulkAll spare + 1
  | .agg parts => uptoBulkAll parts + 1
  | .iface _ d => uptoBulk d + 1
  | .map entries => uptoBulkEntries entries + 1
  | .held _ => 1
def uptoBulkAll {H : Type} : List (DataW H) → Nat
  | [] => 0
  | d :: r => uptoBulk d + uptoBulkAll r
def uptoBulkEntries {H : Type} : List (Lit × DataW H) → Nat
  | [] => 0
  | x :: r => uptoBulkEntry x + uptoBulkEntries r
def uptoBulkEntry {H : Type} : Lit × DataW H → Nat
  | (.string bytes, d) => bytes.length + uptoBulk d + 1
  | (_, d) => uptoBulk d + 1
 end
def uptoSmall : (H : Type) → List (DataW H) → Bool := fun _ ds => decide (uptoBulkAll ds ≤ 1048576)
def OpenSpec.upto (s : _root_.Go.ChangeSpec) : _root_.Go.OpenSpec := { _root_.Go.OpenSpec.ofChange s with cond := some uptoSmall }

/-- 'vernacularlaw16.NumPatParses', WHERE WHAT IT READS IS OF BULK AT MOST 1048576: true; the input reads as it did. -/
def numPatParsesUptoRow : OpenClaim := { program := "ytkkglaglnfebjaadoor", sum := "61d8994c4dd9c9a0d30477dd1bd5720c9701803d0b9d0144a183c2946ddbd1af", func := "vernacular/vernacularlaw16.NumPatParses", spec := "numPatParses", inPlace := ["internal/bytealg.IndexByteString", "internal/abi.NoEscape", "internal/bytealg.IndexString", "internal/bytealg.MakeNoZero"], named := ["unicode/utf8.first", "unicode/utf8.acceptRanges", "internal/bytealg.MaxLen"], apart := false, laid := [("unicode/utf8.acceptRanges", laid_unicode_utf8_acceptRanges), ("unicode/utf8.first", laid_unicode_utf8_first)], narrowed := true }
def NumPatParsesUptoSaid : Prop := numPatParsesUptoRow.holds Tryd.pinned (OpenSpec.upto numPatParsesSpec)

/-- 'vernacularlaw16.NumPatPrints', WHERE WHAT IT READS IS OF BULK AT MOST 1048576: true; the input reads as it did. -/
def numPatPrintsUptoRow : OpenClaim := { program := "ytkkglaglnfebjaadoor", sum := "61d8994c4dd9c9a0d30477dd1bd5720c9701803d0b9d0144a183c2946ddbd1af", func := "vernacular/vernacularlaw16.NumPatPrints", spec := "numPatPrints", inPlace := ["internal/bytealg.IndexByteString", "internal/abi.NoEscape", "internal/bytealg.IndexString", "internal/bytealg.MakeNoZero"], named := ["unicode/utf8.first", "unicode/utf8.acceptRanges", "internal/bytealg.MaxLen"], apart := false, laid := [("unicode/utf8.acceptRanges", laid_unicode_utf8_acceptRanges), ("unicode/utf8.first", laid_unicode_utf8_first)], narrowed := true }
def NumPatPrintsUptoSaid : Prop := numPatPrintsUptoRow.holds Tryd.pinned (OpenSpec.upto numPatPrintsSpec)

/-- 'vernacularlaw16.NumPatBelow', WHERE WHAT IT READS IS OF BULK AT MOST 1048576: true; the input reads as it did. -/
def numPatBelowUptoRow : OpenClaim := { program := "ytkkglaglnfebjaadoor", sum := "61d8994c4dd9c9a0d30477dd1bd5720c9701803d0b9d0144a183c2946ddbd1af", func := "vernacular/vernacularlaw16.NumPatBelow", spec := "numPatBelow", inPlace := ["internal/bytealg.IndexByteString", "internal/abi.NoEscape", "internal/bytealg.IndexString", "internal/bytealg.MakeNoZero"], named := ["unicode/utf8.first", "unicode/utf8.acceptRanges", "internal/bytealg.MaxLen"], apart := false, laid := [("unicode/utf8.acceptRanges", laid_unicode_utf8_acceptRanges), ("unicode/utf8.first", laid_unicode_utf8_first)], narrowed := true }
def NumPatBelowUptoSaid : Prop := numPatBelowUptoRow.holds Tryd.pinned (OpenSpec.upto numPatBelowSpec)

/-- 'vernacularlaw16.NumPatGroups', WHERE WHAT IT READS IS OF BULK AT MOST 1048576: true; the input reads as it did. -/
def numPatGroupsUptoRow : OpenClaim := { program := "ytkkglaglnfebjaadoor", sum := "61d8994c4dd9c9a0d30477dd1bd5720c9701803d0b9d0144a183c2946ddbd1af", func := "vernacular/vernacularlaw16.NumPatGroups", spec := "numPatGroups", inPlace := ["internal/bytealg.IndexByteString", "internal/abi.NoEscape", "internal/bytealg.IndexString", "internal/bytealg.MakeNoZero"], unfollowed := true, recurses := true, named := ["unicode/utf8.first", "unicode/utf8.acceptRanges", "internal/bytealg.MaxLen"], apart := false, laid := [("unicode/utf8.acceptRanges", laid_unicode_utf8_acceptRanges), ("unicode/utf8.first", laid_unicode_utf8_first)], narrowed := true }
def NumPatGroupsUptoSaid : Prop := numPatGroupsUptoRow.holds Tryd.pinned (OpenSpec.upto numPatGroupsSpec)

/-- 'vernacularlaw16.NumPatPieces', WHERE WHAT IT READS IS OF BULK AT MOST 1048576: true; the input reads as it did. -/
def numPatPiecesUptoRow : OpenClaim := { program := "ytkkglaglnfebjaadoor", sum := "61d8994c4dd9c9a0d30477dd1bd5720c9701803d0b9d0144a183c2946ddbd1af", func := "vernacular/vernacularlaw16.NumPatPieces", spec := "numPatPieces", inPlace := ["internal/bytealg.IndexByteString", "internal/abi.NoEscape", "internal/bytealg.IndexString", "internal/bytealg.MakeNoZero"], unfollowed := true, recurses := true, named := ["unicode/utf8.first", "unicode/utf8.acceptRanges", "internal/bytealg.MaxLen"], apart := false, laid := [("unicode/utf8.acceptRanges", laid_unicode_utf8_acceptRanges), ("unicode/utf8.first", laid_unicode_utf8_first)], narrowed := true }
def NumPatPiecesUptoSaid : Prop := numPatPiecesUptoRow.holds Tryd.pinned (OpenSpec.upto numPatPiecesSpec)

/-- 'vernacularlaw16.NumPatDigits', WHERE WHAT IT READS IS OF BULK AT MOST 1048576: true; the input reads as it did. -/
def numPatDigitsUptoRow : OpenClaim := { program := "ytkkglaglnfebjaadoor", sum := "61d8994c4dd9c9a0d30477dd1bd5720c9701803d0b9d0144a183c2946ddbd1af", func := "vernacular/vernacularlaw16.NumPatDigits", spec := "numPatDigits", inPlace := ["internal/bytealg.IndexByteString", "internal/abi.NoEscape", "internal/bytealg.IndexString", "internal/bytealg.MakeNoZero", "internal/bytealg.abigen_runtime_cmpstring"], recurses := true, named := ["unicode/utf8.first", "unicode/utf8.acceptRanges", "internal/bytealg.MaxLen"], apart := false, laid := [("unicode/utf8.acceptRanges", laid_unicode_utf8_acceptRanges), ("unicode/utf8.first", laid_unicode_utf8_first)], narrowed := true }
def NumPatDigitsUptoSaid : Prop := numPatDigitsUptoRow.holds Tryd.pinned (OpenSpec.upto numPatDigitsSpec)

/-- 'vernacularlaw16.NumPatWhole', WHERE WHAT IT READS IS OF BULK AT MOST 1048576: true; the input reads as it did. -/
def numPatWholeUptoRow : OpenClaim := { program := "ytkkglaglnfebjaadoor", sum := "61d8994c4dd9c9a0d30477dd1bd5720c9701803d0b9d0144a183c2946ddbd1af", func := "vernacular/vernacularlaw16.NumPatWhole", spec := "numPatWhole", inPlace := ["internal/bytealg.IndexByteString", "internal/abi.NoEscape", "internal/bytealg.IndexString", "internal/bytealg.MakeNoZero", "internal/bytealg.abigen_runtime_cmpstring"], unfollowed := true, recurses := true, named := ["unicode/utf8.first", "unicode/utf8.acceptRanges", "internal/bytealg.MaxLen"], apart := false, laid := [("unicode/utf8.acceptRanges", laid_unicode_utf8_acceptRanges), ("unicode/utf8.first", laid_unicode_utf8_first)], narrowed := true }
def NumPatWholeUptoSaid : Prop := numPatWholeUptoRow.holds Tryd.pinned (OpenSpec.upto numPatWholeSpec)

end Rows
end Go.Proofs.YtkkglaglnfebjaaDoor
