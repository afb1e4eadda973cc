/-
  DERIVED. GIVEN WITH THE SEED: THE CARDS: each row of YtclffhejoneiaaaDoorRRows.lean that lists a variable, with what it lists TIED to the program's text (the seventh form; the later family's looks); each row that meets fmt, with fmt's text TOLD by the authors' own Lean function (tested against real Go, not proved from fmt's source: count such statements apart). THE CARD IS WHAT COUNTS. Prove the row's statement (the work); the ties are given (YtclffhejoneiaaaDoorRTie.lean); close each card by the builder's one call (the guide's Derived/Test/ToyasCard.lean, 'card_holds'). Laid BY PROGRAM, IN A SANDBOX (cutbox-door.mjs). By AI agents, Wed Nov 11 2026. No macro, syntax, notation, axiom, sorry.
-/
import Derived.Test.YtclffhejoneiaaaDoorRRows
import GoSem.ClaimSeven
namespace Go.Proofs.YtclffhejoneiaaaDoorR
namespace Rows

/-- THE TIED CARD OF 'laws.FnExactSignAt'. -/
def fnExactSignAtCard : Claim7 := { stood := { row := fnExactSignAtRow, standIns := [], harness := (true, "d3ce215ca629a4b9b0ba15cc47b1a2457e6e753a79187b77c29cd728fcb103f9"), looks := true }, kinds := [], alts := [], laidByText := true, laidKinds := [.data, .data, .data, .data, .sentinel, .sentinel, .pinned, .pinned], laidTests := true, laidLooks := .later }
def FnExactSignAtCardSaid : Prop := Claim7.holds Tryd.pinned (.plain (OpenSpec.ofChange fnExactSignAtSpec)) fnExactSignAtCard

/-- THE TIED CARD OF 'laws.FnExactLinesIn'. -/
def fnExactLinesInCard : Claim7 := { stood := { row := fnExactLinesInRow, standIns := [], harness := (true, "d3ce215ca629a4b9b0ba15cc47b1a2457e6e753a79187b77c29cd728fcb103f9"), looks := true }, kinds := [], alts := [], laidByText := true, laidKinds := [.data, .pinned], laidTests := true, laidLooks := .later }
def FnExactLinesInCardSaid : Prop := Claim7.holds Tryd.pinned (.plain (OpenSpec.ofChange fnExactLinesInSpec)) fnExactLinesInCard

/-- THE TIED CARD OF 'laws.FnExactScalarText'. -/
def fnExactScalarTextCard : Claim7 := { stood := { row := fnExactScalarTextRow, standIns := [], harness := (true, "d3ce215ca629a4b9b0ba15cc47b1a2457e6e753a79187b77c29cd728fcb103f9"), looks := true }, kinds := [], alts := [], laidByText := true, laidKinds := [.data, .data, .data, .data, .pinned], laidTests := true, laidLooks := .later }
def FnExactScalarTextCardSaid : Prop := Claim7.holds Tryd.pinned (.plain (OpenSpec.ofChange fnExactScalarTextSpec)) fnExactScalarTextCard

/-- THE TIED CARD OF 'laws.FnExactIndentedLines'. -/
def fnExactIndentedLinesCard : Claim7 := { stood := { row := fnExactIndentedLinesRow, standIns := [], harness := (true, "d3ce215ca629a4b9b0ba15cc47b1a2457e6e753a79187b77c29cd728fcb103f9"), looks := true }, kinds := [], alts := [], laidByText := true, laidKinds := [.data, .data, .data, .data, .pinned], laidTests := true, laidLooks := .later }
def FnExactIndentedLinesCardSaid : Prop := Claim7.holds Tryd.pinned (.plain (OpenSpec.ofChange fnExactIndentedLinesSpec)) fnExactIndentedLinesCard

/-- THE TIED CARD OF 'laws.FnExactIndentedText'. -/
def fnExactIndentedTextCard : Claim7 := { stood := { row := fnExactIndentedTextRow, standIns := [], harness := (true, "d3ce215ca629a4b9b0ba15cc47b1a2457e6e753a79187b77c29cd728fcb103f9"), looks := true }, kinds := [], alts := [], laidByText := true, laidKinds := [.data, .data, .data, .data, .pinned], laidTests := true, laidLooks := .later }
def FnExactIndentedTextCardSaid : Prop := Claim7.holds Tryd.pinned (.plain (OpenSpec.ofChange fnExactIndentedTextSpec)) fnExactIndentedTextCard

/-- THE TIED CARD OF 'laws.FnExactTreeOk'. -/
def fnExactTreeOkCard : Claim7 := { stood := { row := fnExactTreeOkRow, standIns := [], harness := (true, "d3ce215ca629a4b9b0ba15cc47b1a2457e6e753a79187b77c29cd728fcb103f9"), looks := true }, kinds := [], alts := [], laidByText := true, laidKinds := [.data, .pinned], laidTests := true, laidLooks := .later }
def FnExactTreeOkCardSaid : Prop := Claim7.holds Tryd.pinned (.plain (OpenSpec.ofChange fnExactTreeOkSpec)) fnExactTreeOkCard

/-- THE TIED CARD OF 'laws.FnExactPutKid'. -/
def fnExactPutKidCard : Claim7 := { stood := { row := fnExactPutKidRow, standIns := [], harness := (true, "d3ce215ca629a4b9b0ba15cc47b1a2457e6e753a79187b77c29cd728fcb103f9"), looks := true }, kinds := [], alts := [], laidByText := true, laidKinds := [.data, .pinned], laidTests := true, laidLooks := .later }
def FnExactPutKidCardSaid : Prop := Claim7.holds Tryd.pinned (.plain (OpenSpec.ofChange fnExactPutKidSpec)) fnExactPutKidCard

/-- THE TIED CARD OF 'laws.FnExactBracedText'. -/
def fnExactBracedTextCard : Claim7 := { stood := { row := fnExactBracedTextRow, standIns := [], harness := (true, "d3ce215ca629a4b9b0ba15cc47b1a2457e6e753a79187b77c29cd728fcb103f9"), looks := true }, kinds := [], alts := [], laidByText := true, laidKinds := [.data, .data, .data, .data, .pinned], laidTests := true, laidLooks := .later }
def FnExactBracedTextCardSaid : Prop := Claim7.holds Tryd.pinned (.plain (OpenSpec.ofChange fnExactBracedTextSpec)) fnExactBracedTextCard

/-- THE SECOND FORM's CARD OF 'laws.FnExactSignAt'. -/
def fnExactSignAtUptoCard : Claim7 := { stood := { row := fnExactSignAtUptoRow, standIns := [], harness := (true, "d3ce215ca629a4b9b0ba15cc47b1a2457e6e753a79187b77c29cd728fcb103f9"), looks := true }, kinds := [], alts := [], laidByText := true, laidKinds := [.data, .data, .data, .data, .sentinel, .sentinel, .pinned, .pinned], laidTests := true, laidLooks := .later }
def FnExactSignAtUptoCardSaid : Prop := Claim7.holds Tryd.pinned (.plain (OpenSpec.upto fnExactSignAtSpec)) fnExactSignAtUptoCard

/-- THE SECOND FORM's CARD OF 'laws.FnExactLinesIn'. -/
def fnExactLinesInUptoCard : Claim7 := { stood := { row := fnExactLinesInUptoRow, standIns := [], harness := (true, "d3ce215ca629a4b9b0ba15cc47b1a2457e6e753a79187b77c29cd728fcb103f9"), looks := true }, kinds := [], alts := [], laidByText := true, laidKinds := [.data, .pinned], laidTests := true, laidLooks := .later }
def FnExactLinesInUptoCardSaid : Prop := Claim7.holds Tryd.pinned (.plain (OpenSpec.upto fnExactLinesInSpec)) fnExactLinesInUptoCard

/-- THE SECOND FORM's CARD OF 'laws.FnExactScalarText'. -/
def fnExactScalarTextUptoCard : Claim7 := { stood := { row := fnExactScalarTextUptoRow, standIns := [], harness := (true, "d3ce215ca629a4b9b0ba15cc47b1a2457e6e753a79187b77c29cd728fcb103f9"), looks := true }, kinds := [], alts := [], laidByText := true, laidKinds := [.data, .data, .data, .data, .pinned], laidTests := true, laidLooks := .later }
def FnExactScalarTextUptoCardSaid : Prop := Claim7.holds Tryd.pinned (.plain (OpenSpec.upto fnExactScalarTextSpec)) fnExactScalarTextUptoCard

/-- THE SECOND FORM's CARD OF 'laws.FnExactIndentedLines'. -/
def fnExactIndentedLinesUptoCard : Claim7 := { stood := { row := fnExactIndentedLinesUptoRow, standIns := [], harness := (true, "d3ce215ca629a4b9b0ba15cc47b1a2457e6e753a79187b77c29cd728fcb103f9"), looks := true }, kinds := [], alts := [], laidByText := true, laidKinds := [.data, .data, .data, .data, .pinned], laidTests := true, laidLooks := .later }
def FnExactIndentedLinesUptoCardSaid : Prop := Claim7.holds Tryd.pinned (.plain (OpenSpec.upto fnExactIndentedLinesSpec)) fnExactIndentedLinesUptoCard

/-- THE SECOND FORM's CARD OF 'laws.FnExactIndentedText'. -/
def fnExactIndentedTextUptoCard : Claim7 := { stood := { row := fnExactIndentedTextUptoRow, standIns := [], harness := (true, "d3ce215ca629a4b9b0ba15cc47b1a2457e6e753a79187b77c29cd728fcb103f9"), looks := true }, kinds := [], alts := [], laidByText := true, laidKinds := [.data, .data, .data, .data, .pinned], laidTests := true, laidLooks := .later }
def FnExactIndentedTextUptoCardSaid : Prop := Claim7.holds Tryd.pinned (.plain (OpenSpec.upto fnExactIndentedTextSpec)) fnExactIndentedTextUptoCard

/-- THE SECOND FORM's CARD OF 'laws.FnExactTreeOk'. -/
def fnExactTreeOkUptoCard : Claim7 := { stood := { row := fnExactTreeOkUptoRow, standIns := [], harness := (true, "d3ce215ca629a4b9b0ba15cc47b1a2457e6e753a79187b77c29cd728fcb103f9"), looks := true }, kinds := [], alts := [], laidByText := true, laidKinds := [.data, .pinned], laidTests := true, laidLooks := .later }
def FnExactTreeOkUptoCardSaid : Prop := Claim7.holds Tryd.pinned (.plain (OpenSpec.upto fnExactTreeOkSpec)) fnExactTreeOkUptoCard

/-- THE SECOND FORM's CARD OF 'laws.FnExactPutKid'. -/
def fnExactPutKidUptoCard : Claim7 := { stood := { row := fnExactPutKidUptoRow, standIns := [], harness := (true, "d3ce215ca629a4b9b0ba15cc47b1a2457e6e753a79187b77c29cd728fcb103f9"), looks := true }, kinds := [], alts := [], laidByText := true, laidKinds := [.data, .pinned], laidTests := true, laidLooks := .later }
def FnExactPutKidUptoCardSaid : Prop := Claim7.holds Tryd.pinned (.plain (OpenSpec.upto fnExactPutKidSpec)) fnExactPutKidUptoCard

/-- THE SECOND FORM's CARD OF 'laws.FnExactBracedText'. -/
def fnExactBracedTextUptoCard : Claim7 := { stood := { row := fnExactBracedTextUptoRow, standIns := [], harness := (true, "d3ce215ca629a4b9b0ba15cc47b1a2457e6e753a79187b77c29cd728fcb103f9"), looks := true }, kinds := [], alts := [], laidByText := true, laidKinds := [.data, .data, .data, .data, .pinned], laidTests := true, laidLooks := .later }
def FnExactBracedTextUptoCardSaid : Prop := Claim7.holds Tryd.pinned (.plain (OpenSpec.upto fnExactBracedTextSpec)) fnExactBracedTextUptoCard
end Rows
end Go.Proofs.YtclffhejoneiaaaDoorR
