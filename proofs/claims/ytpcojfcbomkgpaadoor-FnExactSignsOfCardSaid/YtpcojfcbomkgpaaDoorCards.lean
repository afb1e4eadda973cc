/-
  DERIVED. GIVEN WITH THE SEED: THE CARDS: each row of YtpcojfcbomkgpaaDoorRows.lean that lists a variable, with what it lists TIED to the program's text (the seventh form; the later family's looks); each row that meets fmt, with fmt's text TOLD by the authors' own Lean function (tested against real Go, not proved from fmt's source: count such statements apart). THE CARD IS WHAT COUNTS. Prove the row's statement (the work); the ties are given (YtpcojfcbomkgpaaDoorTie.lean); close each card by the builder's one call (the guide's Derived/Test/ToyasCard.lean, 'card_holds'). Laid BY PROGRAM, IN A SANDBOX (cutbox-door.mjs). By AI agents, Wed Nov 11 2026. No macro, syntax, notation, axiom, sorry.
-/
import Derived.Test.YtpcojfcbomkgpaaDoorRows
import GoSem.ClaimSeven
namespace Go.Proofs.YtpcojfcbomkgpaaDoor
namespace Rows

/-- THE TIED CARD OF 'laws.FnExactSignAt'. -/
def fnExactSignAtCard : Claim7 := { stood := { row := fnExactSignAtRow, standIns := [], harness := (true, "33b07def21f63f8022bad579a6929b44b8b72ac106f47b309d13a172f7601619"), looks := true }, kinds := [], alts := [], laidByText := true, laidKinds := [.data, .data, .data, .data, .sentinel, .sentinel, .pinned, .pinned], laidTests := true, laidLooks := .later }
def FnExactSignAtCardSaid : Prop := Claim7.holds Tryd.pinned (.plain (OpenSpec.ofChange fnExactSignAtSpec)) fnExactSignAtCard

/-- THE TIED CARD OF 'laws.FnExactSignsOf'. -/
def fnExactSignsOfCard : Claim7 := { stood := { row := fnExactSignsOfRow, standIns := [], harness := (true, "33b07def21f63f8022bad579a6929b44b8b72ac106f47b309d13a172f7601619"), looks := true }, kinds := [], alts := [], laidByText := true, laidKinds := [.data, .data, .data, .data, .sentinel, .sentinel, .pinned, .pinned], laidTests := true, laidLooks := .later }
def FnExactSignsOfCardSaid : Prop := Claim7.holds Tryd.pinned (.plain (OpenSpec.ofChange fnExactSignsOfSpec)) fnExactSignsOfCard

/-- THE TIED CARD OF 'laws.FnExactLinesIn'. -/
def fnExactLinesInCard : Claim7 := { stood := { row := fnExactLinesInRow, standIns := [], harness := (true, "33b07def21f63f8022bad579a6929b44b8b72ac106f47b309d13a172f7601619"), looks := true }, kinds := [], alts := [], laidByText := true, laidKinds := [.data, .pinned], laidTests := true, laidLooks := .later }
def FnExactLinesInCardSaid : Prop := Claim7.holds Tryd.pinned (.plain (OpenSpec.ofChange fnExactLinesInSpec)) fnExactLinesInCard

/-- THE TIED CARD OF 'laws.FnExactIndentedLines'. -/
def fnExactIndentedLinesCard : Claim7 := { stood := { row := fnExactIndentedLinesRow, standIns := [], harness := (true, "33b07def21f63f8022bad579a6929b44b8b72ac106f47b309d13a172f7601619"), looks := true }, kinds := [], alts := [], laidByText := true, laidKinds := [.data, .data, .data, .data, .pinned], laidTests := true, laidLooks := .later }
def FnExactIndentedLinesCardSaid : Prop := Claim7.holds Tryd.pinned (.plain (OpenSpec.ofChange fnExactIndentedLinesSpec)) fnExactIndentedLinesCard

/-- THE TIED CARD OF 'laws.FnExactIndentedText'. -/
def fnExactIndentedTextCard : Claim7 := { stood := { row := fnExactIndentedTextRow, standIns := [], harness := (true, "33b07def21f63f8022bad579a6929b44b8b72ac106f47b309d13a172f7601619"), looks := true }, kinds := [], alts := [], laidByText := true, laidKinds := [.data, .data, .data, .data, .pinned], laidTests := true, laidLooks := .later }
def FnExactIndentedTextCardSaid : Prop := Claim7.holds Tryd.pinned (.plain (OpenSpec.ofChange fnExactIndentedTextSpec)) fnExactIndentedTextCard

/-- THE TIED CARD OF 'laws.FnExactPutKid'. -/
def fnExactPutKidCard : Claim7 := { stood := { row := fnExactPutKidRow, standIns := [], harness := (true, "33b07def21f63f8022bad579a6929b44b8b72ac106f47b309d13a172f7601619"), looks := true }, kinds := [], alts := [], laidByText := true, laidKinds := [.data, .pinned], laidTests := true, laidLooks := .later }
def FnExactPutKidCardSaid : Prop := Claim7.holds Tryd.pinned (.plain (OpenSpec.ofChange fnExactPutKidSpec)) fnExactPutKidCard

/-- THE TIED CARD OF 'laws.FnTreeSizes'. -/
def fnTreeSizesCard : Claim7 := { stood := { row := fnTreeSizesRow, standIns := [], harness := (true, "33b07def21f63f8022bad579a6929b44b8b72ac106f47b309d13a172f7601619"), looks := true }, kinds := [], alts := [], laidByText := true, laidKinds := [.data, .pinned], laidTests := true, laidLooks := .later }
def FnTreeSizesCardSaid : Prop := Claim7.holds Tryd.pinned (.plain (OpenSpec.ofChange fnTreeSizesSpec)) fnTreeSizesCard

/-- THE TIED CARD OF 'laws.FnTrees'. -/
def fnTreesCard : Claim7 := { stood := { row := fnTreesRow, standIns := [], harness := (true, "33b07def21f63f8022bad579a6929b44b8b72ac106f47b309d13a172f7601619"), looks := true }, kinds := [], alts := [], laidByText := true, laidKinds := [.data, .pinned], laidTests := true, laidLooks := .later }
def FnTreesCardSaid : Prop := Claim7.holds Tryd.pinned (.plain (OpenSpec.ofChange fnTreesSpec)) fnTreesCard

/-- THE TIED CARD OF 'laws.FnLines'. -/
def fnLinesCard : Claim7 := { stood := { row := fnLinesRow, standIns := [], harness := (true, "33b07def21f63f8022bad579a6929b44b8b72ac106f47b309d13a172f7601619"), looks := true }, kinds := [], alts := [], laidByText := true, laidKinds := [.data, .pinned], laidTests := true, laidLooks := .later }
def FnLinesCardSaid : Prop := Claim7.holds Tryd.pinned (.plain (OpenSpec.ofChange fnLinesSpec)) fnLinesCard

/-- THE TIED CARD OF 'laws.FnLabels'. -/
def fnLabelsCard : Claim7 := { stood := { row := fnLabelsRow, standIns := [], harness := (true, "33b07def21f63f8022bad579a6929b44b8b72ac106f47b309d13a172f7601619"), looks := true }, kinds := [], alts := [], laidByText := true, laidKinds := [.data, .pinned], laidTests := true, laidLooks := .later }
def FnLabelsCardSaid : Prop := Claim7.holds Tryd.pinned (.plain (OpenSpec.ofChange fnLabelsSpec)) fnLabelsCard

/-- THE SECOND FORM's CARD OF 'laws.FnExactSignAt'. -/
def fnExactSignAtUptoCard : Claim7 := { stood := { row := fnExactSignAtUptoRow, standIns := [], harness := (true, "33b07def21f63f8022bad579a6929b44b8b72ac106f47b309d13a172f7601619"), looks := true }, kinds := [], alts := [], laidByText := true, laidKinds := [.data, .data, .data, .data, .sentinel, .sentinel, .pinned, .pinned], laidTests := true, laidLooks := .later }
def FnExactSignAtUptoCardSaid : Prop := Claim7.holds Tryd.pinned (.plain (OpenSpec.upto fnExactSignAtSpec)) fnExactSignAtUptoCard

/-- THE SECOND FORM's CARD OF 'laws.FnExactSignsOf'. -/
def fnExactSignsOfUptoCard : Claim7 := { stood := { row := fnExactSignsOfUptoRow, standIns := [], harness := (true, "33b07def21f63f8022bad579a6929b44b8b72ac106f47b309d13a172f7601619"), looks := true }, kinds := [], alts := [], laidByText := true, laidKinds := [.data, .data, .data, .data, .sentinel, .sentinel, .pinned, .pinned], laidTests := true, laidLooks := .later }
def FnExactSignsOfUptoCardSaid : Prop := Claim7.holds Tryd.pinned (.plain (OpenSpec.upto fnExactSignsOfSpec)) fnExactSignsOfUptoCard

/-- THE SECOND FORM's CARD OF 'laws.FnExactLinesIn'. -/
def fnExactLinesInUptoCard : Claim7 := { stood := { row := fnExactLinesInUptoRow, standIns := [], harness := (true, "33b07def21f63f8022bad579a6929b44b8b72ac106f47b309d13a172f7601619"), looks := true }, kinds := [], alts := [], laidByText := true, laidKinds := [.data, .pinned], laidTests := true, laidLooks := .later }
def FnExactLinesInUptoCardSaid : Prop := Claim7.holds Tryd.pinned (.plain (OpenSpec.upto fnExactLinesInSpec)) fnExactLinesInUptoCard

/-- THE SECOND FORM's CARD OF 'laws.FnExactIndentedLines'. -/
def fnExactIndentedLinesUptoCard : Claim7 := { stood := { row := fnExactIndentedLinesUptoRow, standIns := [], harness := (true, "33b07def21f63f8022bad579a6929b44b8b72ac106f47b309d13a172f7601619"), looks := true }, kinds := [], alts := [], laidByText := true, laidKinds := [.data, .data, .data, .data, .pinned], laidTests := true, laidLooks := .later }
def FnExactIndentedLinesUptoCardSaid : Prop := Claim7.holds Tryd.pinned (.plain (OpenSpec.upto fnExactIndentedLinesSpec)) fnExactIndentedLinesUptoCard

/-- THE SECOND FORM's CARD OF 'laws.FnExactIndentedText'. -/
def fnExactIndentedTextUptoCard : Claim7 := { stood := { row := fnExactIndentedTextUptoRow, standIns := [], harness := (true, "33b07def21f63f8022bad579a6929b44b8b72ac106f47b309d13a172f7601619"), looks := true }, kinds := [], alts := [], laidByText := true, laidKinds := [.data, .data, .data, .data, .pinned], laidTests := true, laidLooks := .later }
def FnExactIndentedTextUptoCardSaid : Prop := Claim7.holds Tryd.pinned (.plain (OpenSpec.upto fnExactIndentedTextSpec)) fnExactIndentedTextUptoCard

/-- THE SECOND FORM's CARD OF 'laws.FnExactPutKid'. -/
def fnExactPutKidUptoCard : Claim7 := { stood := { row := fnExactPutKidUptoRow, standIns := [], harness := (true, "33b07def21f63f8022bad579a6929b44b8b72ac106f47b309d13a172f7601619"), looks := true }, kinds := [], alts := [], laidByText := true, laidKinds := [.data, .pinned], laidTests := true, laidLooks := .later }
def FnExactPutKidUptoCardSaid : Prop := Claim7.holds Tryd.pinned (.plain (OpenSpec.upto fnExactPutKidSpec)) fnExactPutKidUptoCard

/-- THE SECOND FORM's CARD OF 'laws.FnTreeSizes'. -/
def fnTreeSizesUptoCard : Claim7 := { stood := { row := fnTreeSizesUptoRow, standIns := [], harness := (true, "33b07def21f63f8022bad579a6929b44b8b72ac106f47b309d13a172f7601619"), looks := true }, kinds := [], alts := [], laidByText := true, laidKinds := [.data, .pinned], laidTests := true, laidLooks := .later }
def FnTreeSizesUptoCardSaid : Prop := Claim7.holds Tryd.pinned (.plain (OpenSpec.upto fnTreeSizesSpec)) fnTreeSizesUptoCard

/-- THE SECOND FORM's CARD OF 'laws.FnTrees'. -/
def fnTreesUptoCard : Claim7 := { stood := { row := fnTreesUptoRow, standIns := [], harness := (true, "33b07def21f63f8022bad579a6929b44b8b72ac106f47b309d13a172f7601619"), looks := true }, kinds := [], alts := [], laidByText := true, laidKinds := [.data, .pinned], laidTests := true, laidLooks := .later }
def FnTreesUptoCardSaid : Prop := Claim7.holds Tryd.pinned (.plain (OpenSpec.upto fnTreesSpec)) fnTreesUptoCard

/-- THE SECOND FORM's CARD OF 'laws.FnLines'. -/
def fnLinesUptoCard : Claim7 := { stood := { row := fnLinesUptoRow, standIns := [], harness := (true, "33b07def21f63f8022bad579a6929b44b8b72ac106f47b309d13a172f7601619"), looks := true }, kinds := [], alts := [], laidByText := true, laidKinds := [.data, .pinned], laidTests := true, laidLooks := .later }
def FnLinesUptoCardSaid : Prop := Claim7.holds Tryd.pinned (.plain (OpenSpec.upto fnLinesSpec)) fnLinesUptoCard

/-- THE SECOND FORM's CARD OF 'laws.FnLabels'. -/
def fnLabelsUptoCard : Claim7 := { stood := { row := fnLabelsUptoRow, standIns := [], harness := (true, "33b07def21f63f8022bad579a6929b44b8b72ac106f47b309d13a172f7601619"), looks := true }, kinds := [], alts := [], laidByText := true, laidKinds := [.data, .pinned], laidTests := true, laidLooks := .later }
def FnLabelsUptoCardSaid : Prop := Claim7.holds Tryd.pinned (.plain (OpenSpec.upto fnLabelsSpec)) fnLabelsUptoCard
end Rows
end Go.Proofs.YtpcojfcbomkgpaaDoor
