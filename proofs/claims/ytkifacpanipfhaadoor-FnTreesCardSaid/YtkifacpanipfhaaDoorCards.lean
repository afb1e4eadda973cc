/-
  DERIVED. GIVEN WITH THE SEED: THE CARDS: each row of YtkifacpanipfhaaDoorRows.lean that lists a variable, with what it lists TIED to the program's text (the seventh form; the later family's looks); each row that meets fmt, with fmt's text TOLD by the authors' own Lean function (tested against real Go, not proved from fmt's source: count such statements apart). THE CARD IS WHAT COUNTS. Prove the row's statement (the work); the ties are given (YtkifacpanipfhaaDoorTie.lean); close each card by the builder's one call (the guide's Derived/Test/ToyasCard.lean, 'card_holds'). Laid BY PROGRAM, IN A SANDBOX (cutbox-door.mjs). By AI agents, Wed Nov 11 2026. No macro, syntax, notation, axiom, sorry.
-/
import Derived.Test.YtkifacpanipfhaaDoorRows
import GoSem.ClaimSeven
namespace Go.Proofs.YtkifacpanipfhaaDoor
namespace Rows

/-- THE TIED CARD OF 'laws.FnTreeSizes'. -/
def fnTreeSizesCard : Claim7 := { stood := { row := fnTreeSizesRow, standIns := [], harness := (true, "28ebcc71ec0e3122ca0503237315cef4b9cb61175c7cb88943bb05cb5091930a"), looks := false }, kinds := [], alts := [], laidByText := true, laidKinds := [.data, .pinned], laidTests := true, laidLooks := .later }
def FnTreeSizesCardSaid : Prop := Claim7.holds Tryd.pinned (.plain (OpenSpec.ofChange fnTreeSizesSpec)) fnTreeSizesCard

/-- THE TIED CARD OF 'laws.FnTrees'. -/
def fnTreesCard : Claim7 := { stood := { row := fnTreesRow, standIns := [], harness := (true, "28ebcc71ec0e3122ca0503237315cef4b9cb61175c7cb88943bb05cb5091930a"), looks := false }, kinds := [], alts := [], laidByText := true, laidKinds := [.data, .pinned], laidTests := true, laidLooks := .later }
def FnTreesCardSaid : Prop := Claim7.holds Tryd.pinned (.plain (OpenSpec.ofChange fnTreesSpec)) fnTreesCard

/-- THE TIED CARD OF 'laws.FnExactPutKid'. -/
def fnExactPutKidCard : Claim7 := { stood := { row := fnExactPutKidRow, standIns := [], harness := (true, "28ebcc71ec0e3122ca0503237315cef4b9cb61175c7cb88943bb05cb5091930a"), looks := false }, kinds := [], alts := [], laidByText := true, laidKinds := [.data, .pinned], laidTests := true, laidLooks := .later }
def FnExactPutKidCardSaid : Prop := Claim7.holds Tryd.pinned (.plain (OpenSpec.ofChange fnExactPutKidSpec)) fnExactPutKidCard

/-- THE TIED CARD OF 'laws.FnLines'. -/
def fnLinesCard : Claim7 := { stood := { row := fnLinesRow, standIns := [], harness := (true, "28ebcc71ec0e3122ca0503237315cef4b9cb61175c7cb88943bb05cb5091930a"), looks := false }, kinds := [], alts := [], laidByText := true, laidKinds := [.data, .pinned], laidTests := true, laidLooks := .later }
def FnLinesCardSaid : Prop := Claim7.holds Tryd.pinned (.plain (OpenSpec.ofChange fnLinesSpec)) fnLinesCard

/-- THE SECOND FORM's CARD OF 'laws.FnTreeSizes'. -/
def fnTreeSizesUptoCard : Claim7 := { stood := { row := fnTreeSizesUptoRow, standIns := [], harness := (true, "28ebcc71ec0e3122ca0503237315cef4b9cb61175c7cb88943bb05cb5091930a"), looks := false }, kinds := [], alts := [], laidByText := true, laidKinds := [.data, .pinned], laidTests := true, laidLooks := .later }
def FnTreeSizesUptoCardSaid : Prop := Claim7.holds Tryd.pinned (.plain (OpenSpec.upto fnTreeSizesSpec)) fnTreeSizesUptoCard

/-- THE SECOND FORM's CARD OF 'laws.FnTrees'. -/
def fnTreesUptoCard : Claim7 := { stood := { row := fnTreesUptoRow, standIns := [], harness := (true, "28ebcc71ec0e3122ca0503237315cef4b9cb61175c7cb88943bb05cb5091930a"), looks := false }, kinds := [], alts := [], laidByText := true, laidKinds := [.data, .pinned], laidTests := true, laidLooks := .later }
def FnTreesUptoCardSaid : Prop := Claim7.holds Tryd.pinned (.plain (OpenSpec.upto fnTreesSpec)) fnTreesUptoCard

/-- THE SECOND FORM's CARD OF 'laws.FnExactPutKid'. -/
def fnExactPutKidUptoCard : Claim7 := { stood := { row := fnExactPutKidUptoRow, standIns := [], harness := (true, "28ebcc71ec0e3122ca0503237315cef4b9cb61175c7cb88943bb05cb5091930a"), looks := false }, kinds := [], alts := [], laidByText := true, laidKinds := [.data, .pinned], laidTests := true, laidLooks := .later }
def FnExactPutKidUptoCardSaid : Prop := Claim7.holds Tryd.pinned (.plain (OpenSpec.upto fnExactPutKidSpec)) fnExactPutKidUptoCard

/-- THE SECOND FORM's CARD OF 'laws.FnLines'. -/
def fnLinesUptoCard : Claim7 := { stood := { row := fnLinesUptoRow, standIns := [], harness := (true, "28ebcc71ec0e3122ca0503237315cef4b9cb61175c7cb88943bb05cb5091930a"), looks := false }, kinds := [], alts := [], laidByText := true, laidKinds := [.data, .pinned], laidTests := true, laidLooks := .later }
def FnLinesUptoCardSaid : Prop := Claim7.holds Tryd.pinned (.plain (OpenSpec.upto fnLinesSpec)) fnLinesUptoCard
end Rows
end Go.Proofs.YtkifacpanipfhaaDoor
