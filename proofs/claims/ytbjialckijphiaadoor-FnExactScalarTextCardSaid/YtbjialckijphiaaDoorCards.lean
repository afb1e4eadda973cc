/-
  DERIVED. GIVEN WITH THE SEED: THE CARDS: each row of YtbjialckijphiaaDoorRows.lean that lists a variable, with what it lists TIED to the program's text (the seventh form; the later family's looks); each row that meets fmt, with fmt's text TOLD by the authors' own Lean function (tested against real Go, not proved from fmt's source: count such statements apart). THE CARD IS WHAT COUNTS. Prove the row's statement (the work); the ties are given (YtbjialckijphiaaDoorTie.lean); close each card by the builder's one call (the guide's Derived/Test/ToyasCard.lean, 'card_holds'). Laid BY PROGRAM, IN A SANDBOX (cutbox-door.mjs). By AI agents, Wed Nov 11 2026. No macro, syntax, notation, axiom, sorry.
-/
import Derived.Test.YtbjialckijphiaaDoorRows
import GoSem.ClaimSeven
namespace Go.Proofs.YtbjialckijphiaaDoor
namespace Rows

/-- THE TIED CARD OF 'laws.FnExactTreeOk'. -/
def fnExactTreeOkCard : Claim7 := { stood := { row := fnExactTreeOkRow, standIns := [], harness := (true, "e2875e94fd63473069d4e3da18bccc3b8a1cf5710a5632f4baf5a4103410854d"), looks := false }, kinds := [], alts := [], laidByText := true, laidKinds := [.data, .pinned], laidTests := true, laidLooks := .later }
def FnExactTreeOkCardSaid : Prop := Claim7.holds Tryd.pinned (.plain (OpenSpec.ofChange fnExactTreeOkSpec)) fnExactTreeOkCard

/-- THE TIED CARD OF 'laws.FnExactBracedText'. -/
def fnExactBracedTextCard : Claim7 := { stood := { row := fnExactBracedTextRow, standIns := [], harness := (true, "e2875e94fd63473069d4e3da18bccc3b8a1cf5710a5632f4baf5a4103410854d"), looks := false }, kinds := [], alts := [], laidByText := true, laidKinds := [.data, .data, .data, .data, .pinned], laidTests := true, laidLooks := .later }
def FnExactBracedTextCardSaid : Prop := Claim7.holds Tryd.pinned (.plain (OpenSpec.ofChange fnExactBracedTextSpec)) fnExactBracedTextCard

/-- THE TIED CARD OF 'laws.FnExactScalarText'. -/
def fnExactScalarTextCard : Claim7 := { stood := { row := fnExactScalarTextRow, standIns := [], harness := (true, "e2875e94fd63473069d4e3da18bccc3b8a1cf5710a5632f4baf5a4103410854d"), looks := false }, kinds := [], alts := [], laidByText := true, laidKinds := [.data, .data, .data, .data, .pinned], laidTests := true, laidLooks := .later }
def FnExactScalarTextCardSaid : Prop := Claim7.holds Tryd.pinned (.plain (OpenSpec.ofChange fnExactScalarTextSpec)) fnExactScalarTextCard

/-- THE SECOND FORM's CARD OF 'laws.FnExactTreeOk'. -/
def fnExactTreeOkUptoCard : Claim7 := { stood := { row := fnExactTreeOkUptoRow, standIns := [], harness := (true, "e2875e94fd63473069d4e3da18bccc3b8a1cf5710a5632f4baf5a4103410854d"), looks := false }, kinds := [], alts := [], laidByText := true, laidKinds := [.data, .pinned], laidTests := true, laidLooks := .later }
def FnExactTreeOkUptoCardSaid : Prop := Claim7.holds Tryd.pinned (.plain (OpenSpec.upto fnExactTreeOkSpec)) fnExactTreeOkUptoCard

/-- THE SECOND FORM's CARD OF 'laws.FnExactBracedText'. -/
def fnExactBracedTextUptoCard : Claim7 := { stood := { row := fnExactBracedTextUptoRow, standIns := [], harness := (true, "e2875e94fd63473069d4e3da18bccc3b8a1cf5710a5632f4baf5a4103410854d"), looks := false }, kinds := [], alts := [], laidByText := true, laidKinds := [.data, .data, .data, .data, .pinned], laidTests := true, laidLooks := .later }
def FnExactBracedTextUptoCardSaid : Prop := Claim7.holds Tryd.pinned (.plain (OpenSpec.upto fnExactBracedTextSpec)) fnExactBracedTextUptoCard

/-- THE SECOND FORM's CARD OF 'laws.FnExactScalarText'. -/
def fnExactScalarTextUptoCard : Claim7 := { stood := { row := fnExactScalarTextUptoRow, standIns := [], harness := (true, "e2875e94fd63473069d4e3da18bccc3b8a1cf5710a5632f4baf5a4103410854d"), looks := false }, kinds := [], alts := [], laidByText := true, laidKinds := [.data, .data, .data, .data, .pinned], laidTests := true, laidLooks := .later }
def FnExactScalarTextUptoCardSaid : Prop := Claim7.holds Tryd.pinned (.plain (OpenSpec.upto fnExactScalarTextSpec)) fnExactScalarTextUptoCard
end Rows
end Go.Proofs.YtbjialckijphiaaDoor
