/-
  DERIVED. GIVEN WITH THE SEED: THE CARDS: each row of YtfblkmldonommaaDoorRows.lean that lists a variable, with what it lists TIED to the program's text (the seventh form; the later family's looks); each row that meets fmt, with fmt's text TOLD by the authors' own Lean function (tested against real Go, not proved from fmt's source: count such statements apart). THE CARD IS WHAT COUNTS. Prove the row's statement (the work); the ties are given (YtfblkmldonommaaDoorTie.lean); close each card by the builder's one call (the guide's Derived/Test/ToyasCard.lean, 'card_holds'). Laid BY PROGRAM, IN A SANDBOX (cutbox-door.mjs). By AI agents, Wed Nov 11 2026. No macro, syntax, notation, axiom, sorry.
-/
import Derived.Test.YtfblkmldonommaaDoorRows
import GoSem.ClaimSeven
namespace Go.Proofs.YtfblkmldonommaaDoor
namespace Rows

/-- THE TIED CARD OF 'laws.FnExactUtf8Ok'. -/
def fnExactUtf8OkCard : Claim7 := { stood := { row := fnExactUtf8OkRow, standIns := [], harness := (true, "e7a405e2018498bbe7f4656cd89b392446e85f0dfd66d1d3e7b58ae6748c9617"), looks := false }, kinds := [], alts := [], laidByText := true, laidKinds := [.data, .pinned], laidTests := true, laidLooks := .later }
def FnExactUtf8OkCardSaid : Prop := Claim7.holds Tryd.pinned (.plain (OpenSpec.ofChange fnExactUtf8OkSpec)) fnExactUtf8OkCard

/-- THE SECOND FORM's CARD OF 'laws.FnExactUtf8Ok'. -/
def fnExactUtf8OkUptoCard : Claim7 := { stood := { row := fnExactUtf8OkUptoRow, standIns := [], harness := (true, "e7a405e2018498bbe7f4656cd89b392446e85f0dfd66d1d3e7b58ae6748c9617"), looks := false }, kinds := [], alts := [], laidByText := true, laidKinds := [.data, .pinned], laidTests := true, laidLooks := .later }
def FnExactUtf8OkUptoCardSaid : Prop := Claim7.holds Tryd.pinned (.plain (OpenSpec.upto fnExactUtf8OkSpec)) fnExactUtf8OkUptoCard
end Rows
end Go.Proofs.YtfblkmldonommaaDoor
