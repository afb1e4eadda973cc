/-
  DERIVED. GIVEN WITH THE SEED: THE CARDS: each row of YtomhbbchflblpaaGreatDoorRows.lean that lists a variable, with what it lists TIED to the program's text (the seventh form; the later family's looks); each row that meets fmt, with fmt's text TOLD by the authors' own Lean function (tested against real Go, not proved from fmt's source: count such statements apart). THE CARD IS WHAT COUNTS. Prove the row's statement (the work); the ties are given (YtomhbbchflblpaaGreatDoorTie.lean); close each card by the builder's one call (the guide's Derived/Test/ToyasCard.lean, 'card_holds'). Laid BY PROGRAM, IN A SANDBOX (cutbox-door.mjs). By AI agents, Wed Nov 11 2026. No macro, syntax, notation, axiom, sorry.
-/
import Derived.Test.YtomhbbchflblpaaGreatDoorRows
import GoSem.ClaimSeven
namespace Go.Proofs.YtomhbbchflblpaaGreatDoor
namespace Rows

/-- THE TIED CARD OF 'laws.FnSigns'. -/
def fnSignsCard : Claim7 := { stood := { row := fnSignsRow, standIns := [], harness := (true, "5e08407f9f8d9f3092b56e7925e0558def38cbaeee31e8a8e8eef7c28a7398df"), looks := true }, kinds := [], alts := [], laidByText := true, laidKinds := [.data, .data, .data, .data, .sentinel, .sentinel, .pinned, .pinned], laidTests := true, laidLooks := .later }
def FnSignsCardSaid : Prop := Claim7.holds Tryz.pinned (.plain (OpenSpec.ofChange fnSignsSpec)) fnSignsCard

/-- THE TIED CARD OF 'laws.FnScalars'. -/
def fnScalarsCard : Claim7 := { stood := { row := fnScalarsRow, standIns := [], harness := (true, "5e08407f9f8d9f3092b56e7925e0558def38cbaeee31e8a8e8eef7c28a7398df"), looks := true }, kinds := [], alts := [], laidByText := true, laidKinds := [.data, .data, .data, .data, .sentinel, .sentinel, .pinned, .pinned], laidTests := true, laidLooks := .later }
def FnScalarsCardSaid : Prop := Claim7.holds Tryz.pinned (.plain (OpenSpec.ofChange fnScalarsSpec)) fnScalarsCard

/-- THE SECOND FORM's CARD OF 'laws.FnSigns'. -/
def fnSignsUptoCard : Claim7 := { stood := { row := fnSignsUptoRow, standIns := [], harness := (true, "5e08407f9f8d9f3092b56e7925e0558def38cbaeee31e8a8e8eef7c28a7398df"), looks := true }, kinds := [], alts := [], laidByText := true, laidKinds := [.data, .data, .data, .data, .sentinel, .sentinel, .pinned, .pinned], laidTests := true, laidLooks := .later }
def FnSignsUptoCardSaid : Prop := Claim7.holds Tryz.pinned (.plain (OpenSpec.upto fnSignsSpec)) fnSignsUptoCard

/-- THE SECOND FORM's CARD OF 'laws.FnScalars'. -/
def fnScalarsUptoCard : Claim7 := { stood := { row := fnScalarsUptoRow, standIns := [], harness := (true, "5e08407f9f8d9f3092b56e7925e0558def38cbaeee31e8a8e8eef7c28a7398df"), looks := true }, kinds := [], alts := [], laidByText := true, laidKinds := [.data, .data, .data, .data, .sentinel, .sentinel, .pinned, .pinned], laidTests := true, laidLooks := .later }
def FnScalarsUptoCardSaid : Prop := Claim7.holds Tryz.pinned (.plain (OpenSpec.upto fnScalarsSpec)) fnScalarsUptoCard
end Rows
end Go.Proofs.YtomhbbchflblpaaGreatDoor
