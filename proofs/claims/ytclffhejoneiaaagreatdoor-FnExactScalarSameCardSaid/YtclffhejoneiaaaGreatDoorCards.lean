/-
  DERIVED. GIVEN WITH THE SEED: THE CARDS: each row of YtclffhejoneiaaaGreatDoorRows.lean that lists a variable, with what it lists TIED to the program's text (the seventh form; the later family's looks); each row that meets fmt, with fmt's text TOLD by the authors' own Lean function (tested against real Go, not proved from fmt's source: count such statements apart). THE CARD IS WHAT COUNTS. Prove the row's statement (the work); the ties are given (YtclffhejoneiaaaGreatDoorTie.lean); close each card by the builder's one call (the guide's Derived/Test/ToyasCard.lean, 'card_holds'). Laid BY PROGRAM, IN A SANDBOX (cutbox-door.mjs). By AI agents, Wed Nov 11 2026. No macro, syntax, notation, axiom, sorry.
-/
import Derived.Test.YtclffhejoneiaaaGreatDoorRows
import GoSem.ClaimSeven
namespace Go.Proofs.YtclffhejoneiaaaGreatDoor
namespace Rows

/-- THE TIED CARD OF 'laws.FnExactReadScalar'. -/
def fnExactReadScalarCard : Claim7 := { stood := { row := fnExactReadScalarRow, standIns := [], harness := (true, "898ac0450ac99f534e0f60f2a4a5e5397d5f3f531dc52081933108a3b4513a0b"), looks := true }, kinds := [], alts := [], laidByText := true, laidKinds := [.data, .data, .data, .data, .sentinel, .sentinel, .pinned, .pinned], laidTests := true, laidLooks := .later }
def FnExactReadScalarCardSaid : Prop := Claim7.holds Tryz.pinned (.plain (OpenSpec.ofChange fnExactReadScalarSpec)) fnExactReadScalarCard

/-- THE TIED CARD OF 'laws.FnExactScalarSame'. -/
def fnExactScalarSameCard : Claim7 := { stood := { row := fnExactScalarSameRow, standIns := [], harness := (true, "898ac0450ac99f534e0f60f2a4a5e5397d5f3f531dc52081933108a3b4513a0b"), looks := true }, kinds := [], alts := [], laidByText := true, laidKinds := [.data, .data, .data, .data, .sentinel, .sentinel, .pinned, .pinned], laidTests := true, laidLooks := .later }
def FnExactScalarSameCardSaid : Prop := Claim7.holds Tryz.pinned (.plain (OpenSpec.ofChange fnExactScalarSameSpec)) fnExactScalarSameCard

/-- THE TIED CARD OF 'laws.FnExactInline'. -/
def fnExactInlineCard : Claim7 := { stood := { row := fnExactInlineRow, standIns := [], harness := (true, "898ac0450ac99f534e0f60f2a4a5e5397d5f3f531dc52081933108a3b4513a0b"), looks := true }, kinds := [], alts := [], laidByText := true, laidKinds := [.data, .data, .data, .data, .sentinel, .sentinel, .pinned, .pinned], laidTests := true, laidLooks := .later }
def FnExactInlineCardSaid : Prop := Claim7.holds Tryz.pinned (.plain (OpenSpec.ofChange fnExactInlineSpec)) fnExactInlineCard

/-- THE SECOND FORM's CARD OF 'laws.FnExactReadScalar'. -/
def fnExactReadScalarUptoCard : Claim7 := { stood := { row := fnExactReadScalarUptoRow, standIns := [], harness := (true, "898ac0450ac99f534e0f60f2a4a5e5397d5f3f531dc52081933108a3b4513a0b"), looks := true }, kinds := [], alts := [], laidByText := true, laidKinds := [.data, .data, .data, .data, .sentinel, .sentinel, .pinned, .pinned], laidTests := true, laidLooks := .later }
def FnExactReadScalarUptoCardSaid : Prop := Claim7.holds Tryz.pinned (.plain (OpenSpec.upto fnExactReadScalarSpec)) fnExactReadScalarUptoCard

/-- THE SECOND FORM's CARD OF 'laws.FnExactScalarSame'. -/
def fnExactScalarSameUptoCard : Claim7 := { stood := { row := fnExactScalarSameUptoRow, standIns := [], harness := (true, "898ac0450ac99f534e0f60f2a4a5e5397d5f3f531dc52081933108a3b4513a0b"), looks := true }, kinds := [], alts := [], laidByText := true, laidKinds := [.data, .data, .data, .data, .sentinel, .sentinel, .pinned, .pinned], laidTests := true, laidLooks := .later }
def FnExactScalarSameUptoCardSaid : Prop := Claim7.holds Tryz.pinned (.plain (OpenSpec.upto fnExactScalarSameSpec)) fnExactScalarSameUptoCard

/-- THE SECOND FORM's CARD OF 'laws.FnExactInline'. -/
def fnExactInlineUptoCard : Claim7 := { stood := { row := fnExactInlineUptoRow, standIns := [], harness := (true, "898ac0450ac99f534e0f60f2a4a5e5397d5f3f531dc52081933108a3b4513a0b"), looks := true }, kinds := [], alts := [], laidByText := true, laidKinds := [.data, .data, .data, .data, .sentinel, .sentinel, .pinned, .pinned], laidTests := true, laidLooks := .later }
def FnExactInlineUptoCardSaid : Prop := Claim7.holds Tryz.pinned (.plain (OpenSpec.upto fnExactInlineSpec)) fnExactInlineUptoCard
end Rows
end Go.Proofs.YtclffhejoneiaaaGreatDoor
