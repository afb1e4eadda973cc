/-
  DERIVED. GIVEN WITH THE SEED: THE CARDS: each row of YtoaakbaijklhhaaDoorRows.lean that lists a variable, with what it lists TIED to the program's text (the seventh form; the later family's looks); each row that meets fmt, with fmt's text TOLD by the authors' own Lean function (tested against real Go, not proved from fmt's source: count such statements apart). THE CARD IS WHAT COUNTS. Prove the row's statement (the work); the ties are given (YtoaakbaijklhhaaDoorTie.lean); close each card by the builder's one call (the guide's Derived/Test/ToyasCard.lean, 'card_holds'). Laid BY PROGRAM, IN A SANDBOX (cutbox-door.mjs). By AI agents, Wed Nov 11 2026. No macro, syntax, notation, axiom, sorry.
-/
import Derived.Test.YtoaakbaijklhhaaDoorRows
import GoSem.ClaimSeven
namespace Go.Proofs.YtoaakbaijklhhaaDoor
namespace Rows

/-- THE TIED CARD OF 'laws.FnExactRunesOf'. -/
def fnExactRunesOfCard : Claim7 := { stood := { row := fnExactRunesOfRow, standIns := [], harness := (true, "975194fc3aea1b28d8147822d6410c6ddb06c05aac049176cb1244b059c8b99e"), looks := true }, kinds := [], alts := [], laidByText := true, laidKinds := [.data, .pinned], laidTests := true, laidLooks := .later }
def FnExactRunesOfCardSaid : Prop := Claim7.holds Tryd.pinned (.plain (OpenSpec.ofChange fnExactRunesOfSpec)) fnExactRunesOfCard

/-- THE TIED CARD OF 'laws.FnExactPlainOk'. -/
def fnExactPlainOkCard : Claim7 := { stood := { row := fnExactPlainOkRow, standIns := [], harness := (true, "975194fc3aea1b28d8147822d6410c6ddb06c05aac049176cb1244b059c8b99e"), looks := true }, kinds := [], alts := [], laidByText := true, laidKinds := [.data, .pinned], laidTests := true, laidLooks := .later }
def FnExactPlainOkCardSaid : Prop := Claim7.holds Tryd.pinned (.plain (OpenSpec.ofChange fnExactPlainOkSpec)) fnExactPlainOkCard

/-- THE TIED CARD OF 'laws.FnExactQuoted'. -/
def fnExactQuotedCard : Claim7 := { stood := { row := fnExactQuotedRow, standIns := [], harness := (true, "975194fc3aea1b28d8147822d6410c6ddb06c05aac049176cb1244b059c8b99e"), looks := true }, kinds := [], alts := [], laidByText := true, laidKinds := [.data, .pinned], laidTests := true, laidLooks := .later }
def FnExactQuotedCardSaid : Prop := Claim7.holds Tryd.pinned (.plain (OpenSpec.ofChange fnExactQuotedSpec)) fnExactQuotedCard

/-- THE TIED CARD OF 'laws.FnExactKeyText'. -/
def fnExactKeyTextCard : Claim7 := { stood := { row := fnExactKeyTextRow, standIns := [], harness := (true, "975194fc3aea1b28d8147822d6410c6ddb06c05aac049176cb1244b059c8b99e"), looks := true }, kinds := [], alts := [], laidByText := true, laidKinds := [.data, .pinned], laidTests := true, laidLooks := .later }
def FnExactKeyTextCardSaid : Prop := Claim7.holds Tryd.pinned (.plain (OpenSpec.ofChange fnExactKeyTextSpec)) fnExactKeyTextCard

/-- THE TIED CARD OF 'laws.FnNoRunes'. -/
def fnNoRunesCard : Claim7 := { stood := { row := fnNoRunesRow, standIns := [], harness := (true, "975194fc3aea1b28d8147822d6410c6ddb06c05aac049176cb1244b059c8b99e"), looks := true }, kinds := [], alts := [], laidByText := true, laidKinds := [.data, .pinned], laidTests := true, laidLooks := .later }
def FnNoRunesCardSaid : Prop := Claim7.holds Tryd.pinned (.plain (OpenSpec.ofChange fnNoRunesSpec)) fnNoRunesCard

/-- THE TIED CARD OF 'laws.FnRunes'. -/
def fnRunesCard : Claim7 := { stood := { row := fnRunesRow, standIns := [], harness := (true, "975194fc3aea1b28d8147822d6410c6ddb06c05aac049176cb1244b059c8b99e"), looks := true }, kinds := [], alts := [], laidByText := true, laidKinds := [.data, .pinned], laidTests := true, laidLooks := .later }
def FnRunesCardSaid : Prop := Claim7.holds Tryd.pinned (.plain (OpenSpec.ofChange fnRunesSpec)) fnRunesCard

/-- THE TIED CARD OF 'laws.FnExactReadQuoted'. -/
def fnExactReadQuotedCard : Claim7 := { stood := { row := fnExactReadQuotedRow, standIns := [], harness := (true, "975194fc3aea1b28d8147822d6410c6ddb06c05aac049176cb1244b059c8b99e"), looks := true }, kinds := [], alts := [], laidByText := true, laidKinds := [.data, .pinned, .pinned], laidTests := true, laidLooks := .later }
def FnExactReadQuotedCardSaid : Prop := Claim7.holds Tryd.pinned (.plain (OpenSpec.ofChange fnExactReadQuotedSpec)) fnExactReadQuotedCard

/-- THE TIED CARD OF 'laws.FnWholes'. -/
def fnWholesCard : Claim7 := { stood := { row := fnWholesRow, standIns := [], harness := (true, "975194fc3aea1b28d8147822d6410c6ddb06c05aac049176cb1244b059c8b99e"), looks := true }, kinds := [], alts := [], laidByText := true, laidKinds := [.data, .data, .data, .sentinel, .sentinel], laidTests := true, laidLooks := .later }
def FnWholesCardSaid : Prop := Claim7.holds Tryd.pinned (.plain (OpenSpec.ofChange fnWholesSpec)) fnWholesCard

/-- THE TIED CARD OF 'laws.FnExactReadWhole'. -/
def fnExactReadWholeCard : Claim7 := { stood := { row := fnExactReadWholeRow, standIns := [], harness := (true, "975194fc3aea1b28d8147822d6410c6ddb06c05aac049176cb1244b059c8b99e"), looks := true }, kinds := [], alts := [], laidByText := true, laidKinds := [.data, .data, .data, .sentinel, .sentinel], laidTests := true, laidLooks := .later }
def FnExactReadWholeCardSaid : Prop := Claim7.holds Tryd.pinned (.plain (OpenSpec.ofChange fnExactReadWholeSpec)) fnExactReadWholeCard

/-- THE TIED CARD OF 'laws.FnQuoted'. -/
def fnQuotedCard : Claim7 := { stood := { row := fnQuotedRow, standIns := [], harness := (true, "975194fc3aea1b28d8147822d6410c6ddb06c05aac049176cb1244b059c8b99e"), looks := true }, kinds := [], alts := [], laidByText := true, laidKinds := [.data, .pinned, .pinned], laidTests := true, laidLooks := .later }
def FnQuotedCardSaid : Prop := Claim7.holds Tryd.pinned (.plain (OpenSpec.ofChange fnQuotedSpec)) fnQuotedCard

/-- THE TIED CARD OF 'laws.FnExactKeyOf'. -/
def fnExactKeyOfCard : Claim7 := { stood := { row := fnExactKeyOfRow, standIns := [], harness := (true, "975194fc3aea1b28d8147822d6410c6ddb06c05aac049176cb1244b059c8b99e"), looks := true }, kinds := [], alts := [], laidByText := true, laidKinds := [.data, .pinned, .pinned], laidTests := true, laidLooks := .later }
def FnExactKeyOfCardSaid : Prop := Claim7.holds Tryd.pinned (.plain (OpenSpec.ofChange fnExactKeyOfSpec)) fnExactKeyOfCard

/-- THE TIED CARD OF 'laws.FnKeys'. -/
def fnKeysCard : Claim7 := { stood := { row := fnKeysRow, standIns := [], harness := (true, "975194fc3aea1b28d8147822d6410c6ddb06c05aac049176cb1244b059c8b99e"), looks := true }, kinds := [], alts := [], laidByText := true, laidKinds := [.data, .pinned, .pinned], laidTests := true, laidLooks := .later }
def FnKeysCardSaid : Prop := Claim7.holds Tryd.pinned (.plain (OpenSpec.ofChange fnKeysSpec)) fnKeysCard

/-- THE SECOND FORM's CARD OF 'laws.FnExactRunesOf'. -/
def fnExactRunesOfUptoCard : Claim7 := { stood := { row := fnExactRunesOfUptoRow, standIns := [], harness := (true, "975194fc3aea1b28d8147822d6410c6ddb06c05aac049176cb1244b059c8b99e"), looks := true }, kinds := [], alts := [], laidByText := true, laidKinds := [.data, .pinned], laidTests := true, laidLooks := .later }
def FnExactRunesOfUptoCardSaid : Prop := Claim7.holds Tryd.pinned (.plain (OpenSpec.upto fnExactRunesOfSpec)) fnExactRunesOfUptoCard

/-- THE SECOND FORM's CARD OF 'laws.FnExactPlainOk'. -/
def fnExactPlainOkUptoCard : Claim7 := { stood := { row := fnExactPlainOkUptoRow, standIns := [], harness := (true, "975194fc3aea1b28d8147822d6410c6ddb06c05aac049176cb1244b059c8b99e"), looks := true }, kinds := [], alts := [], laidByText := true, laidKinds := [.data, .pinned], laidTests := true, laidLooks := .later }
def FnExactPlainOkUptoCardSaid : Prop := Claim7.holds Tryd.pinned (.plain (OpenSpec.upto fnExactPlainOkSpec)) fnExactPlainOkUptoCard

/-- THE SECOND FORM's CARD OF 'laws.FnExactQuoted'. -/
def fnExactQuotedUptoCard : Claim7 := { stood := { row := fnExactQuotedUptoRow, standIns := [], harness := (true, "975194fc3aea1b28d8147822d6410c6ddb06c05aac049176cb1244b059c8b99e"), looks := true }, kinds := [], alts := [], laidByText := true, laidKinds := [.data, .pinned], laidTests := true, laidLooks := .later }
def FnExactQuotedUptoCardSaid : Prop := Claim7.holds Tryd.pinned (.plain (OpenSpec.upto fnExactQuotedSpec)) fnExactQuotedUptoCard

/-- THE SECOND FORM's CARD OF 'laws.FnExactKeyText'. -/
def fnExactKeyTextUptoCard : Claim7 := { stood := { row := fnExactKeyTextUptoRow, standIns := [], harness := (true, "975194fc3aea1b28d8147822d6410c6ddb06c05aac049176cb1244b059c8b99e"), looks := true }, kinds := [], alts := [], laidByText := true, laidKinds := [.data, .pinned], laidTests := true, laidLooks := .later }
def FnExactKeyTextUptoCardSaid : Prop := Claim7.holds Tryd.pinned (.plain (OpenSpec.upto fnExactKeyTextSpec)) fnExactKeyTextUptoCard

/-- THE SECOND FORM's CARD OF 'laws.FnNoRunes'. -/
def fnNoRunesUptoCard : Claim7 := { stood := { row := fnNoRunesUptoRow, standIns := [], harness := (true, "975194fc3aea1b28d8147822d6410c6ddb06c05aac049176cb1244b059c8b99e"), looks := true }, kinds := [], alts := [], laidByText := true, laidKinds := [.data, .pinned], laidTests := true, laidLooks := .later }
def FnNoRunesUptoCardSaid : Prop := Claim7.holds Tryd.pinned (.plain (OpenSpec.upto fnNoRunesSpec)) fnNoRunesUptoCard

/-- THE SECOND FORM's CARD OF 'laws.FnRunes'. -/
def fnRunesUptoCard : Claim7 := { stood := { row := fnRunesUptoRow, standIns := [], harness := (true, "975194fc3aea1b28d8147822d6410c6ddb06c05aac049176cb1244b059c8b99e"), looks := true }, kinds := [], alts := [], laidByText := true, laidKinds := [.data, .pinned], laidTests := true, laidLooks := .later }
def FnRunesUptoCardSaid : Prop := Claim7.holds Tryd.pinned (.plain (OpenSpec.upto fnRunesSpec)) fnRunesUptoCard

/-- THE SECOND FORM's CARD OF 'laws.FnExactReadQuoted'. -/
def fnExactReadQuotedUptoCard : Claim7 := { stood := { row := fnExactReadQuotedUptoRow, standIns := [], harness := (true, "975194fc3aea1b28d8147822d6410c6ddb06c05aac049176cb1244b059c8b99e"), looks := true }, kinds := [], alts := [], laidByText := true, laidKinds := [.data, .pinned, .pinned], laidTests := true, laidLooks := .later }
def FnExactReadQuotedUptoCardSaid : Prop := Claim7.holds Tryd.pinned (.plain (OpenSpec.upto fnExactReadQuotedSpec)) fnExactReadQuotedUptoCard

/-- THE SECOND FORM's CARD OF 'laws.FnWholes'. -/
def fnWholesUptoCard : Claim7 := { stood := { row := fnWholesUptoRow, standIns := [], harness := (true, "975194fc3aea1b28d8147822d6410c6ddb06c05aac049176cb1244b059c8b99e"), looks := true }, kinds := [], alts := [], laidByText := true, laidKinds := [.data, .data, .data, .sentinel, .sentinel], laidTests := true, laidLooks := .later }
def FnWholesUptoCardSaid : Prop := Claim7.holds Tryd.pinned (.plain (OpenSpec.upto fnWholesSpec)) fnWholesUptoCard

/-- THE SECOND FORM's CARD OF 'laws.FnExactReadWhole'. -/
def fnExactReadWholeUptoCard : Claim7 := { stood := { row := fnExactReadWholeUptoRow, standIns := [], harness := (true, "975194fc3aea1b28d8147822d6410c6ddb06c05aac049176cb1244b059c8b99e"), looks := true }, kinds := [], alts := [], laidByText := true, laidKinds := [.data, .data, .data, .sentinel, .sentinel], laidTests := true, laidLooks := .later }
def FnExactReadWholeUptoCardSaid : Prop := Claim7.holds Tryd.pinned (.plain (OpenSpec.upto fnExactReadWholeSpec)) fnExactReadWholeUptoCard

/-- THE SECOND FORM's CARD OF 'laws.FnQuoted'. -/
def fnQuotedUptoCard : Claim7 := { stood := { row := fnQuotedUptoRow, standIns := [], harness := (true, "975194fc3aea1b28d8147822d6410c6ddb06c05aac049176cb1244b059c8b99e"), looks := true }, kinds := [], alts := [], laidByText := true, laidKinds := [.data, .pinned, .pinned], laidTests := true, laidLooks := .later }
def FnQuotedUptoCardSaid : Prop := Claim7.holds Tryd.pinned (.plain (OpenSpec.upto fnQuotedSpec)) fnQuotedUptoCard

/-- THE SECOND FORM's CARD OF 'laws.FnExactKeyOf'. -/
def fnExactKeyOfUptoCard : Claim7 := { stood := { row := fnExactKeyOfUptoRow, standIns := [], harness := (true, "975194fc3aea1b28d8147822d6410c6ddb06c05aac049176cb1244b059c8b99e"), looks := true }, kinds := [], alts := [], laidByText := true, laidKinds := [.data, .pinned, .pinned], laidTests := true, laidLooks := .later }
def FnExactKeyOfUptoCardSaid : Prop := Claim7.holds Tryd.pinned (.plain (OpenSpec.upto fnExactKeyOfSpec)) fnExactKeyOfUptoCard

/-- THE SECOND FORM's CARD OF 'laws.FnKeys'. -/
def fnKeysUptoCard : Claim7 := { stood := { row := fnKeysUptoRow, standIns := [], harness := (true, "975194fc3aea1b28d8147822d6410c6ddb06c05aac049176cb1244b059c8b99e"), looks := true }, kinds := [], alts := [], laidByText := true, laidKinds := [.data, .pinned, .pinned], laidTests := true, laidLooks := .later }
def FnKeysUptoCardSaid : Prop := Claim7.holds Tryd.pinned (.plain (OpenSpec.upto fnKeysSpec)) fnKeysUptoCard
end Rows
end Go.Proofs.YtoaakbaijklhhaaDoor
