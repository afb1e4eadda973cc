/-
  DERIVED. GIVEN WITH THE SEED: THE CARDS: each row of YtjkfjdapkkhkfaaDoorRows.lean that lists a variable, with what it lists TIED to the program's text (the seventh form; the later family's looks); each row that meets fmt, with fmt's text TOLD by the authors' own Lean function (tested against real Go, not proved from fmt's source: count such statements apart). THE CARD IS WHAT COUNTS. Prove the row's statement (the work); the ties are given (YtjkfjdapkkhkfaaDoorTie.lean); close each card by the builder's one call (the guide's Derived/Test/ToyasCard.lean, 'card_holds'). Laid BY PROGRAM, IN A SANDBOX (cutbox-door.mjs). By AI agents, Wed Nov 11 2026. No macro, syntax, notation, axiom, sorry.
-/
import Derived.Test.YtjkfjdapkkhkfaaDoorRows
import GoSem.ClaimSeven
namespace Go.Proofs.YtjkfjdapkkhkfaaDoor
namespace Rows

/-- THE TIED CARD OF 'laws.FnExactIndentOf'. -/
def fnExactIndentOfCard : Claim7 := { stood := { row := fnExactIndentOfRow, standIns := [], harness := (true, "3b63e4d2ebd40f13ef8643ae1d3fa67024c52e778988364908ab556e75802983"), looks := false }, kinds := [], alts := [], laidByText := true, laidKinds := [.data, .pinned], laidTests := true, laidLooks := .later }
def FnExactIndentOfCardSaid : Prop := Claim7.holds Tryd.pinned (.plain (OpenSpec.ofChange fnExactIndentOfSpec)) fnExactIndentOfCard

/-- THE TIED CARD OF 'laws.FnExactItemOf'. -/
def fnExactItemOfCard : Claim7 := { stood := { row := fnExactItemOfRow, standIns := [], harness := (true, "3b63e4d2ebd40f13ef8643ae1d3fa67024c52e778988364908ab556e75802983"), looks := false }, kinds := [], alts := [], laidByText := true, laidKinds := [.data, .pinned], laidTests := true, laidLooks := .later }
def FnExactItemOfCardSaid : Prop := Claim7.holds Tryd.pinned (.plain (OpenSpec.ofChange fnExactItemOfSpec)) fnExactItemOfCard

/-- THE TIED CARD OF 'laws.FnExactBareLine'. -/
def fnExactBareLineCard : Claim7 := { stood := { row := fnExactBareLineRow, standIns := [], harness := (true, "3b63e4d2ebd40f13ef8643ae1d3fa67024c52e778988364908ab556e75802983"), looks := false }, kinds := [], alts := [], laidByText := true, laidKinds := [.data, .pinned], laidTests := true, laidLooks := .later }
def FnExactBareLineCardSaid : Prop := Claim7.holds Tryd.pinned (.plain (OpenSpec.ofChange fnExactBareLineSpec)) fnExactBareLineCard

/-- THE TIED CARD OF 'laws.FnExactReadLabelsLine'. -/
def fnExactReadLabelsLineCard : Claim7 := { stood := { row := fnExactReadLabelsLineRow, standIns := [], harness := (true, "3b63e4d2ebd40f13ef8643ae1d3fa67024c52e778988364908ab556e75802983"), looks := false }, kinds := [], alts := [], laidByText := true, laidKinds := [.data, .pinned], laidTests := true, laidLooks := .later }
def FnExactReadLabelsLineCardSaid : Prop := Claim7.holds Tryd.pinned (.plain (OpenSpec.ofChange fnExactReadLabelsLineSpec)) fnExactReadLabelsLineCard

/-- THE TIED CARD OF 'laws.FnLabels'. -/
def fnLabelsCard : Claim7 := { stood := { row := fnLabelsRow, standIns := [], harness := (true, "3b63e4d2ebd40f13ef8643ae1d3fa67024c52e778988364908ab556e75802983"), looks := false }, kinds := [], alts := [], laidByText := true, laidKinds := [.data, .pinned], laidTests := true, laidLooks := .later }
def FnLabelsCardSaid : Prop := Claim7.holds Tryd.pinned (.plain (OpenSpec.ofChange fnLabelsSpec)) fnLabelsCard

/-- THE SECOND FORM's CARD OF 'laws.FnExactIndentOf'. -/
def fnExactIndentOfUptoCard : Claim7 := { stood := { row := fnExactIndentOfUptoRow, standIns := [], harness := (true, "3b63e4d2ebd40f13ef8643ae1d3fa67024c52e778988364908ab556e75802983"), looks := false }, kinds := [], alts := [], laidByText := true, laidKinds := [.data, .pinned], laidTests := true, laidLooks := .later }
def FnExactIndentOfUptoCardSaid : Prop := Claim7.holds Tryd.pinned (.plain (OpenSpec.upto fnExactIndentOfSpec)) fnExactIndentOfUptoCard

/-- THE SECOND FORM's CARD OF 'laws.FnExactItemOf'. -/
def fnExactItemOfUptoCard : Claim7 := { stood := { row := fnExactItemOfUptoRow, standIns := [], harness := (true, "3b63e4d2ebd40f13ef8643ae1d3fa67024c52e778988364908ab556e75802983"), looks := false }, kinds := [], alts := [], laidByText := true, laidKinds := [.data, .pinned], laidTests := true, laidLooks := .later }
def FnExactItemOfUptoCardSaid : Prop := Claim7.holds Tryd.pinned (.plain (OpenSpec.upto fnExactItemOfSpec)) fnExactItemOfUptoCard

/-- THE SECOND FORM's CARD OF 'laws.FnExactBareLine'. -/
def fnExactBareLineUptoCard : Claim7 := { stood := { row := fnExactBareLineUptoRow, standIns := [], harness := (true, "3b63e4d2ebd40f13ef8643ae1d3fa67024c52e778988364908ab556e75802983"), looks := false }, kinds := [], alts := [], laidByText := true, laidKinds := [.data, .pinned], laidTests := true, laidLooks := .later }
def FnExactBareLineUptoCardSaid : Prop := Claim7.holds Tryd.pinned (.plain (OpenSpec.upto fnExactBareLineSpec)) fnExactBareLineUptoCard

/-- THE SECOND FORM's CARD OF 'laws.FnExactReadLabelsLine'. -/
def fnExactReadLabelsLineUptoCard : Claim7 := { stood := { row := fnExactReadLabelsLineUptoRow, standIns := [], harness := (true, "3b63e4d2ebd40f13ef8643ae1d3fa67024c52e778988364908ab556e75802983"), looks := false }, kinds := [], alts := [], laidByText := true, laidKinds := [.data, .pinned], laidTests := true, laidLooks := .later }
def FnExactReadLabelsLineUptoCardSaid : Prop := Claim7.holds Tryd.pinned (.plain (OpenSpec.upto fnExactReadLabelsLineSpec)) fnExactReadLabelsLineUptoCard

/-- THE SECOND FORM's CARD OF 'laws.FnLabels'. -/
def fnLabelsUptoCard : Claim7 := { stood := { row := fnLabelsUptoRow, standIns := [], harness := (true, "3b63e4d2ebd40f13ef8643ae1d3fa67024c52e778988364908ab556e75802983"), looks := false }, kinds := [], alts := [], laidByText := true, laidKinds := [.data, .pinned], laidTests := true, laidLooks := .later }
def FnLabelsUptoCardSaid : Prop := Claim7.holds Tryd.pinned (.plain (OpenSpec.upto fnLabelsSpec)) fnLabelsUptoCard
end Rows
end Go.Proofs.YtjkfjdapkkhkfaaDoor
