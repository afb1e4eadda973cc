/- Closed facts about the row of FnExactIndentedText, for the proof that it returns true for every input, and what its arguments read as is not changed; the package variables that it reads are tied to the program's text (the card). No condition beyond the row's own. -/
import Derived.Test.YtpcojfcbomkgpaaDoorRows
import Derived.ProofKit
import Derived.OpenShut
import Derived.ShutString
import Derived.ChangeOld
import Derived.Below
import Derived.LaidMore
import Derived.Lay
import Derived.SevenTiedAt
import Derived.Stop.Joined
import Derived.Lib.LaidU8
import Derived.Test.YtpcojfcbomkgpaaDoorTie
import Derived.Test.YtpcojfcbomkgpaaDoorCards
namespace Go.Proofs.YtpcojfcbomkgpaaDoor.fnExactIndentedText
open Go.ChangeShapes Go.WideShapes Go.ChangeAt Go.RowKit
open Go.ChangeMaps (open_string shut_string)
set_option linter.unusedVariables false

theorem jw : Rows.fnExactIndentedTextRow.wf (OpenSpec.ofChange Rows.fnExactIndentedTextSpec) = true := by kernel_rfl
theorem jl : laidOutB Tryd.pinned.checked.prog = true := by kernel_rfl
theorem jm : mapsRowed Tryd.pinned.checked.prog = true := by kernel_rfl
theorem ji : (Rows.fnExactIndentedTextRow.inPlace == Tryd.pinned.checked.prog.inPlace 7) = true := by kernel_rfl
theorem ju : (Rows.fnExactIndentedTextRow.unfollowed == Tryd.pinned.checked.prog.unfollowed 7) = true := by kernel_rfl
theorem jr : (Rows.fnExactIndentedTextRow.recurses == Tryd.pinned.checked.prog.recurses 7) = true := by kernel_rfl
theorem jv : (Rows.fnExactIndentedTextRow.named == Tryd.pinned.checked.prog.varsNamed 7) = true := by kernel_rfl
theorem closed : joinedFacts Tryd.pinned.checked.prog 7 Tryd.f7 Rows.fnExactIndentedTextSpec Rows.fnExactIndentedTextRow = true := by
  unfold joinedFacts
  rw [jw, jl, jm, ji, ju, jr, jv]
  kernel_rfl
end Go.Proofs.YtpcojfcbomkgpaaDoor.fnExactIndentedText
