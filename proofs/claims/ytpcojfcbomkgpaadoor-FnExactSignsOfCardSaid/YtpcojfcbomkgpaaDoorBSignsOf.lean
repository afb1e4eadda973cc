/- Closed facts about the row of FnExactSignsOf, for the proof that it returns true for every input, and what its arguments read as is not changed; the package variables that it reads are tied to the program's text (the card). No condition beyond the row's own. -/
import Derived.Test.YtpcojfcbomkgpaaDoorRows
import Derived.ProofKit
import Derived.OpenShut
import Derived.ShutString
import Derived.ChangeOld
import Derived.Below
import Derived.LaidMore
import Derived.Lay
import Derived.SevenTiedAt
import Derived.Stop.Joined
import Derived.Lib.LaidU8
import Derived.Test.YtpcojfcbomkgpaaDoorTie
import Derived.Test.YtpcojfcbomkgpaaDoorCards
namespace Go.Proofs.YtpcojfcbomkgpaaDoor.fnExactSignsOf
open Go.ChangeShapes Go.WideShapes Go.ChangeAt Go.RowKit
open Go.ChangeMaps (open_string shut_string)
set_option linter.unusedVariables false

theorem inst : Tryd.f4.isInstance Tryd.pinned.checked.prog Rows.fnExactSignsOfRow.origin Rows.fnExactSignsOfRow.targs := (of_decide_eq_true (by kernel_rfl))
theorem wrap : Tryd.f4.isWrapper Tryd.pinned.checked.prog Rows.fnExactSignsOfRow.wrapper Rows.fnExactSignsOfRow.mainSum := (by unfold Func.isWrapper; first | (rw [if_pos (by decide +kernel)]; kernel_rfl) | (rw [if_neg (by decide +kernel)]; exact ⟨rfl, rfl⟩))
theorem wf : Rows.fnExactSignsOfRow.wfByText (OpenSpec.ofChange Rows.fnExactSignsOfSpec) = true := by kernel_rfl
theorem mainIs : Tryd.pinned.checked.prog.mainIs = some (true, "33b07def21f63f8022bad579a6929b44b8b72ac106f47b309d13a172f7601619".toList) := by kernel_rfl
theorem goes : false = Rows.fnExactSignsOfRow.goesBy Tryd.pinned.checked.prog := by kernel_rfl
theorem looks : true = Tryd.pinned.checked.prog.looks [] := by kernel_rfl
end Go.Proofs.YtpcojfcbomkgpaaDoor.fnExactSignsOf
