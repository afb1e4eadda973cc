/- Closed facts about the row of FnLabels, for the proof that it returns true for every input, and what its arguments read as is not changed; the package variables that it reads are tied to the program's text (the card). No condition beyond the row's own. -/
import Derived.Test.YtomhbbchflblpaaDoorRows
import Derived.ProofKit
import Derived.OpenShut
import Derived.ShutString
import Derived.ChangeOld
import Derived.Below
import Derived.LaidMore
import Derived.Lay
import Derived.SevenTiedAt
import Derived.Stop.Joined
import Derived.Lib.LaidU8
import Derived.Test.YtomhbbchflblpaaDoorTie
import Derived.Test.YtomhbbchflblpaaDoorCards
namespace Go.Proofs.YtomhbbchflblpaaDoor.fnLabels
open Go.ChangeShapes Go.WideShapes Go.ChangeAt Go.RowKit
open Go.ChangeMaps (open_string shut_string)
set_option linter.unusedVariables false

theorem inst : Tryd.f3.isInstance Tryd.pinned.checked.prog Rows.fnLabelsRow.origin Rows.fnLabelsRow.targs := (of_decide_eq_true (by kernel_rfl))
theorem wrap : Tryd.f3.isWrapper Tryd.pinned.checked.prog Rows.fnLabelsRow.wrapper Rows.fnLabelsRow.mainSum := (by unfold Func.isWrapper; first | (rw [if_pos (by decide +kernel)]; kernel_rfl) | (rw [if_neg (by decide +kernel)]; exact ⟨rfl, rfl⟩))
theorem wf : Rows.fnLabelsRow.wfByText (OpenSpec.ofChange Rows.fnLabelsSpec) = true := by kernel_rfl
theorem mainIs : Tryd.pinned.checked.prog.mainIs = some (true, "98752d7b8125fb1d08acdcc5834d04b883b958eeec03090ae221401ad1a9545b".toList) := by kernel_rfl
theorem goes : false = Rows.fnLabelsRow.goesBy Tryd.pinned.checked.prog := by kernel_rfl
theorem looks : false = Tryd.pinned.checked.prog.looks [] := by kernel_rfl
end Go.Proofs.YtomhbbchflblpaaDoor.fnLabels
