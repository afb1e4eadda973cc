/- Closed facts about the row of FnScalars, for the proof that it returns true for every input, and what its arguments read as is not changed; the package variables that it reads are tied to the program's text (the card). No condition beyond the row's own. -/
import Derived.Test.YtomhbbchflblpaaGreatDoorRows
import Derived.ProofKit
import Derived.OpenShut
import Derived.ShutString
import Derived.ChangeOld
import Derived.Below
import Derived.LaidMore
import Derived.Lay
import Derived.SevenTiedAt
import Derived.Stop.Joined
import Derived.Lib.LaidU8
import Derived.Test.YtomhbbchflblpaaGreatDoorTie
import Derived.Test.YtomhbbchflblpaaGreatDoorCards
namespace Go.Proofs.YtomhbbchflblpaaGreatDoor.fnScalars
open Go.ChangeShapes Go.WideShapes Go.ChangeAt Go.RowKit
open Go.ChangeMaps (open_string shut_string)
set_option linter.unusedVariables false

theorem inst : Tryz.f4.isInstance Tryz.pinned.checked.prog Rows.fnScalarsRow.origin Rows.fnScalarsRow.targs := (of_decide_eq_true (by kernel_rfl))
theorem wrap : Tryz.f4.isWrapper Tryz.pinned.checked.prog Rows.fnScalarsRow.wrapper Rows.fnScalarsRow.mainSum := (by unfold Func.isWrapper; first | (rw [if_pos (by decide +kernel)]; kernel_rfl) | (rw [if_neg (by decide +kernel)]; exact ⟨rfl, rfl⟩))
theorem wf : Rows.fnScalarsRow.wfByText (OpenSpec.ofChange Rows.fnScalarsSpec) = true := by kernel_rfl
theorem mainIs : Tryz.pinned.checked.prog.mainIs = some (true, "5e08407f9f8d9f3092b56e7925e0558def38cbaeee31e8a8e8eef7c28a7398df".toList) := by kernel_rfl
theorem goes : false = Rows.fnScalarsRow.goesBy Tryz.pinned.checked.prog := by kernel_rfl
theorem looks : true = Tryz.pinned.checked.prog.looks [] := by kernel_rfl
end Go.Proofs.YtomhbbchflblpaaGreatDoor.fnScalars
