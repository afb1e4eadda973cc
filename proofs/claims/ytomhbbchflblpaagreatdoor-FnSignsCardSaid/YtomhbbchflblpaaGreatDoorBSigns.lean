/- Closed facts about the row of FnSigns, for the proof that it returns true for every input, and what its arguments read as is not changed; the package variables that it reads are tied to the program's text (the card). No condition beyond the row's own. -/
import Derived.Test.YtomhbbchflblpaaGreatDoorRows
import Derived.ProofKit
import Derived.OpenShut
import Derived.ShutString
import Derived.ChangeOld
import Derived.Below
import Derived.LaidMore
import Derived.Lay
import Derived.SevenTiedAt
import Derived.Stop.Joined
import Derived.Lib.LaidU8
import Derived.Test.YtomhbbchflblpaaGreatDoorTie
import Derived.Test.YtomhbbchflblpaaGreatDoorCards
namespace Go.Proofs.YtomhbbchflblpaaGreatDoor.fnSigns
open Go.ChangeShapes Go.WideShapes Go.ChangeAt Go.RowKit
open Go.ChangeMaps (open_string shut_string)
set_option linter.unusedVariables false

theorem inst : Tryz.f3.isInstance Tryz.pinned.checked.prog Rows.fnSignsRow.origin Rows.fnSignsRow.targs := (of_decide_eq_true (by kernel_rfl))
theorem wrap : Tryz.f3.isWrapper Tryz.pinned.checked.prog Rows.fnSignsRow.wrapper Rows.fnSignsRow.mainSum := (by unfold Func.isWrapper; first | (rw [if_pos (by decide +kernel)]; kernel_rfl) | (rw [if_neg (by decide +kernel)]; exact ⟨rfl, rfl⟩))
theorem wf : Rows.fnSignsRow.wfByText (OpenSpec.ofChange Rows.fnSignsSpec) = true := by kernel_rfl
theorem mainIs : Tryz.pinned.checked.prog.mainIs = some (true, "5e08407f9f8d9f3092b56e7925e0558def38cbaeee31e8a8e8eef7c28a7398df".toList) := by kernel_rfl
theorem goes : false = Rows.fnSignsRow.goesBy Tryz.pinned.checked.prog := by kernel_rfl
theorem looks : true = Tryz.pinned.checked.prog.looks [] := by kernel_rfl
end Go.Proofs.YtomhbbchflblpaaGreatDoor.fnSigns
