/- Closed facts about the row of FnTrees, for the proof that it returns true for every input, and what its arguments read as is not changed; the package variables that it reads are tied to the program's text (the card). No condition beyond the row's own. -/
import Derived.Test.YtkifacpanipfhaaDoorRows
import Derived.ProofKit
import Derived.OpenShut
import Derived.ShutString
import Derived.ChangeOld
import Derived.Below
import Derived.LaidMore
import Derived.Lay
import Derived.SevenTiedAt
import Derived.Stop.Joined
import Derived.Lib.LaidU8
import Derived.Test.YtkifacpanipfhaaDoorTie
import Derived.Test.YtkifacpanipfhaaDoorCards
namespace Go.Proofs.YtkifacpanipfhaaDoor.fnTrees
open Go.ChangeShapes Go.WideShapes Go.ChangeAt Go.RowKit
open Go.ChangeMaps (open_string shut_string)
set_option linter.unusedVariables false

theorem inst : Tryd.f4.isInstance Tryd.pinned.checked.prog Rows.fnTreesRow.origin Rows.fnTreesRow.targs := (of_decide_eq_true (by kernel_rfl))
theorem wrap : Tryd.f4.isWrapper Tryd.pinned.checked.prog Rows.fnTreesRow.wrapper Rows.fnTreesRow.mainSum := (by unfold Func.isWrapper; first | (rw [if_pos (by decide +kernel)]; kernel_rfl) | (rw [if_neg (by decide +kernel)]; exact ⟨rfl, rfl⟩))
theorem wf : Rows.fnTreesRow.wfByText (OpenSpec.ofChange Rows.fnTreesSpec) = true := by kernel_rfl
theorem mainIs : Tryd.pinned.checked.prog.mainIs = some (true, "28ebcc71ec0e3122ca0503237315cef4b9cb61175c7cb88943bb05cb5091930a".toList) := by kernel_rfl
theorem goes : false = Rows.fnTreesRow.goesBy Tryd.pinned.checked.prog := by kernel_rfl
theorem looks : false = Tryd.pinned.checked.prog.looks [] := by kernel_rfl
end Go.Proofs.YtkifacpanipfhaaDoor.fnTrees
