/- Closed facts about the row of FnExactScalarText, for the proof that it returns true for every input, and what its arguments read as is not changed; the package variables that it reads are tied to the program's text (the card). No condition beyond the row's own. -/
import Derived.Test.YtbjialckijphiaaDoorRows
import Derived.ProofKit
import Derived.OpenShut
import Derived.ShutString
import Derived.ChangeOld
import Derived.Below
import Derived.LaidMore
import Derived.Lay
import Derived.SevenTiedAt
import Derived.Stop.Joined
import Derived.Lib.LaidU8
import Derived.Test.YtbjialckijphiaaDoorTie
import Derived.Test.YtbjialckijphiaaDoorCards
namespace Go.Proofs.YtbjialckijphiaaDoor.fnExactScalarText
open Go.ChangeShapes Go.WideShapes Go.ChangeAt Go.RowKit
open Go.ChangeMaps (open_string shut_string)
set_option linter.unusedVariables false

theorem inst : Tryd.f5.isInstance Tryd.pinned.checked.prog Rows.fnExactScalarTextRow.origin Rows.fnExactScalarTextRow.targs := (of_decide_eq_true (by kernel_rfl))
theorem wrap : Tryd.f5.isWrapper Tryd.pinned.checked.prog Rows.fnExactScalarTextRow.wrapper Rows.fnExactScalarTextRow.mainSum := (by unfold Func.isWrapper; first | (rw [if_pos (by decide +kernel)]; kernel_rfl) | (rw [if_neg (by decide +kernel)]; exact ⟨rfl, rfl⟩))
theorem wf : Rows.fnExactScalarTextRow.wfByText (OpenSpec.ofChange Rows.fnExactScalarTextSpec) = true := by kernel_rfl
theorem mainIs : Tryd.pinned.checked.prog.mainIs = some (true, "e2875e94fd63473069d4e3da18bccc3b8a1cf5710a5632f4baf5a4103410854d".toList) := by kernel_rfl
theorem goes : false = Rows.fnExactScalarTextRow.goesBy Tryd.pinned.checked.prog := by kernel_rfl
theorem looks : false = Tryd.pinned.checked.prog.looks [] := by kernel_rfl
end Go.Proofs.YtbjialckijphiaaDoor.fnExactScalarText
