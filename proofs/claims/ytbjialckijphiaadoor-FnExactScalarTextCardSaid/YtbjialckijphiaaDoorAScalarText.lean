/- Closed facts about the row of FnExactScalarText, for the proof that it returns true for every input, and what its arguments read as is not changed; the package variables that it reads are tied to the program's text (the card). No condition beyond the row's own. -/
import Derived.Test.YtbjialckijphiaaDoorRows
import Derived.ProofKit
import Derived.OpenShut
import Derived.ShutString
import Derived.ChangeOld
import Derived.Below
import Derived.LaidMore
import Derived.Lay
import Derived.SevenTiedAt
import Derived.Stop.Joined
import Derived.Lib.LaidU8
import Derived.Test.YtbjialckijphiaaDoorTie
import Derived.Test.YtbjialckijphiaaDoorCards
namespace Go.Proofs.YtbjialckijphiaaDoor.fnExactScalarText
open Go.ChangeShapes Go.WideShapes Go.ChangeAt Go.RowKit
open Go.ChangeMaps (open_string shut_string)
set_option linter.unusedVariables false

theorem jw : Rows.fnExactScalarTextRow.wf (OpenSpec.ofChange Rows.fnExactScalarTextSpec) = true := by kernel_rfl
theorem jl : laidOutB Tryd.pinned.checked.prog = true := by kernel_rfl
theorem jm : mapsRowed Tryd.pinned.checked.prog = true := by kernel_rfl
theorem ji : (Rows.fnExactScalarTextRow.inPlace == Tryd.pinned.checked.prog.inPlace 5) = true := by kernel_rfl
theorem ju : (Rows.fnExactScalarTextRow.unfollowed == Tryd.pinned.checked.prog.unfollowed 5) = true := by kernel_rfl
theorem jr : (Rows.fnExactScalarTextRow.recurses == Tryd.pinned.checked.prog.recurses 5) = true := by kernel_rfl
theorem jv : (Rows.fnExactScalarTextRow.named == Tryd.pinned.checked.prog.varsNamed 5) = true := by kernel_rfl
theorem closed : joinedFacts Tryd.pinned.checked.prog 5 Tryd.f5 Rows.fnExactScalarTextSpec Rows.fnExactScalarTextRow = true := by
  unfold joinedFacts
  rw [jw, jl, jm, ji, ju, jr, jv]
  kernel_rfl
end Go.Proofs.YtbjialckijphiaaDoor.fnExactScalarText
