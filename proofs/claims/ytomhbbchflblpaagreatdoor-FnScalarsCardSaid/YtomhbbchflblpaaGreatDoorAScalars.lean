/- Closed facts about the row of FnScalars, for the proof that it returns true for every input, and what its arguments read as is not changed; the package variables that it reads are tied to the program's text (the card). No condition beyond the row's own. -/
import Derived.Test.YtomhbbchflblpaaGreatDoorRows
import Derived.ProofKit
import Derived.OpenShut
import Derived.ShutString
import Derived.ChangeOld
import Derived.Below
import Derived.LaidMore
import Derived.Lay
import Derived.SevenTiedAt
import Derived.Stop.Joined
import Derived.Lib.LaidU8
import Derived.Test.YtomhbbchflblpaaGreatDoorTie
import Derived.Test.YtomhbbchflblpaaGreatDoorCards
namespace Go.Proofs.YtomhbbchflblpaaGreatDoor.fnScalars
open Go.ChangeShapes Go.WideShapes Go.ChangeAt Go.RowKit
open Go.ChangeMaps (open_string shut_string)
set_option linter.unusedVariables false

theorem jw : Rows.fnScalarsRow.wf (OpenSpec.ofChange Rows.fnScalarsSpec) = true := by kernel_rfl
theorem jl : laidOutB Tryz.pinned.checked.prog = true := by kernel_rfl
theorem jm : mapsRowed Tryz.pinned.checked.prog = true := by kernel_rfl
theorem ji : (Rows.fnScalarsRow.inPlace == Tryz.pinned.checked.prog.inPlace 4) = true := by kernel_rfl
theorem ju : (Rows.fnScalarsRow.unfollowed == Tryz.pinned.checked.prog.unfollowed 4) = true := by kernel_rfl
theorem jr : (Rows.fnScalarsRow.recurses == Tryz.pinned.checked.prog.recurses 4) = true := by kernel_rfl
theorem jv : (Rows.fnScalarsRow.named == Tryz.pinned.checked.prog.varsNamed 4) = true := by kernel_rfl
theorem closed : joinedFacts Tryz.pinned.checked.prog 4 Tryz.f4 Rows.fnScalarsSpec Rows.fnScalarsRow = true := by
  unfold joinedFacts
  rw [jw, jl, jm, ji, ju, jr, jv]
  kernel_rfl
end Go.Proofs.YtomhbbchflblpaaGreatDoor.fnScalars
