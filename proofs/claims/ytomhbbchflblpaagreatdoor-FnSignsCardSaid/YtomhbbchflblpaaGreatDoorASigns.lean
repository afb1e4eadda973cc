/- Closed facts about the row of FnSigns, for the proof that it returns true for every input, and what its arguments read as is not changed; the package variables that it reads are tied to the program's text (the card). No condition beyond the row's own. -/
import Derived.Test.YtomhbbchflblpaaGreatDoorRows
import Derived.ProofKit
import Derived.OpenShut
import Derived.ShutString
import Derived.ChangeOld
import Derived.Below
import Derived.LaidMore
import Derived.Lay
import Derived.SevenTiedAt
import Derived.Stop.Joined
import Derived.Lib.LaidU8
import Derived.Test.YtomhbbchflblpaaGreatDoorTie
import Derived.Test.YtomhbbchflblpaaGreatDoorCards
namespace Go.Proofs.YtomhbbchflblpaaGreatDoor.fnSigns
open Go.ChangeShapes Go.WideShapes Go.ChangeAt Go.RowKit
open Go.ChangeMaps (open_string shut_string)
set_option linter.unusedVariables false

theorem jw : Rows.fnSignsRow.wf (OpenSpec.ofChange Rows.fnSignsSpec) = true := by kernel_rfl
theorem jl : laidOutB Tryz.pinned.checked.prog = true := by kernel_rfl
theorem jm : mapsRowed Tryz.pinned.checked.prog = true := by kernel_rfl
theorem ji : (Rows.fnSignsRow.inPlace == Tryz.pinned.checked.prog.inPlace 3) = true := by kernel_rfl
theorem ju : (Rows.fnSignsRow.unfollowed == Tryz.pinned.checked.prog.unfollowed 3) = true := by kernel_rfl
theorem jr : (Rows.fnSignsRow.recurses == Tryz.pinned.checked.prog.recurses 3) = true := by kernel_rfl
theorem jv : (Rows.fnSignsRow.named == Tryz.pinned.checked.prog.varsNamed 3) = true := by kernel_rfl
theorem closed : joinedFacts Tryz.pinned.checked.prog 3 Tryz.f3 Rows.fnSignsSpec Rows.fnSignsRow = true := by
  unfold joinedFacts
  rw [jw, jl, jm, ji, ju, jr, jv]
  kernel_rfl
end Go.Proofs.YtomhbbchflblpaaGreatDoor.fnSigns
