/- How a tree that came in is opened; the laws' walks of TreeSize, TreeDepth, LeavesOf. -/
import Derived.DataShut
import Derived.Test.YtomhbbchflblpaaGreatDoorTreeT
import Derived.Test.YtomhbbchflblpaaGreatDoorTreeE
import Derived.Test.YtomhbbchflblpaaGreatDoorTreeV
import Derived.Deep.Strs
import Derived.ProofKit
namespace Go.Proofs.YtomhbbchflblpaaGreatDoor
open Go.RowKit Go.Deep Go.ChangeShapes Go.WideShapes

mutual
/-- Each number can be held by a machine. -/
def Tr.nums : Tr → Prop | .mk _ _ n _ _ kids => (Lit.int .i64 n).wf = true ∧ numsL kids
def numsL : List Tr → Prop | [] => True | t :: ts => t.nums ∧ numsL ts
end
theorem nums_iff (t : Tr) : t.nums ↔ (Lit.int .i64 t.num).wf = true ∧ numsL t.kids := by cases t; simp only [Tr.nums, Tr.num, Tr.kids]
theorem nums_bd {t : Tr} (h : t.nums) : -9223372036854775808 ≤ t.num ∧ t.num ≤ 9223372036854775807 := (Lit.wf_int_iff .i64 t.num).1 ((nums_iff t).1 h).1
theorem nums_kid : ∀ (l : List Tr) (k : Nat), k < l.length → numsL l → (kidAt l k).nums
  | [], k, h, _ => by simp at h
  | t :: ts, 0, _, h => by simp only [numsL] at h; exact h.1
  | t :: ts, k + 1, h, hf => by simp only [numsL] at hf; exact nums_kid ts k (by simpa using h) hf.2
theorem numsL_of : ∀ (l : List Tr), (∀ i, i < l.length → (kidAt l i).nums) → numsL l
  | [], _ => by simp only [numsL]
  | t :: ts, h => by
    simp only [numsL]
    exact ⟨h 0 (by simp), numsL_of ts fun i hi => h (i + 1) (by simpa using hi)⟩
instance : Inhabited Tr := ⟨noTree⟩
theorem kidAt_map (n : Nat) (f : Nat → Tr) (i : Nat) (h : i < n) : kidAt ((List.range n).map f) i = f i := by
  simp [kidAt, List.getD_eq_getElem?_getD, h]

end Go.Proofs.YtomhbbchflblpaaGreatDoor
