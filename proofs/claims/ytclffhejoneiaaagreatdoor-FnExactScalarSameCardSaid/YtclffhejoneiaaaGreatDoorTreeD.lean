import Derived.Test.YtclffhejoneiaaaGreatDoorTreeA
namespace Go.Proofs.YtclffhejoneiaaaGreatDoor
open Go.RowKit

theorem depthL_take : ∀ (l : List Tr) (k : Nat), k < l.length → depthL (l.take (k + 1)) = max (depthL (l.take k)) (kidAt l k).depth
  | [], k, h => by simp at h
  | t :: ts, 0, _ => by simp [depthL, kidAt]
  | t :: ts, k + 1, h => by
    have := depthL_take ts k (by simpa using h)
    simp only [List.take_succ_cons, depthL] at this ⊢
    have e : kidAt (t :: ts) (k + 1) = kidAt ts k := rfl
    rw [this, e]; omega
theorem depth_eq (t : Tr) : t.depth = depthL t.kids + 1 := by cases t; rfl
theorem leavesL_take (l : List Tr) (k : Nat) (h : k < l.length) : leavesL (l.take (k + 1)) = leavesL (l.take k) + (kidAt l k).leaves := sum_take Tr.leaves leavesL rfl (fun _ _ => rfl) l k h
theorem leaves_eq (t : Tr) (h : 0 < t.kids.length) : t.leaves = leavesL t.kids := by
  cases t with
  | mk k f n s keys kids =>
    cases kids with
    | nil => simp [Tr.kids] at h
    | cons x xs => simp [Tr.leaves, Tr.kids]
theorem leaves_nil (t : Tr) (h : ¬ 0 < t.kids.length) : t.leaves = if t.kind == 5 || t.kind == 6 then 0 else 1 := by
  cases t with
  | mk k f n s keys kids =>
    cases kids with
    | nil => simp [Tr.leaves, Tr.kind]
    | cons x xs => simp [Tr.kids] at h

end Go.Proofs.YtclffhejoneiaaaGreatDoor
