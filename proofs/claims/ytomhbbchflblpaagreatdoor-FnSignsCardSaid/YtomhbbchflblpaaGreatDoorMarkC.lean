/- markTreeS, markTree write their marks into a tree of the call's own; heldTreeS, heldTree find them. -/
import Derived.Test.YtomhbbchflblpaaGreatDoorMarkB
import Derived.Test.YtomhbbchflblpaaGreatDoorTreeT
namespace Go.Proofs.YtomhbbchflblpaaGreatDoor
open Go.RowKit

def put4 (F : Nat → Value) (i : Nat) (v0 v1 v2 v3 : Value) : Nat → Value := fun j =>
  if j = i + 3 then v3 else if j = i + 2 then v2 else if j = i + 1 then v1 else if j = i then v0 else F j
theorem put4_new (F : Nat → Value) (i : Nat) (v0 v1 v2 v3 : Value) :
    put4 F i v0 v1 v2 v3 i = v0 ∧ put4 F i v0 v1 v2 v3 (i + 1) = v1 ∧ put4 F i v0 v1 v2 v3 (i + 2) = v2 ∧ put4 F i v0 v1 v2 v3 (i + 3) = v3 := by
  unfold put4
  refine ⟨?_, ?_, ?_, ?_⟩
  · rw [if_neg (by omega), if_neg (by omega), if_neg (by omega), if_pos rfl]
  · rw [if_neg (by omega), if_neg (by omega), if_pos rfl]
  · rw [if_neg (by omega), if_pos rfl]
  · rw [if_pos rfl]
theorem put4_old (F : Nat → Value) (i : Nat) (v0 v1 v2 v3 : Value) (m : Nat) (h : m < i ∨ i + 3 < m) : put4 F i v0 v1 v2 v3 m = F m := by
  unfold put4
  rw [if_neg (by omega), if_neg (by omega), if_neg (by omega), if_neg (by omega)]
theorem len_cnt : ∀ l : List Tr, l.length ≤ cntL l
  | [] => by simp [cntL]
  | t :: ts => by have := len_cnt ts; simp only [cntL, List.length_cons]; omega

end Go.Proofs.YtomhbbchflblpaaGreatDoor
