/- TreeSize, TreeDepth, LeavesOf: contracts of both texts. -/
import Derived.Test.YtomhbbchflblpaaDoorTreeP
namespace Go.Proofs.YtomhbbchflblpaaDoor
open Go.RowKit

theorem nodesL_take (l : List Tr) (k : Nat) (h : k < l.length) : nodesL (l.take (k + 1)) = nodesL (l.take k) + (kidAt l k).nodes := sum_take Tr.nodes nodesL rfl (fun _ _ => rfl) l k h
theorem nodesL_le (l : List Tr) (k : Nat) : nodesL (l.take k) ≤ nodesL l := take_le_sum Tr.nodes nodesL rfl (fun _ _ => rfl) l k
theorem nodes_kid (l : List Tr) (k : Nat) (h : k < l.length) : (kidAt l k).nodes ≤ nodesL l := le_sum Tr.nodes nodesL (fun _ _ => rfl) l k h
theorem nodes_eq (t : Tr) : t.nodes = 1 + nodesL t.kids := by cases t; rfl
theorem len_nodes : ∀ l : List Tr, l.length ≤ nodesL l
  | [] => by simp [nodesL]
  | t :: ts => by have := nodes_pos t; have := len_nodes ts; simp only [nodesL, List.length_cons]; omega

end Go.Proofs.YtomhbbchflblpaaDoor
