/- eqStringS, eqTreeS, eqTree: of one and the same data they answer true. -/
import Derived.Test.YtomhbbchflblpaaGreatDoorTreeO
import Derived.Test.YtomhbbchflblpaaGreatDoorStrS
import Derived.StillTailTactics
namespace Go.Proofs.YtomhbbchflblpaaGreatDoor
open Go.RowKit

theorem wtE (t : Tr) : t.wt = t.text.size + strWt t.keys + (t.kids.length + wtL t.kids) := by cases t; rfl

theorem wtKidE (l : List Tr) (k : Nat) (h : k < l.length) : (kidAt l k).wt ≤ wtL l := le_sum Tr.wt wtL (fun _ _ => rfl) l k h

end Go.Proofs.YtomhbbchflblpaaGreatDoor
