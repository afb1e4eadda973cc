/- The laws' walks of TreeSize, TreeDepth, LeavesOf. -/
import Derived.Test.YtclffhejoneiaaaGreatDoorTreeL
import Derived.Deep.RegionWith
import Derived.Test.YtclffhejoneiaaaGreatDoorTreeD
import Derived.Test.YtclffhejoneiaaaGreatDoorTreeS
namespace Go.Proofs.YtclffhejoneiaaaGreatDoor
open Go.RowKit

theorem eqTree_any (t : Tr) (S S' : Nat → Prop) (vk vs vk' vs' : Value) (w : World) (hw : t.wt ≤ 1048576) (ht : TreeIn w S t vk vs) (ht' : TreeIn w S' t vk' vs') :
    Calls Tryz.prog 8 #[.agg #[.int .i64 t.kind, .bool t.flag, .int .i64 t.num, .string t.text, vk, vs], .agg #[.int .i64 t.kind, .bool t.flag, .int .i64 t.num, .string t.text, vk', vs']] w fun e w' => e = .returned (.bool true) ∧ Below w.heap.size w w' :=
  eqT t.nodes t S S' vk vs vk' vs' w (Nat.le_refl _) hw ht ht'

end Go.Proofs.YtclffhejoneiaaaGreatDoor
