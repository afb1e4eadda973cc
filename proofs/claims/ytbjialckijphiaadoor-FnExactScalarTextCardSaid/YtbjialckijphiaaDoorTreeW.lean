/- The laws' walks of TreeSize, TreeDepth, LeavesOf. -/
import Derived.Test.YtbjialckijphiaaDoorTreeL
import Derived.Deep.RegionWith
import Derived.Test.YtbjialckijphiaaDoorTreeD
import Derived.Test.YtbjialckijphiaaDoorTreeS
namespace Go.Proofs.YtbjialckijphiaaDoor
open Go.RowKit

theorem szTree_any (t : Tr) (S : Nat → Prop) (vk vs : Value) (w : World) (left : Int) (hf : t.fits) (ht : TreeIn w S t vk vs) (h0 : 0 ≤ left) (h1 : left ≤ 1048576) :
    Calls Tryd.prog 6 #[.agg #[.int .i64 t.kind, .bool t.flag, .int .i64 t.num, .string t.text, vk, vs], .int .i64 left] w fun e w' => e = .returned (.int .i64 (lessZ left (t.wt : Nat))) ∧ Below w.heap.size w w' :=
  szT t.nodes t S vk vs w left (Nat.le_refl _) hf ht h0 h1
theorem toTree_any (t : Tr) (S : Nat → Prop) (vk vs : Value) (w : World) (hw : t.wt ≤ 1048576) (ht : TreeIn w S t vk vs) :
    Calls Tryd.prog 8 #[.agg #[.int .i64 t.kind, .bool t.flag, .int .i64 t.num, .string t.text, vk, vs]] w fun e w' => TreeNew w.heap.size t e w' ∧ Below w.heap.size w w' :=
  toT t.nodes t S vk vs w (Nat.le_refl _) hw ht
theorem eqTree_any (t : Tr) (S S' : Nat → Prop) (vk vs vk' vs' : Value) (w : World) (hw : t.wt ≤ 1048576) (ht : TreeIn w S t vk vs) (ht' : TreeIn w S' t vk' vs') :
    Calls Tryd.prog 10 #[.agg #[.int .i64 t.kind, .bool t.flag, .int .i64 t.num, .string t.text, vk, vs], .agg #[.int .i64 t.kind, .bool t.flag, .int .i64 t.num, .string t.text, vk', vs']] w fun e w' => e = .returned (.bool true) ∧ Below w.heap.size w w' :=
  eqT t.nodes t S S' vk vs vk' vs' w (Nat.le_refl _) hw ht ht'

end Go.Proofs.YtbjialckijphiaaDoor
