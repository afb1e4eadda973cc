/- toStringS, toTreeS, toTree: fresh copies. -/
import Derived.Test.YtomhbbchflblpaaGreatDoorTreeO
import Derived.Test.YtomhbbchflblpaaGreatDoorTreeZ
namespace Go.Proofs.YtomhbbchflblpaaGreatDoor
open Go.RowKit

theorem Tryz.infoTree : (Tryz.prog.info? 28).map (fun i => (i.zero, i.size, i.bytes)) = some (some (.agg #[.int .i64 0, .bool false, .int .i64 0, .string ⟨#[]⟩, .slice none 0 0, .slice none 0 0]), 6, 88) := by kernel_rfl

def KidsNew (B : Nat) (l : List Tr) (e : Ending) (w' : World) : Prop := ∃ v fp, e = .returned v ∧ KidsOwn w' v l fp ∧ fp.Nodup ∧ ∀ b, b ∈ fp → B ≤ b

def TreeNew (B : Nat) (t : Tr) (e : Ending) (w' : World) : Prop :=
  ∃ vk vs fp, e = .returned (.agg #[.int .i64 t.kind, .bool t.flag, .int .i64 t.num, .string t.text, vk, vs]) ∧ TreeOwn w' t vk vs fp ∧ fp.Nodup ∧ ∀ b, b ∈ fp → B ≤ b

theorem kids_shape {w : World} {v : Value} {l : List Tr} {fp : List Nat} (h : KidsOwn w v l fp) : ∃ a c, v = .slice a l.length c := by
  rcases h with ⟨rfl, _, a, c, rfl⟩ | ⟨g, cap, e, N, F, ff, rfl, _⟩
  · exact ⟨a, c, rfl⟩
  · exact ⟨_, cap, rfl⟩

def lit6 (v0 v1 v2 v3 v4 v5 : Value) : Nat → Value | 0 => v0 | 1 => v1 | 2 => v2 | 3 => v3 | 4 => v4 | _ => v5

theorem lit6_get (v0 v1 v2 v3 v4 v5 : Value) : ∀ i, i < (#[v0, v1, v2, v3, v4, v5] : Array Value).size → (#[v0, v1, v2, v3, v4, v5] : Array Value)[i]? = some (lit6 v0 v1 v2 v3 v4 v5 i)
  | 0, _ | 1, _ | 2, _ | 3, _ | 4, _ | 5, _ => rfl
  | i + 6, h => by simp at h; omega

theorem wt_kid (l : List Tr) (k : Nat) (h : k < l.length) : (kidAt l k).wt ≤ wtL l := le_sum Tr.wt wtL (fun _ _ => rfl) l k h

end Go.Proofs.YtomhbbchflblpaaGreatDoor
