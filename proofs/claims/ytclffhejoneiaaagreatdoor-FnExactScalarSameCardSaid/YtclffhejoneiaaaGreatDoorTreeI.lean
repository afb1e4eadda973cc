/- IntTree, TextTree: contracts of both texts; the laws' walks. -/
import Derived.Test.YtclffhejoneiaaaGreatDoorMarkD
import Derived.Test.YtclffhejoneiaaaGreatDoorTreeW
namespace Go.Proofs.YtclffhejoneiaaaGreatDoor
open Go.RowKit

/-- A tree without keys and children lies anywhere. -/
theorem leaf_own (w : World) (k : Int) (f : Bool) (n : Int) (s : ByteArray) : TreeOwn w (.mk k f n s [] []) (.slice none 0 0) (.slice none 0 0) [] :=
  treeOwn_iff.2 ⟨[], [], rfl, .inl ⟨rfl, rfl, none, 0, rfl⟩, .inl ⟨rfl, rfl, none, 0, rfl⟩⟩
theorem leaf_in (w : World) (k : Int) (f : Bool) (n : Int) (s : ByteArray) : TreeIn w Any (.mk k f n s [] []) (.slice none 0 0) (.slice none 0 0) :=
  TreeOwn.toIn _ _ _ _ (leaf_own w k f n s) (fun _ _ => trivial)
theorem leaf_mark (k : Int) (f : Bool) (n : Int) (s : ByteArray) (j : Nat) : markTr j (.mk k f n s [] []) = .mk k f n s [] [] := by simp only [markTr, markStrs, markKids]; rfl
theorem leaf_cnt (k : Int) (f : Bool) (n : Int) (s : ByteArray) : (Tr.mk k f n s [] []).cnt = 0 := rfl
theorem apart_nil {w w' : World} (h : Apart [] w w') : Below w.heap.size w w' := h.below (Nat.le_refl _) fun x hx => by simp at hx

/-- eqTree, markTree, heldTree at a tree without keys and children. -/
theorem eqLeaf (k : Int) (f : Bool) (n : Int) (s : ByteArray) (w : World) (hs : s.size ≤ 1048576) :
    Calls Tryz.prog 8 #[.agg #[.int .i64 k, .bool f, .int .i64 n, .string s, .slice none 0 0, .slice none 0 0], .agg #[.int .i64 k, .bool f, .int .i64 n, .string s, .slice none 0 0, .slice none 0 0]] w fun e w' => e = .returned (.bool true) ∧ Below w.heap.size w w' :=
  eqTree_any (.mk k f n s [] []) Any Any _ _ _ _ w (by simp [Tr.wt, strWt, wtL]; omega) (leaf_in _ _ _ _ _) (leaf_in _ _ _ _ _)
theorem markLeaf (k : Int) (f : Bool) (n : Int) (s : ByteArray) (w : World) :
    Calls Tryz.prog 9 #[.agg #[.int .i64 k, .bool f, .int .i64 n, .string s, .slice none 0 0, .slice none 0 0], .int .i64 1] w fun e w' => e = .returned (.int .i64 1) ∧ Below w.heap.size w w' :=
  (markTree_own (.mk k f n s [] []) _ _ [] 1 w (by rw [leaf_cnt]; omega) List.nodup_nil (leaf_own _ _ _ _ _)).mono fun _ _ h => ⟨h.1, apart_nil h.2.2⟩
theorem heldLeaf (k : Int) (f : Bool) (n : Int) (s : ByteArray) (w : World) :
    Calls Tryz.prog 10 #[.agg #[.int .i64 k, .bool f, .int .i64 n, .string s, .slice none 0 0, .slice none 0 0], .int .i64 1] w fun e w' => e = .returned (.int .i64 1) ∧ Below w.heap.size w w' :=
  heldTree_in (.mk k f n s [] []) Any _ _ 1 w (by rw [leaf_cnt]; omega) (by rw [leaf_mark]; exact leaf_in _ _ _ _ _)

theorem sIntTree (n : Int) (w : World) : Calls Tryz.prog 18 #[.int .i64 n] w fun e w' => e = .returned (.agg #[.int .i64 3, .bool false, .int .i64 n, .string ⟨#[]⟩, .slice none 0 0, .slice none 0 0]) ∧ Below w.heap.size w w' := by
  go_enter Tryz.func18, Tryz.ntmps18
  go_wp2
  refine bodyPost_ret (v := .agg #[.int .i64 3, .bool false, .int .i64 n, .string ⟨#[]⟩, .slice none 0 0, .slice none 0 0]) (by simp [results, Tryz.results18, go_sem]) rfl ⟨rfl, alloc_below _ _ _⟩

theorem iIntTree (n : Int) (w : World) : Calls Tryz.prog 24 #[.int .i64 n] w fun e w' => e = .returned (.agg #[.int .i64 3, .bool false, .int .i64 n, .string ⟨#[]⟩, .slice none 0 0, .slice none 0 0]) ∧ Below w.heap.size w w' := by
  go_enter Tryz.func24, Tryz.ntmps24
  go_wp2
  refine bodyPost_ret (v := .agg #[.int .i64 3, .bool false, .int .i64 n, .string ⟨#[]⟩, .slice none 0 0, .slice none 0 0]) (by simp [results, Tryz.results24, go_sem]) rfl ⟨rfl, alloc_below _ _ _⟩

theorem sTextTree (s : ByteArray) (w : World) : Calls Tryz.prog 16 #[.string s] w fun e w' => e = .returned (.agg #[.int .i64 4, .bool false, .int .i64 0, .string s, .slice none 0 0, .slice none 0 0]) ∧ Below w.heap.size w w' := by
  go_enter Tryz.func16, Tryz.ntmps16
  go_wp2
  refine bodyPost_ret (v := .agg #[.int .i64 4, .bool false, .int .i64 0, .string s, .slice none 0 0, .slice none 0 0]) (by simp [results, Tryz.results16, go_sem]) rfl ⟨rfl, alloc_below _ _ _⟩

theorem iTextTree (s : ByteArray) (w : World) : Calls Tryz.prog 22 #[.string s] w fun e w' => e = .returned (.agg #[.int .i64 4, .bool false, .int .i64 0, .string s, .slice none 0 0, .slice none 0 0]) ∧ Below w.heap.size w w' := by
  go_enter Tryz.func22, Tryz.ntmps22
  go_wp2
  refine bodyPost_ret (v := .agg #[.int .i64 4, .bool false, .int .i64 0, .string s, .slice none 0 0, .slice none 0 0]) (by simp [results, Tryz.results22, go_sem]) rfl ⟨rfl, alloc_below _ _ _⟩

end Go.Proofs.YtclffhejoneiaaaGreatDoor
