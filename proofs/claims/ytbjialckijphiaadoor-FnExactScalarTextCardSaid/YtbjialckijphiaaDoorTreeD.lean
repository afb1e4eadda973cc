import Derived.Test.YtbjialckijphiaaDoorTreeA
namespace Go.Proofs.YtbjialckijphiaaDoor
open Go.RowKit

theorem depthL_take : ∀ (l : List Tr) (k : Nat), k < l.length → depthL (l.take (k + 1)) = max (depthL (l.take k)) (kidAt l k).depth
  | [], k, h => by simp at h
  | t :: ts, 0, _ => by simp [depthL, kidAt]
  | t :: ts, k + 1, h => by
    have := depthL_take ts k (by simpa using h)
    simp only [List.take_succ_cons, depthL] at this ⊢
    have e : kidAt (t :: ts) (k + 1) = kidAt ts k := rfl
    rw [this, e]; omega
theorem depth_eq (t : Tr) : t.depth = depthL t.kids + 1 := by cases t; rfl
theorem leavesL_take (l : List Tr) (k : Nat) (h : k < l.length) : leavesL (l.take (k + 1)) = leavesL (l.take k) + (kidAt l k).leaves := sum_take Tr.leaves leavesL rfl (fun _ _ => rfl) l k h
theorem leaves_eq (t : Tr) (h : 0 < t.kids.length) : t.leaves = leavesL t.kids := by
  cases t with
  | mk k f n s keys kids =>
    cases kids with
    | nil => simp [Tr.kids] at h
    | cons x xs => simp [Tr.leaves, Tr.kids]
theorem leaves_nil (t : Tr) (h : ¬ 0 < t.kids.length) : t.leaves = if t.kind == 5 || t.kind == 6 then 0 else 1 := by
  cases t with
  | mk k f n s keys kids =>
    cases kids with
    | nil => simp [Tr.leaves, Tr.kind]
    | cons x xs => simp [Tr.kids] at h

set_option maxHeartbeats 1000000 in
theorem iTreeDepth : ∀ (N : Nat) (t : Tr) (S : Nat → Prop) (vk vs : Value) (w : World), t.nodes ≤ N → t.nodes ≤ 2000000 → TreeIn w S t vk vs →
    Calls Tryd.prog 22 #[.agg #[.int .i64 t.kind, .bool t.flag, .int .i64 t.num, .string t.text, vk, vs]] w fun e w' => e = .returned (.int .i64 (t.depth : Nat)) ∧ Below w.heap.size w w'
  | 0, t, S, vk, vs, w, h, _, _ => by have := nodes_pos t; omega
  | N + 1, t, S, vk, vs, w, h, hb, ht => by
    have IH := Lib.hid (iTreeDepth N)
    obtain ⟨hk, hs⟩ := treeIn_iff.1 ht
    obtain ⟨a1, m1, rfl⟩ := hk.len
    obtain ⟨a2, m2, rfl⟩ := hs.len
    clear ht hk
    have hne := nodes_eq t
    have hln := len_nodes t.kids
    have hq1 : nodesL t.kids + 1 ≤ 2000000 := by omega
    have HNE := Lib.hid hne; clear hne
    have HDE := Lib.hid (depth_eq t)
    go_enter Tryd.func22, Tryd.ntmps22
    go_wp2
    go_loopw [3, 9] (fun n i wr => ∃ k : Nat, k ≤ t.kids.length ∧ i = .int .i64 k ∧ n = .int .i64 (depthL (t.kids.take k) : Nat) ∧ Below w.heap.size w wr) (fun _ i _ => t.kids.length - (intOf i).toNat)
    case atStart => exact ⟨0, by omega, rfl, rfl, by repeat (first | exact Below.refl _ _ | (refine Below.alloc ?_ (by first | omega | (simp; done) | (simp; omega)) _) | (refine Below.setCell ?_ (by first | omega | (simp; done) | (simp; omega)) _) | (refine Below.drew ?_) | (refine below_drewN ?_ _))⟩
    case round =>
      obtain ⟨k, hk, rfl, rfl, hbel⟩ := hrel
      by_cases hlt : k < t.kids.length
      · obtain ⟨b, o, vk', vs', rfl, ⟨c0, c1, c2, c3, c4, c5⟩, hin⟩ := (hs.keep hbel).at hlt
        obtain ⟨hk', hs'⟩ := treeIn_iff.1 hin
        obtain ⟨b1, n1, rfl⟩ := hk'.len
        obtain ⟨b2, n2, rfl⟩ := hs'.len
        clear hk' hs' hs
        have HT := Lib.hid (nodesL_take t.kids k hlt)
        have h1 := nodes_kid t.kids k hlt
        have h2 := nodesL_le t.kids k
        have h3 := nodesL_le t.kids (k + 1)
        have hq2 : nodesL (t.kids.take k) + (kidAt t.kids k).nodes ≤ nodesL t.kids := by have := HT.out; omega
        have HD := Lib.hid (depthL_take t.kids k hlt)
        have hd1 : depthL (t.kids.take k) ≤ 2000000 := by have := depthL_nodes (t.kids.take k); omega
        have hd2 : (kidAt t.kids k).depth ≤ 2000000 := by have := depth_nodes (kidAt t.kids k); omega
        have hz := hbel.size
        have hlb := lt_of_cell c0
        have HB := Lib.hid (show (kidAt t.kids k).nodes ≤ N ∧ 1 + nodesL (t.kids.take (k + 1)) ≤ 2000000 by have := HNE.out; omega)
        by_cases hcmp : (depthL (t.kids.take k) : Int) < ((kidAt t.kids k).depth : Int)
        all_goals
          go_wp2_with (go_at_call 22; refine (IH.out (kidAt t.kids k) S _ _ _ HB.out.1 (by have := HNE.out; omega) (hin.keep (by repeat (first | exact Below.refl _ _ | (refine Below.alloc ?_ (by first | omega | (simp; done) | (simp; omega)) _) | (refine Below.setCell ?_ (by first | omega | (simp; done) | (simp; omega)) _) | (refine Below.drew ?_) | (refine below_drewN ?_ _))))).mono ?_; rintro e w1 ⟨rfl, hb1⟩)
          go_roundw
          case rel => exact ⟨k + 1, by omega, by go_num, by rw [HD.out]; go_num, bnext (by repeat (first | exact hbel | (refine Below.alloc ?_ (by first | omega | (simp; done) | (simp; omega)) _) | (refine Below.setCell ?_ (by first | omega | (simp; done) | (simp; omega)) _) | (refine Below.drew ?_) | (refine below_drewN ?_ _))) hb1⟩
          case measure => simp [intOf]; omega
      · obtain rfl : k = t.kids.length := by omega
        have hd1 : depthL t.kids ≤ 2000000 := by have := depthL_nodes t.kids; omega
        go_wp2
        go_ret
        exact ⟨ret_int (by rw [HDE.out]; omega), hbel⟩

set_option maxHeartbeats 1000000 in
theorem sTreeDepth : ∀ (N : Nat) (t : Tr) (S : Nat → Prop) (vk vs : Value) (w : World), t.nodes ≤ N → t.nodes ≤ 2000000 → TreeIn w S t vk vs →
    Calls Tryd.prog 17 #[.agg #[.int .i64 t.kind, .bool t.flag, .int .i64 t.num, .string t.text, vk, vs]] w fun e w' => e = .returned (.int .i64 (t.depth : Nat)) ∧ Below w.heap.size w w'
  | 0, t, S, vk, vs, w, h, _, _ => by have := nodes_pos t; omega
  | N + 1, t, S, vk, vs, w, h, hb, ht => by
    have IH := Lib.hid (sTreeDepth N)
    obtain ⟨hk, hs⟩ := treeIn_iff.1 ht
    obtain ⟨a1, m1, rfl⟩ := hk.len
    obtain ⟨a2, m2, rfl⟩ := hs.len
    clear ht hk
    have hne := nodes_eq t
    have hln := len_nodes t.kids
    have hq1 : nodesL t.kids + 1 ≤ 2000000 := by omega
    have HNE := Lib.hid hne; clear hne
    have HDE := Lib.hid (depth_eq t)
    go_enter Tryd.func17, Tryd.ntmps17
    go_wp2
    go_loopw [3, 4] (fun n i wr => wr.cell? ⟨w.heap.size, 5, none⟩ = some (.slice a2 t.kids.length m2) ∧ ∃ k : Nat, k ≤ t.kids.length ∧ i = .int .i64 k ∧ n = .int .i64 (depthL (t.kids.take k) : Nat) ∧ Below w.heap.size w wr) (fun _ i _ => t.kids.length - (intOf i).toNat)
    case atStart => exact ⟨by go_simp, 0, by omega, rfl, rfl, by repeat (first | exact Below.refl _ _ | (refine Below.alloc ?_ (by first | omega | (simp; done) | (simp; omega)) _) | (refine Below.setCell ?_ (by first | omega | (simp; done) | (simp; omega)) _) | (refine Below.drew ?_) | (refine below_drewN ?_ _))⟩
    case round =>
      obtain ⟨hbox, k, hk, rfl, rfl, hbel⟩ := hrel
      by_cases hlt : k < t.kids.length
      · obtain ⟨b, o, vk', vs', rfl, ⟨c0, c1, c2, c3, c4, c5⟩, hin⟩ := (hs.keep hbel).at hlt
        obtain ⟨hk', hs'⟩ := treeIn_iff.1 hin
        obtain ⟨b1, n1, rfl⟩ := hk'.len
        obtain ⟨b2, n2, rfl⟩ := hs'.len
        clear hk' hs' hs
        have HT := Lib.hid (nodesL_take t.kids k hlt)
        have h1 := nodes_kid t.kids k hlt
        have h2 := nodesL_le t.kids k
        have h3 := nodesL_le t.kids (k + 1)
        have hq2 : nodesL (t.kids.take k) + (kidAt t.kids k).nodes ≤ nodesL t.kids := by have := HT.out; omega
        have HD := Lib.hid (depthL_take t.kids k hlt)
        have hd1 : depthL (t.kids.take k) ≤ 2000000 := by have := depthL_nodes (t.kids.take k); omega
        have hd2 : (kidAt t.kids k).depth ≤ 2000000 := by have := depth_nodes (kidAt t.kids k); omega
        have hz := hbel.size
        have hlb := lt_of_cell c0
        have HB := Lib.hid (show (kidAt t.kids k).nodes ≤ N ∧ 1 + nodesL (t.kids.take (k + 1)) ≤ 2000000 by have := HNE.out; omega)
        by_cases hcmp : (depthL (t.kids.take k) : Int) < ((kidAt t.kids k).depth : Int)
        all_goals
          go_wp2_with (go_at_call 17; refine (IH.out (kidAt t.kids k) S _ _ _ HB.out.1 (by have := HNE.out; omega) (hin.keep (by repeat (first | exact Below.refl _ _ | (refine Below.alloc ?_ (by first | omega | (simp; done) | (simp; omega)) _) | (refine Below.setCell ?_ (by first | omega | (simp; done) | (simp; omega)) _) | (refine Below.drew ?_) | (refine below_drewN ?_ _))))).mono ?_; rintro e w1 ⟨rfl, hb1⟩)
          go_roundw
          case rel => exact ⟨bkeep hb1 (by first | exact hbox | (go_simp; done) | (simp; done)), k + 1, by omega, by go_num, by rw [HD.out]; go_num, bnext (by repeat (first | exact hbel | (refine Below.alloc ?_ (by first | omega | (simp; done) | (simp; omega)) _) | (refine Below.setCell ?_ (by first | omega | (simp; done) | (simp; omega)) _) | (refine Below.drew ?_) | (refine below_drewN ?_ _))) hb1⟩
          case measure => simp [intOf]; omega
      · obtain rfl : k = t.kids.length := by omega
        have hd1 : depthL t.kids ≤ 2000000 := by have := depthL_nodes t.kids; omega
        go_wp2
        go_ret
        exact ⟨ret_int (by rw [HDE.out]; omega), hbel⟩

end Go.Proofs.YtbjialckijphiaaDoor
