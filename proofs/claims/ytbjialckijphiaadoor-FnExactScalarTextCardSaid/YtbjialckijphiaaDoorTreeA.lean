/- TreeSize, TreeDepth, LeavesOf: contracts of both texts. -/
import Derived.Test.YtbjialckijphiaaDoorTreeP
namespace Go.Proofs.YtbjialckijphiaaDoor
open Go.RowKit

theorem nodesL_take (l : List Tr) (k : Nat) (h : k < l.length) : nodesL (l.take (k + 1)) = nodesL (l.take k) + (kidAt l k).nodes := sum_take Tr.nodes nodesL rfl (fun _ _ => rfl) l k h
theorem nodesL_le (l : List Tr) (k : Nat) : nodesL (l.take k) ≤ nodesL l := take_le_sum Tr.nodes nodesL rfl (fun _ _ => rfl) l k
theorem nodes_kid (l : List Tr) (k : Nat) (h : k < l.length) : (kidAt l k).nodes ≤ nodesL l := le_sum Tr.nodes nodesL (fun _ _ => rfl) l k h
theorem nodes_eq (t : Tr) : t.nodes = 1 + nodesL t.kids := by cases t; rfl
theorem len_nodes : ∀ l : List Tr, l.length ≤ nodesL l
  | [] => by simp [nodesL]
  | t :: ts => by have := nodes_pos t; have := len_nodes ts; simp only [nodesL, List.length_cons]; omega

set_option maxHeartbeats 1000000 in
theorem iTreeSize : ∀ (N : Nat) (t : Tr) (S : Nat → Prop) (vk vs : Value) (w : World), t.nodes ≤ N → t.nodes ≤ 2000000 → TreeIn w S t vk vs →
    Calls Tryd.prog 23 #[.agg #[.int .i64 t.kind, .bool t.flag, .int .i64 t.num, .string t.text, vk, vs]] w fun e w' => e = .returned (.int .i64 (t.nodes : Nat)) ∧ Below w.heap.size w w'
  | 0, t, S, vk, vs, w, h, _, _ => by have := nodes_pos t; omega
  | N + 1, t, S, vk, vs, w, h, hb, ht => by
    have IH := Lib.hid (iTreeSize N)
    obtain ⟨hk, hs⟩ := treeIn_iff.1 ht
    obtain ⟨a1, m1, rfl⟩ := hk.len
    obtain ⟨a2, m2, rfl⟩ := hs.len
    clear ht hk
    have hne := nodes_eq t
    have hln := len_nodes t.kids
    have hq1 : nodesL t.kids + 1 ≤ 2000000 := by omega
    have HNE := Lib.hid hne; clear hne
    go_enter Tryd.func23, Tryd.ntmps23
    go_wp2
    go_loopw [3, 9] (fun n i wr => ∃ k : Nat, k ≤ t.kids.length ∧ i = .int .i64 k ∧ n = .int .i64 (1 + nodesL (t.kids.take k) : Nat) ∧ Below w.heap.size w wr) (fun _ i _ => t.kids.length - (intOf i).toNat)
    case atStart => exact ⟨0, by omega, rfl, rfl, by repeat (first | exact Below.refl _ _ | (refine Below.alloc ?_ (by first | omega | (simp; done) | (simp; omega)) _) | (refine Below.setCell ?_ (by first | omega | (simp; done) | (simp; omega)) _) | (refine Below.drew ?_) | (refine below_drewN ?_ _))⟩
    case round =>
      obtain ⟨k, hk, rfl, rfl, hbel⟩ := hrel
      by_cases hlt : k < t.kids.length
      · obtain ⟨b, o, vk', vs', rfl, ⟨c0, c1, c2, c3, c4, c5⟩, hin⟩ := (hs.keep hbel).at hlt
        obtain ⟨hk', hs'⟩ := treeIn_iff.1 hin
        obtain ⟨b1, n1, rfl⟩ := hk'.len
        obtain ⟨b2, n2, rfl⟩ := hs'.len
        clear hk' hs' hs
        have HT := Lib.hid (nodesL_take t.kids k hlt)
        have h1 := nodes_kid t.kids k hlt
        have h2 := nodesL_le t.kids k
        have h3 := nodesL_le t.kids (k + 1)
        have hq2 : nodesL (t.kids.take k) + (kidAt t.kids k).nodes ≤ nodesL t.kids := by have := HT.out; omega
        have hz := hbel.size
        have hlb := lt_of_cell c0
        have HB := Lib.hid (show (kidAt t.kids k).nodes ≤ N ∧ 1 + nodesL (t.kids.take (k + 1)) ≤ 2000000 by have := HNE.out; omega)
        go_wp2_with (go_at_call 23; refine (IH.out (kidAt t.kids k) S _ _ _ HB.out.1 (by have := HNE.out; omega) (hin.keep (by repeat (first | exact Below.refl _ _ | (refine Below.alloc ?_ (by first | omega | (simp; done) | (simp; omega)) _) | (refine Below.setCell ?_ (by first | omega | (simp; done) | (simp; omega)) _) | (refine Below.drew ?_) | (refine below_drewN ?_ _))))).mono ?_; rintro e w1 ⟨rfl, hb1⟩)
        go_roundw
        case rel => exact ⟨k + 1, by omega, by go_num, by rw [HT.out]; go_num, bnext (by repeat (first | exact hbel | (refine Below.alloc ?_ (by first | omega | (simp; done) | (simp; omega)) _) | (refine Below.setCell ?_ (by first | omega | (simp; done) | (simp; omega)) _) | (refine Below.drew ?_) | (refine below_drewN ?_ _))) hb1⟩
        case measure => simp [intOf]; omega
      · obtain rfl : k = t.kids.length := by omega
        go_wp2
        go_ret
        exact ⟨ret_int (by rw [HNE.out, List.take_length]), hbel⟩

set_option maxHeartbeats 1000000 in
theorem sTreeSize : ∀ (N : Nat) (t : Tr) (S : Nat → Prop) (vk vs : Value) (w : World), t.nodes ≤ N → t.nodes ≤ 2000000 → TreeIn w S t vk vs →
    Calls Tryd.prog 18 #[.agg #[.int .i64 t.kind, .bool t.flag, .int .i64 t.num, .string t.text, vk, vs]] w fun e w' => e = .returned (.int .i64 (t.nodes : Nat)) ∧ Below w.heap.size w w'
  | 0, t, S, vk, vs, w, h, _, _ => by have := nodes_pos t; omega
  | N + 1, t, S, vk, vs, w, h, hb, ht => by
    have IH := Lib.hid (sTreeSize N)
    obtain ⟨hk, hs⟩ := treeIn_iff.1 ht
    obtain ⟨a1, m1, rfl⟩ := hk.len
    obtain ⟨a2, m2, rfl⟩ := hs.len
    clear ht hk
    have hne := nodes_eq t
    have hln := len_nodes t.kids
    have hq1 : nodesL t.kids + 1 ≤ 2000000 := by omega
    have HNE := Lib.hid hne; clear hne
    go_enter Tryd.func18, Tryd.ntmps18
    go_wp2
    go_loopw [3, 4] (fun n i wr => wr.cell? ⟨w.heap.size, 5, none⟩ = some (.slice a2 t.kids.length m2) ∧ ∃ k : Nat, k ≤ t.kids.length ∧ i = .int .i64 k ∧ n = .int .i64 (1 + nodesL (t.kids.take k) : Nat) ∧ Below w.heap.size w wr) (fun _ i _ => t.kids.length - (intOf i).toNat)
    case atStart => exact ⟨by go_simp, 0, by omega, rfl, rfl, by repeat (first | exact Below.refl _ _ | (refine Below.alloc ?_ (by first | omega | (simp; done) | (simp; omega)) _) | (refine Below.setCell ?_ (by first | omega | (simp; done) | (simp; omega)) _) | (refine Below.drew ?_) | (refine below_drewN ?_ _))⟩
    case round =>
      obtain ⟨hbox, k, hk, rfl, rfl, hbel⟩ := hrel
      by_cases hlt : k < t.kids.length
      · obtain ⟨b, o, vk', vs', rfl, ⟨c0, c1, c2, c3, c4, c5⟩, hin⟩ := (hs.keep hbel).at hlt
        obtain ⟨hk', hs'⟩ := treeIn_iff.1 hin
        obtain ⟨b1, n1, rfl⟩ := hk'.len
        obtain ⟨b2, n2, rfl⟩ := hs'.len
        clear hk' hs' hs
        have HT := Lib.hid (nodesL_take t.kids k hlt)
        have h1 := nodes_kid t.kids k hlt
        have h2 := nodesL_le t.kids k
        have h3 := nodesL_le t.kids (k + 1)
        have hq2 : nodesL (t.kids.take k) + (kidAt t.kids k).nodes ≤ nodesL t.kids := by have := HT.out; omega
        have hz := hbel.size
        have hlb := lt_of_cell c0
        have HB := Lib.hid (show (kidAt t.kids k).nodes ≤ N ∧ 1 + nodesL (t.kids.take (k + 1)) ≤ 2000000 by have := HNE.out; omega)
        go_wp2_with (go_at_call 18; refine (IH.out (kidAt t.kids k) S _ _ _ HB.out.1 (by have := HNE.out; omega) (hin.keep (by repeat (first | exact Below.refl _ _ | (refine Below.alloc ?_ (by first | omega | (simp; done) | (simp; omega)) _) | (refine Below.setCell ?_ (by first | omega | (simp; done) | (simp; omega)) _) | (refine Below.drew ?_) | (refine below_drewN ?_ _))))).mono ?_; rintro e w1 ⟨rfl, hb1⟩)
        go_roundw
        case rel => exact ⟨bkeep hb1 (by first | exact hbox | (go_simp; done) | (simp; done)), k + 1, by omega, by go_num, by rw [HT.out]; go_num, bnext (by repeat (first | exact hbel | (refine Below.alloc ?_ (by first | omega | (simp; done) | (simp; omega)) _) | (refine Below.setCell ?_ (by first | omega | (simp; done) | (simp; omega)) _) | (refine Below.drew ?_) | (refine below_drewN ?_ _))) hb1⟩
        case measure => simp [intOf]; omega
      · obtain rfl : k = t.kids.length := by omega
        go_wp2
        go_ret
        exact ⟨ret_int (by rw [HNE.out, List.take_length]), hbel⟩

end Go.Proofs.YtbjialckijphiaaDoor
