/- The laws' walks of TreeSize, TreeDepth, LeavesOf. -/
import Derived.Test.YtkfkdljahgdfjaaTreeL
import Derived.Deep.RegionWith
import Derived.Test.YtkfkdljahgdfjaaTreeD
import Derived.Test.YtkfkdljahgdfjaaTreeS
namespace Go.Proofs.Ytkfkdljahgdfjaa
open Go.RowKit

theorem szTree_any (t : Tr) (S : Nat → Prop) (vk vs : Value) (w : World) (left : Int) (hf : t.fits) (ht : TreeIn w S t vk vs) (h0 : 0 ≤ left) (h1 : left ≤ 1048576) :
    Calls Try.prog 12 #[.agg #[.int .i64 t.kind, .bool t.flag, .int .i64 t.num, .string t.text, vk, vs], .int .i64 left] w fun e w' => e = .returned (.int .i64 (lessZ left (t.wt : Nat))) ∧ Below w.heap.size w w' :=
  szT t.nodes t S vk vs w left (Nat.le_refl _) hf ht h0 h1
theorem toTree_any (t : Tr) (S : Nat → Prop) (vk vs : Value) (w : World) (hw : t.wt ≤ 1048576) (ht : TreeIn w S t vk vs) :
    Calls Try.prog 14 #[.agg #[.int .i64 t.kind, .bool t.flag, .int .i64 t.num, .string t.text, vk, vs]] w fun e w' => TreeNew w.heap.size t e w' ∧ Below w.heap.size w w' :=
  toT t.nodes t S vk vs w (Nat.le_refl _) hw ht
theorem eqTree_any (t : Tr) (S S' : Nat → Prop) (vk vs vk' vs' : Value) (w : World) (hw : t.wt ≤ 1048576) (ht : TreeIn w S t vk vs) (ht' : TreeIn w S' t vk' vs') :
    Calls Try.prog 16 #[.agg #[.int .i64 t.kind, .bool t.flag, .int .i64 t.num, .string t.text, vk, vs], .agg #[.int .i64 t.kind, .bool t.flag, .int .i64 t.num, .string t.text, vk', vs']] w fun e w' => e = .returned (.bool true) ∧ Below w.heap.size w w' :=
  eqT t.nodes t S S' vk vs vk' vs' w (Nat.le_refl _) hw ht ht'

set_option maxHeartbeats 1000000 in
theorem lawTreeSize {H : Type} {enc : TypeId × Value → H} {W : World} {base : Nat} {v : Value} {d : DataW H} {p : List MemPlace} (hval : Value.okWide Try.prog W .any base 25 v)
    (h : DataW.Trod enc Try.prog W 0 (fun _ => true) true 25 v d p) :
    Calls Try.prog 3 #[v] W fun e w' => e = .returned (.bool true) ∧ Below W.heap.size W w' := by
  obtain ⟨t, vk, vs, rfl, ht, hfit⟩ := openTree hval h
  clear h hval
  obtain ⟨hk, hs⟩ := treeIn_iff.1 ht
  obtain ⟨a1, m1, rfl⟩ := hk.len
  obtain ⟨a2, m2, rfl⟩ := hs.len
  clear hk hs
  by_cases hs : (1048576 : Int) < (t.wt : Nat)
  · have hy := lessZ_neg hs
    go_enter Try.func3, Try.ntmps3
    go_wp2_with fail
    refine (szTree_any t _ _ _ _ _ hfit (ht.keep (alloc_below _ _ _)) (by omega) (by omega)).mono ?_; rintro e w1 ⟨rfl, hb1⟩
    go_wp2
    go_ret
    exact ⟨rfl, bnext (alloc_below _ _ _) hb1⟩
  have hy := lessZ_pos hs
  have hz : (0 : Int) ≤ 1048576 - (t.wt : Nat) := by omega
  have HW := Lib.hid (show t.wt ≤ 1048576 by omega)
  have HN := Lib.hid (show t.nodes ≤ 2000000 by have := nodes_wt t; omega)
  have e1 := beq_self_eq_true ((t.nodes : Nat) : Int)
  go_enter Try.func3, Try.ntmps3
  go_wp2_with fail
  refine (szTree_any t _ _ _ _ _ hfit (ht.keep (alloc_below _ _ _)) (by omega) (by omega)).mono ?_; rintro e w1 ⟨rfl, hb1⟩
  have hs1 := (Spill.new W t (.slice a1 t.keys.length m1) (.slice a2 t.kids.length m2) _).keep hb1
  have hbw1 := bnext (alloc_below _ _ _) hb1
  have HB1 := Lib.hid hb1; clear hb1
  obtain ⟨p0, p1, p2, p3, p4, p5⟩ := hs1.cells
  go_wp2_with fail
  clear p0 p1 p2 p3 p4 p5
  refine (toTree_any t _ _ _ _ HW.out (ht.keep hbw1)).mono ?_; rintro e w2 ⟨⟨k2, s2, f2, rfl, ho2, -, -⟩, hb2⟩
  have hT2 := TreeOwn.toIn (S := Any) _ _ _ _ ho2 (fun _ _ => trivial)
  obtain ⟨c1, n1, rfl⟩ := (treeIn_iff.1 hT2).1.len
  obtain ⟨c2, n2, rfl⟩ := (treeIn_iff.1 hT2).2.len
  have hs2 := hs1.keep hb2
  have hbw2 := bnext hbw1 hb2
  clear ho2
  go_wp2_with fail
  refine (sTreeSize _ t _ _ _ _ (Nat.le_refl _) HN.out hT2).mono ?_; rintro e w3 ⟨rfl, hb3⟩
  have hs3 := hs2.keep hb3
  have hbw3 := bnext hbw2 hb3
  obtain ⟨p0, p1, p2, p3, p4, p5⟩ := hs3.cells
  go_wp2_with fail
  clear p0 p1 p2 p3 p4 p5
  refine (toTree_any t _ _ _ _ HW.out (ht.keep hbw3)).mono ?_; rintro e w4 ⟨⟨k4, s4, f4, rfl, ho4, -, -⟩, hb4⟩
  have hT4 := TreeOwn.toIn (S := Any) _ _ _ _ ho4 (fun _ _ => trivial)
  obtain ⟨c3, n3, rfl⟩ := (treeIn_iff.1 hT4).1.len
  obtain ⟨c4, n4, rfl⟩ := (treeIn_iff.1 hT4).2.len
  have hs4 := hs3.keep hb4
  have hbw4 := bnext hbw3 hb4
  clear ho4
  go_wp2_with fail
  refine (iTreeSize _ t _ _ _ _ (Nat.le_refl _) HN.out (hT4.keep (alloc_below _ _ _))).mono ?_; rintro e w5 ⟨rfl, hb5⟩
  have hx5 := (Spill.new w4 t (.slice c3 t.keys.length n3) (.slice c4 t.kids.length n4) _).keep hb5
  have hs5 := (hs4.keep (alloc_below w4 _ _)).keep hb5
  have hbx5 := bnext (alloc_below w4 _ _) hb5
  have hbw5 := bnext hbw4 hbx5
  have HB5 := Lib.hid hb5; clear hb5
  obtain ⟨p0, p1, p2, p3, p4, p5⟩ := hs5.cells
  obtain ⟨q0, q1, q2, q3, q4, q5⟩ := hx5.cells
  go_wp2_with fail
  have hd5 : Below w5.heap.size w5 w5.drew := (Below.refl _ _).drew
  have hx5d := Lib.hid (hx5.keep hd5)
  go_region_with (first
    | (go_at_call 14; refine (toTree_any t _ _ _ _ HW.out (ht.keep hbw5.drew)).mono ?_; rintro e w6 ⟨⟨k6, s6, f6, rfl, ho6, -, -⟩, hb6⟩; have hT6 := TreeOwn.toIn (S := Any) _ _ _ _ ho6 (fun _ _ => trivial); obtain ⟨c5, n5, rfl⟩ := (treeIn_iff.1 hT6).1.len; obtain ⟨c6, n6, rfl⟩ := (treeIn_iff.1 hT6).2.len; clear ho6; obtain ⟨r0, r1, r2, r3, r4, r5⟩ := (hx5d.out.keep hb6).cells)
    | (go_at_call 16; refine (eqTree_any t _ _ _ _ _ _ _ HW.out ((hT4.keep hbx5.drew).keep hb6) hT6).mono ?_; rintro e w7 ⟨rfl, hb7⟩))
  all_goals (go_wp2; go_ret; exact ⟨rfl, bnext (bnext hbw5.drew hb6) hb7⟩)

set_option maxHeartbeats 1000000 in
theorem lawTreeDepth {H : Type} {enc : TypeId × Value → H} {W : World} {base : Nat} {v : Value} {d : DataW H} {p : List MemPlace} (hval : Value.okWide Try.prog W .any base 25 v)
    (h : DataW.Trod enc Try.prog W 0 (fun _ => true) true 25 v d p) :
    Calls Try.prog 4 #[v] W fun e w' => e = .returned (.bool true) ∧ Below W.heap.size W w' := by
  obtain ⟨t, vk, vs, rfl, ht, hfit⟩ := openTree hval h
  clear h hval
  obtain ⟨hk, hs⟩ := treeIn_iff.1 ht
  obtain ⟨a1, m1, rfl⟩ := hk.len
  obtain ⟨a2, m2, rfl⟩ := hs.len
  clear hk hs
  by_cases hs : (1048576 : Int) < (t.wt : Nat)
  · have hy := lessZ_neg hs
    go_enter Try.func4, Try.ntmps4
    go_wp2_with fail
    refine (szTree_any t _ _ _ _ _ hfit (ht.keep (alloc_below _ _ _)) (by omega) (by omega)).mono ?_; rintro e w1 ⟨rfl, hb1⟩
    go_wp2
    go_ret
    exact ⟨rfl, bnext (alloc_below _ _ _) hb1⟩
  have hy := lessZ_pos hs
  have hz : (0 : Int) ≤ 1048576 - (t.wt : Nat) := by omega
  have HW := Lib.hid (show t.wt ≤ 1048576 by omega)
  have HN := Lib.hid (show t.nodes ≤ 2000000 by have := nodes_wt t; omega)
  have e1 := beq_self_eq_true ((t.depth : Nat) : Int)
  go_enter Try.func4, Try.ntmps4
  go_wp2_with fail
  refine (szTree_any t _ _ _ _ _ hfit (ht.keep (alloc_below _ _ _)) (by omega) (by omega)).mono ?_; rintro e w1 ⟨rfl, hb1⟩
  have hs1 := (Spill.new W t (.slice a1 t.keys.length m1) (.slice a2 t.kids.length m2) _).keep hb1
  have hbw1 := bnext (alloc_below _ _ _) hb1
  have HB1 := Lib.hid hb1; clear hb1
  obtain ⟨p0, p1, p2, p3, p4, p5⟩ := hs1.cells
  go_wp2_with fail
  clear p0 p1 p2 p3 p4 p5
  refine (toTree_any t _ _ _ _ HW.out (ht.keep hbw1)).mono ?_; rintro e w2 ⟨⟨k2, s2, f2, rfl, ho2, -, -⟩, hb2⟩
  have hT2 := TreeOwn.toIn (S := Any) _ _ _ _ ho2 (fun _ _ => trivial)
  obtain ⟨c1, n1, rfl⟩ := (treeIn_iff.1 hT2).1.len
  obtain ⟨c2, n2, rfl⟩ := (treeIn_iff.1 hT2).2.len
  have hs2 := hs1.keep hb2
  have hbw2 := bnext hbw1 hb2
  clear ho2
  go_wp2_with fail
  refine (sTreeDepth _ t _ _ _ _ (Nat.le_refl _) HN.out hT2).mono ?_; rintro e w3 ⟨rfl, hb3⟩
  have hs3 := hs2.keep hb3
  have hbw3 := bnext hbw2 hb3
  obtain ⟨p0, p1, p2, p3, p4, p5⟩ := hs3.cells
  go_wp2_with fail
  clear p0 p1 p2 p3 p4 p5
  refine (toTree_any t _ _ _ _ HW.out (ht.keep hbw3)).mono ?_; rintro e w4 ⟨⟨k4, s4, f4, rfl, ho4, -, -⟩, hb4⟩
  have hT4 := TreeOwn.toIn (S := Any) _ _ _ _ ho4 (fun _ _ => trivial)
  obtain ⟨c3, n3, rfl⟩ := (treeIn_iff.1 hT4).1.len
  obtain ⟨c4, n4, rfl⟩ := (treeIn_iff.1 hT4).2.len
  have hs4 := hs3.keep hb4
  have hbw4 := bnext hbw3 hb4
  clear ho4
  go_wp2_with fail
  refine (iTreeDepth _ t _ _ _ _ (Nat.le_refl _) HN.out (hT4.keep (alloc_below _ _ _))).mono ?_; rintro e w5 ⟨rfl, hb5⟩
  have hx5 := (Spill.new w4 t (.slice c3 t.keys.length n3) (.slice c4 t.kids.length n4) _).keep hb5
  have hs5 := (hs4.keep (alloc_below w4 _ _)).keep hb5
  have hbx5 := bnext (alloc_below w4 _ _) hb5
  have hbw5 := bnext hbw4 hbx5
  have HB5 := Lib.hid hb5; clear hb5
  obtain ⟨p0, p1, p2, p3, p4, p5⟩ := hs5.cells
  obtain ⟨q0, q1, q2, q3, q4, q5⟩ := hx5.cells
  go_wp2_with fail
  have hd5 : Below w5.heap.size w5 w5.drew := (Below.refl _ _).drew
  have hx5d := Lib.hid (hx5.keep hd5)
  go_region_with (first
    | (go_at_call 14; refine (toTree_any t _ _ _ _ HW.out (ht.keep hbw5.drew)).mono ?_; rintro e w6 ⟨⟨k6, s6, f6, rfl, ho6, -, -⟩, hb6⟩; have hT6 := TreeOwn.toIn (S := Any) _ _ _ _ ho6 (fun _ _ => trivial); obtain ⟨c5, n5, rfl⟩ := (treeIn_iff.1 hT6).1.len; obtain ⟨c6, n6, rfl⟩ := (treeIn_iff.1 hT6).2.len; clear ho6; obtain ⟨r0, r1, r2, r3, r4, r5⟩ := (hx5d.out.keep hb6).cells)
    | (go_at_call 16; refine (eqTree_any t _ _ _ _ _ _ _ HW.out ((hT4.keep hbx5.drew).keep hb6) hT6).mono ?_; rintro e w7 ⟨rfl, hb7⟩))
  all_goals (go_wp2; go_ret; exact ⟨rfl, bnext (bnext hbw5.drew hb6) hb7⟩)

set_option maxHeartbeats 1000000 in
theorem lawLeavesOf {H : Type} {enc : TypeId × Value → H} {W : World} {base : Nat} {v : Value} {d : DataW H} {p : List MemPlace} (hval : Value.okWide Try.prog W .any base 25 v)
    (h : DataW.Trod enc Try.prog W 0 (fun _ => true) true 25 v d p) :
    Calls Try.prog 6 #[v] W fun e w' => e = .returned (.bool true) ∧ Below W.heap.size W w' := by
  obtain ⟨t, vk, vs, rfl, ht, hfit⟩ := openTree hval h
  clear h hval
  obtain ⟨hk, hs⟩ := treeIn_iff.1 ht
  obtain ⟨a1, m1, rfl⟩ := hk.len
  obtain ⟨a2, m2, rfl⟩ := hs.len
  clear hk hs
  by_cases hs : (1048576 : Int) < (t.wt : Nat)
  · have hy := lessZ_neg hs
    go_enter Try.func6, Try.ntmps6
    go_wp2_with fail
    refine (szTree_any t _ _ _ _ _ hfit (ht.keep (alloc_below _ _ _)) (by omega) (by omega)).mono ?_; rintro e w1 ⟨rfl, hb1⟩
    go_wp2
    go_ret
    exact ⟨rfl, bnext (alloc_below _ _ _) hb1⟩
  have hy := lessZ_pos hs
  have hz : (0 : Int) ≤ 1048576 - (t.wt : Nat) := by omega
  have HW := Lib.hid (show t.wt ≤ 1048576 by omega)
  have HN := Lib.hid (show t.nodes ≤ 2000000 by have := nodes_wt t; omega)
  have e1 := beq_self_eq_true ((t.leaves : Nat) : Int)
  go_enter Try.func6, Try.ntmps6
  go_wp2_with fail
  refine (szTree_any t _ _ _ _ _ hfit (ht.keep (alloc_below _ _ _)) (by omega) (by omega)).mono ?_; rintro e w1 ⟨rfl, hb1⟩
  have hs1 := (Spill.new W t (.slice a1 t.keys.length m1) (.slice a2 t.kids.length m2) _).keep hb1
  have hbw1 := bnext (alloc_below _ _ _) hb1
  have HB1 := Lib.hid hb1; clear hb1
  obtain ⟨p0, p1, p2, p3, p4, p5⟩ := hs1.cells
  go_wp2_with fail
  clear p0 p1 p2 p3 p4 p5
  refine (toTree_any t _ _ _ _ HW.out (ht.keep hbw1)).mono ?_; rintro e w2 ⟨⟨k2, s2, f2, rfl, ho2, -, -⟩, hb2⟩
  have hT2 := TreeOwn.toIn (S := Any) _ _ _ _ ho2 (fun _ _ => trivial)
  obtain ⟨c1, n1, rfl⟩ := (treeIn_iff.1 hT2).1.len
  obtain ⟨c2, n2, rfl⟩ := (treeIn_iff.1 hT2).2.len
  have hs2 := hs1.keep hb2
  have hbw2 := bnext hbw1 hb2
  clear ho2
  go_wp2_with fail
  refine (sLeavesOf _ t _ _ _ _ (Nat.le_refl _) HN.out hT2).mono ?_; rintro e w3 ⟨rfl, hb3⟩
  have hs3 := hs2.keep hb3
  have hbw3 := bnext hbw2 hb3
  obtain ⟨p0, p1, p2, p3, p4, p5⟩ := hs3.cells
  go_wp2_with fail
  clear p0 p1 p2 p3 p4 p5
  refine (toTree_any t _ _ _ _ HW.out (ht.keep hbw3)).mono ?_; rintro e w4 ⟨⟨k4, s4, f4, rfl, ho4, -, -⟩, hb4⟩
  have hT4 := TreeOwn.toIn (S := Any) _ _ _ _ ho4 (fun _ _ => trivial)
  obtain ⟨c3, n3, rfl⟩ := (treeIn_iff.1 hT4).1.len
  obtain ⟨c4, n4, rfl⟩ := (treeIn_iff.1 hT4).2.len
  have hs4 := hs3.keep hb4
  have hbw4 := bnext hbw3 hb4
  clear ho4
  go_wp2_with fail
  refine (iLeavesOf _ t _ _ _ _ (Nat.le_refl _) HN.out (hT4.keep (alloc_below _ _ _))).mono ?_; rintro e w5 ⟨rfl, hb5⟩
  have hx5 := (Spill.new w4 t (.slice c3 t.keys.length n3) (.slice c4 t.kids.length n4) _).keep hb5
  have hs5 := (hs4.keep (alloc_below w4 _ _)).keep hb5
  have hbx5 := bnext (alloc_below w4 _ _) hb5
  have hbw5 := bnext hbw4 hbx5
  have HB5 := Lib.hid hb5; clear hb5
  obtain ⟨p0, p1, p2, p3, p4, p5⟩ := hs5.cells
  obtain ⟨q0, q1, q2, q3, q4, q5⟩ := hx5.cells
  go_wp2_with fail
  have hd5 : Below w5.heap.size w5 w5.drew := (Below.refl _ _).drew
  have hx5d := Lib.hid (hx5.keep hd5)
  go_region_with (first
    | (go_at_call 14; refine (toTree_any t _ _ _ _ HW.out (ht.keep hbw5.drew)).mono ?_; rintro e w6 ⟨⟨k6, s6, f6, rfl, ho6, -, -⟩, hb6⟩; have hT6 := TreeOwn.toIn (S := Any) _ _ _ _ ho6 (fun _ _ => trivial); obtain ⟨c5, n5, rfl⟩ := (treeIn_iff.1 hT6).1.len; obtain ⟨c6, n6, rfl⟩ := (treeIn_iff.1 hT6).2.len; clear ho6; obtain ⟨r0, r1, r2, r3, r4, r5⟩ := (hx5d.out.keep hb6).cells)
    | (go_at_call 16; refine (eqTree_any t _ _ _ _ _ _ _ HW.out ((hT4.keep hbx5.drew).keep hb6) hT6).mono ?_; rintro e w7 ⟨rfl, hb7⟩))
  all_goals (go_wp2; go_ret; exact ⟨rfl, bnext (bnext hbw5.drew hb6) hb7⟩)

end Go.Proofs.Ytkfkdljahgdfjaa
