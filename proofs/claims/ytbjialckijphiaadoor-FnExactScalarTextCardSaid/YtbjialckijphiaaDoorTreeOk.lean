/- TreeOk: contracts of both texts; the law (printed by wip/gen/treelaw1.py). -/
import Derived.Test.YtbjialckijphiaaDoorTreeHs
import Derived.Test.YtbjialckijphiaaDoorTreeHi
import Derived.Test.YtbjialckijphiaaDoorTreeW
namespace Go.Proofs.YtbjialckijphiaaDoor
open Go.RowKit

set_option maxRecDepth 100000 in
set_option maxHeartbeats 2000000 in
theorem sTreeOk (t : Tr) (S : Nat → Prop) (vk vs : Value) (w : World) (hn : t.nodes ≤ 2000000) (ht : TreeIn w S t vk vs) :
    Calls Tryd.prog 7 #[.agg #[.int .i64 t.kind, .bool t.flag, .int .i64 t.num, .string t.text, vk, vs]] w fun e w' => e = .returned (.bool (treeOkB t)) ∧ Below w.heap.size w w' := by
  obtain ⟨hk0, hs0⟩ := treeIn_iff.1 ht
  obtain ⟨a1, m1, rfl⟩ := hk0.len
  obtain ⟨a2, m2, rfl⟩ := hs0.len
  have HB0 := Lib.hid (alloc_below w #[.int .i64 t.kind, .bool t.flag, .int .i64 t.num, .string t.text, .slice a1 t.keys.length m1, .slice a2 t.kids.length m2] 30)
  have HS0 := Lib.hid (Spill.new w t (.slice a1 t.keys.length m1) (.slice a2 t.kids.length m2) 30)
  have HIN := Lib.hid (ht.keep HB0.out)
  have HN := Lib.hid hn
  have HOK : Hid (treeOkB t = (decide (t.depth ≤ 8) && (decide (t.nodes ≤ 300) && shapeB t))) := rfl
  clear ht hk0 hs0 hn
  by_cases h8 : t.depth ≤ 8
  rotate_left
  · have z1 : decide ((t.depth : Int) ≤ 8) = false := decide_eq_false (by omega)
    have H := Lib.hid (show treeOkB t = false by rw [HOK.out, decide_eq_false h8]; rfl)
    clear h8
    go_enter Tryd.func7, Tryd.ntmps7
    go_wp2_with (go_at_call 17; refine (sTreeDepth _ t S _ _ _ (Nat.le_refl _) HN.out HIN.out).mono ?_; rintro e w1 ⟨rfl, hb1⟩; have HS1 := Lib.hid (HS0.out.keep hb1); have HI1 := Lib.hid (HIN.out.keep hb1); have HB1 := Lib.hid (bnext HB0.out hb1); obtain ⟨q0, q1, q2, q3, q4, q5⟩ := HS1.out.cells)
    go_ret
    exact ⟨ret_bool H.out.symm, HB1.out⟩
  have z1 : decide ((t.depth : Int) ≤ 8) = true := decide_eq_true (by omega)
  by_cases h3 : t.nodes ≤ 300
  rotate_left
  · have z2 : decide ((t.nodes : Int) ≤ 300) = false := decide_eq_false (by omega)
    have H := Lib.hid (show treeOkB t = false by rw [HOK.out, decide_eq_false h3]; simp)
    clear h8 h3
    go_enter Tryd.func7, Tryd.ntmps7
    go_wp2_with (first | (go_at_call 17; refine (sTreeDepth _ t S _ _ _ (Nat.le_refl _) HN.out HIN.out).mono ?_; rintro e w1 ⟨rfl, hb1⟩; have HS1 := Lib.hid (HS0.out.keep hb1); have HI1 := Lib.hid (HIN.out.keep hb1); have HB1 := Lib.hid (bnext HB0.out hb1); obtain ⟨q0, q1, q2, q3, q4, q5⟩ := HS1.out.cells) | (go_at_call 18; refine (sTreeSize _ t S _ _ _ (Nat.le_refl _) HN.out HI1.out).mono ?_; rintro e w2 ⟨rfl, hb2⟩; have HS2 := Lib.hid (HS1.out.keep hb2); have HI2 := Lib.hid (HI1.out.keep hb2); have HB2 := Lib.hid (bnext HB1.out hb2); clear q0 q1 q2 q3 q4 q5; obtain ⟨q0, q1, q2, q3, q4, q5⟩ := HS2.out.cells))
    go_ret
    exact ⟨ret_bool H.out.symm, HB2.out⟩
  have z2 : decide ((t.nodes : Int) ≤ 300) = true := decide_eq_true (by omega)
  have H := Lib.hid (show shapeB t = treeOkB t by rw [HOK.out, decide_eq_true h8, decide_eq_true h3]; rfl)
  clear h8 h3
  go_enter Tryd.func7, Tryd.ntmps7
  go_wp2_with (first | (go_at_call 17; refine (sTreeDepth _ t S _ _ _ (Nat.le_refl _) HN.out HIN.out).mono ?_; rintro e w1 ⟨rfl, hb1⟩; have HS1 := Lib.hid (HS0.out.keep hb1); have HI1 := Lib.hid (HIN.out.keep hb1); have HB1 := Lib.hid (bnext HB0.out hb1); obtain ⟨q0, q1, q2, q3, q4, q5⟩ := HS1.out.cells) | (go_at_call 18; refine (sTreeSize _ t S _ _ _ (Nat.le_refl _) HN.out HI1.out).mono ?_; rintro e w2 ⟨rfl, hb2⟩; have HS2 := Lib.hid (HS1.out.keep hb2); have HI2 := Lib.hid (HI1.out.keep hb2); have HB2 := Lib.hid (bnext HB1.out hb2); clear q0 q1 q2 q3 q4 q5; obtain ⟨q0, q1, q2, q3, q4, q5⟩ := HS2.out.cells) | (go_at_call 19; refine (sShape _ t S _ _ _ (Nat.le_refl _) HN.out HI2.out).mono ?_; rintro e w3 ⟨rfl, hb3⟩))
  go_ret
  exact ⟨ret_bool H.out, bnext HB2.out hb3⟩

set_option maxRecDepth 100000 in
set_option maxHeartbeats 2000000 in
theorem iTreeOk (t : Tr) (S : Nat → Prop) (vk vs : Value) (w : World) (hn : t.nodes ≤ 2000000) (ht : TreeIn w S t vk vs) (hT : Tabs w) :
    Calls Tryd.prog 9 #[.agg #[.int .i64 t.kind, .bool t.flag, .int .i64 t.num, .string t.text, vk, vs]] w fun e w' => e = .returned (.bool (treeOkB t)) ∧ Below w.heap.size w w' := by
  have HT := Lib.hid hT; clear hT
  obtain ⟨hk0, hs0⟩ := treeIn_iff.1 ht
  obtain ⟨a1, m1, rfl⟩ := hk0.len
  obtain ⟨a2, m2, rfl⟩ := hs0.len
  have HB0 := Lib.hid (alloc_below w #[.int .i64 t.kind, .bool t.flag, .int .i64 t.num, .string t.text, .slice a1 t.keys.length m1, .slice a2 t.kids.length m2] 30)
  have HS0 := Lib.hid (Spill.new w t (.slice a1 t.keys.length m1) (.slice a2 t.kids.length m2) 30)
  have HIN := Lib.hid (ht.keep HB0.out)
  have HN := Lib.hid hn
  have HOK : Hid (treeOkB t = (decide (t.depth ≤ 8) && (decide (t.nodes ≤ 300) && shapeB t))) := rfl
  clear ht hk0 hs0 hn
  by_cases h8 : t.depth ≤ 8
  rotate_left
  · have z1 : decide ((t.depth : Int) ≤ 8) = false := decide_eq_false (by omega)
    have H := Lib.hid (show treeOkB t = false by rw [HOK.out, decide_eq_false h8]; rfl)
    clear h8
    go_enter Tryd.func9, Tryd.ntmps9
    go_wp2_with (go_at_call 22; refine (iTreeDepth _ t S _ _ _ (Nat.le_refl _) HN.out HIN.out).mono ?_; rintro e w1 ⟨rfl, hb1⟩; have HS1 := Lib.hid (HS0.out.keep hb1); have HI1 := Lib.hid (HIN.out.keep hb1); have HB1 := Lib.hid (bnext HB0.out hb1); obtain ⟨q0, q1, q2, q3, q4, q5⟩ := HS1.out.cells)
    go_ret
    exact ⟨ret_bool H.out.symm, HB1.out⟩
  have z1 : decide ((t.depth : Int) ≤ 8) = true := decide_eq_true (by omega)
  by_cases h3 : t.nodes ≤ 300
  rotate_left
  · have z2 : decide ((t.nodes : Int) ≤ 300) = false := decide_eq_false (by omega)
    have H := Lib.hid (show treeOkB t = false by rw [HOK.out, decide_eq_false h3]; simp)
    clear h8 h3
    go_enter Tryd.func9, Tryd.ntmps9
    go_wp2_with (first | (go_at_call 22; refine (iTreeDepth _ t S _ _ _ (Nat.le_refl _) HN.out HIN.out).mono ?_; rintro e w1 ⟨rfl, hb1⟩; have HS1 := Lib.hid (HS0.out.keep hb1); have HI1 := Lib.hid (HIN.out.keep hb1); have HB1 := Lib.hid (bnext HB0.out hb1); obtain ⟨q0, q1, q2, q3, q4, q5⟩ := HS1.out.cells) | (go_at_call 23; refine (iTreeSize _ t S _ _ _ (Nat.le_refl _) HN.out HI1.out).mono ?_; rintro e w2 ⟨rfl, hb2⟩; have HS2 := Lib.hid (HS1.out.keep hb2); have HI2 := Lib.hid (HI1.out.keep hb2); have HB2 := Lib.hid (bnext HB1.out hb2); clear q0 q1 q2 q3 q4 q5; obtain ⟨q0, q1, q2, q3, q4, q5⟩ := HS2.out.cells))
    go_ret
    exact ⟨ret_bool H.out.symm, HB2.out⟩
  have z2 : decide ((t.nodes : Int) ≤ 300) = true := decide_eq_true (by omega)
  have H := Lib.hid (show shapeB t = treeOkB t by rw [HOK.out, decide_eq_true h8, decide_eq_true h3]; rfl)
  clear h8 h3
  go_enter Tryd.func9, Tryd.ntmps9
  go_wp2_with (first | (go_at_call 22; refine (iTreeDepth _ t S _ _ _ (Nat.le_refl _) HN.out HIN.out).mono ?_; rintro e w1 ⟨rfl, hb1⟩; have HS1 := Lib.hid (HS0.out.keep hb1); have HI1 := Lib.hid (HIN.out.keep hb1); have HB1 := Lib.hid (bnext HB0.out hb1); obtain ⟨q0, q1, q2, q3, q4, q5⟩ := HS1.out.cells) | (go_at_call 23; refine (iTreeSize _ t S _ _ _ (Nat.le_refl _) HN.out HI1.out).mono ?_; rintro e w2 ⟨rfl, hb2⟩; have HS2 := Lib.hid (HS1.out.keep hb2); have HI2 := Lib.hid (HI1.out.keep hb2); have HB2 := Lib.hid (bnext HB1.out hb2); clear q0 q1 q2 q3 q4 q5; obtain ⟨q0, q1, q2, q3, q4, q5⟩ := HS2.out.cells) | (go_at_call 24; refine (iShape _ t S _ _ _ (Nat.le_refl _) HN.out HI2.out (tabs_keep HT.out HB2.out)).mono ?_; rintro e w3 ⟨rfl, hb3⟩))
  go_ret
  exact ⟨ret_bool H.out, bnext HB2.out hb3⟩

set_option maxRecDepth 100000 in
set_option maxHeartbeats 4000000 in
theorem lawTreeOk {H : Type} {enc : TypeId × Value → H} {W : World} {base : Nat} {v : Value} {d : DataW H} {p : List MemPlace} (hval : Value.okWide Tryd.prog W .any base 25 v)
    (h : DataW.Trod enc Tryd.prog W 0 (fun _ => true) true 25 v d p) (ha : Lib.VarReads Tryd.prog W "unicode/utf8.acceptRanges" Rows.laid_unicode_utf8_acceptRanges) (hf : Lib.VarReads Tryd.prog W "unicode/utf8.first" Rows.laid_unicode_utf8_first) :
    Calls Tryd.prog 3 #[v] W fun e w' => e = .returned (.bool true) ∧ Below W.heap.size W w' := by
  have HTV := Lib.hid (tabs_of ha hf); clear ha hf
  obtain ⟨t, vk, vs, rfl, ht, hfit, hnum⟩ := openTreeN hval h
  clear h hval
  obtain ⟨hk, hs⟩ := treeIn_iff.1 ht
  obtain ⟨a1, m1, rfl⟩ := hk.len
  obtain ⟨a2, m2, rfl⟩ := hs.len
  clear hk hs
  by_cases hs : (1048576 : Int) < (t.wt : Nat)
  · have hy := lessZ_neg hs
    go_enter Tryd.func3, Tryd.ntmps3
    go_wp2_with fail
    refine (szTree_any t _ _ _ _ _ hfit (ht.keep (alloc_below _ _ _)) (by omega) (by omega)).mono ?_; rintro e w1 ⟨rfl, hb1⟩
    go_wp2
    go_ret
    exact ⟨rfl, bnext (alloc_below _ _ _) hb1⟩
  have hy := lessZ_pos hs
  have hz : (0 : Int) ≤ 1048576 - (t.wt : Nat) := by omega
  have HW := Lib.hid (show t.wt ≤ 1048576 by omega)
  have HN := Lib.hid (show t.nodes ≤ 2000000 by have := nodes_wt t; omega)
  have HNU := Lib.hid hnum; clear hnum
  go_enter Tryd.func3, Tryd.ntmps3
  go_wp2_with fail
  refine (szTree_any t _ _ _ _ _ hfit (ht.keep (alloc_below _ _ _)) (by omega) (by omega)).mono ?_; rintro e w1 ⟨rfl, hb1⟩
  have hs1 := (Spill.new W t (.slice a1 t.keys.length m1) (.slice a2 t.kids.length m2) _).keep hb1
  have hbw1 := bnext (alloc_below _ _ _) hb1
  have HB1 := Lib.hid hb1; clear hb1
  obtain ⟨p0, p1, p2, p3, p4, p5⟩ := hs1.cells
  go_wp2_with fail
  clear p0 p1 p2 p3 p4 p5
  refine (toTree_any t _ _ _ _ HW.out (ht.keep hbw1)).mono ?_; rintro e w2 ⟨⟨k2, s2, f2, rfl, ho2, -, -⟩, hb2⟩
  have hT2 := TreeOwn.toIn (S := Any) _ _ _ _ ho2 (fun _ _ => trivial)
  obtain ⟨c1, n1, rfl⟩ := (treeIn_iff.1 hT2).1.len
  obtain ⟨c2, n2, rfl⟩ := (treeIn_iff.1 hT2).2.len
  have hs2 := hs1.keep hb2
  have hbw2 := bnext hbw1 hb2
  clear ho2
  go_wp2_with fail
  refine (sTreeOk t _ _ _ _ HN.out hT2).mono ?_; rintro e w3 ⟨rfl, hb3⟩
  have hs3 := hs2.keep hb3
  have hbw3 := bnext hbw2 hb3
  obtain ⟨p0, p1, p2, p3, p4, p5⟩ := hs3.cells
  go_wp2_with fail
  clear p0 p1 p2 p3 p4 p5
  refine (toTree_any t _ _ _ _ HW.out (ht.keep hbw3)).mono ?_; rintro e w4 ⟨⟨k4, s4, f4, rfl, ho4, -, -⟩, hb4⟩
  have hT4 := TreeOwn.toIn (S := Any) _ _ _ _ ho4 (fun _ _ => trivial)
  obtain ⟨c3, n3, rfl⟩ := (treeIn_iff.1 hT4).1.len
  obtain ⟨c4, n4, rfl⟩ := (treeIn_iff.1 hT4).2.len
  have hs4 := hs3.keep hb4
  have hbw4 := bnext hbw3 hb4
  have hbx4 := bnext hbw4 (alloc_below w4 #[.int .i64 t.kind, .bool t.flag, .int .i64 t.num, .string t.text, .slice c3 t.keys.length n3, .slice c4 t.kids.length n4] 30)
  clear ho4
  go_wp2_with fail
  refine (iTreeOk t _ _ _ _ HN.out (hT4.keep (alloc_below _ _ _)) (tabs_keep HTV.out hbx4)).mono ?_; rintro e w5 ⟨rfl, hb5⟩
  have hx5 := (Spill.new w4 t (.slice c3 t.keys.length n3) (.slice c4 t.kids.length n4) _).keep hb5
  have hs5 := (hs4.keep (alloc_below w4 _ _)).keep hb5
  have hbx5 := bnext (alloc_below w4 _ _) hb5
  have hbw5 := bnext hbw4 hbx5
  have HB5 := Lib.hid hb5; clear hb5
  obtain ⟨p0, p1, p2, p3, p4, p5⟩ := hs5.cells
  obtain ⟨q0, q1, q2, q3, q4, q5⟩ := hx5.cells
  have e1 := beq_self_eq_true (treeOkB t)
  have e2 : (treeOkB t != treeOkB t) = false := by simp
  go_wp2_with fail
  have hd5 : Below w5.heap.size w5 w5.drew := (Below.refl _ _).drew
  have hx5d := Lib.hid (hx5.keep hd5)
  go_region_with (first
    | (go_at_call 8; refine (toTree_any t _ _ _ _ HW.out (ht.keep hbw5.drew)).mono ?_; rintro e w6 ⟨⟨k6, s6, f6, rfl, ho6, -, -⟩, hb6⟩; have hT6 := TreeOwn.toIn (S := Any) _ _ _ _ ho6 (fun _ _ => trivial); obtain ⟨c5, n5, rfl⟩ := (treeIn_iff.1 hT6).1.len; obtain ⟨c6, n6, rfl⟩ := (treeIn_iff.1 hT6).2.len; clear ho6; obtain ⟨r0, r1, r2, r3, r4, r5⟩ := (hx5d.out.keep hb6).cells)
    | (go_at_call 10; refine (eqTree_any t _ _ _ _ _ _ _ HW.out ((hT4.keep hbx5.drew).keep hb6) hT6).mono ?_; rintro e w7 ⟨rfl, hb7⟩))
  all_goals (go_wp2; go_ret; exact ⟨rfl, bnext (bnext hbw5.drew hb6) hb7⟩)

end Go.Proofs.YtbjialckijphiaaDoor
