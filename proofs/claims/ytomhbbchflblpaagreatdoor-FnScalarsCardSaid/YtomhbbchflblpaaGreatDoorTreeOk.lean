/- TreeOk: contracts of both texts; the law (printed by wip/gen/treelaw1.py). -/
import Derived.Test.YtomhbbchflblpaaGreatDoorTreeHs
import Derived.Test.YtomhbbchflblpaaGreatDoorTreeHi
import Derived.Test.YtomhbbchflblpaaGreatDoorTreeW
namespace Go.Proofs.YtomhbbchflblpaaGreatDoor
open Go.RowKit

set_option maxRecDepth 100000 in
set_option maxHeartbeats 2000000 in
theorem sTreeOk (t : Tr) (S : Nat → Prop) (vk vs : Value) (w : World) (hn : t.nodes ≤ 2000000) (ht : TreeIn w S t vk vs) :
    Calls Tryz.prog 14 #[.agg #[.int .i64 t.kind, .bool t.flag, .int .i64 t.num, .string t.text, vk, vs]] w fun e w' => e = .returned (.bool (treeOkB t)) ∧ Below w.heap.size w w' := by
  obtain ⟨hk0, hs0⟩ := treeIn_iff.1 ht
  obtain ⟨a1, m1, rfl⟩ := hk0.len
  obtain ⟨a2, m2, rfl⟩ := hs0.len
  have HB0 := Lib.hid (alloc_below w #[.int .i64 t.kind, .bool t.flag, .int .i64 t.num, .string t.text, .slice a1 t.keys.length m1, .slice a2 t.kids.length m2] 28)
  have HS0 := Lib.hid (Spill.new w t (.slice a1 t.keys.length m1) (.slice a2 t.kids.length m2) 28)
  have HIN := Lib.hid (ht.keep HB0.out)
  have HN := Lib.hid hn
  have HOK : Hid (treeOkB t = (decide (t.depth ≤ 8) && (decide (t.nodes ≤ 300) && shapeB t))) := rfl
  clear ht hk0 hs0 hn
  by_cases h8 : t.depth ≤ 8
  rotate_left
  · have z1 : decide ((t.depth : Int) ≤ 8) = false := decide_eq_false (by omega)
    have H := Lib.hid (show treeOkB t = false by rw [HOK.out, decide_eq_false h8]; rfl)
    clear h8
    go_enter Tryz.func14, Tryz.ntmps14
    go_wp2_with (go_at_call 36; refine (sTreeDepth _ t S _ _ _ (Nat.le_refl _) HN.out HIN.out).mono ?_; rintro e w1 ⟨rfl, hb1⟩; have HS1 := Lib.hid (HS0.out.keep hb1); have HI1 := Lib.hid (HIN.out.keep hb1); have HB1 := Lib.hid (bnext HB0.out hb1); obtain ⟨q0, q1, q2, q3, q4, q5⟩ := HS1.out.cells)
    go_ret
    exact ⟨ret_bool H.out.symm, HB1.out⟩
  have z1 : decide ((t.depth : Int) ≤ 8) = true := decide_eq_true (by omega)
  by_cases h3 : t.nodes ≤ 300
  rotate_left
  · have z2 : decide ((t.nodes : Int) ≤ 300) = false := decide_eq_false (by omega)
    have H := Lib.hid (show treeOkB t = false by rw [HOK.out, decide_eq_false h3]; simp)
    clear h8 h3
    go_enter Tryz.func14, Tryz.ntmps14
    go_wp2_with (first | (go_at_call 36; refine (sTreeDepth _ t S _ _ _ (Nat.le_refl _) HN.out HIN.out).mono ?_; rintro e w1 ⟨rfl, hb1⟩; have HS1 := Lib.hid (HS0.out.keep hb1); have HI1 := Lib.hid (HIN.out.keep hb1); have HB1 := Lib.hid (bnext HB0.out hb1); obtain ⟨q0, q1, q2, q3, q4, q5⟩ := HS1.out.cells) | (go_at_call 37; refine (sTreeSize _ t S _ _ _ (Nat.le_refl _) HN.out HI1.out).mono ?_; rintro e w2 ⟨rfl, hb2⟩; have HS2 := Lib.hid (HS1.out.keep hb2); have HI2 := Lib.hid (HI1.out.keep hb2); have HB2 := Lib.hid (bnext HB1.out hb2); clear q0 q1 q2 q3 q4 q5; obtain ⟨q0, q1, q2, q3, q4, q5⟩ := HS2.out.cells))
    go_ret
    exact ⟨ret_bool H.out.symm, HB2.out⟩
  have z2 : decide ((t.nodes : Int) ≤ 300) = true := decide_eq_true (by omega)
  have H := Lib.hid (show shapeB t = treeOkB t by rw [HOK.out, decide_eq_true h8, decide_eq_true h3]; rfl)
  clear h8 h3
  go_enter Tryz.func14, Tryz.ntmps14
  go_wp2_with (first | (go_at_call 36; refine (sTreeDepth _ t S _ _ _ (Nat.le_refl _) HN.out HIN.out).mono ?_; rintro e w1 ⟨rfl, hb1⟩; have HS1 := Lib.hid (HS0.out.keep hb1); have HI1 := Lib.hid (HIN.out.keep hb1); have HB1 := Lib.hid (bnext HB0.out hb1); obtain ⟨q0, q1, q2, q3, q4, q5⟩ := HS1.out.cells) | (go_at_call 37; refine (sTreeSize _ t S _ _ _ (Nat.le_refl _) HN.out HI1.out).mono ?_; rintro e w2 ⟨rfl, hb2⟩; have HS2 := Lib.hid (HS1.out.keep hb2); have HI2 := Lib.hid (HI1.out.keep hb2); have HB2 := Lib.hid (bnext HB1.out hb2); clear q0 q1 q2 q3 q4 q5; obtain ⟨q0, q1, q2, q3, q4, q5⟩ := HS2.out.cells) | (go_at_call 38; refine (sShape _ t S _ _ _ (Nat.le_refl _) HN.out HI2.out).mono ?_; rintro e w3 ⟨rfl, hb3⟩))
  go_ret
  exact ⟨ret_bool H.out, bnext HB2.out hb3⟩

set_option maxRecDepth 100000 in
set_option maxHeartbeats 2000000 in
theorem iTreeOk (t : Tr) (S : Nat → Prop) (vk vs : Value) (w : World) (hn : t.nodes ≤ 2000000) (ht : TreeIn w S t vk vs) (hT : Tabs w) :
    Calls Tryz.prog 34 #[.agg #[.int .i64 t.kind, .bool t.flag, .int .i64 t.num, .string t.text, vk, vs]] w fun e w' => e = .returned (.bool (treeOkB t)) ∧ Below w.heap.size w w' := by
  have HT := Lib.hid hT; clear hT
  obtain ⟨hk0, hs0⟩ := treeIn_iff.1 ht
  obtain ⟨a1, m1, rfl⟩ := hk0.len
  obtain ⟨a2, m2, rfl⟩ := hs0.len
  have HB0 := Lib.hid (alloc_below w #[.int .i64 t.kind, .bool t.flag, .int .i64 t.num, .string t.text, .slice a1 t.keys.length m1, .slice a2 t.kids.length m2] 28)
  have HS0 := Lib.hid (Spill.new w t (.slice a1 t.keys.length m1) (.slice a2 t.kids.length m2) 28)
  have HIN := Lib.hid (ht.keep HB0.out)
  have HN := Lib.hid hn
  have HOK : Hid (treeOkB t = (decide (t.depth ≤ 8) && (decide (t.nodes ≤ 300) && shapeB t))) := rfl
  clear ht hk0 hs0 hn
  by_cases h8 : t.depth ≤ 8
  rotate_left
  · have z1 : decide ((t.depth : Int) ≤ 8) = false := decide_eq_false (by omega)
    have H := Lib.hid (show treeOkB t = false by rw [HOK.out, decide_eq_false h8]; rfl)
    clear h8
    go_enter Tryz.func34, Tryz.ntmps34
    go_wp2_with (go_at_call 71; refine (iTreeDepth _ t S _ _ _ (Nat.le_refl _) HN.out HIN.out).mono ?_; rintro e w1 ⟨rfl, hb1⟩; have HS1 := Lib.hid (HS0.out.keep hb1); have HI1 := Lib.hid (HIN.out.keep hb1); have HB1 := Lib.hid (bnext HB0.out hb1); obtain ⟨q0, q1, q2, q3, q4, q5⟩ := HS1.out.cells)
    go_ret
    exact ⟨ret_bool H.out.symm, HB1.out⟩
  have z1 : decide ((t.depth : Int) ≤ 8) = true := decide_eq_true (by omega)
  by_cases h3 : t.nodes ≤ 300
  rotate_left
  · have z2 : decide ((t.nodes : Int) ≤ 300) = false := decide_eq_false (by omega)
    have H := Lib.hid (show treeOkB t = false by rw [HOK.out, decide_eq_false h3]; simp)
    clear h8 h3
    go_enter Tryz.func34, Tryz.ntmps34
    go_wp2_with (first | (go_at_call 71; refine (iTreeDepth _ t S _ _ _ (Nat.le_refl _) HN.out HIN.out).mono ?_; rintro e w1 ⟨rfl, hb1⟩; have HS1 := Lib.hid (HS0.out.keep hb1); have HI1 := Lib.hid (HIN.out.keep hb1); have HB1 := Lib.hid (bnext HB0.out hb1); obtain ⟨q0, q1, q2, q3, q4, q5⟩ := HS1.out.cells) | (go_at_call 72; refine (iTreeSize _ t S _ _ _ (Nat.le_refl _) HN.out HI1.out).mono ?_; rintro e w2 ⟨rfl, hb2⟩; have HS2 := Lib.hid (HS1.out.keep hb2); have HI2 := Lib.hid (HI1.out.keep hb2); have HB2 := Lib.hid (bnext HB1.out hb2); clear q0 q1 q2 q3 q4 q5; obtain ⟨q0, q1, q2, q3, q4, q5⟩ := HS2.out.cells))
    go_ret
    exact ⟨ret_bool H.out.symm, HB2.out⟩
  have z2 : decide ((t.nodes : Int) ≤ 300) = true := decide_eq_true (by omega)
  have H := Lib.hid (show shapeB t = treeOkB t by rw [HOK.out, decide_eq_true h8, decide_eq_true h3]; rfl)
  clear h8 h3
  go_enter Tryz.func34, Tryz.ntmps34
  go_wp2_with (first | (go_at_call 71; refine (iTreeDepth _ t S _ _ _ (Nat.le_refl _) HN.out HIN.out).mono ?_; rintro e w1 ⟨rfl, hb1⟩; have HS1 := Lib.hid (HS0.out.keep hb1); have HI1 := Lib.hid (HIN.out.keep hb1); have HB1 := Lib.hid (bnext HB0.out hb1); obtain ⟨q0, q1, q2, q3, q4, q5⟩ := HS1.out.cells) | (go_at_call 72; refine (iTreeSize _ t S _ _ _ (Nat.le_refl _) HN.out HI1.out).mono ?_; rintro e w2 ⟨rfl, hb2⟩; have HS2 := Lib.hid (HS1.out.keep hb2); have HI2 := Lib.hid (HI1.out.keep hb2); have HB2 := Lib.hid (bnext HB1.out hb2); clear q0 q1 q2 q3 q4 q5; obtain ⟨q0, q1, q2, q3, q4, q5⟩ := HS2.out.cells) | (go_at_call 73; refine (iShape _ t S _ _ _ (Nat.le_refl _) HN.out HI2.out (tabs_keep HT.out HB2.out)).mono ?_; rintro e w3 ⟨rfl, hb3⟩))
  go_ret
  exact ⟨ret_bool H.out, bnext HB2.out hb3⟩

end Go.Proofs.YtomhbbchflblpaaGreatDoor
