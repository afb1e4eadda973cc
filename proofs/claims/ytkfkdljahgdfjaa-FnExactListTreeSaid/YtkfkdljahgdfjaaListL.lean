/- The law's walk of ListTree. -/
import Derived.Test.YtkfkdljahgdfjaaLaw
import Derived.Deep.RegionWith
namespace Go.Proofs.Ytkfkdljahgdfjaa
open Go.RowKit

set_option maxRecDepth 100000 in
set_option maxHeartbeats 4000000 in
theorem lawListTree {H : Type} {enc : TypeId × Value → H} {W : World} {base : Nat} {v : Value} {d : DataW H} {p : List MemPlace} (hval : Value.okWide Try.prog W .any base 23 v)
    (h : DataW.Trod enc Try.prog W 0 (fun _ => true) true 23 v d p) :
    Calls Try.prog 10 #[v] W fun e w' => e = .returned (.bool true) ∧ Below W.heap.size W w' := by
  obtain ⟨a, cap, l, rfl, hl, hfit, hlen⟩ := openTrees hval h
  clear h hval
  by_cases hs : (1048576 : Int) < (l.length : Int) + (wtL l : Int)
  · have hy := lessZ_neg hs
    go_enter Try.func10, Try.ntmps10
    go_wp2_with fail
    refine (szTreeS_of (szT (nodesL l)) l Any a cap _ _ (Nat.le_refl _) hfit hlen (by omega) (by omega) hl).mono ?_
    rintro e w1 ⟨rfl, hb1⟩
    go_wp2
    go_ret
    exact ⟨rfl, hb1⟩
  have hy := lessZ_pos hs
  have hz : (0 : Int) ≤ 1048576 - ((l.length : Int) + (wtL l : Int)) := by omega
  have HW := Lib.hid (show l.length + wtL l ≤ 1048576 by omega)
  have HWT := Lib.hid (show (listTr l).wt ≤ 1048576 by rw [listTr_wt]; omega)
  obtain ⟨kk, hkk⟩ : ∃ m : Int, m = 1 + (cntL l : Int) := ⟨_, rfl⟩
  have hk1 := mark_pos hkk
  have HKK := Lib.hid hkk; clear hkk
  obtain ⟨mm, hmm⟩ : ∃ m : Int, m = 1 + ((listTr l).cnt : Int) := ⟨_, rfl⟩
  have hm1 := mark_pos hmm
  have HMM := Lib.hid hmm; clear hmm
  have HL := Lib.hid hl; clear hl
  go_enter Try.func10, Try.ntmps10
  go_wp2_with fail
  refine (szTreeS_of (szT (nodesL l)) l Any a cap _ _ (Nat.le_refl _) hfit hlen (by omega) (by omega) HL.out).mono ?_
  rintro e w1 ⟨rfl, hb1⟩
  have hz1 := hb1.size
  have HB := Lib.hid hb1; clear hb1
  go_wp2_with fail
  refine (toTreeS_of (toT (nodesL l)) l Any a cap _ (Nat.le_refl _) HW.out (HL.out.keep HB.out)).mono ?_
  rintro e w2 ⟨⟨v2, f2, rfl, ho2, hn2, hg2⟩, hb2⟩
  obtain ⟨a2, n2, rfl⟩ := kids_shape ho2
  have HB := Lib.hid (bnext HB.out (hb2))
  have hz2 := hb2.size; clear hb2
  go_wp2_with fail
  refine (sListTree l Any a2 n2 _ HW.out (ho2.toIn (fun _ _ => trivial))).mono ?_
  rintro e w3 ⟨⟨vk3, vs3, f3, rfl, ho3, hn3, hg3⟩, hb3⟩
  obtain ⟨a3, n3, b3, m3, rfl, rfl⟩ := ho3.shape
  have HB := Lib.hid (bnext HB.out (hb3))
  have hz3 := hb3.size; clear hb3
  have hal := alloc_below w3 #[.int .i64 (listTr l).kind, .bool (listTr l).flag, .int .i64 (listTr l).num, .string (listTr l).text, .slice a3 (listTr l).keys.length n3, .slice b3 (listTr l).kids.length m3] 30
  have HB := Lib.hid (bnext HB.out (hal))
  clear hal
  have Hw := Lib.hid (GTree.new ho3 hn3 hg3 hz3 30); clear ho3 hn3 hg3
  clear ho2 hn2 hg2
  go_wp2_with fail
  refine (toTreeS_of (toT (nodesL l)) l Any a cap _ (Nat.le_refl _) HW.out (HL.out.keep HB.out)).mono ?_
  rintro e w4 ⟨⟨v4, f4, rfl, ho4, hn4, hg4⟩, hb4⟩
  obtain ⟨a4, n4, rfl⟩ := kids_shape ho4
  have HB := Lib.hid (bnext HB.out (hb4))
  have Hw := Lib.hid (Hw.out.keep (hb4))
  have hz4 := hb4.size; clear hb4
  have Hx := Lib.hid (GKids.new ho4 hn4 hg4); clear ho4 hn4 hg4
  go_wp2_with fail
  refine (iListTree l Any a4 n4 _ HW.out Hx.out.tin).mono ?_
  rintro e w5 ⟨⟨vk5, vs5, f5, rfl, ho5, hn5, hg5⟩, hb5⟩
  obtain ⟨a5, n5, b5, m5, rfl, rfl⟩ := ho5.shape
  have HB := Lib.hid (bnext HB.out (hb5))
  have Hw := Lib.hid (Hw.out.keep (hb5))
  have Hx := Lib.hid (Hx.out.keep (hb5))
  have hz5 := hb5.size; clear hb5
  have hal := alloc_below w5 #[.int .i64 (listTr l).kind, .bool (listTr l).flag, .int .i64 (listTr l).num, .string (listTr l).text, .slice a5 (listTr l).keys.length n5, .slice b5 (listTr l).kids.length m5] 30
  have HB := Lib.hid (bnext HB.out (hal))
  have Hw := Lib.hid (Hw.out.keep (hal))
  have Hx := Lib.hid (Hx.out.keep (hal))
  clear hal
  have Hg := Lib.hid (GTree.new ho5 hn5 hg5 hz5 30); clear ho5 hn5 hg5
  obtain ⟨c1_0, c1_1, c1_2, c1_3, c1_4, c1_5⟩ := (Hg.out.sp).cells
  obtain ⟨c2_0, c2_1, c2_2, c2_3, c2_4, c2_5⟩ := (Hw.out.sp).cells
  go_wp2_with fail
  clear c1_0 c1_1 c1_2 c1_3 c1_4 c1_5 c2_0 c2_1 c2_2 c2_3 c2_4 c2_5
  refine (eqTree_any (listTr l) Any Any _ _ _ _ _ HWT.out Hg.out.tin Hw.out.tin).mono ?_
  rintro e w6 ⟨rfl, hb6⟩
  have HB := Lib.hid (bnext HB.out (hb6))
  have Hw := Lib.hid (Hw.out.keep (hb6))
  have Hx := Lib.hid (Hx.out.keep (hb6))
  have Hg := Lib.hid (Hg.out.keep (hb6))
  have hz6 := hb6.size; clear hb6
  go_wp2_with fail
  refine (toTreeS_of (toT (nodesL l)) l Any a cap _ (Nat.le_refl _) HW.out (HL.out.keep HB.out)).mono ?_
  rintro e w7 ⟨⟨v7, f7, rfl, ho7, hn7, hg7⟩, hb7⟩
  obtain ⟨a7, n7, rfl⟩ := kids_shape ho7
  have HB := Lib.hid (bnext HB.out (hb7))
  have Hw := Lib.hid (Hw.out.keep (hb7))
  have Hx := Lib.hid (Hx.out.keep (hb7))
  have Hg := Lib.hid (Hg.out.keep (hb7))
  have hz7 := hb7.size; clear hb7
  go_wp2_with fail
  refine (eqTreeS_of (eqT (nodesL l)) l Any Any a4 a7 n4 n7 _ (Nat.le_refl _) HW.out Hx.out.tin (ho7.toIn (fun _ _ => trivial))).mono ?_
  rintro e w8 ⟨rfl, hb8⟩
  clear ho7 hn7 hg7
  have HB := Lib.hid (bnext HB.out (hb8))
  have Hw := Lib.hid (Hw.out.keep (hb8))
  have Hx := Lib.hid (Hx.out.keep (hb8))
  have Hg := Lib.hid (Hg.out.keep (hb8))
  have hz8 := hb8.size; clear hb8
  go_wp2_with fail
  refine (markS1 l a4 n4 f4 _ kk HKK.out HW.out Hx.out.nd Hx.out.own).mono ?_
  rintro e w9 ⟨rfl, ho9, ha9⟩
  simp only [World.size_alloc] at *
  have HB' := Lib.hid (below_apart HB.out ha9 (fun x hx => (Hx.out.fb x hx).1) (by omega))
  have Hw' := Lib.hid (Hw.out.far ha9 (fun x hx => by have := Hx.out.fb x hx; omega))
  have Hg' := Lib.hid (Hg.out.far ha9 (fun x hx => by have := Hx.out.fb x hx; omega))
  clear Hx
  have HB := Lib.hid HB'.out
  clear HB'
  have Hw := Lib.hid Hw'.out
  clear Hw'
  have Hg := Lib.hid Hg'.out
  clear Hg'
  have hz9 := ha9.size; clear ha9 ho9
  obtain ⟨c3_0, c3_1, c3_2, c3_3, c3_4, c3_5⟩ := (Hg.out.sp).cells
  obtain ⟨c4_0, c4_1, c4_2, c4_3, c4_4, c4_5⟩ := (Hw.out.sp).cells
  go_wp2_with fail
  clear c3_0 c3_1 c3_2 c3_3 c3_4 c3_5 c4_0 c4_1 c4_2 c4_3 c4_4 c4_5
  refine (eqTree_any (listTr l) Any Any _ _ _ _ _ HWT.out Hg.out.tin Hw.out.tin).mono ?_
  rintro e w10 ⟨rfl, hb10⟩
  have HB := Lib.hid (bnext HB.out (hb10))
  have Hw := Lib.hid (Hw.out.keep (hb10))
  have Hg := Lib.hid (Hg.out.keep (hb10))
  have hz10 := hb10.size; clear hb10
  obtain ⟨c5_0, c5_1, c5_2, c5_3, c5_4, c5_5⟩ := (Hg.out.sp).cells
  go_wp2_with fail
  clear c5_0 c5_1 c5_2 c5_3 c5_4 c5_5
  refine (mark1 (listTr l) _ _ f5 _ mm HMM.out HWT.out Hg.out.nd Hg.out.own).mono ?_
  rintro e w11 ⟨rfl, ho11, ha11⟩
  have HB' := Lib.hid (below_apart HB.out ha11 (fun x hx => (Hg.out.fb x hx).1) (by omega))
  have Hw' := Lib.hid (Hw.out.far ha11 (fun x hx => by have := Hg.out.fb x hx; omega))
  have Hg' := Lib.hid (Hg.out.marked ha11 ho11)
  have HB := Lib.hid HB'.out
  clear HB'
  have Hw := Lib.hid Hw'.out
  clear Hw'
  have Hg := Lib.hid Hg'.out
  clear Hg'
  have hz11 := ha11.size; clear ha11 ho11
  obtain ⟨c6_0, c6_1, c6_2, c6_3, c6_4, c6_5⟩ := (Hg.out.sp).cells
  go_wp2_with fail
  clear c6_0 c6_1 c6_2 c6_3 c6_4 c6_5
  refine (held1 (listTr l) Any _ _ _ mm HMM.out HWT.out Hg.out.tin).mono ?_
  rintro e w12 ⟨rfl, hb12⟩
  have HB := Lib.hid (bnext HB.out (hb12))
  have Hw := Lib.hid (Hw.out.keep (hb12))
  have Hg := Lib.hid (Hg.out.keep (hb12))
  have hz12 := hb12.size; clear hb12
  go_wp2_with fail
  refine (toTreeS_of (toT (nodesL l)) l Any a cap _ (Nat.le_refl _) HW.out (HL.out.keep HB.out)).mono ?_
  rintro e w13 ⟨⟨v13, f13, rfl, ho13, hn13, hg13⟩, hb13⟩
  obtain ⟨a13, n13, rfl⟩ := kids_shape ho13
  have HB := Lib.hid (bnext HB.out (hb13))
  have Hw := Lib.hid (Hw.out.keep (hb13))
  have Hg := Lib.hid (Hg.out.keep (hb13))
  have hz13 := hb13.size; clear hb13
  go_wp2_with fail
  refine (iListTree l Any a13 n13 _ HW.out (ho13.toIn (fun _ _ => trivial))).mono ?_
  rintro e w14 ⟨⟨vk14, vs14, f14, rfl, ho14, hn14, hg14⟩, hb14⟩
  obtain ⟨a14, n14, b14, m14, rfl, rfl⟩ := ho14.shape
  have HB := Lib.hid (bnext HB.out (hb14))
  have Hw := Lib.hid (Hw.out.keep (hb14))
  have Hg := Lib.hid (Hg.out.keep (hb14))
  have hz14 := hb14.size; clear hb14
  have hal := alloc_below w14 #[.int .i64 (listTr l).kind, .bool (listTr l).flag, .int .i64 (listTr l).num, .string (listTr l).text, .slice a14 (listTr l).keys.length n14, .slice b14 (listTr l).kids.length m14] 30
  have HB := Lib.hid (bnext HB.out (hal))
  have Hw := Lib.hid (Hw.out.keep (hal))
  have Hg := Lib.hid (Hg.out.keep (hal))
  clear hal
  have Hh := Lib.hid (GTree.new ho14 hn14 hg14 hz14 30); clear ho14 hn14 hg14
  clear ho13 hn13 hg13
  obtain ⟨c7_0, c7_1, c7_2, c7_3, c7_4, c7_5⟩ := (Hh.out.sp).cells
  obtain ⟨c8_0, c8_1, c8_2, c8_3, c8_4, c8_5⟩ := (Hw.out.sp).cells
  go_wp2_with fail
  clear c7_0 c7_1 c7_2 c7_3 c7_4 c7_5 c8_0 c8_1 c8_2 c8_3 c8_4 c8_5
  refine (eqTree_any (listTr l) Any Any _ _ _ _ _ HWT.out Hh.out.tin Hw.out.tin).mono ?_
  rintro e w15 ⟨rfl, hb15⟩
  have HB := Lib.hid (bnext HB.out (hb15))
  have Hw := Lib.hid (Hw.out.keep (hb15))
  have Hg := Lib.hid (Hg.out.keep (hb15))
  have Hh := Lib.hid (Hh.out.keep (hb15))
  clear hb15
  obtain ⟨c9_0, c9_1, c9_2, c9_3, c9_4, c9_5⟩ := (Hg.out.sp).cells
  go_wp2_with fail
  clear c9_0 c9_1 c9_2 c9_3 c9_4 c9_5
  refine (held1 (listTr l) Any _ _ _ mm HMM.out HWT.out Hg.out.tin).mono ?_
  rintro e w16 ⟨rfl, hb16⟩
  have HB := Lib.hid (bnext HB.out (hb16))
  have Hw := Lib.hid (Hw.out.keep (hb16))
  have Hg := Lib.hid (Hg.out.keep (hb16))
  have Hh := Lib.hid (Hh.out.keep (hb16))
  clear hb16
  go_wp2
  go_ret
  exact ⟨rfl, HB.out⟩

end Go.Proofs.Ytkfkdljahgdfjaa
