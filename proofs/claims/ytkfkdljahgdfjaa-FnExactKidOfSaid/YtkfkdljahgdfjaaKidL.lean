/- The law's walk of KidOf. -/
import Derived.Test.YtkfkdljahgdfjaaLaw
import Derived.Deep.RegionWith
namespace Go.Proofs.Ytkfkdljahgdfjaa
open Go.RowKit

set_option maxRecDepth 100000 in
set_option maxHeartbeats 4000000 in
theorem lawKidOf {H : Type} {enc : TypeId × Value → H} {W : World} {base : Nat} {v : Value} {d : DataW H} {p : List MemPlace} (hval : Value.okWide Try.prog W .any base 25 v)
    (h : DataW.Trod enc Try.prog W 0 (fun _ => true) true 25 v d p) (key : ByteArray) (_hkm : key.size ≤ maxLen) :
    Calls Try.prog 11 #[v, .string key] W fun e w' => e = .returned (.bool true) ∧ Below W.heap.size W w' := by
  obtain ⟨t, vk, vs, rfl, ht, hfit⟩ := openTree hval h
  clear h hval
  obtain ⟨hk, hs⟩ := treeIn_iff.1 ht
  obtain ⟨aK, mK, rfl⟩ := hk.len
  obtain ⟨aS, mS, rfl⟩ := hs.len
  clear hk hs
  by_cases hkl : (1048576 : Int) < (key.size : Nat)
  · go_enter Try.func11, Try.ntmps11
    go_wp2
    go_ret
    exact ⟨rfl, alloc_below _ _ _⟩
  by_cases hs : (1048576 : Int) < (t.wt : Nat)
  · have hy := lessZ_neg hs
    go_enter Try.func11, Try.ntmps11
    go_wp2_with fail
    refine (szTree_any t _ _ _ _ _ hfit (ht.keep (alloc_below _ _ _)) (by omega) (by omega)).mono ?_; rintro e w1 ⟨rfl, hb1⟩
    go_wp2
    go_ret
    exact ⟨rfl, bnext (alloc_below _ _ _) hb1⟩
  have hy := lessZ_pos hs
  have hz : (0 : Int) ≤ 1048576 - (t.wt : Nat) := by omega
  have HW := Lib.hid (show t.wt ≤ 1048576 by omega)
  have HWT := Lib.hid (show (kidTr key t).wt ≤ 1048576 by have := kidTr_wt key t; omega)
  obtain ⟨kk, hkk⟩ : ∃ m : Int, m = 1 + (t.cnt : Int) := ⟨_, rfl⟩
  have hk1 := mark_pos hkk
  have HKK := Lib.hid hkk; clear hkk
  obtain ⟨mm, hmm⟩ : ∃ m : Int, m = 1 + ((kidTr key t).cnt : Int) := ⟨_, rfl⟩
  have hm1 := mark_pos hmm
  have HMM := Lib.hid hmm; clear hmm
  have HT := Lib.hid ht; clear ht
  have hb0 := alloc_below W #[.int .i64 t.kind, .bool t.flag, .int .i64 t.num, .string t.text, .slice aK t.keys.length mK, .slice aS t.kids.length mS] 25
  have Hp := Lib.hid (Spill.new W t (.slice aK t.keys.length mK) (.slice aS t.kids.length mS) 25)
  have hz0 := hb0.size
  try simp only [World.size_alloc] at hz0
  have HB := Lib.hid hb0; clear hb0
  go_enter Try.func11, Try.ntmps11
  go_wp2_with fail
  refine (szTree_any t _ _ _ _ _ hfit (HT.out.keep HB.out) (by omega) (by omega)).mono ?_
  rintro e w1 ⟨rfl, hb1⟩
  have HB := Lib.hid (bnext HB.out (hb1))
  have Hp := Lib.hid (Hp.out.keep (hb1))
  have hz1 := hb1.size; (try simp only [World.size_alloc] at hz1); clear hb1
  obtain ⟨c1_0, c1_1, c1_2, c1_3, c1_4, c1_5⟩ := (Hp.out).cells
  go_wp2_with fail
  clear c1_0 c1_1 c1_2 c1_3 c1_4 c1_5
  refine (toTree_any t Any _ _ _ HW.out (HT.out.keep HB.out)).mono ?_
  rintro e w2 ⟨⟨vk2, vs2, f2, rfl, ho2, hn2, hg2⟩, hb2⟩
  obtain ⟨a2, n2, b2, m2, rfl, rfl⟩ := ho2.shape
  have HB := Lib.hid (bnext HB.out (hb2))
  have Hp := Lib.hid (Hp.out.keep (hb2))
  have hz2 := hb2.size; (try simp only [World.size_alloc] at hz2); clear hb2
  go_wp2_with fail
  refine (sKidOf t Any _ _ key _ HW.out (TreeOwn.toIn _ _ _ _ ho2 (fun _ _ => trivial))).mono ?_
  rintro e w3 ⟨⟨vk3, vs3, f3, rfl, ho3, hn3, hg3⟩, hb3⟩
  obtain ⟨a3, n3, b3, m3, rfl, rfl⟩ := ho3.shape
  have HB := Lib.hid (bnext HB.out (hb3))
  have Hp := Lib.hid (Hp.out.keep (hb3))
  have hz3 := hb3.size; (try simp only [World.size_alloc] at hz3); clear hb3
  have hal := alloc_below w3 #[.int .i64 (kidTr key t).kind, .bool (kidTr key t).flag, .int .i64 (kidTr key t).num, .string (kidTr key t).text, .slice a3 (kidTr key t).keys.length n3, .slice b3 (kidTr key t).kids.length m3] 30
  have HB := Lib.hid (bnext HB.out (hal))
  have Hp := Lib.hid (Hp.out.keep (hal))
  clear hal
  try simp only [World.size_alloc] at hg3
  have Hw := Lib.hid (GTree.new ho3 hn3 hg3 (by first | omega | (simp only [World.size_alloc]; omega)) 30); clear ho3 hn3 hg3
  clear ho2 hn2 hg2
  obtain ⟨c2_0, c2_1, c2_2, c2_3, c2_4, c2_5⟩ := (Hp.out).cells
  go_wp2_with fail
  clear c2_0 c2_1 c2_2 c2_3 c2_4 c2_5
  refine (toTree_any t Any _ _ _ HW.out (HT.out.keep HB.out)).mono ?_
  rintro e w4 ⟨⟨vk4, vs4, f4, rfl, ho4, hn4, hg4⟩, hb4⟩
  obtain ⟨a4, n4, b4, m4, rfl, rfl⟩ := ho4.shape
  have HB := Lib.hid (bnext HB.out (hb4))
  have Hp := Lib.hid (Hp.out.keep (hb4))
  have Hw := Lib.hid (Hw.out.keep (hb4))
  have hz4 := hb4.size; (try simp only [World.size_alloc] at hz4); clear hb4
  have hal := alloc_below w4 #[.int .i64 (t).kind, .bool (t).flag, .int .i64 (t).num, .string (t).text, .slice a4 (t).keys.length n4, .slice b4 (t).kids.length m4] 30
  have HB := Lib.hid (bnext HB.out (hal))
  have Hp := Lib.hid (Hp.out.keep (hal))
  have Hw := Lib.hid (Hw.out.keep (hal))
  clear hal
  try simp only [World.size_alloc] at hg4
  have Hx := Lib.hid (GTree.new ho4 hn4 hg4 (by first | omega | (simp only [World.size_alloc]; omega)) 30); clear ho4 hn4 hg4
  obtain ⟨c3_0, c3_1, c3_2, c3_3, c3_4, c3_5⟩ := (Hx.out.sp).cells
  go_wp2_with fail
  clear c3_0 c3_1 c3_2 c3_3 c3_4 c3_5
  refine (iKidOf t Any _ _ key _ HW.out Hx.out.tin).mono ?_
  rintro e w5 ⟨⟨vk5, vs5, f5, rfl, ho5, hn5, hg5⟩, hb5⟩
  obtain ⟨a5, n5, b5, m5, rfl, rfl⟩ := ho5.shape
  have HB := Lib.hid (bnext HB.out (hb5))
  have Hp := Lib.hid (Hp.out.keep (hb5))
  have Hw := Lib.hid (Hw.out.keep (hb5))
  have Hx := Lib.hid (Hx.out.keep (hb5))
  have hz5 := hb5.size; (try simp only [World.size_alloc] at hz5); clear hb5
  have hal := alloc_below w5 #[.int .i64 (kidTr key t).kind, .bool (kidTr key t).flag, .int .i64 (kidTr key t).num, .string (kidTr key t).text, .slice a5 (kidTr key t).keys.length n5, .slice b5 (kidTr key t).kids.length m5] 30
  have HB := Lib.hid (bnext HB.out (hal))
  have Hp := Lib.hid (Hp.out.keep (hal))
  have Hw := Lib.hid (Hw.out.keep (hal))
  have Hx := Lib.hid (Hx.out.keep (hal))
  clear hal
  try simp only [World.size_alloc] at hg5
  have Hg := Lib.hid (GTree.new ho5 hn5 hg5 (by first | omega | (simp only [World.size_alloc]; omega)) 30); clear ho5 hn5 hg5
  obtain ⟨c4_0, c4_1, c4_2, c4_3, c4_4, c4_5⟩ := (Hg.out.sp).cells
  obtain ⟨c5_0, c5_1, c5_2, c5_3, c5_4, c5_5⟩ := (Hw.out.sp).cells
  go_wp2_with fail
  clear c4_0 c4_1 c4_2 c4_3 c4_4 c4_5 c5_0 c5_1 c5_2 c5_3 c5_4 c5_5
  refine (eqTree_any (kidTr key t) Any Any _ _ _ _ _ HWT.out Hg.out.tin Hw.out.tin).mono ?_
  rintro e w6 ⟨rfl, hb6⟩
  have HB := Lib.hid (bnext HB.out (hb6))
  have Hp := Lib.hid (Hp.out.keep (hb6))
  have Hw := Lib.hid (Hw.out.keep (hb6))
  have Hx := Lib.hid (Hx.out.keep (hb6))
  have Hg := Lib.hid (Hg.out.keep (hb6))
  have hz6 := hb6.size; clear hb6
  go_upto_region 12 with fail
  go_cut [52] (fun s52 wx => s52 = .bool false ∧ w6.heap.size ≤ wx.heap.size ∧ Below W.heap.size W wx ∧ Spill wx W.heap.size t (.slice aK t.keys.length mK) (.slice aS t.kids.length mS) ∧ GTree wx w2.heap.size (w3.heap.size + 1) w3.heap.size (kidTr key t) (kidTr key t) (.slice a3 (kidTr key t).keys.length n3) (.slice b3 (kidTr key t).kids.length m3) f3 ∧ GTree wx (w3.heap.size + 1) (w4.heap.size + 1) w4.heap.size (t) (t) (.slice a4 (t).keys.length n4) (.slice b4 (t).kids.length m4) f4 ∧ GTree wx (w4.heap.size + 1) (w5.heap.size + 1) w5.heap.size (kidTr key t) (kidTr key t) (.slice a5 (kidTr key t).keys.length n5) (.slice b5 (kidTr key t).kids.length m5) f5)
  case first =>
    have HB := Lib.hid (bnext HB.out ((Below.refl _ _).drew))
    have Hp := Lib.hid (Hp.out.keep ((Below.refl _ _).drew))
    have Hw := Lib.hid (Hw.out.keep ((Below.refl _ _).drew))
    have Hx := Lib.hid (Hx.out.keep ((Below.refl _ _).drew))
    have Hg := Lib.hid (Hg.out.keep ((Below.refl _ _).drew))
    obtain ⟨p0, p1, p2, p3, p4, p5⟩ := Hp.out.cells
    obtain ⟨q0, q1, q2, q3, q4, q5⟩ := Hx.out.sp.cells
    go_region_with (first
      | (go_at_call 14; refine (toTree_any t Any _ _ _ HW.out (HT.out.keep HB.out)).mono ?_; rintro e w7 ⟨⟨vk7, vs7, f7, rfl, ho7, hn7, hg7⟩, hb7⟩; obtain ⟨a7, n7, b7, m7, rfl, rfl⟩ := ho7.shape; have hT7 := TreeOwn.toIn (S := Any) _ _ _ _ ho7 (fun _ _ => trivial); clear ho7 hn7 hg7; have HB := Lib.hid (bnext HB.out (hb7)); have Hp := Lib.hid (Hp.out.keep (hb7)); have Hw := Lib.hid (Hw.out.keep (hb7)); have Hx := Lib.hid (Hx.out.keep (hb7)); have Hg := Lib.hid (Hg.out.keep (hb7)); have hz7 := hb7.size; clear hb7; obtain ⟨q0, q1, q2, q3, q4, q5⟩ := Hx.out.sp.cells)
      | (go_at_call 16; refine (eqTree_any t Any Any _ _ _ _ _ HW.out Hx.out.tin hT7).mono ?_; rintro e w8 ⟨rfl, hb8⟩; have HB := Lib.hid (bnext HB.out (hb8)); have Hp := Lib.hid (Hp.out.keep (hb8)); have Hw := Lib.hid (Hw.out.keep (hb8)); have Hx := Lib.hid (Hx.out.keep (hb8)); have Hg := Lib.hid (Hg.out.keep (hb8)); have hz8 := hb8.size; clear hb8))
    all_goals (go_wp2_with fail; go_meet; exact ⟨rfl, Nat.le_trans hz7 hz8, HB.out, Hp.out, Hw.out, Hx.out, Hg.out⟩)
  case rest =>
    clear HB Hp Hw Hx Hg
    rename_i wx _
    obtain ⟨rfl, hz8, hB, hp, hw, hx, hg⟩ := hcut
    have HB := Lib.hid hB; have Hp := Lib.hid hp; have Hw := Lib.hid hw; have Hx := Lib.hid hx; have Hg := Lib.hid hg
    clear hB hp hw hx hg
    obtain ⟨c6_0, c6_1, c6_2, c6_3, c6_4, c6_5⟩ := (Hx.out.sp).cells
    go_wp2_with fail
    clear c6_0 c6_1 c6_2 c6_3 c6_4 c6_5
    refine (mark1 t _ _ f4 _ kk HKK.out HW.out Hx.out.nd Hx.out.own).mono ?_
    rintro e w9 ⟨rfl, ho9, ha9⟩
    have HB' := Lib.hid (below_apart HB.out ha9 (fun x hx => (Hx.out.fb x hx).1) (by omega))
    have Hp' := Lib.hid (Hp.out.far ha9 (fun hx => by have := Hx.out.fb _ hx; omega))
    have Hw' := Lib.hid (Hw.out.far ha9 (fun x hx => by have := Hx.out.fb x hx; omega))
    have Hg' := Lib.hid (Hg.out.far ha9 (fun x hx => by have := Hx.out.fb x hx; omega))
    clear Hx
    have HB := Lib.hid HB'.out
    clear HB'
    have Hp := Lib.hid Hp'.out
    clear Hp'
    have Hw := Lib.hid Hw'.out
    clear Hw'
    have Hg := Lib.hid Hg'.out
    clear Hg'
    have hz9 := ha9.size; clear ha9 ho9
    obtain ⟨c7_0, c7_1, c7_2, c7_3, c7_4, c7_5⟩ := (Hg.out.sp).cells
    obtain ⟨c8_0, c8_1, c8_2, c8_3, c8_4, c8_5⟩ := (Hw.out.sp).cells
    go_wp2_with fail
    clear c7_0 c7_1 c7_2 c7_3 c7_4 c7_5 c8_0 c8_1 c8_2 c8_3 c8_4 c8_5
    refine (eqTree_any (kidTr key t) Any Any _ _ _ _ _ HWT.out Hg.out.tin Hw.out.tin).mono ?_
    rintro e w10 ⟨rfl, hb10⟩
    have HB := Lib.hid (bnext HB.out (hb10))
    have Hp := Lib.hid (Hp.out.keep (hb10))
    have Hw := Lib.hid (Hw.out.keep (hb10))
    have Hg := Lib.hid (Hg.out.keep (hb10))
    have hz10 := hb10.size; clear hb10
    obtain ⟨c9_0, c9_1, c9_2, c9_3, c9_4, c9_5⟩ := (Hg.out.sp).cells
    go_wp2_with fail
    clear c9_0 c9_1 c9_2 c9_3 c9_4 c9_5
    refine (mark1 (kidTr key t) _ _ f5 _ mm HMM.out HWT.out Hg.out.nd Hg.out.own).mono ?_
    rintro e w11 ⟨rfl, ho11, ha11⟩
    have HB' := Lib.hid (below_apart HB.out ha11 (fun x hx => (Hg.out.fb x hx).1) (by omega))
    have Hp' := Lib.hid (Hp.out.far ha11 (fun hx => by have := Hg.out.fb _ hx; omega))
    have Hw' := Lib.hid (Hw.out.far ha11 (fun x hx => by have := Hg.out.fb x hx; omega))
    have Hg' := Lib.hid (Hg.out.marked ha11 ho11)
    have HB := Lib.hid HB'.out
    clear HB'
    have Hp := Lib.hid Hp'.out
    clear Hp'
    have Hw := Lib.hid Hw'.out
    clear Hw'
    have Hg := Lib.hid Hg'.out
    clear Hg'
    have hz11 := ha11.size; clear ha11 ho11
    obtain ⟨c10_0, c10_1, c10_2, c10_3, c10_4, c10_5⟩ := (Hg.out.sp).cells
    go_wp2_with fail
    clear c10_0 c10_1 c10_2 c10_3 c10_4 c10_5
    refine (held1 (kidTr key t) Any _ _ _ mm HMM.out HWT.out Hg.out.tin).mono ?_
    rintro e w12 ⟨rfl, hb12⟩
    have HB := Lib.hid (bnext HB.out (hb12))
    have Hp := Lib.hid (Hp.out.keep (hb12))
    have Hw := Lib.hid (Hw.out.keep (hb12))
    have Hg := Lib.hid (Hg.out.keep (hb12))
    have hz12 := hb12.size; clear hb12
    obtain ⟨c11_0, c11_1, c11_2, c11_3, c11_4, c11_5⟩ := (Hp.out).cells
    go_wp2_with fail
    clear c11_0 c11_1 c11_2 c11_3 c11_4 c11_5
    refine (toTree_any t Any _ _ _ HW.out (HT.out.keep HB.out)).mono ?_
    rintro e w13 ⟨⟨vk13, vs13, f13, rfl, ho13, hn13, hg13⟩, hb13⟩
    obtain ⟨a13, n13, b13, m13, rfl, rfl⟩ := ho13.shape
    have HB := Lib.hid (bnext HB.out (hb13))
    have Hp := Lib.hid (Hp.out.keep (hb13))
    have Hw := Lib.hid (Hw.out.keep (hb13))
    have Hg := Lib.hid (Hg.out.keep (hb13))
    have hz13 := hb13.size; (try simp only [World.size_alloc] at hz13); clear hb13
    go_wp2_with fail
    refine (iKidOf t Any _ _ key _ HW.out (TreeOwn.toIn _ _ _ _ ho13 (fun _ _ => trivial))).mono ?_
    rintro e w14 ⟨⟨vk14, vs14, f14, rfl, ho14, hn14, hg14⟩, hb14⟩
    obtain ⟨a14, n14, b14, m14, rfl, rfl⟩ := ho14.shape
    have HB := Lib.hid (bnext HB.out (hb14))
    have Hp := Lib.hid (Hp.out.keep (hb14))
    have Hw := Lib.hid (Hw.out.keep (hb14))
    have Hg := Lib.hid (Hg.out.keep (hb14))
    have hz14 := hb14.size; (try simp only [World.size_alloc] at hz14); clear hb14
    have hal := alloc_below w14 #[.int .i64 (kidTr key t).kind, .bool (kidTr key t).flag, .int .i64 (kidTr key t).num, .string (kidTr key t).text, .slice a14 (kidTr key t).keys.length n14, .slice b14 (kidTr key t).kids.length m14] 30
    have HB := Lib.hid (bnext HB.out (hal))
    have Hp := Lib.hid (Hp.out.keep (hal))
    have Hw := Lib.hid (Hw.out.keep (hal))
    have Hg := Lib.hid (Hg.out.keep (hal))
    clear hal
    try simp only [World.size_alloc] at hg14
    have Hh := Lib.hid (GTree.new ho14 hn14 hg14 (by first | omega | (simp only [World.size_alloc]; omega)) 30); clear ho14 hn14 hg14
    clear ho13 hn13 hg13
    obtain ⟨c12_0, c12_1, c12_2, c12_3, c12_4, c12_5⟩ := (Hh.out.sp).cells
    obtain ⟨c13_0, c13_1, c13_2, c13_3, c13_4, c13_5⟩ := (Hw.out.sp).cells
    go_wp2_with fail
    clear c12_0 c12_1 c12_2 c12_3 c12_4 c12_5 c13_0 c13_1 c13_2 c13_3 c13_4 c13_5
    refine (eqTree_any (kidTr key t) Any Any _ _ _ _ _ HWT.out Hh.out.tin Hw.out.tin).mono ?_
    rintro e w15 ⟨rfl, hb15⟩
    have HB := Lib.hid (bnext HB.out (hb15))
    have Hp := Lib.hid (Hp.out.keep (hb15))
    have Hw := Lib.hid (Hw.out.keep (hb15))
    have Hg := Lib.hid (Hg.out.keep (hb15))
    have Hh := Lib.hid (Hh.out.keep (hb15))
    have hz15 := hb15.size; clear hb15
    obtain ⟨c14_0, c14_1, c14_2, c14_3, c14_4, c14_5⟩ := (Hg.out.sp).cells
    go_wp2_with fail
    clear c14_0 c14_1 c14_2 c14_3 c14_4 c14_5
    refine (held1 (kidTr key t) Any _ _ _ mm HMM.out HWT.out Hg.out.tin).mono ?_
    rintro e w16 ⟨rfl, hb16⟩
    have HB := Lib.hid (bnext HB.out (hb16))
    have Hp := Lib.hid (Hp.out.keep (hb16))
    have Hw := Lib.hid (Hw.out.keep (hb16))
    have Hg := Lib.hid (Hg.out.keep (hb16))
    have Hh := Lib.hid (Hh.out.keep (hb16))
    have hz16 := hb16.size; clear hb16
    go_wp2
    go_ret
    exact ⟨rfl, HB.out⟩

end Go.Proofs.Ytkfkdljahgdfjaa
