/- The law's walk of SameTree. -/
import Derived.Test.YtkfkdljahgdfjaaTreeW
import Derived.Test.YtkfkdljahgdfjaaTreeQ
import Derived.Deep.DeepCutAuto
namespace Go.Proofs.Ytkfkdljahgdfjaa
open Go.RowKit

/-- Two trees' values in two locals; nothing old has turned. -/
def Twin (W : World) (b1 b2 : Nat) (t u : Tr) (v1 v2 v3 v4 : Value) (w : World) : Prop := Spill w b1 t v1 v2 ∧ Spill w b2 u v3 v4 ∧ Below W.heap.size W w
theorem Twin.keep {W w w' : World} {b1 b2 : Nat} {t u : Tr} {v1 v2 v3 v4 : Value} (h : Twin W b1 b2 t u v1 v2 v3 v4 w) (hb : Below w.heap.size w w') : Twin W b1 b2 t u v1 v2 v3 v4 w' :=
  ⟨h.1.keep hb, h.2.1.keep hb, bnext h.2.2 hb⟩

set_option maxRecDepth 100000 in
set_option maxHeartbeats 4000000 in
theorem lawSameTree {H : Type} {enc : TypeId × Value → H} {W : World} {base base' : Nat} {v v' : Value} {d d' : DataW H} {p p' : List MemPlace} (hval : Value.okWide Try.prog W .any base 25 v)
    (h : DataW.Trod enc Try.prog W 0 (fun _ => true) true 25 v d p) (hval' : Value.okWide Try.prog W .any base' 25 v')
    (h' : DataW.Trod enc Try.prog W 0 (fun _ => true) true 25 v' d' p') :
    Calls Try.prog 9 #[v, v'] W fun e w' => e = .returned (.bool true) ∧ Below W.heap.size W w' := by
  obtain ⟨t, vk, vs, rfl, ht, hfit⟩ := openTree hval h
  obtain ⟨u, vk', vs', rfl, hu, hfit'⟩ := openTree hval' h'
  clear h hval h' hval'
  obtain ⟨hk, hs⟩ := treeIn_iff.1 ht
  obtain ⟨a1, m1, rfl⟩ := hk.len
  obtain ⟨a2, m2, rfl⟩ := hs.len
  obtain ⟨hk, hs⟩ := treeIn_iff.1 hu
  obtain ⟨a3, m3, rfl⟩ := hk.len
  obtain ⟨a4, m4, rfl⟩ := hs.len
  clear hk hs
  have hb0 : Below W.heap.size W ((W.alloc (.cells #[.int .i64 t.kind, .bool t.flag, .int .i64 t.num, .string t.text, .slice a1 t.keys.length m1, .slice a2 t.kids.length m2] 25)).alloc (.cells #[.int .i64 u.kind, .bool u.flag, .int .i64 u.num, .string u.text, .slice a3 u.keys.length m3, .slice a4 u.kids.length m4] 25)) := by repeat (first | exact Below.refl _ _ | (refine Below.alloc ?_ (by first | omega | (simp; done) | (simp; omega)) _) | (refine Below.setCell ?_ (by first | omega | (simp; done) | (simp; omega)) _) | (refine Below.drew ?_) | (refine below_drewN ?_ _))
  have hT0 : Twin W W.heap.size (W.heap.size + 1) t u _ _ _ _ _ := ⟨(Spill.new W t (.slice a1 t.keys.length m1) (.slice a2 t.kids.length m2) 25).keep (alloc_below _ _ _),
    by have h := Spill.new (W.alloc (.cells #[.int .i64 t.kind, .bool t.flag, .int .i64 t.num, .string t.text, .slice a1 t.keys.length m1, .slice a2 t.kids.length m2] 25)) u (.slice a3 u.keys.length m3) (.slice a4 u.kids.length m4) 25; rw [World.size_alloc] at h; exact h, hb0⟩
  have HT0 := Lib.hid hT0; clear hT0 hb0
  by_cases hs : (1048576 : Int) < (t.wt : Nat)
  · have hy := lessZ_neg hs
    go_enter Try.func9, Try.ntmps9
    go_wp2_with fail
    refine (szTree_any t _ _ _ _ _ hfit (ht.keep HT0.out.2.2) (by omega) (by omega)).mono ?_; rintro e w1 ⟨rfl, hb1⟩
    go_wp2
    go_ret
    exact ⟨rfl, bnext HT0.out.2.2 hb1⟩
  have hy := lessZ_pos hs
  have hz : (0 : Int) ≤ 1048576 - (t.wt : Nat) := by omega
  by_cases hs' : (1048576 : Int) - (t.wt : Nat) < (u.wt : Nat)
  · have hy' := lessZ_neg hs'
    go_enter Try.func9, Try.ntmps9
    go_wp2_with fail
    refine (szTree_any t _ _ _ _ _ hfit (ht.keep HT0.out.2.2) (by omega) (by omega)).mono ?_; rintro e w1 ⟨rfl, hb1⟩
    have HI := Lib.hid (HT0.out.keep hb1)
    clear hb1
    obtain ⟨q0, q1, q2, q3, q4, q5⟩ := HI.out.2.1.cells
    go_wp2_with fail
    refine (szTree_any u _ _ _ _ _ hfit' (hu.keep HI.out.2.2) (by omega) (by omega)).mono ?_; rintro e w1 ⟨rfl, hb1⟩
    go_wp2
    go_ret
    exact ⟨rfl, bnext HI.out.2.2 hb1⟩
  have hy' := lessZ_pos hs'
  have hz' : (0 : Int) ≤ 1048576 - (t.wt : Nat) - (u.wt : Nat) := by omega
  have HW := Lib.hid (show t.wt ≤ 1048576 by omega)
  have HW' := Lib.hid (show u.wt ≤ 1048576 by omega)
  have e1 : (sameTr t u != sameTr t u) = false := by simp
  go_enter Try.func9, Try.ntmps9
  go_wp2_with fail
  refine (szTree_any t _ _ _ _ _ hfit (ht.keep HT0.out.2.2) (by omega) (by omega)).mono ?_; rintro e w1 ⟨rfl, hb1⟩
  have HI := Lib.hid (HT0.out.keep hb1)
  clear hb1 HT0
  obtain ⟨q0, q1, q2, q3, q4, q5⟩ := HI.out.2.1.cells
  go_wp2_with fail
  clear q0 q1 q2 q3 q4 q5
  refine (szTree_any u _ _ _ _ _ hfit' (hu.keep HI.out.2.2) (by omega) (by omega)).mono ?_; rintro e w2 ⟨rfl, hb2⟩
  have HI := Lib.hid (HI.out.keep hb2)
  clear hb2
  go_upto_region 8 with fail
  go_cut [6] (fun s6 wx => s6 = .bool (sameTr t u) ∧ Twin W W.heap.size (W.heap.size + 1) t u (.slice a1 t.keys.length m1) (.slice a2 t.kids.length m2) (.slice a3 u.keys.length m3) (.slice a4 u.kids.length m4) wx)
  case first =>
    have HI := Lib.hid (HI.out.keep ((Below.refl _ _).drew))
    obtain ⟨p0, p1, p2, p3, p4, p5⟩ := HI.out.1.cells
    obtain ⟨q0, q1, q2, q3, q4, q5⟩ := HI.out.2.1.cells
    go_region_with (first
      | (go_at_call_of 14 (Tr.text t); refine (toTree_any t Any _ _ _ HW.out (ht.keep HI.out.2.2)).mono ?_; rintro e w6 ⟨⟨k6, s6, f6, rfl, ho6, -, -⟩, hb6⟩; have HI := Lib.hid (HI.out.keep hb6); (try have HU := HU.keep hb6); have HT := TreeOwn.toIn (S := Any) _ _ _ _ ho6 (fun _ _ => trivial); obtain ⟨c5, n5, rfl⟩ := (treeIn_iff.1 HT).1.len; obtain ⟨c6, n6, rfl⟩ := (treeIn_iff.1 HT).2.len; clear ho6 hb6; obtain ⟨p0, p1, p2, p3, p4, p5⟩ := HI.out.1.cells; obtain ⟨q0, q1, q2, q3, q4, q5⟩ := HI.out.2.1.cells)
      | (go_at_call_of 14 (Tr.text u); refine (toTree_any u Any _ _ _ HW'.out (hu.keep HI.out.2.2)).mono ?_; rintro e w6 ⟨⟨k6, s6, f6, rfl, ho6, -, -⟩, hb6⟩; have HI := Lib.hid (HI.out.keep hb6); (try have HT := HT.keep hb6); have HU := TreeOwn.toIn (S := Any) _ _ _ _ ho6 (fun _ _ => trivial); obtain ⟨c7, n7, rfl⟩ := (treeIn_iff.1 HU).1.len; obtain ⟨c8, n8, rfl⟩ := (treeIn_iff.1 HU).2.len; clear ho6 hb6; obtain ⟨p0, p1, p2, p3, p4, p5⟩ := HI.out.1.cells; obtain ⟨q0, q1, q2, q3, q4, q5⟩ := HI.out.2.1.cells)
      | (go_at_call 29; refine (sameTS _ t u Any Any _ _ _ _ _ (Nat.le_refl _) HW.out HT HU).mono ?_; rintro e w7 ⟨rfl, hb7⟩; have HI := Lib.hid (HI.out.keep hb7)))
    all_goals (go_wp2_with fail; go_meet; exact ⟨rfl, HI.out⟩)
  case rest =>
    obtain ⟨rfl, hI⟩ := hcut
    have HI := Lib.hid hI; clear hI
    obtain ⟨p0, p1, p2, p3, p4, p5⟩ := HI.out.1.cells
    go_wp2_with fail
    clear p0 p1 p2 p3 p4 p5
    refine (toTree_any t _ _ _ _ HW.out (ht.keep HI.out.2.2)).mono ?_; rintro e w4 ⟨⟨k4, s4, f4, rfl, ho4, -, -⟩, hb4⟩
    have hT4 := TreeOwn.toIn (S := Any) _ _ _ _ ho4 (fun _ _ => trivial)
    obtain ⟨c3, n3, rfl⟩ := (treeIn_iff.1 hT4).1.len
    obtain ⟨c4, n4, rfl⟩ := (treeIn_iff.1 hT4).2.len
    have hI := HI.out.keep hb4
    clear HI ho4 hb4
    have hX := Spill.new w4 t (.slice c3 t.keys.length n3) (.slice c4 t.kids.length n4) 30
    have hI := hI.keep (alloc_below w4 #[.int .i64 t.kind, .bool t.flag, .int .i64 t.num, .string t.text, .slice c3 t.keys.length n3, .slice c4 t.kids.length n4] 30)
    have hT4 := hT4.keep (alloc_below w4 #[.int .i64 t.kind, .bool t.flag, .int .i64 t.num, .string t.text, .slice c3 t.keys.length n3, .slice c4 t.kids.length n4] 30)
    have HX := Lib.hid hX; have HI := Lib.hid hI; clear hX hI
    obtain ⟨q0, q1, q2, q3, q4, q5⟩ := HI.out.2.1.cells
    go_wp2_with fail
    clear q0 q1 q2 q3 q4 q5
    refine (toTree_any u _ _ _ _ HW'.out (hu.keep HI.out.2.2)).mono ?_; rintro e w5 ⟨⟨k5, s5, f5, rfl, ho5, -, -⟩, hb5⟩
    have hT5 := TreeOwn.toIn (S := Any) _ _ _ _ ho5 (fun _ _ => trivial)
    obtain ⟨c5, n5, rfl⟩ := (treeIn_iff.1 hT5).1.len
    obtain ⟨c6, n6, rfl⟩ := (treeIn_iff.1 hT5).2.len
    have hI := HI.out.keep hb5
    have hX := HX.out.keep hb5
    have hT4 := hT4.keep hb5
    clear HI HX ho5 hb5
    have hY := Spill.new w5 u (.slice c5 u.keys.length n5) (.slice c6 u.kids.length n6) 30
    have hal := alloc_below w5 #[.int .i64 u.kind, .bool u.flag, .int .i64 u.num, .string u.text, .slice c5 u.keys.length n5, .slice c6 u.kids.length n6] 30
    have hI := hI.keep hal
    have hX := hX.keep hal
    have hT4 := hT4.keep hal
    have hT5 := hT5.keep hal
    clear hal
    have HX := Lib.hid hX; have HI := Lib.hid hI; have HY := Lib.hid hY; clear hX hI hY
    obtain ⟨q0, q1, q2, q3, q4, q5⟩ := HX.out.cells
    obtain ⟨r0, r1, r2, r3, r4, r5⟩ := HY.out.cells
    go_wp2_with fail
    clear q0 q1 q2 q3 q4 q5 r0 r1 r2 r3 r4 r5
    refine (sameT _ t u Any Any _ _ _ _ _ (Nat.le_refl _) HW.out hT4 hT5).mono ?_; rintro e w6 ⟨rfl, hb6⟩
    have HI := Lib.hid (HI.out.keep hb6)
    have HX := Lib.hid (HX.out.keep hb6)
    have HY := Lib.hid (HY.out.keep hb6)
    have hT4 := hT4.keep hb6
    have hT5 := hT5.keep hb6
    clear hb6
    go_upto_region 14 with fail
    go_cut [39] (fun s39 wx => s39 = .bool false ∧ Twin W W.heap.size (W.heap.size + 1) t u (.slice a1 t.keys.length m1) (.slice a2 t.kids.length m2) (.slice a3 u.keys.length m3) (.slice a4 u.kids.length m4) wx ∧
      Spill wx w5.heap.size u (.slice c5 u.keys.length n5) (.slice c6 u.kids.length n6) ∧ TreeIn wx Any u (.slice c5 u.keys.length n5) (.slice c6 u.kids.length n6))
    case first =>
      have hd := (Below.refl w6.heap.size w6).drew
      have HI := Lib.hid (HI.out.keep hd)
      have HX := Lib.hid (HX.out.keep hd)
      have HY := Lib.hid (HY.out.keep hd)
      have hT4 := hT4.keep hd
      have hT5 := hT5.keep hd
      clear hd
      obtain ⟨p0, p1, p2, p3, p4, p5⟩ := HI.out.1.cells
      obtain ⟨q0, q1, q2, q3, q4, q5⟩ := HX.out.cells
      go_region_with (first
        | (go_at_call 14; refine (toTree_any t Any _ _ _ HW.out (ht.keep HI.out.2.2)).mono ?_; rintro e w7 ⟨⟨k7, s7, f7, rfl, ho7, -, -⟩, hb7⟩; have HI := Lib.hid (HI.out.keep hb7); have HX := Lib.hid (HX.out.keep hb7); have HY := Lib.hid (HY.out.keep hb7); have hT4 := hT4.keep hb7; have hT5 := hT5.keep hb7; have HT := TreeOwn.toIn (S := Any) _ _ _ _ ho7 (fun _ _ => trivial); obtain ⟨c7, n7, rfl⟩ := (treeIn_iff.1 HT).1.len; obtain ⟨c8, n8, rfl⟩ := (treeIn_iff.1 HT).2.len; clear ho7 hb7; obtain ⟨p0, p1, p2, p3, p4, p5⟩ := HI.out.1.cells; obtain ⟨q0, q1, q2, q3, q4, q5⟩ := HX.out.cells)
        | (go_at_call 16; refine (eqTree_any t Any Any _ _ _ _ _ HW.out hT4 HT).mono ?_; rintro e w8 ⟨rfl, hb8⟩; have HI := Lib.hid (HI.out.keep hb8); have HY := Lib.hid (HY.out.keep hb8); have hT5 := hT5.keep hb8))
      all_goals (go_wp2_with fail; go_meet; exact ⟨rfl, HI.out, HY.out, hT5⟩)
    case rest =>
      clear HI HX HY hT4 hT5
      obtain ⟨rfl, hI, hY, hT5⟩ := hcut
      have HI := Lib.hid hI; have HY := Lib.hid hY; clear hI hY
      go_upto_region 16 with fail
      have HI := Lib.hid (HI.out.keep (Below.refl _ _).drew)
      have HY := Lib.hid (HY.out.keep (Below.refl _ _).drew)
      have hT5 := hT5.keep (Below.refl _ _).drew
      obtain ⟨p0, p1, p2, p3, p4, p5⟩ := HI.out.2.1.cells
      obtain ⟨q0, q1, q2, q3, q4, q5⟩ := HY.out.cells
      go_region_with (first
        | (go_at_call 14; refine (toTree_any u Any _ _ _ HW'.out (hu.keep HI.out.2.2)).mono ?_; rintro e w7 ⟨⟨k7, s7, f7, rfl, ho7, -, -⟩, hb7⟩; have HI := Lib.hid (HI.out.keep hb7); have HY := Lib.hid (HY.out.keep hb7); have hT5 := hT5.keep hb7; have HT := TreeOwn.toIn (S := Any) _ _ _ _ ho7 (fun _ _ => trivial); obtain ⟨c7, n7, rfl⟩ := (treeIn_iff.1 HT).1.len; obtain ⟨c8, n8, rfl⟩ := (treeIn_iff.1 HT).2.len; clear ho7 hb7; obtain ⟨p0, p1, p2, p3, p4, p5⟩ := HI.out.2.1.cells; obtain ⟨q0, q1, q2, q3, q4, q5⟩ := HY.out.cells)
        | (go_at_call 16; refine (eqTree_any u Any Any _ _ _ _ _ HW'.out hT5 HT).mono ?_; rintro e w8 ⟨rfl, hb8⟩; have HI := Lib.hid (HI.out.keep hb8)))
      all_goals (go_wp2; go_ret; exact ⟨rfl, HI.out.2.2⟩)

end Go.Proofs.Ytkfkdljahgdfjaa
