/- The law's walk of SameNeeds (printed by wip/gen/samen.py). -/
import Derived.Test.YtlfnbldhmkbkmaaNeedD
import Derived.Test.YtlfnbldhmkbkmaaNeedO
namespace Go.Proofs.Ytlfnbldhmkbkmaa
open Go.RowKit

theorem wtN_at (l : List Nd) (i : Nat) (h : i < l.length) : (needAt l i).wt ≤ wtN l := by
  have := wtN_take l i h
  have := wtN_le l (i + 1)
  omega

set_option maxRecDepth 100000 in
set_option maxHeartbeats 4000000 in
theorem lawSameNeeds {H : Type} {enc : TypeId × Value → H} {W : World} {base base' : Nat} {v v' : Value} {d d' : DataW H} {p p' : List MemPlace} (hval : Value.okWide Try.prog W .any base 22 v)
    (h : DataW.Trod enc Try.prog W 0 (fun _ => true) true 22 v d p) (hval' : Value.okWide Try.prog W .any base' 22 v')
    (h' : DataW.Trod enc Try.prog W 0 (fun _ => true) true 22 v' d' p') :
    Calls Try.prog 3 #[v, v'] W fun e w' => e = .returned (.bool true) ∧ Below W.heap.size W w' := by
  obtain ⟨a, cap, l, rfl, hl, hf⟩ := openNeeds hval h
  obtain ⟨a', cap', l', rfl, hl', hf'⟩ := openNeeds hval' h'
  clear h hval h' hval'
  have HA := Lib.hid hl; have HC := Lib.hid hl'; clear hl hl'
  have HB := Lib.hid (Below.refl W.heap.size W)
  by_cases hs : (1048576 : Int) < (l.length : Int) + (wtN l : Int)
  · have hy := lessZ_neg hs
    go_enter Try.func3, Try.ntmps3
    go_wp2_with fail
    refine (szNeedS_any l a cap _ _ hf (by omega) (by omega) HA.out).mono ?_; rintro e w1 ⟨rfl, hb1⟩
    go_wp2
    go_ret
    exact ⟨rfl, hb1⟩
  have hy := lessZ_pos hs
  have hz : (0 : Int) ≤ 1048576 - ((l.length : Int) + (wtN l : Int)) := by omega
  by_cases hs' : (1048576 : Int) - ((l.length : Int) + (wtN l : Int)) < (l'.length : Int) + (wtN l' : Int)
  · have hy' := lessZ_neg hs'
    go_enter Try.func3, Try.ntmps3
    go_wp2_with fail
    refine (szNeedS_any l a cap _ _ hf (by omega) (by omega) HA.out).mono ?_; rintro e w1 ⟨rfl, hb1⟩
    have HC1 := Lib.hid (HC.out.keep hb1)
    go_wp2_with fail
    refine (szNeedS_any l' a' cap' _ _ hf' (by omega) (by omega) HC1.out).mono ?_; rintro e w2 ⟨rfl, hb2⟩
    go_wp2
    go_ret
    exact ⟨rfl, bnext hb1 hb2⟩
  have hy' := lessZ_pos hs'
  have hz' : (0 : Int) ≤ 1048576 - ((l.length : Int) + (wtN l : Int)) - ((l'.length : Int) + (wtN l' : Int)) := by omega
  have HS := Lib.hid (show ∀ i, i < l.length → (needAt l i).vals.length ≤ 1048576 from fun i hi => by have := wtN_at l i hi; have := vals_wt (needAt l i); omega)
  have HS' := Lib.hid (show ∀ i, i < l'.length → (needAt l' i).vals.length ≤ 1048576 from fun i hi => by have := wtN_at l' i hi; have := vals_wt (needAt l' i); omega)
  have HLN := Lib.hid (show l.length ≤ 1048576 by omega)
  have HLN' := Lib.hid (show l'.length ≤ 1048576 by omega)
  have e1 : (sameNeeds l l' != sameNeeds l l') = false := by simp
  go_enter Try.func3, Try.ntmps3
  go_wp2_with fail
  refine (szNeedS_any l a cap _ _ hf (by omega) (by omega) HA.out).mono ?_
  rintro e w1 ⟨rfl, hb1⟩
  have HB := Lib.hid (bnext HB.out (hb1))
  have HA := Lib.hid (HA.out.keep (hb1))
  have HC := Lib.hid (HC.out.keep (hb1))
  clear hb1
  go_wp2_with fail
  refine (szNeedS_any l' a' cap' _ _ hf' (by omega) (by omega) HC.out).mono ?_
  rintro e w2 ⟨rfl, hb2⟩
  have HB := Lib.hid (bnext HB.out (hb2))
  have HA := Lib.hid (HA.out.keep (hb2))
  have HC := Lib.hid (HC.out.keep (hb2))
  clear hb2
  go_wp2_with fail
  refine (toNeedS_any l a cap _ HLN.out HS.out HA.out).mono ?_
  rintro e w3 ⟨⟨v3, rfl, hn3⟩, hb3⟩
  obtain ⟨a3, n3, rfl⟩ := hn3.len
  have HB := Lib.hid (bnext HB.out (hb3))
  have HA := Lib.hid (HA.out.keep (hb3))
  have HC := Lib.hid (HC.out.keep (hb3))
  clear hb3
  have Hp := Lib.hid hn3; clear hn3
  go_wp2_with fail
  refine (toNeedS_any l' a' cap' _ HLN'.out HS'.out HC.out).mono ?_
  rintro e w4 ⟨⟨v4, rfl, hn4⟩, hb4⟩
  obtain ⟨a4, n4, rfl⟩ := hn4.len
  have HB := Lib.hid (bnext HB.out (hb4))
  have HA := Lib.hid (HA.out.keep (hb4))
  have HC := Lib.hid (HC.out.keep (hb4))
  have Hp := Lib.hid (Hp.out.keep (hb4))
  clear hb4
  have Hq := Lib.hid hn4; clear hn4
  go_wp2_with fail
  refine (sSameNeeds l l' a3 a4 n3 n4 _ HLN.out HLN'.out HS.out HS'.out Hp.out Hq.out).mono ?_
  rintro e w5 ⟨rfl, hb5⟩
  have HB := Lib.hid (bnext HB.out (hb5))
  have HA := Lib.hid (HA.out.keep (hb5))
  have HC := Lib.hid (HC.out.keep (hb5))
  have Hp := Lib.hid (Hp.out.keep (hb5))
  have Hq := Lib.hid (Hq.out.keep (hb5))
  clear hb5
  clear Hp Hq
  go_wp2_with fail
  refine (toNeedS_any l a cap _ HLN.out HS.out HA.out).mono ?_
  rintro e w6 ⟨⟨v6, rfl, hn6⟩, hb6⟩
  obtain ⟨a6, n6, rfl⟩ := hn6.len
  have HB := Lib.hid (bnext HB.out (hb6))
  have HA := Lib.hid (HA.out.keep (hb6))
  have HC := Lib.hid (HC.out.keep (hb6))
  clear hb6
  have Hx := Lib.hid hn6; clear hn6
  go_wp2_with fail
  refine (toNeedS_any l' a' cap' _ HLN'.out HS'.out HC.out).mono ?_
  rintro e w7 ⟨⟨v7, rfl, hn7⟩, hb7⟩
  obtain ⟨a7, n7, rfl⟩ := hn7.len
  have HB := Lib.hid (bnext HB.out (hb7))
  have HA := Lib.hid (HA.out.keep (hb7))
  have HC := Lib.hid (HC.out.keep (hb7))
  have Hx := Lib.hid (Hx.out.keep (hb7))
  clear hb7
  have Hy := Lib.hid hn7; clear hn7
  go_wp2_with fail
  refine (iSameNeeds l l' a6 a7 n6 n7 _ HLN.out HS.out HS'.out Hx.out Hy.out).mono ?_
  rintro e w8 ⟨rfl, hb8⟩
  have HB := Lib.hid (bnext HB.out (hb8))
  have HA := Lib.hid (HA.out.keep (hb8))
  have HC := Lib.hid (HC.out.keep (hb8))
  have Hx := Lib.hid (Hx.out.keep (hb8))
  have Hy := Lib.hid (Hy.out.keep (hb8))
  clear hb8
  go_wp2_with fail
  refine (toNeedS_any l a cap _ HLN.out HS.out HA.out).mono ?_
  rintro e w9 ⟨⟨v9, rfl, hn9⟩, hb9⟩
  obtain ⟨a9, n9, rfl⟩ := hn9.len
  have HB := Lib.hid (bnext HB.out (hb9))
  have HA := Lib.hid (HA.out.keep (hb9))
  have HC := Lib.hid (HC.out.keep (hb9))
  have Hx := Lib.hid (Hx.out.keep (hb9))
  have Hy := Lib.hid (Hy.out.keep (hb9))
  clear hb9
  have Hr := Lib.hid hn9; clear hn9
  go_wp2_with fail
  refine (eqNeedS_same l a6 a9 n6 n9 _ HLN.out HS.out Hx.out Hr.out).mono ?_
  rintro e w10 ⟨rfl, hb10⟩
  have HB := Lib.hid (bnext HB.out (hb10))
  have HA := Lib.hid (HA.out.keep (hb10))
  have HC := Lib.hid (HC.out.keep (hb10))
  have Hx := Lib.hid (Hx.out.keep (hb10))
  have Hy := Lib.hid (Hy.out.keep (hb10))
  have Hr := Lib.hid (Hr.out.keep (hb10))
  clear hb10
  clear Hr
  go_wp2_with fail
  refine (toNeedS_any l' a' cap' _ HLN'.out HS'.out HC.out).mono ?_
  rintro e w11 ⟨⟨v11, rfl, hn11⟩, hb11⟩
  obtain ⟨a11, n11, rfl⟩ := hn11.len
  have HB := Lib.hid (bnext HB.out (hb11))
  have HA := Lib.hid (HA.out.keep (hb11))
  have HC := Lib.hid (HC.out.keep (hb11))
  have Hx := Lib.hid (Hx.out.keep (hb11))
  have Hy := Lib.hid (Hy.out.keep (hb11))
  clear hb11
  have Hr := Lib.hid hn11; clear hn11
  go_wp2_with fail
  refine (eqNeedS_same l' a7 a11 n7 n11 _ HLN'.out HS'.out Hy.out Hr.out).mono ?_
  rintro e w12 ⟨rfl, hb12⟩
  have HB := Lib.hid (bnext HB.out (hb12))
  have HA := Lib.hid (HA.out.keep (hb12))
  have HC := Lib.hid (HC.out.keep (hb12))
  have Hx := Lib.hid (Hx.out.keep (hb12))
  have Hy := Lib.hid (Hy.out.keep (hb12))
  have Hr := Lib.hid (Hr.out.keep (hb12))
  clear hb12
  go_wp2
  go_ret
  exact ⟨rfl, HB.out⟩

end Go.Proofs.Ytlfnbldhmkbkmaa
