/- The laws' walks of NeedLine. -/
import Derived.Test.YtjkfjdapkkhkfaaNeedF
import Derived.Test.YtjkfjdapkkhkfaaNeedO
import Derived.Deep.DeepCutAuto
import Derived.Deep.RegionWith
namespace Go.Proofs.Ytjkfjdapkkhkfaa
open Go.RowKit

set_option maxRecDepth 100000 in
set_option maxHeartbeats 4000000 in
theorem lawNeedLine {H : Type} {enc : TypeId × Value → H} {W : World} {base : Nat} {v : Value} {d : DataW H} {p : List MemPlace} (hval : Value.okWide Try.prog W .any base 31 v)
    (h : DataW.Trod enc Try.prog W 0 (fun _ => true) true 31 v d p) :
    Calls Try.prog 8 #[v] W fun e w' => e = .returned (.bool true) ∧ Below W.heap.size W w' := by
  obtain ⟨n, vv, rfl, hv, hf⟩ := openNeed hval h
  clear h hval
  obtain ⟨aN, mN, rfl⟩ := hv.len
  have hb0 : Below W.heap.size W (W.alloc (.cells #[.string (n).key, .int .i64 (n).op, .slice aN (n).vals.length mN] 31)) := by repeat (first | exact Below.refl _ _ | (refine Below.alloc ?_ (by first | omega | (simp; done) | (simp; omega)) _) | (refine Below.setCell ?_ (by first | omega | (simp; done) | (simp; omega)) _) | (refine Below.drew ?_) | (refine below_drewN ?_ _))
  have hp0 : NSpill (W.alloc (.cells #[.string (n).key, .int .i64 (n).op, .slice aN (n).vals.length mN] 31)) W.heap.size n (.slice aN (n).vals.length mN) := NSpill.new W n _ _
  have HB := Lib.hid hb0; have HP0 := Lib.hid hp0; clear hb0 hp0
  have HV := Lib.hid hv; clear hv
  by_cases hs : (1048576 : Int) < (n.wt : Nat)
  · have hy := lessZ_neg hs
    go_enter Try.func8, Try.ntmps8
    go_wp2_with fail
    refine (szNeed_any n _ _ _ hf (HV.out.keep HB.out) (by omega) (by omega)).mono ?_
    rintro e ws0 ⟨rfl, hbs⟩
    have HB := Lib.hid (bnext HB.out (hbs))
    have HP0 := Lib.hid (HP0.out.keep (hbs))
    clear hbs
    go_wp2
    go_ret
    exact ⟨rfl, HB.out⟩
  have hy := lessZ_pos hs
  have hz : (0 : Int) ≤ 1048576 - (n.wt : Nat) := by omega
  have HN := Lib.hid (show n.vals.length ≤ 1048576 by have := vals_wt n; omega)
  have HNW := Lib.hid (show n.wt ≤ 1048576 by omega)
  have e1 := selfEqS (needLineB n)
  go_enter Try.func8, Try.ntmps8
  go_wp2_with fail
  refine (szNeed_any n _ _ _ hf (HV.out.keep HB.out) (by omega) (by omega)).mono ?_
  rintro e ws0 ⟨rfl, hbs⟩
  have HB := Lib.hid (bnext HB.out (hbs))
  have HP0 := Lib.hid (HP0.out.keep (hbs))
  clear hbs
  obtain ⟨c1_0, c1_1, c1_2⟩ := (HP0.out).cells
  go_wp2_with fail
  clear c1_0 c1_1 c1_2
  refine (toNeed_any n _ _ HN.out (HV.out.keep HB.out)).mono ?_
  rintro e w2 ⟨⟨a2, m2, f2, rfl, ho2, hg2⟩, hb2⟩
  have HB := Lib.hid (bnext HB.out (hb2))
  have HP0 := Lib.hid (HP0.out.keep (hb2))
  clear hb2
  go_wp2_with fail
  refine (sNeedLine n _ _ HNW.out (ho2.toIn (S := Any) (fun _ _ => trivial))).mono ?_
  rintro e w3 ⟨rfl, hb3⟩
  have HB := Lib.hid (bnext HB.out (hb3))
  have HP0 := Lib.hid (HP0.out.keep (hb3))
  clear hb3 ho2 hg2
  obtain ⟨c2_0, c2_1, c2_2⟩ := (HP0.out).cells
  go_wp2_with fail
  clear c2_0 c2_1 c2_2
  refine (toNeed_any n _ _ HN.out (HV.out.keep HB.out)).mono ?_
  rintro e w4 ⟨⟨a4, m4, f4, rfl, ho4, hg4, hm4⟩, hb4⟩
  have HB := Lib.hid (bnext HB.out (hb4))
  have HP0 := Lib.hid (HP0.out.keep (hb4))
  clear hb4 hg4
  have hal := nd_alloc w4 #[.string (n).key, .int .i64 (n).op, .slice a4 (n).vals.length m4] 34
  have HB := Lib.hid (bnext HB.out (hal))
  have HP0 := Lib.hid (HP0.out.keep (hal))
  have HX0 := Lib.hid (NSpill.new w4 n (.slice a4 (n).vals.length m4) 34)
  have HY0 := Lib.hid ((ho4.toIn (S := Any) (fun _ _ => trivial)).keep hal); clear hal ho4
  obtain ⟨c3_0, c3_1, c3_2⟩ := (HX0.out).cells
  go_wp2_with fail
  clear c3_0 c3_1 c3_2
  refine (iNeedLine n _ _ _ HNW.out hm4 HY0.out).mono ?_
  rintro e w6 ⟨rfl, hb6⟩
  have HB := Lib.hid (bnext HB.out (hb6))
  have HP0 := Lib.hid (HP0.out.keep (hb6))
  have HX0 := Lib.hid (HX0.out.keep (hb6))
  have HY0 := Lib.hid (HY0.out.keep (hb6))
  clear hb6
  go_upto_region 10 with fail
  have HB := Lib.hid (bnext HB.out ((Below.refl _ _).drew))
  have HP0 := Lib.hid (HP0.out.keep ((Below.refl _ _).drew))
  have HX0 := Lib.hid (HX0.out.keep ((Below.refl _ _).drew))
  have HY0 := Lib.hid (HY0.out.keep ((Below.refl _ _).drew))
  obtain ⟨c4_0, c4_1, c4_2⟩ := (HP0.out).cells; obtain ⟨c5_0, c5_1, c5_2⟩ := (HX0.out).cells
  go_region_with (first
    | (go_at_call 17; refine (toNeed_any n _ _ HN.out (HV.out.keep HB.out)).mono ?_; rintro e w7 ⟨⟨a7, m7, f7, rfl, ho7, hg7⟩, hb7⟩; have HB := Lib.hid (bnext HB.out (hb7)); have HP0 := Lib.hid (HP0.out.keep (hb7)); have HX0 := Lib.hid (HX0.out.keep (hb7)); have HY0 := Lib.hid (HY0.out.keep (hb7)); have HT := Lib.hid (ho7.toIn (S := Any) (fun _ _ => trivial)); clear ho7 hg7 hb7; obtain ⟨c6_0, c6_1, c6_2⟩ := (HX0.out).cells)
    | (go_at_call 19; refine (eqNeed_same n _ _ _ HN.out HY0.out HT.out).mono ?_; rintro e w8 ⟨rfl, hb8⟩; have HB := Lib.hid (bnext HB.out (hb8)); have HP0 := Lib.hid (HP0.out.keep (hb8)); have HX0 := Lib.hid (HX0.out.keep (hb8)); have HY0 := Lib.hid (HY0.out.keep (hb8))))
  all_goals (go_wp2; go_ret; exact ⟨rfl, HB.out⟩)

end Go.Proofs.Ytjkfjdapkkhkfaa
