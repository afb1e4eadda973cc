/- The laws' walks of NeedLess and NeedOk. -/
import Derived.Test.YtjkfjdapkkhkfaaNeedC
import Derived.Test.YtjkfjdapkkhkfaaNeedO
import Derived.Deep.DeepCutAuto
import Derived.Deep.RegionWith
namespace Go.Proofs.Ytjkfjdapkkhkfaa
open Go.RowKit

set_option maxRecDepth 100000 in
set_option maxHeartbeats 4000000 in
theorem lawNeedLess {H : Type} {enc : TypeId × Value → H} {W : World} {base base' : Nat} {v v' : Value} {d d' : DataW H} {p p' : List MemPlace} (hval : Value.okWide Try.prog W .any base 31 v)
    (h : DataW.Trod enc Try.prog W 0 (fun _ => true) true 31 v d p) (hval' : Value.okWide Try.prog W .any base' 31 v')
    (h' : DataW.Trod enc Try.prog W 0 (fun _ => true) true 31 v' d' p') :
    Calls Try.prog 4 #[v, v'] W fun e w' => e = .returned (.bool true) ∧ Below W.heap.size W w' := by
  obtain ⟨n, vv, rfl, hv, hf⟩ := openNeed hval h
  clear h hval
  obtain ⟨aN, mN, rfl⟩ := hv.len
  obtain ⟨m, vv', rfl, hu, hf'⟩ := openNeed hval' h'
  clear h' hval'
  obtain ⟨aM, mM, rfl⟩ := hu.len
  have hb0 : Below W.heap.size W ((W.alloc (.cells #[.string (n).key, .int .i64 (n).op, .slice aN (n).vals.length mN] 31)).alloc (.cells #[.string (m).key, .int .i64 (m).op, .slice aM (m).vals.length mM] 31)) := by repeat (first | exact Below.refl _ _ | (refine Below.alloc ?_ (by first | omega | (simp; done) | (simp; omega)) _) | (refine Below.setCell ?_ (by first | omega | (simp; done) | (simp; omega)) _) | (refine Below.drew ?_) | (refine below_drewN ?_ _))
  have hp0 : NSpill ((W.alloc (.cells #[.string (n).key, .int .i64 (n).op, .slice aN (n).vals.length mN] 31)).alloc (.cells #[.string (m).key, .int .i64 (m).op, .slice aM (m).vals.length mM] 31)) W.heap.size n (.slice aN (n).vals.length mN) := (NSpill.new W n _ _).keep (nd_alloc _ _ _)
  have hp1 : NSpill ((W.alloc (.cells #[.string (n).key, .int .i64 (n).op, .slice aN (n).vals.length mN] 31)).alloc (.cells #[.string (m).key, .int .i64 (m).op, .slice aM (m).vals.length mM] 31)) (W.heap.size + 1) m (.slice aM (m).vals.length mM) := by
    have h := NSpill.new (W.alloc (.cells #[.string (n).key, .int .i64 (n).op, .slice aN (n).vals.length mN] 31)) m (.slice aM (m).vals.length mM) 31
    rw [World.size_alloc] at h; exact h
  have HB := Lib.hid hb0; have HP0 := Lib.hid hp0; clear hb0 hp0; have HP1 := Lib.hid hp1; clear hp1
  have HV := Lib.hid hv; clear hv; have HU := Lib.hid hu; clear hu
  by_cases hs : (1048576 : Int) < (n.wt : Nat)
  · have hy := lessZ_neg hs
    go_enter Try.func4, Try.ntmps4
    go_wp2_with fail
    refine (szNeed_any n _ _ _ hf (HV.out.keep HB.out) (by omega) (by omega)).mono ?_
    rintro e ws0 ⟨rfl, hbs⟩
    have HB := Lib.hid (bnext HB.out (hbs))
    have HP0 := Lib.hid (HP0.out.keep (hbs))
    have HP1 := Lib.hid (HP1.out.keep (hbs))
    clear hbs
    go_wp2
    go_ret
    exact ⟨rfl, HB.out⟩
  have hy := lessZ_pos hs
  have hz : (0 : Int) ≤ 1048576 - (n.wt : Nat) := by omega
  by_cases hs' : (1048576 : Int) - (n.wt : Nat) < (m.wt : Nat)
  · have hy' := lessZ_neg hs'
    go_enter Try.func4, Try.ntmps4
    go_wp2_with fail
    refine (szNeed_any n _ _ _ hf (HV.out.keep HB.out) (by omega) (by omega)).mono ?_
    rintro e ws0 ⟨rfl, hbs⟩
    have HB := Lib.hid (bnext HB.out (hbs))
    have HP0 := Lib.hid (HP0.out.keep (hbs))
    have HP1 := Lib.hid (HP1.out.keep (hbs))
    clear hbs
    obtain ⟨c1_0, c1_1, c1_2⟩ := (HP1.out).cells
    go_wp2_with fail
    clear c1_0 c1_1 c1_2
    refine (szNeed_any m _ _ _ hf' (HU.out.keep HB.out) (by omega) (by omega)).mono ?_
    rintro e ws1 ⟨rfl, hbs⟩
    have HB := Lib.hid (bnext HB.out (hbs))
    have HP0 := Lib.hid (HP0.out.keep (hbs))
    have HP1 := Lib.hid (HP1.out.keep (hbs))
    clear hbs
    go_wp2
    go_ret
    exact ⟨rfl, HB.out⟩
  have hy' := lessZ_pos hs'
  have hz' : (0 : Int) ≤ 1048576 - (n.wt : Nat) - (m.wt : Nat) := by omega
  have HN := Lib.hid (show n.vals.length ≤ 1048576 by have := vals_wt n; omega)
  have HNW := Lib.hid (show n.wt ≤ 1048576 by omega)
  have HM := Lib.hid (show m.vals.length ≤ 1048576 by have := vals_wt m; omega)
  have e1 : (lessNeed n m != lessNeed n m) = false := by simp
  go_enter Try.func4, Try.ntmps4
  go_wp2_with fail
  refine (szNeed_any n _ _ _ hf (HV.out.keep HB.out) (by omega) (by omega)).mono ?_
  rintro e ws0 ⟨rfl, hbs⟩
  have HB := Lib.hid (bnext HB.out (hbs))
  have HP0 := Lib.hid (HP0.out.keep (hbs))
  have HP1 := Lib.hid (HP1.out.keep (hbs))
  clear hbs
  obtain ⟨c1_0, c1_1, c1_2⟩ := (HP1.out).cells
  go_wp2_with fail
  clear c1_0 c1_1 c1_2
  refine (szNeed_any m _ _ _ hf' (HU.out.keep HB.out) (by omega) (by omega)).mono ?_
  rintro e ws1 ⟨rfl, hbs⟩
  have HB := Lib.hid (bnext HB.out (hbs))
  have HP0 := Lib.hid (HP0.out.keep (hbs))
  have HP1 := Lib.hid (HP1.out.keep (hbs))
  clear hbs
  go_upto_region 8 with fail
  go_cut [6] (fun s wx => s = .bool (lessNeed n m) ∧ Below W.heap.size W wx ∧ NSpill wx W.heap.size n (.slice aN (n).vals.length mN) ∧ NSpill wx (W.heap.size + 1) m (.slice aM (m).vals.length mM))
  case first =>
    have HB := Lib.hid (bnext HB.out ((Below.refl _ _).drew))
    have HP0 := Lib.hid (HP0.out.keep ((Below.refl _ _).drew))
    have HP1 := Lib.hid (HP1.out.keep ((Below.refl _ _).drew))
    obtain ⟨c2_0, c2_1, c2_2⟩ := (HP0.out).cells; obtain ⟨c3_0, c3_1, c3_2⟩ := (HP1.out).cells
    go_region_with (first
      | (go_at_call_of 17 (Nd.key n); refine (toNeed_any n _ _ HN.out (HV.out.keep HB.out)).mono ?_; rintro e wa ⟨⟨awa, mwa, fwa, rfl, howa, hgwa⟩, hbwa⟩; have HB := Lib.hid (bnext HB.out (hbwa)); have HP0 := Lib.hid (HP0.out.keep (hbwa)); have HP1 := Lib.hid (HP1.out.keep (hbwa)); (try have HT0 := Lib.hid (HT0.out.keep hbwa)); (try have HT1 := Lib.hid (HT1.out.keep hbwa)); have HT0 := Lib.hid (howa.toIn (S := Any) (fun _ _ => trivial)); clear howa hgwa hbwa; obtain ⟨c4_0, c4_1, c4_2⟩ := (HP0.out).cells; obtain ⟨c5_0, c5_1, c5_2⟩ := (HP1.out).cells)
      | (go_at_call_of 17 (Nd.key m); refine (toNeed_any m _ _ HM.out (HU.out.keep HB.out)).mono ?_; rintro e wb ⟨⟨awb, mwb, fwb, rfl, howb, hgwb⟩, hbwb⟩; have HB := Lib.hid (bnext HB.out (hbwb)); have HP0 := Lib.hid (HP0.out.keep (hbwb)); have HP1 := Lib.hid (HP1.out.keep (hbwb)); (try have HT0 := Lib.hid (HT0.out.keep hbwb)); (try have HT1 := Lib.hid (HT1.out.keep hbwb)); have HT1 := Lib.hid (howb.toIn (S := Any) (fun _ _ => trivial)); clear howb hgwb hbwb; obtain ⟨c6_0, c6_1, c6_2⟩ := (HP0.out).cells; obtain ⟨c7_0, c7_1, c7_2⟩ := (HP1.out).cells)
      | (go_at_call 16; refine (sNeedLess n m _ _ _ HN.out HM.out HT0.out HT1.out).mono ?_; rintro e w7 ⟨rfl, hb7⟩; have HB := Lib.hid (bnext HB.out (hb7)); have HP0 := Lib.hid (HP0.out.keep (hb7)); have HP1 := Lib.hid (HP1.out.keep (hb7))))
    all_goals (go_wp2_with fail; go_meet; exact ⟨rfl, HB.out, HP0.out, HP1.out⟩)
  case rest =>
    clear HB HP0 HP1
    obtain ⟨rfl, hB, hp0, hp1⟩ := hcut
    have HB := Lib.hid hB; have HP0 := Lib.hid hp0; have HP1 := Lib.hid hp1; clear hB hp0 hp1
    obtain ⟨c8_0, c8_1, c8_2⟩ := (HP0.out).cells
    go_wp2_with fail
    clear c8_0 c8_1 c8_2
    refine (toNeed_any n _ _ HN.out (HV.out.keep HB.out)).mono ?_
    rintro e w4 ⟨⟨a4, m4, f4, rfl, ho4, hg4⟩, hb4⟩
    have HB := Lib.hid (bnext HB.out (hb4))
    have HP0 := Lib.hid (HP0.out.keep (hb4))
    have HP1 := Lib.hid (HP1.out.keep (hb4))
    clear hb4 hg4
    have hal := nd_alloc w4 #[.string (n).key, .int .i64 (n).op, .slice a4 (n).vals.length m4] 34
    have HB := Lib.hid (bnext HB.out (hal))
    have HP0 := Lib.hid (HP0.out.keep (hal))
    have HP1 := Lib.hid (HP1.out.keep (hal))
    have HX0 := Lib.hid (NSpill.new w4 n (.slice a4 (n).vals.length m4) 34)
    have HY0 := Lib.hid ((ho4.toIn (S := Any) (fun _ _ => trivial)).keep hal); clear hal ho4
    obtain ⟨c9_0, c9_1, c9_2⟩ := (HP1.out).cells
    go_wp2_with fail
    clear c9_0 c9_1 c9_2
    refine (toNeed_any m _ _ HM.out (HU.out.keep HB.out)).mono ?_
    rintro e w5 ⟨⟨a5, m5, f5, rfl, ho5, hg5⟩, hb5⟩
    have HB := Lib.hid (bnext HB.out (hb5))
    have HP0 := Lib.hid (HP0.out.keep (hb5))
    have HP1 := Lib.hid (HP1.out.keep (hb5))
    have HX0 := Lib.hid (HX0.out.keep (hb5))
    have HY0 := Lib.hid (HY0.out.keep (hb5))
    clear hb5 hg5
    have hal := nd_alloc w5 #[.string (m).key, .int .i64 (m).op, .slice a5 (m).vals.length m5] 34
    have HB := Lib.hid (bnext HB.out (hal))
    have HP0 := Lib.hid (HP0.out.keep (hal))
    have HP1 := Lib.hid (HP1.out.keep (hal))
    have HX0 := Lib.hid (HX0.out.keep (hal))
    have HY0 := Lib.hid (HY0.out.keep (hal))
    have HX1 := Lib.hid (NSpill.new w5 m (.slice a5 (m).vals.length m5) 34)
    have HY1 := Lib.hid ((ho5.toIn (S := Any) (fun _ _ => trivial)).keep hal); clear hal ho5
    obtain ⟨c10_0, c10_1, c10_2⟩ := (HX0.out).cells
    obtain ⟨c11_0, c11_1, c11_2⟩ := (HX1.out).cells
    go_wp2_with fail
    clear c10_0 c10_1 c10_2 c11_0 c11_1 c11_2
    refine (iNeedLess n m _ _ _ HN.out HM.out HY0.out HY1.out).mono ?_
    rintro e w6 ⟨rfl, hb6⟩
    have HB := Lib.hid (bnext HB.out (hb6))
    have HP0 := Lib.hid (HP0.out.keep (hb6))
    have HP1 := Lib.hid (HP1.out.keep (hb6))
    have HX0 := Lib.hid (HX0.out.keep (hb6))
    have HY0 := Lib.hid (HY0.out.keep (hb6))
    have HX1 := Lib.hid (HX1.out.keep (hb6))
    have HY1 := Lib.hid (HY1.out.keep (hb6))
    clear hb6
    go_upto_region 14 with fail
    go_cut [39] (fun s wx => s = .bool false ∧ Below W.heap.size W wx ∧ NSpill wx W.heap.size n (.slice aN (n).vals.length mN) ∧ NSpill wx (W.heap.size + 1) m (.slice aM (m).vals.length mM) ∧ NSpill wx w5.heap.size m (.slice a5 (m).vals.length m5) ∧ StrsIn wx Any (.slice a5 (m).vals.length m5) m.vals)
    case first =>
      have HB := Lib.hid (bnext HB.out ((Below.refl _ _).drew))
      have HP0 := Lib.hid (HP0.out.keep ((Below.refl _ _).drew))
      have HP1 := Lib.hid (HP1.out.keep ((Below.refl _ _).drew))
      have HX0 := Lib.hid (HX0.out.keep ((Below.refl _ _).drew))
      have HY0 := Lib.hid (HY0.out.keep ((Below.refl _ _).drew))
      have HX1 := Lib.hid (HX1.out.keep ((Below.refl _ _).drew))
      have HY1 := Lib.hid (HY1.out.keep ((Below.refl _ _).drew))
      obtain ⟨c12_0, c12_1, c12_2⟩ := (HP0.out).cells; obtain ⟨c13_0, c13_1, c13_2⟩ := (HX0.out).cells
      go_region_with (first
        | (go_at_call 17; refine (toNeed_any n _ _ HN.out (HV.out.keep HB.out)).mono ?_; rintro e w7 ⟨⟨a7, m7, f7, rfl, ho7, hg7⟩, hb7⟩; have HB := Lib.hid (bnext HB.out (hb7)); have HP0 := Lib.hid (HP0.out.keep (hb7)); have HP1 := Lib.hid (HP1.out.keep (hb7)); have HX0 := Lib.hid (HX0.out.keep (hb7)); have HY0 := Lib.hid (HY0.out.keep (hb7)); have HX1 := Lib.hid (HX1.out.keep (hb7)); have HY1 := Lib.hid (HY1.out.keep (hb7)); have HT := Lib.hid (ho7.toIn (S := Any) (fun _ _ => trivial)); clear ho7 hg7 hb7; obtain ⟨c14_0, c14_1, c14_2⟩ := (HX0.out).cells)
        | (go_at_call 19; refine (eqNeed_same n _ _ _ HN.out HY0.out HT.out).mono ?_; rintro e w8 ⟨rfl, hb8⟩; have HB := Lib.hid (bnext HB.out (hb8)); have HP0 := Lib.hid (HP0.out.keep (hb8)); have HP1 := Lib.hid (HP1.out.keep (hb8)); have HX0 := Lib.hid (HX0.out.keep (hb8)); have HY0 := Lib.hid (HY0.out.keep (hb8)); have HX1 := Lib.hid (HX1.out.keep (hb8)); have HY1 := Lib.hid (HY1.out.keep (hb8))))
      all_goals (go_wp2_with fail; go_meet; exact ⟨rfl, HB.out, HP0.out, HP1.out, HX1.out, HY1.out⟩)
    case rest =>
      clear HB HP0 HP1 HX0 HX1 HY0 HY1
      obtain ⟨rfl, hB, hp0, hp1, hx1, hy1⟩ := hcut
      have HB := Lib.hid hB; have HP0 := Lib.hid hp0; have HP1 := Lib.hid hp1; have HX1 := Lib.hid hx1; have HY1 := Lib.hid hy1; clear hB hp0 hp1 hx1 hy1
      go_upto_region 16 with fail
      have HB := Lib.hid (bnext HB.out ((Below.refl _ _).drew))
      have HP0 := Lib.hid (HP0.out.keep ((Below.refl _ _).drew))
      have HP1 := Lib.hid (HP1.out.keep ((Below.refl _ _).drew))
      have HX1 := Lib.hid (HX1.out.keep ((Below.refl _ _).drew))
      have HY1 := Lib.hid (HY1.out.keep ((Below.refl _ _).drew))
      obtain ⟨c15_0, c15_1, c15_2⟩ := (HP1.out).cells; obtain ⟨c16_0, c16_1, c16_2⟩ := (HX1.out).cells
      go_region_with (first
        | (go_at_call 17; refine (toNeed_any m _ _ HM.out (HU.out.keep HB.out)).mono ?_; rintro e w7 ⟨⟨a7, m7, f7, rfl, ho7, hg7⟩, hb7⟩; have HB := Lib.hid (bnext HB.out (hb7)); have HP0 := Lib.hid (HP0.out.keep (hb7)); have HP1 := Lib.hid (HP1.out.keep (hb7)); have HX1 := Lib.hid (HX1.out.keep (hb7)); have HY1 := Lib.hid (HY1.out.keep (hb7)); have HT := Lib.hid (ho7.toIn (S := Any) (fun _ _ => trivial)); clear ho7 hg7 hb7; obtain ⟨c17_0, c17_1, c17_2⟩ := (HX1.out).cells)
        | (go_at_call 19; refine (eqNeed_same m _ _ _ HM.out HY1.out HT.out).mono ?_; rintro e w8 ⟨rfl, hb8⟩; have HB := Lib.hid (bnext HB.out (hb8)); have HP0 := Lib.hid (HP0.out.keep (hb8)); have HP1 := Lib.hid (HP1.out.keep (hb8)); have HX1 := Lib.hid (HX1.out.keep (hb8)); have HY1 := Lib.hid (HY1.out.keep (hb8))))
      all_goals (go_wp2; go_ret; exact ⟨rfl, HB.out⟩)

end Go.Proofs.Ytjkfjdapkkhkfaa
