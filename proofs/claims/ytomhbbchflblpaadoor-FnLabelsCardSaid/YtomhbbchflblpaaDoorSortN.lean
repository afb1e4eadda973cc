/- The library's stable sort at labels: the merge (printed by wip/gen/sortgen.py). -/
import Derived.Test.YtomhbbchflblpaaDoorSortM
import Derived.Deep.DeepCutAuto
import Derived.Deep.CutRange
namespace Go.Proofs.YtomhbbchflblpaaDoor
open Go.RowKit

theorem half_of {i j : Nat} (h : i < j) : ∃ k : Nat, ((i : Int) + (j : Int)) / 2 = (k : Int) ∧ i ≤ k ∧ k < j := ⟨(i + j) / 2, by omega, by omega, by omega⟩
def SymAny (D : List Lb) (g cap : Nat) (w0 : World) (f : Nat) : Prop := ∀ (C : List Lb) (a m b : Nat) (w : World), C.length ≤ 1048576 → b - a ≤ f → a < m → m < b → b ≤ C.length → Among D C → SR w0 g w C →
  Calls Tryd.prog 51 #[.slice (some ⟨g, 0, none⟩) C.length cap, .int .i64 a, .int .i64 m, .int .i64 b, (.func (.func 19) #[] #[])] w fun e w' => e = .returned (.tuple #[]) ∧ ∃ C', C'.length = C.length ∧ Among D C' ∧ SR w0 g w' C'

set_option maxRecDepth 100000 in
set_option maxHeartbeats 4000000 in
theorem sym_one {D : List Lb} {g cap : Nat} {w0 : World} (C : List Lb) (a m b : Nat) (w : World) (hC : C.length ≤ 1048576) (h1 : m = a + 1) (hmb : m < b) (hb : b ≤ C.length) (hA : Among D C) (h : SR w0 g w C) :
    Calls Tryd.prog 51 #[.slice (some ⟨g, 0, none⟩) C.length cap, .int .i64 a, .int .i64 m, .int .i64 b, (.func (.func 19) #[] #[])] w fun e w' => e = .returned (.tuple #[]) ∧ ∃ C', C'.length = C.length ∧ Among D C' ∧ SR w0 g w' C' := by
  have H0 := Lib.hid (And.intro hA h); clear hA h
  have e1 : ((m : Int) - (a : Int) == 1) = true := by rw [beq_iff_eq]; omega
  have hm1 : m ≤ a + 1 := by omega
  have hm2 : a < m := by omega
  clear h1
  go_enter Tryd.func51, Tryd.ntmps51
  go_wp2
  go_loopw [10, 11] (fun s10 s11 wr => ∃ i j : Nat, m ≤ i ∧ i ≤ j ∧ j ≤ b ∧ s10 = .int .i64 i ∧ s11 = .int .i64 j ∧ Hid (SR w0 g wr C)) (fun s10 s11 _ => (intOf s11).toNat - (intOf s10).toNat)
  case atStart => exact ⟨m, b, by omega, by omega, by omega, rfl, rfl, Lib.hid H0.out.2⟩
  case round =>
    obtain ⟨i, j, hmi, hij, hjb, rfl, rfl, HS⟩ := hrel
    by_cases hlt : i < j
    · obtain ⟨h, hh, hih, hhj⟩ := half_of hlt
      have hx1 : h < C.length := by omega
      have hy1 : a < C.length := by omega
      obtain ⟨c0, c1⟩ := HS.out.row.at hx1
      obtain ⟨d0, d1⟩ := HS.out.row.at hy1
      have c0a := aft_cell c0
      have c1a := aft_cell c1
      have d0a := aft_cell d0
      have d1a := aft_cell d1
      have HX := Lib.hid (fun x : Aft wr => cmp_any (labN C (h)) (labN C (a)) x.now)
      have hcmp := cmp_less (labN C (h)).1.data.toList (labN C (a)).1.data.toList
      have i0 : (0 : Int) ≤ (h : Int) := by omega
      have i1 : (h : Int) < (C.length : Int) := by omega
      have i2 : (0 : Int) ≤ (a : Int) := by omega
      have i3 : (a : Int) < (C.length : Int) := by omega
      clear c0 c1 d0 d1 hx1 hy1
      cases hc : Op.bytesLess (labN C (h)).1.data.toList (labN C (a)).1.data.toList
      all_goals
        rw [hc] at hcmp
        clear hc
        go_wp2_with fail
        refine wp_region_soft_lit (by kernel_rfl) (by kernel_rfl) ?_
        repeat (go_big_quiet_step ((go_at_call 19; exact soft_call (HX.out _))))
        refine wpQuiet_nil ?_
        intro _ hw'
        obtain ⟨xq, hw''⟩ := hw'
        subst hw''
        clear c0a c1a d0a d1a
        have HS2 := Lib.hid (HS.out.keep xq.bel)
        go_wp2
        go_roundw
        case rel => first | exact ⟨h + 1, j, by omega, by omega, by omega, by go_num, rfl, HS2⟩ | exact ⟨i, h, by omega, by omega, by omega, rfl, rfl, HS2⟩
        case measure => simp [intOf]; omega
    · obtain ⟨ip, rfl⟩ : ∃ ip, i = ip + 1 := ⟨i - 1, by omega⟩
      go_wp2_with fail
      go_loopw [13] (fun s13 wr => ∃ (k : Nat) (E : List Lb), a ≤ k ∧ k ≤ ip ∧ s13 = .int .i64 k ∧ Hid (E.length = C.length ∧ Among D E ∧ SR w0 g wr E)) (fun s13 _ => ip - (intOf s13).toNat)
      case atStart => exact ⟨a, C, by omega, by omega, rfl, Lib.hid ⟨rfl, H0.out.1, HS.out⟩⟩
      case round =>
        obtain ⟨k, E, hak, hki, rfl, HE⟩ := hrel
        clear HS H0
        by_cases hk : k < ip
        · have hEl := HE.out.1
          have ha1 : k < E.length := by omega
          have hb1 : k + 1 < E.length := by omega
          obtain ⟨c0, c1⟩ := HE.out.2.2.row.at ha1
          obtain ⟨d0, d1⟩ := HE.out.2.2.row.at hb1
          have f0 := HE.out.2.2.row.frozen ((k) * 2)
          have f1 := HE.out.2.2.row.frozen ((k) * 2 + 1)
          have f2 := HE.out.2.2.row.frozen ((k + 1) * 2)
          have f3 := HE.out.2.2.row.frozen ((k + 1) * 2 + 1)
          have HN := Lib.hid (And.intro (show (swL E (k) (k + 1)).length = C.length from by rw [swL_len]; exact hEl) (And.intro (HE.out.2.1.swap ha1 hb1) (HE.out.2.2.swap ha1 hb1)))
          have i0 : (0 : Int) ≤ (k : Int) := by omega
          have i1 : (k : Int) < (C.length : Int) := by omega
          have i2 : (0 : Int) ≤ (k : Int) + 1 := by omega
          have i3 : (k : Int) + 1 < (C.length : Int) := by omega
          have n0 : ¬ (k + 1) * 2 = (k) * 2 := by omega
          have n1 : ¬ (k + 1) * 2 = (k) * 2 + 1 := by omega
          have n2 : ¬ (k + 1) * 2 + 1 = (k) * 2 := by omega
          have n3 : ¬ (k + 1) * 2 + 1 = (k) * 2 + 1 := by omega
          have t0 : ((k : Int) + 1).toNat = k + 1 := by omega
          have x1 : IntKind.i64.wrap ((k : Int) + 1) = (k : Int) + 1 := IntWalk.i64_in _ (by omega)
          clear hEl ha1 hb1
          go_wp2_with fail
          go_region
          clear c0 c1 d0 d1 f0 f1 f2 f3 n0 n1 n2 n3
          go_wp2
          go_roundw
          case rel => exact ⟨k + 1, swL E k (k + 1), by omega, by omega, by go_num, Lib.hid ⟨HN.out.1, HN.out.2.1, HN.out.2.2.keep (Below.refl _ _).drew⟩⟩
          case measure => simp [intOf]; omega
        · go_wp2
          (try simp only [Exit.inBlock, Exit.then])
          refine bodyPost_ret (results_none rfl _ _ _) rfl ?_
          exact ⟨rfl, E, HE.out.1, HE.out.2.1, HE.out.2.2⟩

set_option maxRecDepth 100000 in
set_option maxHeartbeats 4000000 in
theorem sym_last {D : List Lb} {g cap : Nat} {w0 : World} (C : List Lb) (a m b : Nat) (w : World) (hC : C.length ≤ 1048576) (ham : a + 1 < m) (h2 : b = m + 1) (hb : b ≤ C.length) (hA : Among D C) (h : SR w0 g w C) :
    Calls Tryd.prog 51 #[.slice (some ⟨g, 0, none⟩) C.length cap, .int .i64 a, .int .i64 m, .int .i64 b, (.func (.func 19) #[] #[])] w fun e w' => e = .returned (.tuple #[]) ∧ ∃ C', C'.length = C.length ∧ Among D C' ∧ SR w0 g w' C' := by
  have H0 := Lib.hid (And.intro hA h); clear hA h
  have e1 : ((m : Int) - (a : Int) == 1) = false := by rw [beq_eq_false_iff_ne]; omega
  have e2 : ((b : Int) - (m : Int) == 1) = true := by rw [beq_iff_eq]; omega
  have hm1 : m < b := by omega
  clear h2
  go_enter Tryd.func51, Tryd.ntmps51
  go_wp2
  go_loopw [14, 15] (fun s14 s15 wr => ∃ i j : Nat, a ≤ i ∧ i ≤ j ∧ j ≤ m ∧ s14 = .int .i64 i ∧ s15 = .int .i64 j ∧ Hid (SR w0 g wr C)) (fun s14 s15 _ => (intOf s15).toNat - (intOf s14).toNat)
  case atStart => exact ⟨a, m, by omega, by omega, by omega, rfl, rfl, Lib.hid H0.out.2⟩
  case round =>
    obtain ⟨i, j, hmi, hij, hjb, rfl, rfl, HS⟩ := hrel
    by_cases hlt : i < j
    · obtain ⟨h, hh, hih, hhj⟩ := half_of hlt
      have hx1 : m < C.length := by omega
      have hy1 : h < C.length := by omega
      obtain ⟨c0, c1⟩ := HS.out.row.at hx1
      obtain ⟨d0, d1⟩ := HS.out.row.at hy1
      have c0a := aft_cell c0
      have c1a := aft_cell c1
      have d0a := aft_cell d0
      have d1a := aft_cell d1
      have HX := Lib.hid (fun x : Aft wr => cmp_any (labN C (m)) (labN C (h)) x.now)
      have hcmp := cmp_less (labN C (m)).1.data.toList (labN C (h)).1.data.toList
      have i0 : (0 : Int) ≤ (m : Int) := by omega
      have i1 : (m : Int) < (C.length : Int) := by omega
      have i2 : (0 : Int) ≤ (h : Int) := by omega
      have i3 : (h : Int) < (C.length : Int) := by omega
      clear c0 c1 d0 d1 hx1 hy1
      cases hc : Op.bytesLess (labN C (m)).1.data.toList (labN C (h)).1.data.toList
      all_goals
        rw [hc] at hcmp
        clear hc
        go_wp2_with fail
        refine wp_region_soft_lit (by kernel_rfl) (by kernel_rfl) ?_
        repeat (go_big_quiet_step ((go_at_call 19; exact soft_call (HX.out _))))
        refine wpQuiet_nil ?_
        intro _ hw'
        obtain ⟨xq, hw''⟩ := hw'
        subst hw''
        clear c0a c1a d0a d1a
        have HS2 := Lib.hid (HS.out.keep xq.bel)
        go_wp2
        go_roundw
        case rel => first | exact ⟨h + 1, j, by omega, by omega, by omega, by go_num, rfl, HS2⟩ | exact ⟨i, h, by omega, by omega, by omega, rfl, rfl, HS2⟩
        case measure => simp [intOf]; omega
    · go_wp2_with fail
      go_loopw [17] (fun s17 wr => ∃ (k : Nat) (E : List Lb), i ≤ k ∧ k ≤ m ∧ s17 = .int .i64 k ∧ Hid (E.length = C.length ∧ Among D E ∧ SR w0 g wr E)) (fun s17 _ => (intOf s17).toNat)
      case atStart => exact ⟨m, C, by omega, by omega, rfl, Lib.hid ⟨rfl, H0.out.1, HS.out⟩⟩
      case round =>
        obtain ⟨k, E, hak, hki, rfl, HE⟩ := hrel
        clear HS H0
        by_cases hk : i < k
        · obtain ⟨kp, rfl⟩ : ∃ kp, k = kp + 1 := ⟨k - 1, by omega⟩
          have hkz : (i : Int) < (kp : Int) + 1 := by omega
          have hEl := HE.out.1
          have ha1 : kp + 1 < E.length := by omega
          have hb1 : kp < E.length := by omega
          obtain ⟨c0, c1⟩ := HE.out.2.2.row.at ha1
          obtain ⟨d0, d1⟩ := HE.out.2.2.row.at hb1
          have f0 := HE.out.2.2.row.frozen ((kp + 1) * 2)
          have f1 := HE.out.2.2.row.frozen ((kp + 1) * 2 + 1)
          have f2 := HE.out.2.2.row.frozen ((kp) * 2)
          have f3 := HE.out.2.2.row.frozen ((kp) * 2 + 1)
          have HN := Lib.hid (And.intro (show (swL E (kp + 1) (kp)).length = C.length from by rw [swL_len]; exact hEl) (And.intro (HE.out.2.1.swap ha1 hb1) (HE.out.2.2.swap ha1 hb1)))
          have i0 : (0 : Int) ≤ (kp : Int) + 1 := by omega
          have i1 : (kp : Int) + 1 < (C.length : Int) := by omega
          have i2 : (0 : Int) ≤ (kp : Int) := by omega
          have i3 : (kp : Int) < (C.length : Int) := by omega
          have n0 : ¬ (kp) * 2 = (kp + 1) * 2 := by omega
          have n1 : ¬ (kp) * 2 = (kp + 1) * 2 + 1 := by omega
          have n2 : ¬ (kp) * 2 + 1 = (kp + 1) * 2 := by omega
          have n3 : ¬ (kp) * 2 + 1 = (kp + 1) * 2 + 1 := by omega
          have t0 : ((kp : Int) + 1).toNat = kp + 1 := by omega
          have x2 : IntKind.i64.wrap (kp : Int) = (kp : Int) := IntWalk.i64_in _ (by omega)
          have x1 : IntKind.i64.wrap ((kp : Int) + 1 - 1) = (kp : Int) := by rw [show (kp : Int) + 1 - 1 = (kp : Int) by omega]; exact x2
          clear hEl ha1 hb1
          go_wp2_with fail
          go_region
          clear c0 c1 d0 d1 f0 f1 f2 f3 n0 n1 n2 n3
          go_wp2
          go_roundw
          case rel => exact ⟨kp, swL E (kp + 1) kp, by omega, by omega, by go_num, Lib.hid ⟨HN.out.1, HN.out.2.1, HN.out.2.2.keep (Below.refl _ _).drew⟩⟩
          case measure => simp [intOf] <;> omega
        · go_wp2
          (try simp only [Exit.inBlock, Exit.then])
          refine bodyPost_ret (results_none rfl _ _ _) rfl ?_
          exact ⟨rfl, E, HE.out.1, HE.out.2.1, HE.out.2.2⟩

set_option maxRecDepth 100000 in
set_option maxHeartbeats 8000000 in
theorem sym_mid {D : List Lb} {g cap : Nat} {w0 : World} {f : Nat} (IH : SymAny D g cap w0 f) (C : List Lb) (a m b : Nat) (w : World) (hC : C.length ≤ 1048576) (hf : b - a ≤ f + 1) (ham : a + 1 < m) (hmb : m + 1 < b) (hb : b ≤ C.length) (hA : Among D C) (h : SR w0 g w C) :
    Calls Tryd.prog 51 #[.slice (some ⟨g, 0, none⟩) C.length cap, .int .i64 a, .int .i64 m, .int .i64 b, (.func (.func 19) #[] #[])] w fun e w' => e = .returned (.tuple #[]) ∧ ∃ C', C'.length = C.length ∧ Among D C' ∧ SR w0 g w' C' := by
  have H0 := Lib.hid (And.intro hA h); clear hA h
  have HIH := Lib.hid IH; clear IH
  obtain ⟨mid, hmid, hm1, hm2⟩ := half_of (show a < b by omega)
  have hm3 : a < mid := by omega
  have hm4 : 2 * mid ≤ a + b ∧ a + b ≤ 2 * mid + 1 := by omega
  have e1 : ((m : Int) - (a : Int) == 1) = false := by rw [beq_eq_false_iff_ne]; omega
  have e2 : ((b : Int) - (m : Int) == 1) = false := by rw [beq_eq_false_iff_ne]; omega
  obtain ⟨lo, hi, hlo, hlh, hlim, hst⟩ : ∃ lo hi : Nat, a ≤ lo ∧ lo ≤ hi ∧ (∀ c, lo ≤ c → c < hi → c < C.length ∧ c + 1 ≤ mid + m ∧ mid + m - 1 - c < C.length) ∧ ((mid < m ∧ (mid : Int) + (m : Int) - (b : Int) = (lo : Int) ∧ hi = mid ∧ mid + m ≤ lo + b) ∨ (¬ mid < m ∧ lo = a ∧ hi = m)) := by
    by_cases hmm : mid < m
    · exact ⟨mid + m - b, mid, by omega, by omega, fun c h1 h2 => by omega, .inl ⟨hmm, by omega, rfl, by omega⟩⟩
    · exact ⟨a, m, by omega, by omega, fun c h1 h2 => by omega, .inr ⟨hmm, rfl, rfl⟩⟩
  have hend : ∀ s, lo ≤ s → s ≤ hi → s ≤ mid + m ∧ mid + m - s ≤ b := fun s h1 h2 => by
    rcases hst with ⟨g1, g2, g3, g4⟩ | ⟨g1, g2, g3⟩ <;> omega
  have HLM := Lib.hid (And.intro hlim hend); clear hlim hend
  have HI := Lib.hid hlo
  have hhi : hi ≤ m ∧ hi ≤ C.length := by rcases hst with ⟨g1, g2, g3, g4⟩ | ⟨g1, g2, g3⟩ <;> omega
  go_enter Tryd.func51, Tryd.ntmps51
  go_upto_if 140 with fail
  go_cut [20, 21] (fun s20 s21 wx => s20 = .int .i64 lo ∧ s21 = .int .i64 hi ∧ w = wx)
  case first => as_aux_lemma =>
    rcases hst with ⟨g1, g2, rfl, g4⟩ | ⟨g1, rfl, rfl⟩
    · have HG := Lib.hid g2; clear g2
      go_wp2_with fail
      go_meet
      exact ⟨by rw [← HG.out], rfl, rfl⟩
    · go_wp2_with fail
      go_meet
      exact ⟨rfl, rfl, rfl⟩
  case rest =>
    obtain ⟨rfl, rfl, rfl⟩ := hcut
    clear hst
    go_wp2_with fail
    go_loopw [20, 21] (fun s20 s21 wr => ∃ i j : Nat, lo ≤ i ∧ i ≤ j ∧ j ≤ hi ∧ s20 = .int .i64 i ∧ s21 = .int .i64 j ∧ Hid (SR w0 g wr C)) (fun s20 s21 _ => (intOf s21).toNat - (intOf s20).toNat)
    case atStart => exact ⟨lo, hi, by omega, hlh, by omega, rfl, rfl, Lib.hid H0.out.2⟩
    case round =>
      obtain ⟨i, j, hmi, hij, hjb, rfl, rfl, HS⟩ := hrel
      by_cases hlt : i < j
      · as_aux_lemma =>
        obtain ⟨h, hh, hih, hhj⟩ := half_of hlt
        have hlm := HLM.out.1 h (by omega) (by omega)
        have hx1 : mid + m - 1 - h < C.length := by omega
        have hy1 : h < C.length := by omega
        obtain ⟨c0, c1⟩ := HS.out.row.at hx1
        obtain ⟨d0, d1⟩ := HS.out.row.at hy1
        have c0a := aft_cell c0
        have c1a := aft_cell c1
        have d0a := aft_cell d0
        have d1a := aft_cell d1
        have HX := Lib.hid (fun x : Aft wr => cmp_any (labN C (mid + m - 1 - h)) (labN C (h)) x.now)
        have hcmp := cmp_less (labN C (mid + m - 1 - h)).1.data.toList (labN C (h)).1.data.toList
        have i0 : (0 : Int) ≤ ((mid : Int) + (m : Int) - 1 - (h : Int)) := by omega
        have i1 : ((mid : Int) + (m : Int) - 1 - (h : Int)) < (C.length : Int) := by omega
        have i2 : (0 : Int) ≤ (h : Int) := by omega
        have i3 : (h : Int) < (C.length : Int) := by omega
        have t0 : ((mid : Int) + (m : Int) - 1 - (h : Int)).toNat = mid + m - 1 - h := by omega
        have x1 : IntKind.i64.wrap ((mid : Int) + (m : Int) - 1 - (h : Int)) = (mid : Int) + (m : Int) - 1 - (h : Int) := IntWalk.i64_in _ (by omega)
        clear c0 c1 d0 d1 hx1 hy1
        cases hc : Op.bytesLess (labN C (mid + m - 1 - h)).1.data.toList (labN C (h)).1.data.toList
        all_goals
          rw [hc] at hcmp
          clear hc
          go_wp2_with fail
          refine wp_region_soft_lit (by kernel_rfl) (by kernel_rfl) ?_
          repeat (go_big_quiet_step ((go_at_call 19; exact soft_call (HX.out _))))
          refine wpQuiet_nil ?_
          intro _ hw'
          obtain ⟨xq, hw''⟩ := hw'
          subst hw''
          clear c0a c1a d0a d1a
          have HS2 := Lib.hid (HS.out.keep xq.bel)
          go_wp2
          go_roundw
          case rel => first | exact ⟨h + 1, j, by omega, by omega, by omega, by go_num, rfl, HS2⟩ | exact ⟨i, h, by omega, by omega, by omega, rfl, rfl, HS2⟩
          case measure => simp [intOf]; omega
      · obtain rfl : i = j := by omega
        obtain ⟨hs1, hs2⟩ := HLM.out.2 i hmi hjb
        obtain ⟨q, hq⟩ : ∃ q : Nat, (mid : Int) + (m : Int) - (i : Int) = (q : Int) := ⟨mid + m - i, by omega⟩
        have hqb : q ≤ b := by omega
        have hqm : q = mid + m - i := by omega
        have HQM := Lib.hid hqm; clear hqm hlh hmid HLM
        go_upto_region 39 with fail
        go_cut [20, 24, 185] (fun s20 s24 s185 wx => s20 = .int .i64 i ∧ s24 = .int .i64 q ∧ (∃ c : Bool, s185 = .bool c ∧ Hid (c = true ↔ (i < m ∧ m < q))) ∧ wr = wx)
        case first => as_aux_lemma =>
          by_cases c1 : i < m
          · by_cases c2 : m < q
            · go_wp2_with fail
              go_meet
              exact ⟨rfl, rfl, ⟨true, rfl, Lib.hid (iff_of_true rfl ⟨c1, c2⟩)⟩, rfl⟩
            · go_wp2_with fail
              go_meet
              exact ⟨rfl, rfl, ⟨false, rfl, Lib.hid (iff_of_false (by simp) (fun h => c2 h.2))⟩, rfl⟩
          · go_wp2_with fail
            go_meet
            exact ⟨rfl, rfl, ⟨false, rfl, Lib.hid (iff_of_false (by simp) (fun h => c1 h.1))⟩, rfl⟩
        case rest =>
          obtain ⟨rfl, rfl, ⟨c, rfl, HC⟩, rfl⟩ := hcut
          go_upto_if 185 with fail
          go_cut [20, 24] (fun s20 s24 wx => ∃ E : List Lb, s20 = .int .i64 i ∧ s24 = .int .i64 q ∧ Hid (E.length = C.length ∧ Among D E ∧ SR w0 g wx E))
          case first => as_aux_lemma =>
            cases c
            · go_wp2_with fail
              go_meet
              exact ⟨C, rfl, rfl, Lib.hid ⟨rfl, H0.out.1, HS.out⟩⟩
            · obtain ⟨c1, c2⟩ := HC.out.1 rfl
              have HR := Lib.hid (rotate_any D C g cap i m q w0 wr hC c1 c2 (by omega) H0.out.1 HS.out)
              go_wp2_with fail
              refine HR.out.mono ?_
              rintro e w2 ⟨rfl, E2, h1, h2, h3⟩
              have H2 := Lib.hid (And.intro h1 (And.intro h2 h3)); clear h1 h2 h3 HR
              go_wp2_with fail
              go_meet
              exact ⟨E2, rfl, rfl, H2⟩
          case rest =>
            obtain ⟨E, rfl, rfl, HE⟩ := hcut
            clear HS H0 hq HC
            have hEl := HE.out.1
            obtain ⟨wx0, rfl⟩ : ∃ x : World, x = wc := ⟨wc, rfl⟩
            go_upto_region 41 with fail
            go_cut [20, 24, 199] (fun s20 s24 s199 wx => s20 = .int .i64 i ∧ s24 = .int .i64 q ∧ (∃ c : Bool, s199 = .bool c ∧ Hid (c = true ↔ (a < i ∧ i < mid))) ∧ wx0 = wx)
            case first => as_aux_lemma =>
              by_cases c1 : a < i
              · by_cases c2 : i < mid
                · go_wp2_with fail
                  go_meet
                  exact ⟨rfl, rfl, ⟨true, rfl, Lib.hid (iff_of_true rfl ⟨c1, c2⟩)⟩, rfl⟩
                · go_wp2_with fail
                  go_meet
                  exact ⟨rfl, rfl, ⟨false, rfl, Lib.hid (iff_of_false (by simp) (fun h => c2 h.2))⟩, rfl⟩
              · go_wp2_with fail
                go_meet
                exact ⟨rfl, rfl, ⟨false, rfl, Lib.hid (iff_of_false (by simp) (fun h => c1 h.1))⟩, rfl⟩
            case rest =>
              obtain ⟨rfl, rfl, ⟨c, rfl, HC⟩, rfl⟩ := hcut
              go_upto_if 199 with fail
              go_cut [24] (fun s24 wx => ∃ E2 : List Lb, s24 = .int .i64 q ∧ Hid (E2.length = C.length ∧ Among D E2 ∧ SR w0 g wx E2))
              case first => as_aux_lemma =>
                cases c
                · go_wp2_with fail
                  go_meet
                  exact ⟨E, rfl, HE⟩
                · obtain ⟨c1, c2⟩ := HC.out.1 rfl
                  have HR := Lib.hid (HIH.out E a i mid wx0 (by omega) (by omega) c1 c2 (by omega) HE.out.2.1 HE.out.2.2)
                  rw [hEl] at HR
                  go_wp2_with fail
                  refine HR.out.mono ?_
                  rintro e w2 ⟨rfl, E2, h1, h2, h3⟩
                  have H2 := Lib.hid (And.intro h1 (And.intro h2 h3)); clear h1 h2 h3 HR
                  go_wp2_with fail
                  go_meet
                  exact ⟨E2, rfl, H2⟩
              case rest =>
                obtain ⟨E2, rfl, HF⟩ := hcut
                clear HE hEl HC
                have hEl := HF.out.1
                obtain ⟨wx1, rfl⟩ : ∃ x : World, x = wc := ⟨wc, rfl⟩
                by_cases c1 : mid < q
                · by_cases c2 : q < b
                  · have HR := Lib.hid (HIH.out E2 mid q b wx1 (by omega) (by omega) c1 c2 (by omega) HF.out.2.1 HF.out.2.2)
                    rw [hEl] at HR
                    go_wp2_with fail
                    refine HR.out.mono ?_
                    rintro e w2 ⟨rfl, E3, h1, h2, h3⟩
                    have H2 := Lib.hid (And.intro h1 (And.intro h2 h3)); clear h1 h2 h3 HR
                    go_wp2
                    go_end0
                    exact ⟨rfl, E3, H2.out.1, H2.out.2.1, H2.out.2.2⟩
                  · go_wp2
                    go_end0
                    exact ⟨rfl, E2, HF.out.1, HF.out.2.1, HF.out.2.2⟩
                · go_wp2
                  go_end0
                  exact ⟨rfl, E2, HF.out.1, HF.out.2.1, HF.out.2.2⟩

theorem sym_all {D : List Lb} {g cap : Nat} {w0 : World} : ∀ f : Nat, SymAny D g cap w0 f
  | 0 => fun C a m b w hC hf h1 h2 => by omega
  | f + 1 => fun C a m b w hC hf ham hmb hb hA h => by
    by_cases h1 : m = a + 1
    · exact sym_one C a m b w hC h1 hmb hb hA h
    by_cases h2 : b = m + 1
    · exact sym_last C a m b w hC (by omega) h2 hb hA h
    · exact sym_mid (sym_all f) C a m b w hC hf (by omega) (by omega) hb hA h

end Go.Proofs.YtomhbbchflblpaaDoor
