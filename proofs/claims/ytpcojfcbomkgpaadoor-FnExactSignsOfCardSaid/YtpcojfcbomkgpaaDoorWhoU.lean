/- spec.ReadWhole: the contract. -/
import Derived.Test.YtpcojfcbomkgpaaDoorWhoT
namespace Go.Proofs.YtpcojfcbomkgpaaDoor
open Go.RowKit

set_option maxHeartbeats 4000000 in
set_option maxRecDepth 100000 in
theorem sReadWholeNeg (s : ByteArray) (k : Nat) (w : World) (hs : s.size ≤ 1048576) (hk : k < s.size) (c0 : s[k].toNat = 45) :
    Calls Tryd.prog 74 #[.string s, .int .i64 (k : Int)] w fun e w' => e = .returned (.tuple #[.int .i64 (whoN (whoQ s (k : Int))), .int .i64 (whoE (whoQ s (k : Int)))]) ∧ Below w.heap.size w w' := by
  have hbt : betweenB (k : Int) 0 ((s.size : Int) - 1) = true := by simp [betweenB]; omega
  have HQ := Lib.hid (who_in hk)
  have hbk := bt_eq s k hk
  have n0 : ((s[k].toNat : Int) == 45) = true := by rw [c0]; rfl
  have H45 := Lib.hid (show bt s k = 45 by omega)
  have HWF := Lib.hid (show whoFrom s k = (k + 1) from if_pos H45.out)
  clear c0 hbk
  go_enter Tryd.func74, Tryd.ntmps74
  go_wp2_with (go_at_call 71; refine (l01In_any _ _ _ _).mono ?_; rintro e w' ⟨rfl, rfl⟩)
  go_loop [8] (fun i => ∃ q : Nat, (k + 1) ≤ q ∧ q ≤ s.size ∧ i = .int .i64 (q : Int) ∧ ∀ i, (k + 1) ≤ i → i < q → dgAt s i = true) (fun i => s.size - (intOf i).toNat)
  case atStart => exact ⟨(k + 1), by omega, by omega, by go_num, fun i h1 h2 => by omega⟩
  case round =>
    obtain ⟨q, hfq, hq, rfl, hall⟩ := hrel
    by_cases hqs : q < s.size
    · have hbq0 := bt_eq s q hqs
      rcases (show s[q].toNat < 48 ∨ (48 ≤ s[q].toNat ∧ s[q].toNat ≤ 57) ∨ 57 < s[q].toNat by omega) with hd | ⟨hd, hd'⟩ | hd
      · have g1 : decide ((48 : Int) ≤ (s[q].toNat : Int)) = false := decide_eq_false (by omega)
        have hnd : dgAt s q = false := by cases h : dgAt s q; rfl; have := dgAt_iff.1 h; omega
        clear hbq0
        have HEN := Lib.hid (show Ends s (k + 1) q from ⟨hfq, hq, hall, fun _ => hnd⟩)
        have hx1 : (0 : Int) ≤ (k : Int) + 1 := by omega
        have hx2 : (k : Int) + 1 ≤ (q : Int) := by omega
        have hx3 : (q : Int) ≤ (s.size : Int) := by omega
        clear hall
        go_upto_region 11 with fail
        generalize hF : s.extract (k + 1) q = F
        have HF := Lib.hid (show Fig s (k + 1) q F by rw [← hF]; exact Fig.mk' HEN.out)
        clear hF hx1 hx2 hx3
        have HFS := Lib.hid HF.out.size
        by_cases e0 : q = (k + 1)
        · have he : F.toList.isEmpty = true := by rw [fig_empty HF.out]; exact decide_eq_true e0
          have HE0 := Lib.hid e0
          clear e0
          go_wp2
          go_ret2
          exact ⟨by rw [HQ.out, who_bad HWF.out HF.out.ends (.inl HE0.out)]; rfl, Below.refl _ _⟩
        have he : F.toList.isEmpty = false := by rw [fig_empty HF.out]; exact decide_eq_false e0
        have hF0 : 0 < F.size := by have := HFS.out; omega
        have HH := Lib.hid (fig_head HF.out (by omega) hF0)
        by_cases z1 : (k + 1) + 1 < q
        · have d1 : decide ((1 : Int) < (F.size : Int)) = true := decide_eq_true (by have := HFS.out; omega)
          by_cases z2 : F[0].toNat = 48
          · have d2 : ((F[0].toNat : Int) == 48) = true := by rw [z2]; rfl
            have HB := Lib.hid (show bt s (k + 1) = 48 ∧ (k + 1) + 1 < q from ⟨by rw [← HH.out, z2], z1⟩)
            clear z1 z2
            go_wp2
            go_ret2
            exact ⟨by rw [HQ.out, who_bad HWF.out HF.out.ends (.inr (.inl HB.out))]; rfl, Below.refl _ _⟩
          have d2 : ((F[0].toNat : Int) == 48) = false := by rw [beq_eq_false_iff_ne]; omega
          have HZ := Lib.hid (show bt s (k + 1) = 48 → q = (k + 1) + 1 from fun h => by rw [← HH.out] at h; exact absurd h z2)
          clear z2
          have dq : decide ((q : Int) < (s.size : Int)) = true := decide_eq_true (by omega)
          have hbq := Lib.hid (bt_eq s q hqs)
          by_cases c46 : s[q].toNat = 46
          · have x46 : ((s[q].toNat : Int) == 46) = true := by rw [c46]; rfl
            have HB := Lib.hid (show stopB s q = true by rw [stopB, hbq.out, c46, decide_eq_true hqs]; rfl)
            clear c46
            go_wp2
            go_ret2
            exact ⟨by rw [HQ.out, who_bad HWF.out HF.out.ends (.inr (.inr HB.out))]; rfl, Below.refl _ _⟩
          have x46 : ((s[q].toNat : Int) == 46) = false := by rw [beq_eq_false_iff_ne]; omega
          by_cases c101 : s[q].toNat = 101
          · have x101 : ((s[q].toNat : Int) == 101) = true := by rw [c101]; rfl
            have HB := Lib.hid (show stopB s q = true by rw [stopB, hbq.out, c101, decide_eq_true hqs]; rfl)
            clear c101
            go_wp2
            go_ret2
            exact ⟨by rw [HQ.out, who_bad HWF.out HF.out.ends (.inr (.inr HB.out))]; rfl, Below.refl _ _⟩
          have x101 : ((s[q].toNat : Int) == 101) = false := by rw [beq_eq_false_iff_ne]; omega
          by_cases c69 : s[q].toNat = 69
          · have x69 : ((s[q].toNat : Int) == 69) = true := by rw [c69]; rfl
            have HB := Lib.hid (show stopB s q = true by rw [stopB, hbq.out, c69, decide_eq_true hqs]; rfl)
            clear c69
            go_wp2
            go_ret2
            exact ⟨by rw [HQ.out, who_bad HWF.out HF.out.ends (.inr (.inr HB.out))]; rfl, Below.refl _ _⟩
          have x69 : ((s[q].toNat : Int) == 69) = false := by rw [beq_eq_false_iff_ne]; omega
          have HST := Lib.hid (show ¬ (q = (k + 1) ∨ (bt s (k + 1) = 48 ∧ (k + 1) + 1 < q) ∨ stopB s q = true) by
            rintro (h | ⟨h1, h2⟩ | h)
            · exact e0 h
            · have := HZ.out h1; omega
            · simp [stopB, hbq.out, c46, c101, c69] at h)
          clear c46 c101 c69
          have hcan := Lib.hid (show Canon F.data.toList by rw [HF.out.list]; exact figs_canon HF.out.ends (by omega) HZ.out)
          have HW := Lib.hid (who_neg HWF.out HF.out.ends HST.out H45.out)
          rw [← HF.out.list] at HW
          have HRI := Lib.hid (fun w0 => sReadInt F w0 hcan.out)
          have HM := Lib.hid (min_iff hcan.out)
          generalize hv : valFrom 0 F.data.toList = v at HW HRI HM
          clear hv
          by_cases hm : v = 9223372036854775808
          · have e9 : (F.toList == [57, 50, 50, 51, 51, 55, 50, 48, 51, 54, 56, 53, 52, 55, 55, 53, 56, 48, 56]) = true := by rw [beq_iff_eq, data_toList]; exact HM.out.2 hm
            have HR := Lib.hid (show whoO s k = some (-9223372036854775808, q) by rw [HW.out, if_pos (by omega), hm]; rfl)
            clear hm
            go_wp2
            go_ret2
            exact ⟨by rw [HQ.out, HR.out]; rfl, Below.refl _ _⟩
          have e9 : (F.toList == [57, 50, 50, 51, 51, 55, 50, 48, 51, 54, 56, 53, 52, 55, 55, 53, 56, 48, 56]) = false := by rw [beq_eq_false_iff_ne, data_toList]; intro e; exact hm (HM.out.1 e)
          by_cases hv : v ≤ 9223372036854775807
          · have HR := Lib.hid (show whoO s k = some (-((v : Nat) : Int), q) by rw [HW.out, if_pos (by omega)])
            have HRI2 := HRI.out
            rw [riZ_yes hv, show riB v = true from decide_eq_true hv] at HRI2
            have HRI3 := Lib.hid HRI2
            clear HRI2 hm
            have hv2 : (v : Int) ≤ 9223372036854775807 := by omega
            clear hv
            go_wp2_with (go_at_call 136; refine (HRI3.out _).mono ?_; rintro e w1 ⟨rfl, hb1⟩)
            go_ret2
            exact ⟨by rw [HQ.out, HR.out]; rfl, hb1⟩
          · have HR := Lib.hid (show whoO s k = none by rw [HW.out, if_neg (by omega)])
            have HRI2 := HRI.out
            rw [riZ_no hv, show riB v = false from decide_eq_false hv] at HRI2
            have HRI3 := Lib.hid HRI2
            clear HRI2 hm hv
            go_wp2_with (go_at_call 136; refine (HRI3.out _).mono ?_; rintro e w1 ⟨rfl, hb1⟩)
            go_ret2
            exact ⟨by rw [HQ.out, HR.out]; rfl, hb1⟩
        · have d1 : decide ((1 : Int) < (F.size : Int)) = false := decide_eq_false (by have := HFS.out; omega)
          have HZ := Lib.hid (show bt s (k + 1) = 48 → q = (k + 1) + 1 from fun _ => by omega)
          have dq : decide ((q : Int) < (s.size : Int)) = true := decide_eq_true (by omega)
          have hbq := Lib.hid (bt_eq s q hqs)
          by_cases c46 : s[q].toNat = 46
          · have x46 : ((s[q].toNat : Int) == 46) = true := by rw [c46]; rfl
            have HB := Lib.hid (show stopB s q = true by rw [stopB, hbq.out, c46, decide_eq_true hqs]; rfl)
            clear c46
            go_wp2
            go_ret2
            exact ⟨by rw [HQ.out, who_bad HWF.out HF.out.ends (.inr (.inr HB.out))]; rfl, Below.refl _ _⟩
          have x46 : ((s[q].toNat : Int) == 46) = false := by rw [beq_eq_false_iff_ne]; omega
          by_cases c101 : s[q].toNat = 101
          · have x101 : ((s[q].toNat : Int) == 101) = true := by rw [c101]; rfl
            have HB := Lib.hid (show stopB s q = true by rw [stopB, hbq.out, c101, decide_eq_true hqs]; rfl)
            clear c101
            go_wp2
            go_ret2
            exact ⟨by rw [HQ.out, who_bad HWF.out HF.out.ends (.inr (.inr HB.out))]; rfl, Below.refl _ _⟩
          have x101 : ((s[q].toNat : Int) == 101) = false := by rw [beq_eq_false_iff_ne]; omega
          by_cases c69 : s[q].toNat = 69
          · have x69 : ((s[q].toNat : Int) == 69) = true := by rw [c69]; rfl
            have HB := Lib.hid (show stopB s q = true by rw [stopB, hbq.out, c69, decide_eq_true hqs]; rfl)
            clear c69
            go_wp2
            go_ret2
            exact ⟨by rw [HQ.out, who_bad HWF.out HF.out.ends (.inr (.inr HB.out))]; rfl, Below.refl _ _⟩
          have x69 : ((s[q].toNat : Int) == 69) = false := by rw [beq_eq_false_iff_ne]; omega
          have HST := Lib.hid (show ¬ (q = (k + 1) ∨ (bt s (k + 1) = 48 ∧ (k + 1) + 1 < q) ∨ stopB s q = true) by
            rintro (h | ⟨h1, h2⟩ | h)
            · exact e0 h
            · have := HZ.out h1; omega
            · simp [stopB, hbq.out, c46, c101, c69] at h)
          clear c46 c101 c69
          have hcan := Lib.hid (show Canon F.data.toList by rw [HF.out.list]; exact figs_canon HF.out.ends (by omega) HZ.out)
          have HW := Lib.hid (who_neg HWF.out HF.out.ends HST.out H45.out)
          rw [← HF.out.list] at HW
          have HRI := Lib.hid (fun w0 => sReadInt F w0 hcan.out)
          have HM := Lib.hid (min_iff hcan.out)
          generalize hv : valFrom 0 F.data.toList = v at HW HRI HM
          clear hv
          by_cases hm : v = 9223372036854775808
          · have e9 : (F.toList == [57, 50, 50, 51, 51, 55, 50, 48, 51, 54, 56, 53, 52, 55, 55, 53, 56, 48, 56]) = true := by rw [beq_iff_eq, data_toList]; exact HM.out.2 hm
            have HR := Lib.hid (show whoO s k = some (-9223372036854775808, q) by rw [HW.out, if_pos (by omega), hm]; rfl)
            clear hm
            go_wp2
            go_ret2
            exact ⟨by rw [HQ.out, HR.out]; rfl, Below.refl _ _⟩
          have e9 : (F.toList == [57, 50, 50, 51, 51, 55, 50, 48, 51, 54, 56, 53, 52, 55, 55, 53, 56, 48, 56]) = false := by rw [beq_eq_false_iff_ne, data_toList]; intro e; exact hm (HM.out.1 e)
          by_cases hv : v ≤ 9223372036854775807
          · have HR := Lib.hid (show whoO s k = some (-((v : Nat) : Int), q) by rw [HW.out, if_pos (by omega)])
            have HRI2 := HRI.out
            rw [riZ_yes hv, show riB v = true from decide_eq_true hv] at HRI2
            have HRI3 := Lib.hid HRI2
            clear HRI2 hm
            have hv2 : (v : Int) ≤ 9223372036854775807 := by omega
            clear hv
            go_wp2_with (go_at_call 136; refine (HRI3.out _).mono ?_; rintro e w1 ⟨rfl, hb1⟩)
            go_ret2
            exact ⟨by rw [HQ.out, HR.out]; rfl, hb1⟩
          · have HR := Lib.hid (show whoO s k = none by rw [HW.out, if_neg (by omega)])
            have HRI2 := HRI.out
            rw [riZ_no hv, show riB v = false from decide_eq_false hv] at HRI2
            have HRI3 := Lib.hid HRI2
            clear HRI2 hm hv
            go_wp2_with (go_at_call 136; refine (HRI3.out _).mono ?_; rintro e w1 ⟨rfl, hb1⟩)
            go_ret2
            exact ⟨by rw [HQ.out, HR.out]; rfl, hb1⟩
      · have g1 : (48 : Int) ≤ (s[q].toNat : Int) := by omega
        have g2 : (s[q].toNat : Int) ≤ 57 := by omega
        have hyd : dgAt s q = true := dgAt_iff.2 (by omega)
        have HALL := Lib.hid (show ∀ i, (k + 1) ≤ i → i < q + 1 → dgAt s i = true from fun i h1 h2 => by
          rcases Nat.lt_or_ge i q with h | h
          · exact hall i h1 h
          · obtain rfl : i = q := by omega
            exact hyd)
        clear hall hyd hbq0
        go_wp2
        go_round
        case rel => exact ⟨q + 1, by omega, by omega, by go_num, HALL.out⟩
        case measure => simp [intOf]; omega
      · have g1 : (48 : Int) ≤ (s[q].toNat : Int) := by omega
        have g2 : decide ((s[q].toNat : Int) ≤ 57) = false := decide_eq_false (by omega)
        have hnd : dgAt s q = false := by cases h : dgAt s q; rfl; have := dgAt_iff.1 h; omega
        clear hbq0
        have HEN := Lib.hid (show Ends s (k + 1) q from ⟨hfq, hq, hall, fun _ => hnd⟩)
        have hx1 : (0 : Int) ≤ (k : Int) + 1 := by omega
        have hx2 : (k : Int) + 1 ≤ (q : Int) := by omega
        have hx3 : (q : Int) ≤ (s.size : Int) := by omega
        clear hall
        go_upto_region 11 with fail
        generalize hF : s.extract (k + 1) q = F
        have HF := Lib.hid (show Fig s (k + 1) q F by rw [← hF]; exact Fig.mk' HEN.out)
        clear hF hx1 hx2 hx3
        have HFS := Lib.hid HF.out.size
        by_cases e0 : q = (k + 1)
        · have he : F.toList.isEmpty = true := by rw [fig_empty HF.out]; exact decide_eq_true e0
          have HE0 := Lib.hid e0
          clear e0
          go_wp2
          go_ret2
          exact ⟨by rw [HQ.out, who_bad HWF.out HF.out.ends (.inl HE0.out)]; rfl, Below.refl _ _⟩
        have he : F.toList.isEmpty = false := by rw [fig_empty HF.out]; exact decide_eq_false e0
        have hF0 : 0 < F.size := by have := HFS.out; omega
        have HH := Lib.hid (fig_head HF.out (by omega) hF0)
        by_cases z1 : (k + 1) + 1 < q
        · have d1 : decide ((1 : Int) < (F.size : Int)) = true := decide_eq_true (by have := HFS.out; omega)
          by_cases z2 : F[0].toNat = 48
          · have d2 : ((F[0].toNat : Int) == 48) = true := by rw [z2]; rfl
            have HB := Lib.hid (show bt s (k + 1) = 48 ∧ (k + 1) + 1 < q from ⟨by rw [← HH.out, z2], z1⟩)
            clear z1 z2
            go_wp2
            go_ret2
            exact ⟨by rw [HQ.out, who_bad HWF.out HF.out.ends (.inr (.inl HB.out))]; rfl, Below.refl _ _⟩
          have d2 : ((F[0].toNat : Int) == 48) = false := by rw [beq_eq_false_iff_ne]; omega
          have HZ := Lib.hid (show bt s (k + 1) = 48 → q = (k + 1) + 1 from fun h => by rw [← HH.out] at h; exact absurd h z2)
          clear z2
          have dq : decide ((q : Int) < (s.size : Int)) = true := decide_eq_true (by omega)
          have hbq := Lib.hid (bt_eq s q hqs)
          by_cases c46 : s[q].toNat = 46
          · have x46 : ((s[q].toNat : Int) == 46) = true := by rw [c46]; rfl
            have HB := Lib.hid (show stopB s q = true by rw [stopB, hbq.out, c46, decide_eq_true hqs]; rfl)
            clear c46
            go_wp2
            go_ret2
            exact ⟨by rw [HQ.out, who_bad HWF.out HF.out.ends (.inr (.inr HB.out))]; rfl, Below.refl _ _⟩
          have x46 : ((s[q].toNat : Int) == 46) = false := by rw [beq_eq_false_iff_ne]; omega
          by_cases c101 : s[q].toNat = 101
          · have x101 : ((s[q].toNat : Int) == 101) = true := by rw [c101]; rfl
            have HB := Lib.hid (show stopB s q = true by rw [stopB, hbq.out, c101, decide_eq_true hqs]; rfl)
            clear c101
            go_wp2
            go_ret2
            exact ⟨by rw [HQ.out, who_bad HWF.out HF.out.ends (.inr (.inr HB.out))]; rfl, Below.refl _ _⟩
          have x101 : ((s[q].toNat : Int) == 101) = false := by rw [beq_eq_false_iff_ne]; omega
          by_cases c69 : s[q].toNat = 69
          · have x69 : ((s[q].toNat : Int) == 69) = true := by rw [c69]; rfl
            have HB := Lib.hid (show stopB s q = true by rw [stopB, hbq.out, c69, decide_eq_true hqs]; rfl)
            clear c69
            go_wp2
            go_ret2
            exact ⟨by rw [HQ.out, who_bad HWF.out HF.out.ends (.inr (.inr HB.out))]; rfl, Below.refl _ _⟩
          have x69 : ((s[q].toNat : Int) == 69) = false := by rw [beq_eq_false_iff_ne]; omega
          have HST := Lib.hid (show ¬ (q = (k + 1) ∨ (bt s (k + 1) = 48 ∧ (k + 1) + 1 < q) ∨ stopB s q = true) by
            rintro (h | ⟨h1, h2⟩ | h)
            · exact e0 h
            · have := HZ.out h1; omega
            · simp [stopB, hbq.out, c46, c101, c69] at h)
          clear c46 c101 c69
          have hcan := Lib.hid (show Canon F.data.toList by rw [HF.out.list]; exact figs_canon HF.out.ends (by omega) HZ.out)
          have HW := Lib.hid (who_neg HWF.out HF.out.ends HST.out H45.out)
          rw [← HF.out.list] at HW
          have HRI := Lib.hid (fun w0 => sReadInt F w0 hcan.out)
          have HM := Lib.hid (min_iff hcan.out)
          generalize hv : valFrom 0 F.data.toList = v at HW HRI HM
          clear hv
          by_cases hm : v = 9223372036854775808
          · have e9 : (F.toList == [57, 50, 50, 51, 51, 55, 50, 48, 51, 54, 56, 53, 52, 55, 55, 53, 56, 48, 56]) = true := by rw [beq_iff_eq, data_toList]; exact HM.out.2 hm
            have HR := Lib.hid (show whoO s k = some (-9223372036854775808, q) by rw [HW.out, if_pos (by omega), hm]; rfl)
            clear hm
            go_wp2
            go_ret2
            exact ⟨by rw [HQ.out, HR.out]; rfl, Below.refl _ _⟩
          have e9 : (F.toList == [57, 50, 50, 51, 51, 55, 50, 48, 51, 54, 56, 53, 52, 55, 55, 53, 56, 48, 56]) = false := by rw [beq_eq_false_iff_ne, data_toList]; intro e; exact hm (HM.out.1 e)
          by_cases hv : v ≤ 9223372036854775807
          · have HR := Lib.hid (show whoO s k = some (-((v : Nat) : Int), q) by rw [HW.out, if_pos (by omega)])
            have HRI2 := HRI.out
            rw [riZ_yes hv, show riB v = true from decide_eq_true hv] at HRI2
            have HRI3 := Lib.hid HRI2
            clear HRI2 hm
            have hv2 : (v : Int) ≤ 9223372036854775807 := by omega
            clear hv
            go_wp2_with (go_at_call 136; refine (HRI3.out _).mono ?_; rintro e w1 ⟨rfl, hb1⟩)
            go_ret2
            exact ⟨by rw [HQ.out, HR.out]; rfl, hb1⟩
          · have HR := Lib.hid (show whoO s k = none by rw [HW.out, if_neg (by omega)])
            have HRI2 := HRI.out
            rw [riZ_no hv, show riB v = false from decide_eq_false hv] at HRI2
            have HRI3 := Lib.hid HRI2
            clear HRI2 hm hv
            go_wp2_with (go_at_call 136; refine (HRI3.out _).mono ?_; rintro e w1 ⟨rfl, hb1⟩)
            go_ret2
            exact ⟨by rw [HQ.out, HR.out]; rfl, hb1⟩
        · have d1 : decide ((1 : Int) < (F.size : Int)) = false := decide_eq_false (by have := HFS.out; omega)
          have HZ := Lib.hid (show bt s (k + 1) = 48 → q = (k + 1) + 1 from fun _ => by omega)
          have dq : decide ((q : Int) < (s.size : Int)) = true := decide_eq_true (by omega)
          have hbq := Lib.hid (bt_eq s q hqs)
          by_cases c46 : s[q].toNat = 46
          · have x46 : ((s[q].toNat : Int) == 46) = true := by rw [c46]; rfl
            have HB := Lib.hid (show stopB s q = true by rw [stopB, hbq.out, c46, decide_eq_true hqs]; rfl)
            clear c46
            go_wp2
            go_ret2
            exact ⟨by rw [HQ.out, who_bad HWF.out HF.out.ends (.inr (.inr HB.out))]; rfl, Below.refl _ _⟩
          have x46 : ((s[q].toNat : Int) == 46) = false := by rw [beq_eq_false_iff_ne]; omega
          by_cases c101 : s[q].toNat = 101
          · have x101 : ((s[q].toNat : Int) == 101) = true := by rw [c101]; rfl
            have HB := Lib.hid (show stopB s q = true by rw [stopB, hbq.out, c101, decide_eq_true hqs]; rfl)
            clear c101
            go_wp2
            go_ret2
            exact ⟨by rw [HQ.out, who_bad HWF.out HF.out.ends (.inr (.inr HB.out))]; rfl, Below.refl _ _⟩
          have x101 : ((s[q].toNat : Int) == 101) = false := by rw [beq_eq_false_iff_ne]; omega
          by_cases c69 : s[q].toNat = 69
          · have x69 : ((s[q].toNat : Int) == 69) = true := by rw [c69]; rfl
            have HB := Lib.hid (show stopB s q = true by rw [stopB, hbq.out, c69, decide_eq_true hqs]; rfl)
            clear c69
            go_wp2
            go_ret2
            exact ⟨by rw [HQ.out, who_bad HWF.out HF.out.ends (.inr (.inr HB.out))]; rfl, Below.refl _ _⟩
          have x69 : ((s[q].toNat : Int) == 69) = false := by rw [beq_eq_false_iff_ne]; omega
          have HST := Lib.hid (show ¬ (q = (k + 1) ∨ (bt s (k + 1) = 48 ∧ (k + 1) + 1 < q) ∨ stopB s q = true) by
            rintro (h | ⟨h1, h2⟩ | h)
            · exact e0 h
            · have := HZ.out h1; omega
            · simp [stopB, hbq.out, c46, c101, c69] at h)
          clear c46 c101 c69
          have hcan := Lib.hid (show Canon F.data.toList by rw [HF.out.list]; exact figs_canon HF.out.ends (by omega) HZ.out)
          have HW := Lib.hid (who_neg HWF.out HF.out.ends HST.out H45.out)
          rw [← HF.out.list] at HW
          have HRI := Lib.hid (fun w0 => sReadInt F w0 hcan.out)
          have HM := Lib.hid (min_iff hcan.out)
          generalize hv : valFrom 0 F.data.toList = v at HW HRI HM
          clear hv
          by_cases hm : v = 9223372036854775808
          · have e9 : (F.toList == [57, 50, 50, 51, 51, 55, 50, 48, 51, 54, 56, 53, 52, 55, 55, 53, 56, 48, 56]) = true := by rw [beq_iff_eq, data_toList]; exact HM.out.2 hm
            have HR := Lib.hid (show whoO s k = some (-9223372036854775808, q) by rw [HW.out, if_pos (by omega), hm]; rfl)
            clear hm
            go_wp2
            go_ret2
            exact ⟨by rw [HQ.out, HR.out]; rfl, Below.refl _ _⟩
          have e9 : (F.toList == [57, 50, 50, 51, 51, 55, 50, 48, 51, 54, 56, 53, 52, 55, 55, 53, 56, 48, 56]) = false := by rw [beq_eq_false_iff_ne, data_toList]; intro e; exact hm (HM.out.1 e)
          by_cases hv : v ≤ 9223372036854775807
          · have HR := Lib.hid (show whoO s k = some (-((v : Nat) : Int), q) by rw [HW.out, if_pos (by omega)])
            have HRI2 := HRI.out
            rw [riZ_yes hv, show riB v = true from decide_eq_true hv] at HRI2
            have HRI3 := Lib.hid HRI2
            clear HRI2 hm
            have hv2 : (v : Int) ≤ 9223372036854775807 := by omega
            clear hv
            go_wp2_with (go_at_call 136; refine (HRI3.out _).mono ?_; rintro e w1 ⟨rfl, hb1⟩)
            go_ret2
            exact ⟨by rw [HQ.out, HR.out]; rfl, hb1⟩
          · have HR := Lib.hid (show whoO s k = none by rw [HW.out, if_neg (by omega)])
            have HRI2 := HRI.out
            rw [riZ_no hv, show riB v = false from decide_eq_false hv] at HRI2
            have HRI3 := Lib.hid HRI2
            clear HRI2 hm hv
            go_wp2_with (go_at_call 136; refine (HRI3.out _).mono ?_; rintro e w1 ⟨rfl, hb1⟩)
            go_ret2
            exact ⟨by rw [HQ.out, HR.out]; rfl, hb1⟩
    · have hqe : q = s.size := by omega
      subst hqe
      clear hqs
      have HEN := Lib.hid (show Ends s (k + 1) s.size from ⟨hfq, Nat.le_refl _, hall, fun h => absurd h (by omega)⟩)
      have hx1 : (0 : Int) ≤ (k : Int) + 1 := by omega
      have hx2 : (k : Int) + 1 ≤ (s.size : Int) := by omega
      clear hall
      go_upto_region 11 with fail
      generalize hF : s.extract (k + 1) s.size = F
      have HF := Lib.hid (show Fig s (k + 1) s.size F by rw [← hF]; exact Fig.mk' HEN.out)
      clear hF hx1 hx2
      have HFS := Lib.hid HF.out.size
      by_cases e0 : s.size = (k + 1)
      · have he : F.toList.isEmpty = true := by rw [fig_empty HF.out]; exact decide_eq_true e0
        have HE0 := Lib.hid e0
        clear e0
        go_wp2
        go_ret2
        exact ⟨by rw [HQ.out, who_bad HWF.out HF.out.ends (.inl HE0.out)]; rfl, Below.refl _ _⟩
      have he : F.toList.isEmpty = false := by rw [fig_empty HF.out]; exact decide_eq_false e0
      have hF0 : 0 < F.size := by have := HFS.out; omega
      have HH := Lib.hid (fig_head HF.out (by omega) hF0)
      by_cases z1 : (k + 1) + 1 < s.size
      · have d1 : decide ((1 : Int) < (F.size : Int)) = true := decide_eq_true (by have := HFS.out; omega)
        by_cases z2 : F[0].toNat = 48
        · have d2 : ((F[0].toNat : Int) == 48) = true := by rw [z2]; rfl
          have HB := Lib.hid (show bt s (k + 1) = 48 ∧ (k + 1) + 1 < s.size from ⟨by rw [← HH.out, z2], z1⟩)
          clear z1 z2
          go_wp2
          go_ret2
          exact ⟨by rw [HQ.out, who_bad HWF.out HF.out.ends (.inr (.inl HB.out))]; rfl, Below.refl _ _⟩
        have d2 : ((F[0].toNat : Int) == 48) = false := by rw [beq_eq_false_iff_ne]; omega
        have HZ := Lib.hid (show bt s (k + 1) = 48 → s.size = (k + 1) + 1 from fun h => by rw [← HH.out] at h; exact absurd h z2)
        clear z2
        have dq : decide ((s.size : Int) < (s.size : Int)) = false := decide_eq_false (by omega)
        have HST := Lib.hid (show ¬ (s.size = (k + 1) ∨ (bt s (k + 1) = 48 ∧ (k + 1) + 1 < s.size) ∨ stopB s s.size = true) by
          rintro (h | ⟨h1, h2⟩ | h)
          · exact e0 h
          · have := HZ.out h1; omega
          · rw [stopB, decide_eq_false (by omega)] at h; cases h)
        have hcan := Lib.hid (show Canon F.data.toList by rw [HF.out.list]; exact figs_canon HF.out.ends (by omega) HZ.out)
        have HW := Lib.hid (who_neg HWF.out HF.out.ends HST.out H45.out)
        rw [← HF.out.list] at HW
        have HRI := Lib.hid (fun w0 => sReadInt F w0 hcan.out)
        have HM := Lib.hid (min_iff hcan.out)
        generalize hv : valFrom 0 F.data.toList = v at HW HRI HM
        clear hv
        by_cases hm : v = 9223372036854775808
        · have e9 : (F.toList == [57, 50, 50, 51, 51, 55, 50, 48, 51, 54, 56, 53, 52, 55, 55, 53, 56, 48, 56]) = true := by rw [beq_iff_eq, data_toList]; exact HM.out.2 hm
          have HR := Lib.hid (show whoO s k = some (-9223372036854775808, s.size) by rw [HW.out, if_pos (by omega), hm]; rfl)
          clear hm
          go_wp2
          go_ret2
          exact ⟨by rw [HQ.out, HR.out]; rfl, Below.refl _ _⟩
        have e9 : (F.toList == [57, 50, 50, 51, 51, 55, 50, 48, 51, 54, 56, 53, 52, 55, 55, 53, 56, 48, 56]) = false := by rw [beq_eq_false_iff_ne, data_toList]; intro e; exact hm (HM.out.1 e)
        by_cases hv : v ≤ 9223372036854775807
        · have HR := Lib.hid (show whoO s k = some (-((v : Nat) : Int), s.size) by rw [HW.out, if_pos (by omega)])
          have HRI2 := HRI.out
          rw [riZ_yes hv, show riB v = true from decide_eq_true hv] at HRI2
          have HRI3 := Lib.hid HRI2
          clear HRI2 hm
          have hv2 : (v : Int) ≤ 9223372036854775807 := by omega
          clear hv
          go_wp2_with (go_at_call 136; refine (HRI3.out _).mono ?_; rintro e w1 ⟨rfl, hb1⟩)
          go_ret2
          exact ⟨by rw [HQ.out, HR.out]; rfl, hb1⟩
        · have HR := Lib.hid (show whoO s k = none by rw [HW.out, if_neg (by omega)])
          have HRI2 := HRI.out
          rw [riZ_no hv, show riB v = false from decide_eq_false hv] at HRI2
          have HRI3 := Lib.hid HRI2
          clear HRI2 hm hv
          go_wp2_with (go_at_call 136; refine (HRI3.out _).mono ?_; rintro e w1 ⟨rfl, hb1⟩)
          go_ret2
          exact ⟨by rw [HQ.out, HR.out]; rfl, hb1⟩
      · have d1 : decide ((1 : Int) < (F.size : Int)) = false := decide_eq_false (by have := HFS.out; omega)
        have HZ := Lib.hid (show bt s (k + 1) = 48 → s.size = (k + 1) + 1 from fun _ => by omega)
        have dq : decide ((s.size : Int) < (s.size : Int)) = false := decide_eq_false (by omega)
        have HST := Lib.hid (show ¬ (s.size = (k + 1) ∨ (bt s (k + 1) = 48 ∧ (k + 1) + 1 < s.size) ∨ stopB s s.size = true) by
          rintro (h | ⟨h1, h2⟩ | h)
          · exact e0 h
          · have := HZ.out h1; omega
          · rw [stopB, decide_eq_false (by omega)] at h; cases h)
        have hcan := Lib.hid (show Canon F.data.toList by rw [HF.out.list]; exact figs_canon HF.out.ends (by omega) HZ.out)
        have HW := Lib.hid (who_neg HWF.out HF.out.ends HST.out H45.out)
        rw [← HF.out.list] at HW
        have HRI := Lib.hid (fun w0 => sReadInt F w0 hcan.out)
        have HM := Lib.hid (min_iff hcan.out)
        generalize hv : valFrom 0 F.data.toList = v at HW HRI HM
        clear hv
        by_cases hm : v = 9223372036854775808
        · have e9 : (F.toList == [57, 50, 50, 51, 51, 55, 50, 48, 51, 54, 56, 53, 52, 55, 55, 53, 56, 48, 56]) = true := by rw [beq_iff_eq, data_toList]; exact HM.out.2 hm
          have HR := Lib.hid (show whoO s k = some (-9223372036854775808, s.size) by rw [HW.out, if_pos (by omega), hm]; rfl)
          clear hm
          go_wp2
          go_ret2
          exact ⟨by rw [HQ.out, HR.out]; rfl, Below.refl _ _⟩
        have e9 : (F.toList == [57, 50, 50, 51, 51, 55, 50, 48, 51, 54, 56, 53, 52, 55, 55, 53, 56, 48, 56]) = false := by rw [beq_eq_false_iff_ne, data_toList]; intro e; exact hm (HM.out.1 e)
        by_cases hv : v ≤ 9223372036854775807
        · have HR := Lib.hid (show whoO s k = some (-((v : Nat) : Int), s.size) by rw [HW.out, if_pos (by omega)])
          have HRI2 := HRI.out
          rw [riZ_yes hv, show riB v = true from decide_eq_true hv] at HRI2
          have HRI3 := Lib.hid HRI2
          clear HRI2 hm
          have hv2 : (v : Int) ≤ 9223372036854775807 := by omega
          clear hv
          go_wp2_with (go_at_call 136; refine (HRI3.out _).mono ?_; rintro e w1 ⟨rfl, hb1⟩)
          go_ret2
          exact ⟨by rw [HQ.out, HR.out]; rfl, hb1⟩
        · have HR := Lib.hid (show whoO s k = none by rw [HW.out, if_neg (by omega)])
          have HRI2 := HRI.out
          rw [riZ_no hv, show riB v = false from decide_eq_false hv] at HRI2
          have HRI3 := Lib.hid HRI2
          clear HRI2 hm hv
          go_wp2_with (go_at_call 136; refine (HRI3.out _).mono ?_; rintro e w1 ⟨rfl, hb1⟩)
          go_ret2
          exact ⟨by rw [HQ.out, HR.out]; rfl, hb1⟩

set_option maxHeartbeats 4000000 in
set_option maxRecDepth 100000 in
theorem sReadWholePos (s : ByteArray) (k : Nat) (w : World) (hs : s.size ≤ 1048576) (hk : k < s.size) (c0 : s[k].toNat ≠ 45) :
    Calls Tryd.prog 74 #[.string s, .int .i64 (k : Int)] w fun e w' => e = .returned (.tuple #[.int .i64 (whoN (whoQ s (k : Int))), .int .i64 (whoE (whoQ s (k : Int)))]) ∧ Below w.heap.size w w' := by
  have hbt : betweenB (k : Int) 0 ((s.size : Int) - 1) = true := by simp [betweenB]; omega
  have HQ := Lib.hid (who_in hk)
  have hbk := bt_eq s k hk
  have n0 : ((s[k].toNat : Int) == 45) = false := by rw [beq_eq_false_iff_ne]; omega
  have H45 := Lib.hid (show bt s k ≠ 45 by omega)
  have HWF := Lib.hid (show whoFrom s k = k from if_neg H45.out)
  clear c0 hbk
  go_enter Tryd.func74, Tryd.ntmps74
  go_wp2_with (go_at_call 71; refine (l01In_any _ _ _ _).mono ?_; rintro e w' ⟨rfl, rfl⟩)
  go_loop [8] (fun i => ∃ q : Nat, k ≤ q ∧ q ≤ s.size ∧ i = .int .i64 (q : Int) ∧ ∀ i, k ≤ i → i < q → dgAt s i = true) (fun i => s.size - (intOf i).toNat)
  case atStart => exact ⟨k, by omega, by omega, rfl, fun i h1 h2 => by omega⟩
  case round =>
    obtain ⟨q, hfq, hq, rfl, hall⟩ := hrel
    by_cases hqs : q < s.size
    · have hbq0 := bt_eq s q hqs
      rcases (show s[q].toNat < 48 ∨ (48 ≤ s[q].toNat ∧ s[q].toNat ≤ 57) ∨ 57 < s[q].toNat by omega) with hd | ⟨hd, hd'⟩ | hd
      · have g1 : decide ((48 : Int) ≤ (s[q].toNat : Int)) = false := decide_eq_false (by omega)
        have hnd : dgAt s q = false := by cases h : dgAt s q; rfl; have := dgAt_iff.1 h; omega
        clear hbq0
        have HEN := Lib.hid (show Ends s k q from ⟨hfq, hq, hall, fun _ => hnd⟩)
        have hx1 : (0 : Int) ≤ (k : Int) := by omega
        have hx2 : (k : Int) ≤ (q : Int) := by omega
        have hx3 : (q : Int) ≤ (s.size : Int) := by omega
        clear hall
        go_upto_region 11 with fail
        generalize hF : s.extract k q = F
        have HF := Lib.hid (show Fig s k q F by rw [← hF]; exact Fig.mk' HEN.out)
        clear hF hx1 hx2 hx3
        have HFS := Lib.hid HF.out.size
        by_cases e0 : q = k
        · have he : F.toList.isEmpty = true := by rw [fig_empty HF.out]; exact decide_eq_true e0
          have HE0 := Lib.hid e0
          clear e0
          go_wp2
          go_ret2
          exact ⟨by rw [HQ.out, who_bad HWF.out HF.out.ends (.inl HE0.out)]; rfl, Below.refl _ _⟩
        have he : F.toList.isEmpty = false := by rw [fig_empty HF.out]; exact decide_eq_false e0
        have hF0 : 0 < F.size := by have := HFS.out; omega
        have HH := Lib.hid (fig_head HF.out (by omega) hF0)
        by_cases z1 : k + 1 < q
        · have d1 : decide ((1 : Int) < (F.size : Int)) = true := decide_eq_true (by have := HFS.out; omega)
          by_cases z2 : F[0].toNat = 48
          · have d2 : ((F[0].toNat : Int) == 48) = true := by rw [z2]; rfl
            have HB := Lib.hid (show bt s k = 48 ∧ k + 1 < q from ⟨by rw [← HH.out, z2], z1⟩)
            clear z1 z2
            go_wp2
            go_ret2
            exact ⟨by rw [HQ.out, who_bad HWF.out HF.out.ends (.inr (.inl HB.out))]; rfl, Below.refl _ _⟩
          have d2 : ((F[0].toNat : Int) == 48) = false := by rw [beq_eq_false_iff_ne]; omega
          have HZ := Lib.hid (show bt s k = 48 → q = k + 1 from fun h => by rw [← HH.out] at h; exact absurd h z2)
          clear z2
          have dq : decide ((q : Int) < (s.size : Int)) = true := decide_eq_true (by omega)
          have hbq := Lib.hid (bt_eq s q hqs)
          by_cases c46 : s[q].toNat = 46
          · have x46 : ((s[q].toNat : Int) == 46) = true := by rw [c46]; rfl
            have HB := Lib.hid (show stopB s q = true by rw [stopB, hbq.out, c46, decide_eq_true hqs]; rfl)
            clear c46
            go_wp2
            go_ret2
            exact ⟨by rw [HQ.out, who_bad HWF.out HF.out.ends (.inr (.inr HB.out))]; rfl, Below.refl _ _⟩
          have x46 : ((s[q].toNat : Int) == 46) = false := by rw [beq_eq_false_iff_ne]; omega
          by_cases c101 : s[q].toNat = 101
          · have x101 : ((s[q].toNat : Int) == 101) = true := by rw [c101]; rfl
            have HB := Lib.hid (show stopB s q = true by rw [stopB, hbq.out, c101, decide_eq_true hqs]; rfl)
            clear c101
            go_wp2
            go_ret2
            exact ⟨by rw [HQ.out, who_bad HWF.out HF.out.ends (.inr (.inr HB.out))]; rfl, Below.refl _ _⟩
          have x101 : ((s[q].toNat : Int) == 101) = false := by rw [beq_eq_false_iff_ne]; omega
          by_cases c69 : s[q].toNat = 69
          · have x69 : ((s[q].toNat : Int) == 69) = true := by rw [c69]; rfl
            have HB := Lib.hid (show stopB s q = true by rw [stopB, hbq.out, c69, decide_eq_true hqs]; rfl)
            clear c69
            go_wp2
            go_ret2
            exact ⟨by rw [HQ.out, who_bad HWF.out HF.out.ends (.inr (.inr HB.out))]; rfl, Below.refl _ _⟩
          have x69 : ((s[q].toNat : Int) == 69) = false := by rw [beq_eq_false_iff_ne]; omega
          have HST := Lib.hid (show ¬ (q = k ∨ (bt s k = 48 ∧ k + 1 < q) ∨ stopB s q = true) by
            rintro (h | ⟨h1, h2⟩ | h)
            · exact e0 h
            · have := HZ.out h1; omega
            · simp [stopB, hbq.out, c46, c101, c69] at h)
          clear c46 c101 c69
          have hcan := Lib.hid (show Canon F.data.toList by rw [HF.out.list]; exact figs_canon HF.out.ends (by omega) HZ.out)
          have HW := Lib.hid (who_pos HWF.out HF.out.ends HST.out H45.out)
          rw [← HF.out.list] at HW
          have HRI := Lib.hid (fun w0 => sReadInt F w0 hcan.out)
          generalize hv : valFrom 0 F.data.toList = v at HW HRI
          clear hv
          by_cases hv : v ≤ 9223372036854775807
          · have HR := Lib.hid (show whoO s k = some (((v : Nat) : Int), q) by rw [HW.out, if_pos (by omega)])
            have HRI2 := HRI.out
            rw [riZ_yes hv, show riB v = true from decide_eq_true hv] at HRI2
            have HRI3 := Lib.hid HRI2
            clear HRI2 hv
            go_wp2_with (go_at_call 136; refine (HRI3.out _).mono ?_; rintro e w1 ⟨rfl, hb1⟩)
            go_ret2
            exact ⟨by rw [HQ.out, HR.out]; rfl, hb1⟩
          · have HR := Lib.hid (show whoO s k = none by rw [HW.out, if_neg (by omega)])
            have HRI2 := HRI.out
            rw [riZ_no hv, show riB v = false from decide_eq_false hv] at HRI2
            have HRI3 := Lib.hid HRI2
            clear HRI2 hv
            go_wp2_with (go_at_call 136; refine (HRI3.out _).mono ?_; rintro e w1 ⟨rfl, hb1⟩)
            go_ret2
            exact ⟨by rw [HQ.out, HR.out]; rfl, hb1⟩
        · have d1 : decide ((1 : Int) < (F.size : Int)) = false := decide_eq_false (by have := HFS.out; omega)
          have HZ := Lib.hid (show bt s k = 48 → q = k + 1 from fun _ => by omega)
          have dq : decide ((q : Int) < (s.size : Int)) = true := decide_eq_true (by omega)
          have hbq := Lib.hid (bt_eq s q hqs)
          by_cases c46 : s[q].toNat = 46
          · have x46 : ((s[q].toNat : Int) == 46) = true := by rw [c46]; rfl
            have HB := Lib.hid (show stopB s q = true by rw [stopB, hbq.out, c46, decide_eq_true hqs]; rfl)
            clear c46
            go_wp2
            go_ret2
            exact ⟨by rw [HQ.out, who_bad HWF.out HF.out.ends (.inr (.inr HB.out))]; rfl, Below.refl _ _⟩
          have x46 : ((s[q].toNat : Int) == 46) = false := by rw [beq_eq_false_iff_ne]; omega
          by_cases c101 : s[q].toNat = 101
          · have x101 : ((s[q].toNat : Int) == 101) = true := by rw [c101]; rfl
            have HB := Lib.hid (show stopB s q = true by rw [stopB, hbq.out, c101, decide_eq_true hqs]; rfl)
            clear c101
            go_wp2
            go_ret2
            exact ⟨by rw [HQ.out, who_bad HWF.out HF.out.ends (.inr (.inr HB.out))]; rfl, Below.refl _ _⟩
          have x101 : ((s[q].toNat : Int) == 101) = false := by rw [beq_eq_false_iff_ne]; omega
          by_cases c69 : s[q].toNat = 69
          · have x69 : ((s[q].toNat : Int) == 69) = true := by rw [c69]; rfl
            have HB := Lib.hid (show stopB s q = true by rw [stopB, hbq.out, c69, decide_eq_true hqs]; rfl)
            clear c69
            go_wp2
            go_ret2
            exact ⟨by rw [HQ.out, who_bad HWF.out HF.out.ends (.inr (.inr HB.out))]; rfl, Below.refl _ _⟩
          have x69 : ((s[q].toNat : Int) == 69) = false := by rw [beq_eq_false_iff_ne]; omega
          have HST := Lib.hid (show ¬ (q = k ∨ (bt s k = 48 ∧ k + 1 < q) ∨ stopB s q = true) by
            rintro (h | ⟨h1, h2⟩ | h)
            · exact e0 h
            · have := HZ.out h1; omega
            · simp [stopB, hbq.out, c46, c101, c69] at h)
          clear c46 c101 c69
          have hcan := Lib.hid (show Canon F.data.toList by rw [HF.out.list]; exact figs_canon HF.out.ends (by omega) HZ.out)
          have HW := Lib.hid (who_pos HWF.out HF.out.ends HST.out H45.out)
          rw [← HF.out.list] at HW
          have HRI := Lib.hid (fun w0 => sReadInt F w0 hcan.out)
          generalize hv : valFrom 0 F.data.toList = v at HW HRI
          clear hv
          by_cases hv : v ≤ 9223372036854775807
          · have HR := Lib.hid (show whoO s k = some (((v : Nat) : Int), q) by rw [HW.out, if_pos (by omega)])
            have HRI2 := HRI.out
            rw [riZ_yes hv, show riB v = true from decide_eq_true hv] at HRI2
            have HRI3 := Lib.hid HRI2
            clear HRI2 hv
            go_wp2_with (go_at_call 136; refine (HRI3.out _).mono ?_; rintro e w1 ⟨rfl, hb1⟩)
            go_ret2
            exact ⟨by rw [HQ.out, HR.out]; rfl, hb1⟩
          · have HR := Lib.hid (show whoO s k = none by rw [HW.out, if_neg (by omega)])
            have HRI2 := HRI.out
            rw [riZ_no hv, show riB v = false from decide_eq_false hv] at HRI2
            have HRI3 := Lib.hid HRI2
            clear HRI2 hv
            go_wp2_with (go_at_call 136; refine (HRI3.out _).mono ?_; rintro e w1 ⟨rfl, hb1⟩)
            go_ret2
            exact ⟨by rw [HQ.out, HR.out]; rfl, hb1⟩
      · have g1 : (48 : Int) ≤ (s[q].toNat : Int) := by omega
        have g2 : (s[q].toNat : Int) ≤ 57 := by omega
        have hyd : dgAt s q = true := dgAt_iff.2 (by omega)
        have HALL := Lib.hid (show ∀ i, k ≤ i → i < q + 1 → dgAt s i = true from fun i h1 h2 => by
          rcases Nat.lt_or_ge i q with h | h
          · exact hall i h1 h
          · obtain rfl : i = q := by omega
            exact hyd)
        clear hall hyd hbq0
        go_wp2
        go_round
        case rel => exact ⟨q + 1, by omega, by omega, by go_num, HALL.out⟩
        case measure => simp [intOf]; omega
      · have g1 : (48 : Int) ≤ (s[q].toNat : Int) := by omega
        have g2 : decide ((s[q].toNat : Int) ≤ 57) = false := decide_eq_false (by omega)
        have hnd : dgAt s q = false := by cases h : dgAt s q; rfl; have := dgAt_iff.1 h; omega
        clear hbq0
        have HEN := Lib.hid (show Ends s k q from ⟨hfq, hq, hall, fun _ => hnd⟩)
        have hx1 : (0 : Int) ≤ (k : Int) := by omega
        have hx2 : (k : Int) ≤ (q : Int) := by omega
        have hx3 : (q : Int) ≤ (s.size : Int) := by omega
        clear hall
        go_upto_region 11 with fail
        generalize hF : s.extract k q = F
        have HF := Lib.hid (show Fig s k q F by rw [← hF]; exact Fig.mk' HEN.out)
        clear hF hx1 hx2 hx3
        have HFS := Lib.hid HF.out.size
        by_cases e0 : q = k
        · have he : F.toList.isEmpty = true := by rw [fig_empty HF.out]; exact decide_eq_true e0
          have HE0 := Lib.hid e0
          clear e0
          go_wp2
          go_ret2
          exact ⟨by rw [HQ.out, who_bad HWF.out HF.out.ends (.inl HE0.out)]; rfl, Below.refl _ _⟩
        have he : F.toList.isEmpty = false := by rw [fig_empty HF.out]; exact decide_eq_false e0
        have hF0 : 0 < F.size := by have := HFS.out; omega
        have HH := Lib.hid (fig_head HF.out (by omega) hF0)
        by_cases z1 : k + 1 < q
        · have d1 : decide ((1 : Int) < (F.size : Int)) = true := decide_eq_true (by have := HFS.out; omega)
          by_cases z2 : F[0].toNat = 48
          · have d2 : ((F[0].toNat : Int) == 48) = true := by rw [z2]; rfl
            have HB := Lib.hid (show bt s k = 48 ∧ k + 1 < q from ⟨by rw [← HH.out, z2], z1⟩)
            clear z1 z2
            go_wp2
            go_ret2
            exact ⟨by rw [HQ.out, who_bad HWF.out HF.out.ends (.inr (.inl HB.out))]; rfl, Below.refl _ _⟩
          have d2 : ((F[0].toNat : Int) == 48) = false := by rw [beq_eq_false_iff_ne]; omega
          have HZ := Lib.hid (show bt s k = 48 → q = k + 1 from fun h => by rw [← HH.out] at h; exact absurd h z2)
          clear z2
          have dq : decide ((q : Int) < (s.size : Int)) = true := decide_eq_true (by omega)
          have hbq := Lib.hid (bt_eq s q hqs)
          by_cases c46 : s[q].toNat = 46
          · have x46 : ((s[q].toNat : Int) == 46) = true := by rw [c46]; rfl
            have HB := Lib.hid (show stopB s q = true by rw [stopB, hbq.out, c46, decide_eq_true hqs]; rfl)
            clear c46
            go_wp2
            go_ret2
            exact ⟨by rw [HQ.out, who_bad HWF.out HF.out.ends (.inr (.inr HB.out))]; rfl, Below.refl _ _⟩
          have x46 : ((s[q].toNat : Int) == 46) = false := by rw [beq_eq_false_iff_ne]; omega
          by_cases c101 : s[q].toNat = 101
          · have x101 : ((s[q].toNat : Int) == 101) = true := by rw [c101]; rfl
            have HB := Lib.hid (show stopB s q = true by rw [stopB, hbq.out, c101, decide_eq_true hqs]; rfl)
            clear c101
            go_wp2
            go_ret2
            exact ⟨by rw [HQ.out, who_bad HWF.out HF.out.ends (.inr (.inr HB.out))]; rfl, Below.refl _ _⟩
          have x101 : ((s[q].toNat : Int) == 101) = false := by rw [beq_eq_false_iff_ne]; omega
          by_cases c69 : s[q].toNat = 69
          · have x69 : ((s[q].toNat : Int) == 69) = true := by rw [c69]; rfl
            have HB := Lib.hid (show stopB s q = true by rw [stopB, hbq.out, c69, decide_eq_true hqs]; rfl)
            clear c69
            go_wp2
            go_ret2
            exact ⟨by rw [HQ.out, who_bad HWF.out HF.out.ends (.inr (.inr HB.out))]; rfl, Below.refl _ _⟩
          have x69 : ((s[q].toNat : Int) == 69) = false := by rw [beq_eq_false_iff_ne]; omega
          have HST := Lib.hid (show ¬ (q = k ∨ (bt s k = 48 ∧ k + 1 < q) ∨ stopB s q = true) by
            rintro (h | ⟨h1, h2⟩ | h)
            · exact e0 h
            · have := HZ.out h1; omega
            · simp [stopB, hbq.out, c46, c101, c69] at h)
          clear c46 c101 c69
          have hcan := Lib.hid (show Canon F.data.toList by rw [HF.out.list]; exact figs_canon HF.out.ends (by omega) HZ.out)
          have HW := Lib.hid (who_pos HWF.out HF.out.ends HST.out H45.out)
          rw [← HF.out.list] at HW
          have HRI := Lib.hid (fun w0 => sReadInt F w0 hcan.out)
          generalize hv : valFrom 0 F.data.toList = v at HW HRI
          clear hv
          by_cases hv : v ≤ 9223372036854775807
          · have HR := Lib.hid (show whoO s k = some (((v : Nat) : Int), q) by rw [HW.out, if_pos (by omega)])
            have HRI2 := HRI.out
            rw [riZ_yes hv, show riB v = true from decide_eq_true hv] at HRI2
            have HRI3 := Lib.hid HRI2
            clear HRI2 hv
            go_wp2_with (go_at_call 136; refine (HRI3.out _).mono ?_; rintro e w1 ⟨rfl, hb1⟩)
            go_ret2
            exact ⟨by rw [HQ.out, HR.out]; rfl, hb1⟩
          · have HR := Lib.hid (show whoO s k = none by rw [HW.out, if_neg (by omega)])
            have HRI2 := HRI.out
            rw [riZ_no hv, show riB v = false from decide_eq_false hv] at HRI2
            have HRI3 := Lib.hid HRI2
            clear HRI2 hv
            go_wp2_with (go_at_call 136; refine (HRI3.out _).mono ?_; rintro e w1 ⟨rfl, hb1⟩)
            go_ret2
            exact ⟨by rw [HQ.out, HR.out]; rfl, hb1⟩
        · have d1 : decide ((1 : Int) < (F.size : Int)) = false := decide_eq_false (by have := HFS.out; omega)
          have HZ := Lib.hid (show bt s k = 48 → q = k + 1 from fun _ => by omega)
          have dq : decide ((q : Int) < (s.size : Int)) = true := decide_eq_true (by omega)
          have hbq := Lib.hid (bt_eq s q hqs)
          by_cases c46 : s[q].toNat = 46
          · have x46 : ((s[q].toNat : Int) == 46) = true := by rw [c46]; rfl
            have HB := Lib.hid (show stopB s q = true by rw [stopB, hbq.out, c46, decide_eq_true hqs]; rfl)
            clear c46
            go_wp2
            go_ret2
            exact ⟨by rw [HQ.out, who_bad HWF.out HF.out.ends (.inr (.inr HB.out))]; rfl, Below.refl _ _⟩
          have x46 : ((s[q].toNat : Int) == 46) = false := by rw [beq_eq_false_iff_ne]; omega
          by_cases c101 : s[q].toNat = 101
          · have x101 : ((s[q].toNat : Int) == 101) = true := by rw [c101]; rfl
            have HB := Lib.hid (show stopB s q = true by rw [stopB, hbq.out, c101, decide_eq_true hqs]; rfl)
            clear c101
            go_wp2
            go_ret2
            exact ⟨by rw [HQ.out, who_bad HWF.out HF.out.ends (.inr (.inr HB.out))]; rfl, Below.refl _ _⟩
          have x101 : ((s[q].toNat : Int) == 101) = false := by rw [beq_eq_false_iff_ne]; omega
          by_cases c69 : s[q].toNat = 69
          · have x69 : ((s[q].toNat : Int) == 69) = true := by rw [c69]; rfl
            have HB := Lib.hid (show stopB s q = true by rw [stopB, hbq.out, c69, decide_eq_true hqs]; rfl)
            clear c69
            go_wp2
            go_ret2
            exact ⟨by rw [HQ.out, who_bad HWF.out HF.out.ends (.inr (.inr HB.out))]; rfl, Below.refl _ _⟩
          have x69 : ((s[q].toNat : Int) == 69) = false := by rw [beq_eq_false_iff_ne]; omega
          have HST := Lib.hid (show ¬ (q = k ∨ (bt s k = 48 ∧ k + 1 < q) ∨ stopB s q = true) by
            rintro (h | ⟨h1, h2⟩ | h)
            · exact e0 h
            · have := HZ.out h1; omega
            · simp [stopB, hbq.out, c46, c101, c69] at h)
          clear c46 c101 c69
          have hcan := Lib.hid (show Canon F.data.toList by rw [HF.out.list]; exact figs_canon HF.out.ends (by omega) HZ.out)
          have HW := Lib.hid (who_pos HWF.out HF.out.ends HST.out H45.out)
          rw [← HF.out.list] at HW
          have HRI := Lib.hid (fun w0 => sReadInt F w0 hcan.out)
          generalize hv : valFrom 0 F.data.toList = v at HW HRI
          clear hv
          by_cases hv : v ≤ 9223372036854775807
          · have HR := Lib.hid (show whoO s k = some (((v : Nat) : Int), q) by rw [HW.out, if_pos (by omega)])
            have HRI2 := HRI.out
            rw [riZ_yes hv, show riB v = true from decide_eq_true hv] at HRI2
            have HRI3 := Lib.hid HRI2
            clear HRI2 hv
            go_wp2_with (go_at_call 136; refine (HRI3.out _).mono ?_; rintro e w1 ⟨rfl, hb1⟩)
            go_ret2
            exact ⟨by rw [HQ.out, HR.out]; rfl, hb1⟩
          · have HR := Lib.hid (show whoO s k = none by rw [HW.out, if_neg (by omega)])
            have HRI2 := HRI.out
            rw [riZ_no hv, show riB v = false from decide_eq_false hv] at HRI2
            have HRI3 := Lib.hid HRI2
            clear HRI2 hv
            go_wp2_with (go_at_call 136; refine (HRI3.out _).mono ?_; rintro e w1 ⟨rfl, hb1⟩)
            go_ret2
            exact ⟨by rw [HQ.out, HR.out]; rfl, hb1⟩
    · have hqe : q = s.size := by omega
      subst hqe
      clear hqs
      have HEN := Lib.hid (show Ends s k s.size from ⟨hfq, Nat.le_refl _, hall, fun h => absurd h (by omega)⟩)
      have hx1 : (0 : Int) ≤ (k : Int) := by omega
      have hx2 : (k : Int) ≤ (s.size : Int) := by omega
      clear hall
      go_upto_region 11 with fail
      generalize hF : s.extract k s.size = F
      have HF := Lib.hid (show Fig s k s.size F by rw [← hF]; exact Fig.mk' HEN.out)
      clear hF hx1 hx2
      have HFS := Lib.hid HF.out.size
      by_cases e0 : s.size = k
      · have he : F.toList.isEmpty = true := by rw [fig_empty HF.out]; exact decide_eq_true e0
        have HE0 := Lib.hid e0
        clear e0
        go_wp2
        go_ret2
        exact ⟨by rw [HQ.out, who_bad HWF.out HF.out.ends (.inl HE0.out)]; rfl, Below.refl _ _⟩
      have he : F.toList.isEmpty = false := by rw [fig_empty HF.out]; exact decide_eq_false e0
      have hF0 : 0 < F.size := by have := HFS.out; omega
      have HH := Lib.hid (fig_head HF.out (by omega) hF0)
      by_cases z1 : k + 1 < s.size
      · have d1 : decide ((1 : Int) < (F.size : Int)) = true := decide_eq_true (by have := HFS.out; omega)
        by_cases z2 : F[0].toNat = 48
        · have d2 : ((F[0].toNat : Int) == 48) = true := by rw [z2]; rfl
          have HB := Lib.hid (show bt s k = 48 ∧ k + 1 < s.size from ⟨by rw [← HH.out, z2], z1⟩)
          clear z1 z2
          go_wp2
          go_ret2
          exact ⟨by rw [HQ.out, who_bad HWF.out HF.out.ends (.inr (.inl HB.out))]; rfl, Below.refl _ _⟩
        have d2 : ((F[0].toNat : Int) == 48) = false := by rw [beq_eq_false_iff_ne]; omega
        have HZ := Lib.hid (show bt s k = 48 → s.size = k + 1 from fun h => by rw [← HH.out] at h; exact absurd h z2)
        clear z2
        have dq : decide ((s.size : Int) < (s.size : Int)) = false := decide_eq_false (by omega)
        have HST := Lib.hid (show ¬ (s.size = k ∨ (bt s k = 48 ∧ k + 1 < s.size) ∨ stopB s s.size = true) by
          rintro (h | ⟨h1, h2⟩ | h)
          · exact e0 h
          · have := HZ.out h1; omega
          · rw [stopB, decide_eq_false (by omega)] at h; cases h)
        have hcan := Lib.hid (show Canon F.data.toList by rw [HF.out.list]; exact figs_canon HF.out.ends (by omega) HZ.out)
        have HW := Lib.hid (who_pos HWF.out HF.out.ends HST.out H45.out)
        rw [← HF.out.list] at HW
        have HRI := Lib.hid (fun w0 => sReadInt F w0 hcan.out)
        generalize hv : valFrom 0 F.data.toList = v at HW HRI
        clear hv
        by_cases hv : v ≤ 9223372036854775807
        · have HR := Lib.hid (show whoO s k = some (((v : Nat) : Int), s.size) by rw [HW.out, if_pos (by omega)])
          have HRI2 := HRI.out
          rw [riZ_yes hv, show riB v = true from decide_eq_true hv] at HRI2
          have HRI3 := Lib.hid HRI2
          clear HRI2 hv
          go_wp2_with (go_at_call 136; refine (HRI3.out _).mono ?_; rintro e w1 ⟨rfl, hb1⟩)
          go_ret2
          exact ⟨by rw [HQ.out, HR.out]; rfl, hb1⟩
        · have HR := Lib.hid (show whoO s k = none by rw [HW.out, if_neg (by omega)])
          have HRI2 := HRI.out
          rw [riZ_no hv, show riB v = false from decide_eq_false hv] at HRI2
          have HRI3 := Lib.hid HRI2
          clear HRI2 hv
          go_wp2_with (go_at_call 136; refine (HRI3.out _).mono ?_; rintro e w1 ⟨rfl, hb1⟩)
          go_ret2
          exact ⟨by rw [HQ.out, HR.out]; rfl, hb1⟩
      · have d1 : decide ((1 : Int) < (F.size : Int)) = false := decide_eq_false (by have := HFS.out; omega)
        have HZ := Lib.hid (show bt s k = 48 → s.size = k + 1 from fun _ => by omega)
        have dq : decide ((s.size : Int) < (s.size : Int)) = false := decide_eq_false (by omega)
        have HST := Lib.hid (show ¬ (s.size = k ∨ (bt s k = 48 ∧ k + 1 < s.size) ∨ stopB s s.size = true) by
          rintro (h | ⟨h1, h2⟩ | h)
          · exact e0 h
          · have := HZ.out h1; omega
          · rw [stopB, decide_eq_false (by omega)] at h; cases h)
        have hcan := Lib.hid (show Canon F.data.toList by rw [HF.out.list]; exact figs_canon HF.out.ends (by omega) HZ.out)
        have HW := Lib.hid (who_pos HWF.out HF.out.ends HST.out H45.out)
        rw [← HF.out.list] at HW
        have HRI := Lib.hid (fun w0 => sReadInt F w0 hcan.out)
        generalize hv : valFrom 0 F.data.toList = v at HW HRI
        clear hv
        by_cases hv : v ≤ 9223372036854775807
        · have HR := Lib.hid (show whoO s k = some (((v : Nat) : Int), s.size) by rw [HW.out, if_pos (by omega)])
          have HRI2 := HRI.out
          rw [riZ_yes hv, show riB v = true from decide_eq_true hv] at HRI2
          have HRI3 := Lib.hid HRI2
          clear HRI2 hv
          go_wp2_with (go_at_call 136; refine (HRI3.out _).mono ?_; rintro e w1 ⟨rfl, hb1⟩)
          go_ret2
          exact ⟨by rw [HQ.out, HR.out]; rfl, hb1⟩
        · have HR := Lib.hid (show whoO s k = none by rw [HW.out, if_neg (by omega)])
          have HRI2 := HRI.out
          rw [riZ_no hv, show riB v = false from decide_eq_false hv] at HRI2
          have HRI3 := Lib.hid HRI2
          clear HRI2 hv
          go_wp2_with (go_at_call 136; refine (HRI3.out _).mono ?_; rintro e w1 ⟨rfl, hb1⟩)
          go_ret2
          exact ⟨by rw [HQ.out, HR.out]; rfl, hb1⟩

theorem sReadWhole (s : ByteArray) (p : Int) (w : World) (hs : s.size ≤ 1048576) :
    Calls Tryd.prog 74 #[.string s, .int .i64 p] w fun e w' => e = .returned (.tuple #[.int .i64 (whoN (whoQ s p)), .int .i64 (whoE (whoQ s p))]) ∧ Below w.heap.size w w' := by
  cases hbt : betweenB p 0 ((s.size : Int) - 1)
  · have H := Lib.hid (who_out (s := s) (p := p) (by simp [betweenB] at hbt; omega))
    go_enter Tryd.func74, Tryd.ntmps74
    go_wp2_with (go_at_call 71; refine (l01In_any _ _ _ _).mono ?_; rintro e w' ⟨rfl, rfl⟩)
    go_ret2
    exact ⟨by rw [H.out]; rfl, Below.refl _ _⟩
  have hr : 0 ≤ p ∧ p < s.size := by simp [betweenB] at hbt; omega
  obtain ⟨k, rfl⟩ := Int.eq_ofNat_of_zero_le hr.1
  have hk : k < s.size := by omega
  by_cases c0 : s[k].toNat = 45
  · exact sReadWholeNeg s k w hs hk c0
  · exact sReadWholePos s k w hs hk c0

end Go.Proofs.YtpcojfcbomkgpaaDoor
