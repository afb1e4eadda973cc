/- WhoI, WhoL, PlainI, PlainJ, PlainL, merged. -/
import Derived.Test.YtclffhejoneiaaaGreatDoorWhoU
import Derived.Test.YtclffhejoneiaaaGreatDoorRqM
import Derived.WalkSmall
import Derived.Lib.LaidU8
import Derived.ProofKit
import Derived.Test.YtclffhejoneiaaaGreatDoorPlainT
import Derived.Lib.IndexAny
namespace Go.Proofs.YtclffhejoneiaaaGreatDoor
open Go.RowKit

def stopL : ByteArray := ⟨#[46, 101, 69]⟩
theorem stop_none (c : UInt8) (h : c.toNat ≠ 46 ∧ c.toNat ≠ 101 ∧ c.toNat ≠ 69) : Lib.indexByte stopL.data.toList c = -1 :=
  u8_all (P := fun c => (c.toNat ≠ 46 ∧ c.toNat ≠ 101 ∧ c.toNat ≠ 69) → Lib.indexByte stopL.data.toList c = -1) (by decide +kernel) c h
theorem stop_at (c : UInt8) (b : Nat) (h : c.toNat = b) (i : Int) (hi : Lib.indexByte stopL.data.toList (UInt8.ofNat b) = i) : Lib.indexByte stopL.data.toList c = i := by
  have : c = UInt8.ofNat b := by rw [← h]; simp
  rw [this, hi]
theorem iStop (c : UInt8) (w0 : World) : Calls Tryz.prog 50 #[.string stopL, .int .u8 (c.toNat : Int)] w0 fun e w' => e = .returned (.int .i64 (Lib.indexByte stopL.data.toList c)) ∧ w0 = w' := by
  refine (Tryz.strings_IndexByte stopL (c.toNat : Int) w0).mono fun e w' ⟨h1, h2⟩ => ⟨by simpa using h1, h2.symm⟩

/-- strconv.ErrRange holds some error. -/
def Errs (w : World) : Prop := ∃ tp pv, w.var? Tryz.prog "strconv.ErrRange" = some #[.iface tp pv]
theorem errs_keep {w w' : World} (h : Errs w) (hb : Below w.heap.size w w') : Errs w' := by
  obtain ⟨tp, pv, h⟩ := h
  refine ⟨tp, pv, ?_⟩
  unfold World.var? at h ⊢
  cases hg : Tryz.prog.globalNamed "strconv.ErrRange" with
  | none => simp [hg] at h
  | some g =>
    simp only [hg, Option.bind_some] at h ⊢
    have hlt : g < w.heap.size := by
      rcases Nat.lt_or_ge g w.heap.size with h' | h'
      · exact h'
      · simp [Array.getElem?_eq_none h'] at h
    rw [hb.block g hlt]
    exact h
theorem iAtoiOk (t : ByteArray) (v : Int) (w : World) (hs : t.size ≤ 1048576) (h : Lib.atoiAll t.data.toList = .ok v) : Calls Tryz.prog 51 #[.string t] w fun e w' => e = .returned (.tuple #[.int .i64 v, .nilIface]) ∧ Below w.heap.size w w' := by
  refine (Tryz.strconv_Atoi_ok t (by omega) v h w).mono fun e w' ⟨h1, h2⟩ => ⟨h1, ?_⟩
  rcases h2 with rfl | ⟨u, rfl⟩
  · exact Below.refl _ _
  · exact ⟨rfl, rfl, rfl, by rw [Lib.bytesWorld_size]; omega, fun k hk => Lib.bytesWorld_at_old _ _ _ _ hk⟩
theorem iAtoiRange (t : ByteArray) (w : World) (hs : t.size ≤ 1048576) (h : Lib.atoiAll t.data.toList = .range) (hE : Errs w) :
    Calls Tryz.prog 51 #[.string t] w fun e w' => ∃ N : Nat, e = .returned (.tuple #[.int .i64 (Lib.atoiSat t.data.toList), .iface 80 (.pointer (some ⟨N, 0, none⟩))]) ∧ Below w.heap.size w w' := by
  obtain ⟨tp, pv, hE⟩ := hE
  refine (Tryz.strconv_Atoi_range_var t (by omega) h tp pv w hE).mono fun e w' h => ?_
  obtain ⟨N, h1, -, -, h4⟩ := h
  exact ⟨N, h1, h4⟩
theorem minus_list {s : ByteArray} {k q : Nat} (hk : k < s.size) (h1 : k + 1 ≤ q) (_h2 : q ≤ s.size) (h45 : bt s k = 45) : (s.extract k q).data.toList = 45 :: figs s (k + 1) q := by
  unfold figs
  rw [Lib.extract_data, Lib.extract_data]
  have hb := bt_eq s k hk
  have h3 : s[k] = 45 := UInt8.toNat_inj.1 (by rw [← hb, h45]; rfl)
  have h4 : s.data.toList.drop k = s[k] :: s.data.toList.drop (k + 1) := by
    rw [List.drop_eq_getElem_cons (by simpa using hk)]; rfl
  rw [h4, h3]
  have h5 : q - k = (q - (k + 1)) + 1 := by omega
  rw [h5, List.take_succ_cons]

set_option maxHeartbeats 4000000 in
set_option maxRecDepth 100000 in
theorem iReadWholeNeg (s : ByteArray) (k : Nat) (w : World) (hs : s.size ≤ 1048576) (hk : k < s.size) (c0 : s[k].toNat = 45) (hE : Errs w) :
    Calls Tryz.prog 23 #[.string s, .int .i64 (k : Int)] w fun e w' => e = .returned (.tuple #[.int .i64 (whoN (whoQ s (k : Int))), .int .i64 (whoE (whoQ s (k : Int)))]) ∧ Below w.heap.size w w' := by
  have HERR := Lib.hid hE; clear hE
  have hk0 : decide ((k : Int) < 0) = false := decide_eq_false (by omega)
  have hk1 : decide (s.size ≤ k) = false := decide_eq_false (by omega)
  have HQ := Lib.hid (who_in hk)
  have hbk := bt_eq s k hk
  have n0 : ((s[k].toNat : Int) == 45) = true := by rw [c0]; rfl
  have H45 := Lib.hid (show bt s k = 45 by omega)
  have HWF := Lib.hid (show whoFrom s k = (k + 1) from if_pos H45.out)
  clear c0 hbk
  go_enter Tryz.func23, Tryz.ntmps23
  go_wp2
  go_loop [6] (fun i => ∃ q : Nat, (k + 1) ≤ q ∧ q ≤ s.size ∧ i = .int .i64 (q : Int) ∧ ∀ i, (k + 1) ≤ i → i < q → dgAt s i = true) (fun i => s.size - (intOf i).toNat)
  case atStart => exact ⟨(k + 1), by omega, by omega, by go_num, fun i h1 h2 => by omega⟩
  case round =>
    obtain ⟨q, hfq, hq, rfl, hall⟩ := hrel
    by_cases hqs : q < s.size
    · have hbq0 := bt_eq s q hqs
      cases hdb : digitB (s[q].toNat : Int)
      · have hnd : dgAt s q = false := by
          cases h : dgAt s q
          · rfl
          · have := dgAt_iff.1 h; simp [digitB] at hdb; omega
        clear hbq0
        go_upto_region 9 with (first | (go_at_call 49; refine (isDigit_any _ _).mono ?_; rintro e w' ⟨rfl, rfl⟩))
        have HEN := Lib.hid (show Ends s (k + 1) q from ⟨hfq, hq, hall, fun _ => hnd⟩)
        clear hall
        by_cases e0 : q = (k + 1)
        · have he : ((q : Int) == (k : Int) + 1) = true := by rw [beq_iff_eq]; omega
          have HE0 := Lib.hid e0
          clear e0
          go_wp2
          go_ret2
          exact ⟨by rw [HQ.out, who_bad HWF.out HEN.out (.inl HE0.out)]; rfl, Below.refl _ _⟩
        have he : ((q : Int) == (k : Int) + 1) = false := by rw [beq_eq_false_iff_ne]; omega
        have hfs : (k + 1) < s.size := by omega
        have HH := Lib.hid (bt_eq s (k + 1) hfs)
        by_cases z2 : s[(k + 1)].toNat = 48
        · have d2 : ((s[(k + 1)].toNat : Int) == 48) = true := by rw [z2]; rfl
          by_cases z1 : (k + 1) + 1 < q
          · have d1 : (k : Int) + 1 + 1 < (q : Int) := by omega
            have HB := Lib.hid (show bt s (k + 1) = 48 ∧ (k + 1) + 1 < q from ⟨by rw [HH.out, z2], z1⟩)
            clear z1 z2
            go_wp2
            go_ret2
            exact ⟨by rw [HQ.out, who_bad HWF.out HEN.out (.inr (.inl HB.out))]; rfl, Below.refl _ _⟩
          have d1 : decide ((k : Int) + 1 + 1 < (q : Int)) = false := decide_eq_false (by omega)
          have HZ := Lib.hid (show bt s (k + 1) = 48 → q = (k + 1) + 1 from fun _ => by omega)
          clear z2
          have dq : decide ((q : Int) < (s.size : Int)) = true := decide_eq_true (by omega)
          have hbq := Lib.hid (bt_eq s q hqs)
          have hix := iStop s[q]
          by_cases c46 : s[q].toNat = 46
          · have HB := Lib.hid (show stopB s q = true by rw [stopB, hbq.out, c46, decide_eq_true hqs]; rfl)
            rw [stop_at s[q] 46 c46 0 rfl] at hix
            have HIX := Lib.hid hix
            clear c46 hix
            go_wp2_with (go_at_call 50; refine (HIX.out _).mono ?_; rintro e w' ⟨rfl, rfl⟩)
            go_ret2
            exact ⟨by rw [HQ.out, who_bad HWF.out HEN.out (.inr (.inr HB.out))]; rfl, Below.refl _ _⟩
          by_cases c101 : s[q].toNat = 101
          · have HB := Lib.hid (show stopB s q = true by rw [stopB, hbq.out, c101, decide_eq_true hqs]; rfl)
            rw [stop_at s[q] 101 c101 1 rfl] at hix
            have HIX := Lib.hid hix
            clear c101 hix
            go_wp2_with (go_at_call 50; refine (HIX.out _).mono ?_; rintro e w' ⟨rfl, rfl⟩)
            go_ret2
            exact ⟨by rw [HQ.out, who_bad HWF.out HEN.out (.inr (.inr HB.out))]; rfl, Below.refl _ _⟩
          by_cases c69 : s[q].toNat = 69
          · have HB := Lib.hid (show stopB s q = true by rw [stopB, hbq.out, c69, decide_eq_true hqs]; rfl)
            rw [stop_at s[q] 69 c69 2 rfl] at hix
            have HIX := Lib.hid hix
            clear c69 hix
            go_wp2_with (go_at_call 50; refine (HIX.out _).mono ?_; rintro e w' ⟨rfl, rfl⟩)
            go_ret2
            exact ⟨by rw [HQ.out, who_bad HWF.out HEN.out (.inr (.inr HB.out))]; rfl, Below.refl _ _⟩
          have HST := Lib.hid (show ¬ (q = (k + 1) ∨ (bt s (k + 1) = 48 ∧ (k + 1) + 1 < q) ∨ stopB s q = true) by
            rintro (h | ⟨h1, h2⟩ | h)
            · exact e0 h
            · have := HZ.out h1; omega
            · simp [stopB, hbq.out, c46, c101, c69] at h)
          rw [stop_none s[q] ⟨c46, c101, c69⟩] at hix
          have HIX := Lib.hid hix
          clear c46 c101 c69 hix
          have hcan := Lib.hid (show Canon (figs s (k + 1) q) from figs_canon HEN.out (by omega) HZ.out)
          have HW := Lib.hid (who_neg HWF.out HEN.out HST.out H45.out)
          have HAA := Lib.hid (atoi_minus hcan.out)
          rw [← minus_list hk (by omega) HEN.out.top H45.out] at HAA
          generalize hv : valFrom 0 (figs s (k + 1) q) = v at HW HAA
          clear hv
          have hx1 : (0 : Int) ≤ (k : Int) := by omega
          have hx2 : (k : Int) ≤ (q : Int) := by omega
          have hx3 : (q : Int) ≤ (s.size : Int) := by omega
          by_cases hv : v ≤ 9223372036854775808
          · have HR := Lib.hid (show whoO s k = some (-((v : Nat) : Int), q) by rw [HW.out, if_pos hv])
            have HAT := Lib.hid (fun w0 => iAtoiOk (s.extract k q) (-((v : Nat) : Int)) w0 (by rw [ByteArray.size_extract]; omega) (by have h := HAA.out; rw [if_pos hv] at h; exact h))
            clear hv
            go_wp2_with (first | (go_at_call 50; refine (HIX.out _).mono ?_; rintro e w' ⟨rfl, rfl⟩) | (go_at_call 51; refine (HAT.out _).mono ?_; rintro e w1 ⟨rfl, hb1⟩))
            go_ret2
            exact ⟨by rw [HQ.out, HR.out]; rfl, hb1⟩
          · have HR := Lib.hid (show whoO s k = none by rw [HW.out, if_neg hv])
            have HAT := Lib.hid (fun w0 hE => iAtoiRange (s.extract k q) w0 (by rw [ByteArray.size_extract]; omega) (by have h := HAA.out; rw [if_neg hv] at h; exact h) hE)
            clear hv
            go_wp2_with (first | (go_at_call 50; refine (HIX.out _).mono ?_; rintro e w' ⟨rfl, rfl⟩) | (go_at_call 51; refine (HAT.out _ HERR.out).mono ?_; rintro e w1 ⟨N, rfl, hb1⟩))
            go_ret2
            exact ⟨by rw [HQ.out, HR.out]; rfl, hb1⟩
        · have d2 : ((s[(k + 1)].toNat : Int) == 48) = false := by rw [beq_eq_false_iff_ne]; omega
          have HZ := Lib.hid (show bt s (k + 1) = 48 → q = (k + 1) + 1 from fun h => by rw [HH.out] at h; exact absurd h z2)
          clear z2
          have dq : decide ((q : Int) < (s.size : Int)) = true := decide_eq_true (by omega)
          have hbq := Lib.hid (bt_eq s q hqs)
          have hix := iStop s[q]
          by_cases c46 : s[q].toNat = 46
          · have HB := Lib.hid (show stopB s q = true by rw [stopB, hbq.out, c46, decide_eq_true hqs]; rfl)
            rw [stop_at s[q] 46 c46 0 rfl] at hix
            have HIX := Lib.hid hix
            clear c46 hix
            go_wp2_with (go_at_call 50; refine (HIX.out _).mono ?_; rintro e w' ⟨rfl, rfl⟩)
            go_ret2
            exact ⟨by rw [HQ.out, who_bad HWF.out HEN.out (.inr (.inr HB.out))]; rfl, Below.refl _ _⟩
          by_cases c101 : s[q].toNat = 101
          · have HB := Lib.hid (show stopB s q = true by rw [stopB, hbq.out, c101, decide_eq_true hqs]; rfl)
            rw [stop_at s[q] 101 c101 1 rfl] at hix
            have HIX := Lib.hid hix
            clear c101 hix
            go_wp2_with (go_at_call 50; refine (HIX.out _).mono ?_; rintro e w' ⟨rfl, rfl⟩)
            go_ret2
            exact ⟨by rw [HQ.out, who_bad HWF.out HEN.out (.inr (.inr HB.out))]; rfl, Below.refl _ _⟩
          by_cases c69 : s[q].toNat = 69
          · have HB := Lib.hid (show stopB s q = true by rw [stopB, hbq.out, c69, decide_eq_true hqs]; rfl)
            rw [stop_at s[q] 69 c69 2 rfl] at hix
            have HIX := Lib.hid hix
            clear c69 hix
            go_wp2_with (go_at_call 50; refine (HIX.out _).mono ?_; rintro e w' ⟨rfl, rfl⟩)
            go_ret2
            exact ⟨by rw [HQ.out, who_bad HWF.out HEN.out (.inr (.inr HB.out))]; rfl, Below.refl _ _⟩
          have HST := Lib.hid (show ¬ (q = (k + 1) ∨ (bt s (k + 1) = 48 ∧ (k + 1) + 1 < q) ∨ stopB s q = true) by
            rintro (h | ⟨h1, h2⟩ | h)
            · exact e0 h
            · have := HZ.out h1; omega
            · simp [stopB, hbq.out, c46, c101, c69] at h)
          rw [stop_none s[q] ⟨c46, c101, c69⟩] at hix
          have HIX := Lib.hid hix
          clear c46 c101 c69 hix
          have hcan := Lib.hid (show Canon (figs s (k + 1) q) from figs_canon HEN.out (by omega) HZ.out)
          have HW := Lib.hid (who_neg HWF.out HEN.out HST.out H45.out)
          have HAA := Lib.hid (atoi_minus hcan.out)
          rw [← minus_list hk (by omega) HEN.out.top H45.out] at HAA
          generalize hv : valFrom 0 (figs s (k + 1) q) = v at HW HAA
          clear hv
          have hx1 : (0 : Int) ≤ (k : Int) := by omega
          have hx2 : (k : Int) ≤ (q : Int) := by omega
          have hx3 : (q : Int) ≤ (s.size : Int) := by omega
          by_cases hv : v ≤ 9223372036854775808
          · have HR := Lib.hid (show whoO s k = some (-((v : Nat) : Int), q) by rw [HW.out, if_pos hv])
            have HAT := Lib.hid (fun w0 => iAtoiOk (s.extract k q) (-((v : Nat) : Int)) w0 (by rw [ByteArray.size_extract]; omega) (by have h := HAA.out; rw [if_pos hv] at h; exact h))
            clear hv
            go_wp2_with (first | (go_at_call 50; refine (HIX.out _).mono ?_; rintro e w' ⟨rfl, rfl⟩) | (go_at_call 51; refine (HAT.out _).mono ?_; rintro e w1 ⟨rfl, hb1⟩))
            go_ret2
            exact ⟨by rw [HQ.out, HR.out]; rfl, hb1⟩
          · have HR := Lib.hid (show whoO s k = none by rw [HW.out, if_neg hv])
            have HAT := Lib.hid (fun w0 hE => iAtoiRange (s.extract k q) w0 (by rw [ByteArray.size_extract]; omega) (by have h := HAA.out; rw [if_neg hv] at h; exact h) hE)
            clear hv
            go_wp2_with (first | (go_at_call 50; refine (HIX.out _).mono ?_; rintro e w' ⟨rfl, rfl⟩) | (go_at_call 51; refine (HAT.out _ HERR.out).mono ?_; rintro e w1 ⟨N, rfl, hb1⟩))
            go_ret2
            exact ⟨by rw [HQ.out, HR.out]; rfl, hb1⟩
      · have hyd : dgAt s q = true := dgAt_iff.2 (by simp [digitB] at hdb; omega)
        have HALL := Lib.hid (show ∀ i, (k + 1) ≤ i → i < q + 1 → dgAt s i = true from fun i h1 h2 => by
          rcases Nat.lt_or_ge i q with h | h
          · exact hall i h1 h
          · obtain rfl : i = q := by omega
            exact hyd)
        clear hall hyd hbq0
        go_wp2_with (go_at_call 49; refine (isDigit_any _ _).mono ?_; rintro e w' ⟨rfl, rfl⟩)
        go_round
        case rel => first | exact ⟨q + 1, by omega, by omega, by go_num, HALL.out⟩ | exact ⟨trivial, _, _, _, _, _, _, _, _, _, _, _, _, _, ⟨q + 1, by omega, by omega, by go_num, HALL.out⟩, rfl⟩
        case measure => simp [intOf]; omega
    · have hqe : q = s.size := by omega
      subst hqe
      clear hqs
      go_upto_region 9 with fail
      have HEN := Lib.hid (show Ends s (k + 1) s.size from ⟨hfq, Nat.le_refl _, hall, fun h => absurd h (by omega)⟩)
      clear hall
      by_cases e0 : s.size = (k + 1)
      · have he : ((s.size : Int) == (k : Int) + 1) = true := by rw [beq_iff_eq]; omega
        have HE0 := Lib.hid e0
        clear e0
        go_wp2
        go_ret2
        exact ⟨by rw [HQ.out, who_bad HWF.out HEN.out (.inl HE0.out)]; rfl, Below.refl _ _⟩
      have he : ((s.size : Int) == (k : Int) + 1) = false := by rw [beq_eq_false_iff_ne]; omega
      have hfs : (k + 1) < s.size := by omega
      have HH := Lib.hid (bt_eq s (k + 1) hfs)
      by_cases z2 : s[(k + 1)].toNat = 48
      · have d2 : ((s[(k + 1)].toNat : Int) == 48) = true := by rw [z2]; rfl
        by_cases z1 : (k + 1) + 1 < s.size
        · have d1 : (k : Int) + 1 + 1 < (s.size : Int) := by omega
          have HB := Lib.hid (show bt s (k + 1) = 48 ∧ (k + 1) + 1 < s.size from ⟨by rw [HH.out, z2], z1⟩)
          clear z1 z2
          go_wp2
          go_ret2
          exact ⟨by rw [HQ.out, who_bad HWF.out HEN.out (.inr (.inl HB.out))]; rfl, Below.refl _ _⟩
        have d1 : decide ((k : Int) + 1 + 1 < (s.size : Int)) = false := decide_eq_false (by omega)
        have HZ := Lib.hid (show bt s (k + 1) = 48 → s.size = (k + 1) + 1 from fun _ => by omega)
        clear z2
        have dq : decide ((s.size : Int) < (s.size : Int)) = false := decide_eq_false (by omega)
        have HST := Lib.hid (show ¬ (s.size = (k + 1) ∨ (bt s (k + 1) = 48 ∧ (k + 1) + 1 < s.size) ∨ stopB s s.size = true) by
          rintro (h | ⟨h1, h2⟩ | h)
          · exact e0 h
          · have := HZ.out h1; omega
          · rw [stopB, decide_eq_false (by omega)] at h; cases h)
        have hcan := Lib.hid (show Canon (figs s (k + 1) s.size) from figs_canon HEN.out (by omega) HZ.out)
        have HW := Lib.hid (who_neg HWF.out HEN.out HST.out H45.out)
        have HAA := Lib.hid (atoi_minus hcan.out)
        rw [← minus_list hk (by omega) HEN.out.top H45.out] at HAA
        generalize hv : valFrom 0 (figs s (k + 1) s.size) = v at HW HAA
        clear hv
        have hx1 : (0 : Int) ≤ (k : Int) := by omega
        have hx2 : (k : Int) ≤ (s.size : Int) := by omega
        have hx3 : (s.size : Int) ≤ (s.size : Int) := by omega
        by_cases hv : v ≤ 9223372036854775808
        · have HR := Lib.hid (show whoO s k = some (-((v : Nat) : Int), s.size) by rw [HW.out, if_pos hv])
          have HAT := Lib.hid (fun w0 => iAtoiOk (s.extract k s.size) (-((v : Nat) : Int)) w0 (by rw [ByteArray.size_extract]; omega) (by have h := HAA.out; rw [if_pos hv] at h; exact h))
          clear hv
          go_wp2_with (first | (go_at_call 51; refine (HAT.out _).mono ?_; rintro e w1 ⟨rfl, hb1⟩))
          go_ret2
          exact ⟨by rw [HQ.out, HR.out]; rfl, hb1⟩
        · have HR := Lib.hid (show whoO s k = none by rw [HW.out, if_neg hv])
          have HAT := Lib.hid (fun w0 hE => iAtoiRange (s.extract k s.size) w0 (by rw [ByteArray.size_extract]; omega) (by have h := HAA.out; rw [if_neg hv] at h; exact h) hE)
          clear hv
          go_wp2_with (first | (go_at_call 51; refine (HAT.out _ HERR.out).mono ?_; rintro e w1 ⟨N, rfl, hb1⟩))
          go_ret2
          exact ⟨by rw [HQ.out, HR.out]; rfl, hb1⟩
      · have d2 : ((s[(k + 1)].toNat : Int) == 48) = false := by rw [beq_eq_false_iff_ne]; omega
        have HZ := Lib.hid (show bt s (k + 1) = 48 → s.size = (k + 1) + 1 from fun h => by rw [HH.out] at h; exact absurd h z2)
        clear z2
        have dq : decide ((s.size : Int) < (s.size : Int)) = false := decide_eq_false (by omega)
        have HST := Lib.hid (show ¬ (s.size = (k + 1) ∨ (bt s (k + 1) = 48 ∧ (k + 1) + 1 < s.size) ∨ stopB s s.size = true) by
          rintro (h | ⟨h1, h2⟩ | h)
          · exact e0 h
          · have := HZ.out h1; omega
          · rw [stopB, decide_eq_false (by omega)] at h; cases h)
        have hcan := Lib.hid (show Canon (figs s (k + 1) s.size) from figs_canon HEN.out (by omega) HZ.out)
        have HW := Lib.hid (who_neg HWF.out HEN.out HST.out H45.out)
        have HAA := Lib.hid (atoi_minus hcan.out)
        rw [← minus_list hk (by omega) HEN.out.top H45.out] at HAA
        generalize hv : valFrom 0 (figs s (k + 1) s.size) = v at HW HAA
        clear hv
        have hx1 : (0 : Int) ≤ (k : Int) := by omega
        have hx2 : (k : Int) ≤ (s.size : Int) := by omega
        have hx3 : (s.size : Int) ≤ (s.size : Int) := by omega
        by_cases hv : v ≤ 9223372036854775808
        · have HR := Lib.hid (show whoO s k = some (-((v : Nat) : Int), s.size) by rw [HW.out, if_pos hv])
          have HAT := Lib.hid (fun w0 => iAtoiOk (s.extract k s.size) (-((v : Nat) : Int)) w0 (by rw [ByteArray.size_extract]; omega) (by have h := HAA.out; rw [if_pos hv] at h; exact h))
          clear hv
          go_wp2_with (first | (go_at_call 51; refine (HAT.out _).mono ?_; rintro e w1 ⟨rfl, hb1⟩))
          go_ret2
          exact ⟨by rw [HQ.out, HR.out]; rfl, hb1⟩
        · have HR := Lib.hid (show whoO s k = none by rw [HW.out, if_neg hv])
          have HAT := Lib.hid (fun w0 hE => iAtoiRange (s.extract k s.size) w0 (by rw [ByteArray.size_extract]; omega) (by have h := HAA.out; rw [if_neg hv] at h; exact h) hE)
          clear hv
          go_wp2_with (first | (go_at_call 51; refine (HAT.out _ HERR.out).mono ?_; rintro e w1 ⟨N, rfl, hb1⟩))
          go_ret2
          exact ⟨by rw [HQ.out, HR.out]; rfl, hb1⟩

set_option maxHeartbeats 4000000 in
set_option maxRecDepth 100000 in
theorem iReadWholePos (s : ByteArray) (k : Nat) (w : World) (hs : s.size ≤ 1048576) (hk : k < s.size) (c0 : s[k].toNat ≠ 45) (hE : Errs w) :
    Calls Tryz.prog 23 #[.string s, .int .i64 (k : Int)] w fun e w' => e = .returned (.tuple #[.int .i64 (whoN (whoQ s (k : Int))), .int .i64 (whoE (whoQ s (k : Int)))]) ∧ Below w.heap.size w w' := by
  have HERR := Lib.hid hE; clear hE
  have hk0 : decide ((k : Int) < 0) = false := decide_eq_false (by omega)
  have hk1 : decide (s.size ≤ k) = false := decide_eq_false (by omega)
  have HQ := Lib.hid (who_in hk)
  have hbk := bt_eq s k hk
  have n0 : ((s[k].toNat : Int) == 45) = false := by rw [beq_eq_false_iff_ne]; omega
  have H45 := Lib.hid (show bt s k ≠ 45 by omega)
  have HWF := Lib.hid (show whoFrom s k = k from if_neg H45.out)
  clear c0 hbk
  go_enter Tryz.func23, Tryz.ntmps23
  go_wp2
  go_loop [6] (fun i => ∃ q : Nat, k ≤ q ∧ q ≤ s.size ∧ i = .int .i64 (q : Int) ∧ ∀ i, k ≤ i → i < q → dgAt s i = true) (fun i => s.size - (intOf i).toNat)
  case atStart => exact ⟨k, by omega, by omega, rfl, fun i h1 h2 => by omega⟩
  case round =>
    obtain ⟨q, hfq, hq, rfl, hall⟩ := hrel
    by_cases hqs : q < s.size
    · have hbq0 := bt_eq s q hqs
      cases hdb : digitB (s[q].toNat : Int)
      · have hnd : dgAt s q = false := by
          cases h : dgAt s q
          · rfl
          · have := dgAt_iff.1 h; simp [digitB] at hdb; omega
        clear hbq0
        go_upto_region 9 with (first | (go_at_call 49; refine (isDigit_any _ _).mono ?_; rintro e w' ⟨rfl, rfl⟩))
        have HEN := Lib.hid (show Ends s k q from ⟨hfq, hq, hall, fun _ => hnd⟩)
        clear hall
        by_cases e0 : q = k
        · have he : ((q : Int) == (k : Int)) = true := by rw [beq_iff_eq]; omega
          have HE0 := Lib.hid e0
          clear e0
          go_wp2
          go_ret2
          exact ⟨by rw [HQ.out, who_bad HWF.out HEN.out (.inl HE0.out)]; rfl, Below.refl _ _⟩
        have he : ((q : Int) == (k : Int)) = false := by rw [beq_eq_false_iff_ne]; omega
        have hfs : k < s.size := by omega
        have HH := Lib.hid (bt_eq s k hfs)
        by_cases z2 : s[k].toNat = 48
        · have d2 : ((s[k].toNat : Int) == 48) = true := by rw [z2]; rfl
          by_cases z1 : k + 1 < q
          · have d1 : (k : Int) + 1 < (q : Int) := by omega
            have HB := Lib.hid (show bt s k = 48 ∧ k + 1 < q from ⟨by rw [HH.out, z2], z1⟩)
            clear z1 z2
            go_wp2
            go_ret2
            exact ⟨by rw [HQ.out, who_bad HWF.out HEN.out (.inr (.inl HB.out))]; rfl, Below.refl _ _⟩
          have d1 : decide ((k : Int) + 1 < (q : Int)) = false := decide_eq_false (by omega)
          have HZ := Lib.hid (show bt s k = 48 → q = k + 1 from fun _ => by omega)
          clear z2
          have dq : decide ((q : Int) < (s.size : Int)) = true := decide_eq_true (by omega)
          have hbq := Lib.hid (bt_eq s q hqs)
          have hix := iStop s[q]
          by_cases c46 : s[q].toNat = 46
          · have HB := Lib.hid (show stopB s q = true by rw [stopB, hbq.out, c46, decide_eq_true hqs]; rfl)
            rw [stop_at s[q] 46 c46 0 rfl] at hix
            have HIX := Lib.hid hix
            clear c46 hix
            go_wp2_with (go_at_call 50; refine (HIX.out _).mono ?_; rintro e w' ⟨rfl, rfl⟩)
            go_ret2
            exact ⟨by rw [HQ.out, who_bad HWF.out HEN.out (.inr (.inr HB.out))]; rfl, Below.refl _ _⟩
          by_cases c101 : s[q].toNat = 101
          · have HB := Lib.hid (show stopB s q = true by rw [stopB, hbq.out, c101, decide_eq_true hqs]; rfl)
            rw [stop_at s[q] 101 c101 1 rfl] at hix
            have HIX := Lib.hid hix
            clear c101 hix
            go_wp2_with (go_at_call 50; refine (HIX.out _).mono ?_; rintro e w' ⟨rfl, rfl⟩)
            go_ret2
            exact ⟨by rw [HQ.out, who_bad HWF.out HEN.out (.inr (.inr HB.out))]; rfl, Below.refl _ _⟩
          by_cases c69 : s[q].toNat = 69
          · have HB := Lib.hid (show stopB s q = true by rw [stopB, hbq.out, c69, decide_eq_true hqs]; rfl)
            rw [stop_at s[q] 69 c69 2 rfl] at hix
            have HIX := Lib.hid hix
            clear c69 hix
            go_wp2_with (go_at_call 50; refine (HIX.out _).mono ?_; rintro e w' ⟨rfl, rfl⟩)
            go_ret2
            exact ⟨by rw [HQ.out, who_bad HWF.out HEN.out (.inr (.inr HB.out))]; rfl, Below.refl _ _⟩
          have HST := Lib.hid (show ¬ (q = k ∨ (bt s k = 48 ∧ k + 1 < q) ∨ stopB s q = true) by
            rintro (h | ⟨h1, h2⟩ | h)
            · exact e0 h
            · have := HZ.out h1; omega
            · simp [stopB, hbq.out, c46, c101, c69] at h)
          rw [stop_none s[q] ⟨c46, c101, c69⟩] at hix
          have HIX := Lib.hid hix
          clear c46 c101 c69 hix
          have hcan := Lib.hid (show Canon (figs s k q) from figs_canon HEN.out (by omega) HZ.out)
          have HW := Lib.hid (who_pos HWF.out HEN.out HST.out H45.out)
          have HAA := Lib.hid (atoi_plain hcan.out)
          generalize hv : valFrom 0 (figs s k q) = v at HW HAA
          clear hv
          have hx1 : (0 : Int) ≤ (k : Int) := by omega
          have hx2 : (k : Int) ≤ (q : Int) := by omega
          have hx3 : (q : Int) ≤ (s.size : Int) := by omega
          by_cases hv : v < 9223372036854775808
          · have HR := Lib.hid (show whoO s k = some (((v : Nat) : Int), q) by rw [HW.out, if_pos hv])
            have HAT := Lib.hid (fun w0 => iAtoiOk (s.extract k q) (((v : Nat) : Int)) w0 (by rw [ByteArray.size_extract]; omega) (by have h := HAA.out; rw [if_pos hv] at h; exact h))
            clear hv
            go_wp2_with (first | (go_at_call 50; refine (HIX.out _).mono ?_; rintro e w' ⟨rfl, rfl⟩) | (go_at_call 51; refine (HAT.out _).mono ?_; rintro e w1 ⟨rfl, hb1⟩))
            go_ret2
            exact ⟨by rw [HQ.out, HR.out]; rfl, hb1⟩
          · have HR := Lib.hid (show whoO s k = none by rw [HW.out, if_neg hv])
            have HAT := Lib.hid (fun w0 hE => iAtoiRange (s.extract k q) w0 (by rw [ByteArray.size_extract]; omega) (by have h := HAA.out; rw [if_neg hv] at h; exact h) hE)
            clear hv
            go_wp2_with (first | (go_at_call 50; refine (HIX.out _).mono ?_; rintro e w' ⟨rfl, rfl⟩) | (go_at_call 51; refine (HAT.out _ HERR.out).mono ?_; rintro e w1 ⟨N, rfl, hb1⟩))
            go_ret2
            exact ⟨by rw [HQ.out, HR.out]; rfl, hb1⟩
        · have d2 : ((s[k].toNat : Int) == 48) = false := by rw [beq_eq_false_iff_ne]; omega
          have HZ := Lib.hid (show bt s k = 48 → q = k + 1 from fun h => by rw [HH.out] at h; exact absurd h z2)
          clear z2
          have dq : decide ((q : Int) < (s.size : Int)) = true := decide_eq_true (by omega)
          have hbq := Lib.hid (bt_eq s q hqs)
          have hix := iStop s[q]
          by_cases c46 : s[q].toNat = 46
          · have HB := Lib.hid (show stopB s q = true by rw [stopB, hbq.out, c46, decide_eq_true hqs]; rfl)
            rw [stop_at s[q] 46 c46 0 rfl] at hix
            have HIX := Lib.hid hix
            clear c46 hix
            go_wp2_with (go_at_call 50; refine (HIX.out _).mono ?_; rintro e w' ⟨rfl, rfl⟩)
            go_ret2
            exact ⟨by rw [HQ.out, who_bad HWF.out HEN.out (.inr (.inr HB.out))]; rfl, Below.refl _ _⟩
          by_cases c101 : s[q].toNat = 101
          · have HB := Lib.hid (show stopB s q = true by rw [stopB, hbq.out, c101, decide_eq_true hqs]; rfl)
            rw [stop_at s[q] 101 c101 1 rfl] at hix
            have HIX := Lib.hid hix
            clear c101 hix
            go_wp2_with (go_at_call 50; refine (HIX.out _).mono ?_; rintro e w' ⟨rfl, rfl⟩)
            go_ret2
            exact ⟨by rw [HQ.out, who_bad HWF.out HEN.out (.inr (.inr HB.out))]; rfl, Below.refl _ _⟩
          by_cases c69 : s[q].toNat = 69
          · have HB := Lib.hid (show stopB s q = true by rw [stopB, hbq.out, c69, decide_eq_true hqs]; rfl)
            rw [stop_at s[q] 69 c69 2 rfl] at hix
            have HIX := Lib.hid hix
            clear c69 hix
            go_wp2_with (go_at_call 50; refine (HIX.out _).mono ?_; rintro e w' ⟨rfl, rfl⟩)
            go_ret2
            exact ⟨by rw [HQ.out, who_bad HWF.out HEN.out (.inr (.inr HB.out))]; rfl, Below.refl _ _⟩
          have HST := Lib.hid (show ¬ (q = k ∨ (bt s k = 48 ∧ k + 1 < q) ∨ stopB s q = true) by
            rintro (h | ⟨h1, h2⟩ | h)
            · exact e0 h
            · have := HZ.out h1; omega
            · simp [stopB, hbq.out, c46, c101, c69] at h)
          rw [stop_none s[q] ⟨c46, c101, c69⟩] at hix
          have HIX := Lib.hid hix
          clear c46 c101 c69 hix
          have hcan := Lib.hid (show Canon (figs s k q) from figs_canon HEN.out (by omega) HZ.out)
          have HW := Lib.hid (who_pos HWF.out HEN.out HST.out H45.out)
          have HAA := Lib.hid (atoi_plain hcan.out)
          generalize hv : valFrom 0 (figs s k q) = v at HW HAA
          clear hv
          have hx1 : (0 : Int) ≤ (k : Int) := by omega
          have hx2 : (k : Int) ≤ (q : Int) := by omega
          have hx3 : (q : Int) ≤ (s.size : Int) := by omega
          by_cases hv : v < 9223372036854775808
          · have HR := Lib.hid (show whoO s k = some (((v : Nat) : Int), q) by rw [HW.out, if_pos hv])
            have HAT := Lib.hid (fun w0 => iAtoiOk (s.extract k q) (((v : Nat) : Int)) w0 (by rw [ByteArray.size_extract]; omega) (by have h := HAA.out; rw [if_pos hv] at h; exact h))
            clear hv
            go_wp2_with (first | (go_at_call 50; refine (HIX.out _).mono ?_; rintro e w' ⟨rfl, rfl⟩) | (go_at_call 51; refine (HAT.out _).mono ?_; rintro e w1 ⟨rfl, hb1⟩))
            go_ret2
            exact ⟨by rw [HQ.out, HR.out]; rfl, hb1⟩
          · have HR := Lib.hid (show whoO s k = none by rw [HW.out, if_neg hv])
            have HAT := Lib.hid (fun w0 hE => iAtoiRange (s.extract k q) w0 (by rw [ByteArray.size_extract]; omega) (by have h := HAA.out; rw [if_neg hv] at h; exact h) hE)
            clear hv
            go_wp2_with (first | (go_at_call 50; refine (HIX.out _).mono ?_; rintro e w' ⟨rfl, rfl⟩) | (go_at_call 51; refine (HAT.out _ HERR.out).mono ?_; rintro e w1 ⟨N, rfl, hb1⟩))
            go_ret2
            exact ⟨by rw [HQ.out, HR.out]; rfl, hb1⟩
      · have hyd : dgAt s q = true := dgAt_iff.2 (by simp [digitB] at hdb; omega)
        have HALL := Lib.hid (show ∀ i, k ≤ i → i < q + 1 → dgAt s i = true from fun i h1 h2 => by
          rcases Nat.lt_or_ge i q with h | h
          · exact hall i h1 h
          · obtain rfl : i = q := by omega
            exact hyd)
        clear hall hyd hbq0
        go_wp2_with (go_at_call 49; refine (isDigit_any _ _).mono ?_; rintro e w' ⟨rfl, rfl⟩)
        go_round
        case rel => first | exact ⟨q + 1, by omega, by omega, by go_num, HALL.out⟩ | exact ⟨trivial, _, _, _, _, _, _, _, _, _, _, _, _, _, ⟨q + 1, by omega, by omega, by go_num, HALL.out⟩, rfl⟩
        case measure => simp [intOf]; omega
    · have hqe : q = s.size := by omega
      subst hqe
      clear hqs
      go_upto_region 9 with fail
      have HEN := Lib.hid (show Ends s k s.size from ⟨hfq, Nat.le_refl _, hall, fun h => absurd h (by omega)⟩)
      clear hall
      by_cases e0 : s.size = k
      · have he : ((s.size : Int) == (k : Int)) = true := by rw [beq_iff_eq]; omega
        have HE0 := Lib.hid e0
        clear e0
        go_wp2
        go_ret2
        exact ⟨by rw [HQ.out, who_bad HWF.out HEN.out (.inl HE0.out)]; rfl, Below.refl _ _⟩
      have he : ((s.size : Int) == (k : Int)) = false := by rw [beq_eq_false_iff_ne]; omega
      have hfs : k < s.size := by omega
      have HH := Lib.hid (bt_eq s k hfs)
      by_cases z2 : s[k].toNat = 48
      · have d2 : ((s[k].toNat : Int) == 48) = true := by rw [z2]; rfl
        by_cases z1 : k + 1 < s.size
        · have d1 : (k : Int) + 1 < (s.size : Int) := by omega
          have HB := Lib.hid (show bt s k = 48 ∧ k + 1 < s.size from ⟨by rw [HH.out, z2], z1⟩)
          clear z1 z2
          go_wp2
          go_ret2
          exact ⟨by rw [HQ.out, who_bad HWF.out HEN.out (.inr (.inl HB.out))]; rfl, Below.refl _ _⟩
        have d1 : decide ((k : Int) + 1 < (s.size : Int)) = false := decide_eq_false (by omega)
        have HZ := Lib.hid (show bt s k = 48 → s.size = k + 1 from fun _ => by omega)
        clear z2
        have dq : decide ((s.size : Int) < (s.size : Int)) = false := decide_eq_false (by omega)
        have HST := Lib.hid (show ¬ (s.size = k ∨ (bt s k = 48 ∧ k + 1 < s.size) ∨ stopB s s.size = true) by
          rintro (h | ⟨h1, h2⟩ | h)
          · exact e0 h
          · have := HZ.out h1; omega
          · rw [stopB, decide_eq_false (by omega)] at h; cases h)
        have hcan := Lib.hid (show Canon (figs s k s.size) from figs_canon HEN.out (by omega) HZ.out)
        have HW := Lib.hid (who_pos HWF.out HEN.out HST.out H45.out)
        have HAA := Lib.hid (atoi_plain hcan.out)
        generalize hv : valFrom 0 (figs s k s.size) = v at HW HAA
        clear hv
        have hx1 : (0 : Int) ≤ (k : Int) := by omega
        have hx2 : (k : Int) ≤ (s.size : Int) := by omega
        have hx3 : (s.size : Int) ≤ (s.size : Int) := by omega
        by_cases hv : v < 9223372036854775808
        · have HR := Lib.hid (show whoO s k = some (((v : Nat) : Int), s.size) by rw [HW.out, if_pos hv])
          have HAT := Lib.hid (fun w0 => iAtoiOk (s.extract k s.size) (((v : Nat) : Int)) w0 (by rw [ByteArray.size_extract]; omega) (by have h := HAA.out; rw [if_pos hv] at h; exact h))
          clear hv
          go_wp2_with (first | (go_at_call 51; refine (HAT.out _).mono ?_; rintro e w1 ⟨rfl, hb1⟩))
          go_ret2
          exact ⟨by rw [HQ.out, HR.out]; rfl, hb1⟩
        · have HR := Lib.hid (show whoO s k = none by rw [HW.out, if_neg hv])
          have HAT := Lib.hid (fun w0 hE => iAtoiRange (s.extract k s.size) w0 (by rw [ByteArray.size_extract]; omega) (by have h := HAA.out; rw [if_neg hv] at h; exact h) hE)
          clear hv
          go_wp2_with (first | (go_at_call 51; refine (HAT.out _ HERR.out).mono ?_; rintro e w1 ⟨N, rfl, hb1⟩))
          go_ret2
          exact ⟨by rw [HQ.out, HR.out]; rfl, hb1⟩
      · have d2 : ((s[k].toNat : Int) == 48) = false := by rw [beq_eq_false_iff_ne]; omega
        have HZ := Lib.hid (show bt s k = 48 → s.size = k + 1 from fun h => by rw [HH.out] at h; exact absurd h z2)
        clear z2
        have dq : decide ((s.size : Int) < (s.size : Int)) = false := decide_eq_false (by omega)
        have HST := Lib.hid (show ¬ (s.size = k ∨ (bt s k = 48 ∧ k + 1 < s.size) ∨ stopB s s.size = true) by
          rintro (h | ⟨h1, h2⟩ | h)
          · exact e0 h
          · have := HZ.out h1; omega
          · rw [stopB, decide_eq_false (by omega)] at h; cases h)
        have hcan := Lib.hid (show Canon (figs s k s.size) from figs_canon HEN.out (by omega) HZ.out)
        have HW := Lib.hid (who_pos HWF.out HEN.out HST.out H45.out)
        have HAA := Lib.hid (atoi_plain hcan.out)
        generalize hv : valFrom 0 (figs s k s.size) = v at HW HAA
        clear hv
        have hx1 : (0 : Int) ≤ (k : Int) := by omega
        have hx2 : (k : Int) ≤ (s.size : Int) := by omega
        have hx3 : (s.size : Int) ≤ (s.size : Int) := by omega
        by_cases hv : v < 9223372036854775808
        · have HR := Lib.hid (show whoO s k = some (((v : Nat) : Int), s.size) by rw [HW.out, if_pos hv])
          have HAT := Lib.hid (fun w0 => iAtoiOk (s.extract k s.size) (((v : Nat) : Int)) w0 (by rw [ByteArray.size_extract]; omega) (by have h := HAA.out; rw [if_pos hv] at h; exact h))
          clear hv
          go_wp2_with (first | (go_at_call 51; refine (HAT.out _).mono ?_; rintro e w1 ⟨rfl, hb1⟩))
          go_ret2
          exact ⟨by rw [HQ.out, HR.out]; rfl, hb1⟩
        · have HR := Lib.hid (show whoO s k = none by rw [HW.out, if_neg hv])
          have HAT := Lib.hid (fun w0 hE => iAtoiRange (s.extract k s.size) w0 (by rw [ByteArray.size_extract]; omega) (by have h := HAA.out; rw [if_neg hv] at h; exact h) hE)
          clear hv
          go_wp2_with (first | (go_at_call 51; refine (HAT.out _ HERR.out).mono ?_; rintro e w1 ⟨N, rfl, hb1⟩))
          go_ret2
          exact ⟨by rw [HQ.out, HR.out]; rfl, hb1⟩

theorem iReadWhole (s : ByteArray) (p : Int) (w : World) (hs : s.size ≤ 1048576) (hE : Errs w) :
    Calls Tryz.prog 23 #[.string s, .int .i64 p] w fun e w' => e = .returned (.tuple #[.int .i64 (whoN (whoQ s p)), .int .i64 (whoE (whoQ s p))]) ∧ Below w.heap.size w w' := by
  by_cases h0 : p < 0
  · have H := Lib.hid (who_out (s := s) (p := p) (by omega))
    go_enter Tryz.func23, Tryz.ntmps23
    go_wp2
    go_ret2
    exact ⟨by rw [H.out]; rfl, Below.refl _ _⟩
  by_cases h1 : p < (s.size : Int)
  rotate_left
  · have H := Lib.hid (who_out (s := s) (p := p) (by omega))
    go_enter Tryz.func23, Tryz.ntmps23
    go_wp2
    go_ret2
    exact ⟨by rw [H.out]; rfl, Below.refl _ _⟩
  obtain ⟨k, rfl⟩ := Int.eq_ofNat_of_zero_le (show 0 ≤ p by omega)
  have hk : k < s.size := by omega
  by_cases c0 : s[k].toNat = 45
  · exact iReadWholeNeg s k w hs hk c0 hE
  · exact iReadWholePos s k w hs hk c0 hE

end Go.Proofs.YtclffhejoneiaaaGreatDoor
namespace Go.Proofs.YtclffhejoneiaaaGreatDoor
open Go.RowKit

theorem iface_cell {H : Type} {enc : TypeId × Value → H} {P : Program} {w : World} {base : Nat} {sp : Nat → Bool} {held : Bool} {fuel : Nat} {t : TypeId} {cs : List Value} {nm : String} {d : DataW H} {p : List MemPlace} {ms : Array (String × TypeId)}
    (hi : P.underlying t = some (.interface ms)) (h : DataW.trod enc P w base sp held fuel t cs = some (.iface nm d, p)) : ∃ u v, cs = [.iface u v] := by
  cases fuel with
  | zero => simp [DataW.trod] at h
  | succ fuel =>
    unfold DataW.trod at h
    rw [hi] at h
    split at h
    all_goals first
      | exact ⟨_, _, rfl⟩
      | (rename_i he; cases he; done)
      | (simp at h; done)
      | (rename_i h1 h2; cases h1; done)
      | (simp_all; done)
theorem errs_of {W : World} (h : Lib.VarReads Tryz.prog W "strconv.ErrRange" Rows.laid_strconv_ErrRange) : Errs W := by
  obtain ⟨g, t, cs, fuel, p, hg, ht, hv, hd⟩ := h
  have hg2 : Tryz.prog.globalNamed "strconv.ErrRange" = some 4 := by kernel_rfl
  have ht2 : (Tryz.prog.globals[4]?).map (·.type) = some 54 := by kernel_rfl
  obtain rfl := Option.some.inj (hg2.symm.trans hg)
  obtain rfl := Option.some.inj (ht2.symm.trans ht)
  obtain ⟨u, v, he⟩ := iface_cell Tryz.underlying54 hd
  refine ⟨u, v, ?_⟩
  rw [hv]
  congr 1
  obtain ⟨l⟩ := cs
  simp only at he
  rw [he]

end Go.Proofs.YtclffhejoneiaaaGreatDoor
namespace Go.Proofs.YtclffhejoneiaaaGreatDoor
open Go.RowKit

theorem firstBad_ix (s : ByteArray) (h : 0 < s.size) : firstBad s = decide ((0 : Int) ≤ Lib.indexByte badFirst.data.toList s[0]) := by
  rw [← Lib.contains_iff_indexByte, firstBad, bt_eq s 0 h]
  generalize s[0] = c
  rw [Bool.eq_iff_iff, List.any_eq_true, List.contains_iff_mem]
  constructor
  · rintro ⟨j, hj, e⟩
    have hj := List.mem_range.1 hj
    have hj2 : j < badFirst.size := hj
    rw [bt_eq badFirst j hj2] at e
    have e2 : c = badFirst[j] := UInt8.toNat_inj.1 (by simpa using e)
    rw [e2]
    exact List.getElem_mem (l := badFirst.data.toList) (by simpa using hj2)
  · intro hm
    obtain ⟨j, hj, e⟩ := List.getElem_of_mem hm
    have hj2 : j < badFirst.size := by simpa using hj
    refine ⟨j, List.mem_range.2 hj2, ?_⟩
    rw [bt_eq badFirst j hj2, ← e]
    simp
    rfl

end Go.Proofs.YtclffhejoneiaaaGreatDoor
namespace Go.Proofs.YtclffhejoneiaaaGreatDoor
open Go.RowKit

set_option maxHeartbeats 1000000 in
set_option maxRecDepth 100000 in
theorem iPlainOk (s : ByteArray) (w : World) (hs : s.size ≤ 1048576) (hT : Tabs w) (h1 : 0 < s.size) (hb : betweenB (s.size : Int) 1 400 = true) (hv : (runesO s).isSome = true) (hf : firstBad s = false) (e0 : ((s[0].toNat : Int) == 32) = false) (e1 : ((s[s.size - 1].toNat : Int) == 32) = false) :
    Calls Tryz.prog 25 #[.string s] w fun e w' => e = .returned (.bool (plainB s)) ∧ Below w.heap.size w w' := by
  have hx : decide ((0 : Int) ≤ Lib.indexByte badFirst.data.toList s[0]) = false := by rw [← firstBad_ix s h1]; exact hf
  have hcx : ∀ w0 : World, Calls Tryz.prog 50 #[.string badFirst, .int .u8 (s[0].toNat : Int)] w0 fun e w' => e = .returned (.int .i64 (Lib.indexByte badFirst.data.toList s[0])) ∧ w' = w0 := fun w0 => by
    have := Tryz.strings_IndexByte badFirst (s[0].toNat : Int) w0
    simpa using this
  generalize Lib.indexByte badFirst.data.toList s[0] = ix at hx hcx
  go_enter Tryz.func25, Tryz.ntmps25
  go_wp2_with (first | (go_at_call 52; refine (within_any _ _ _ _).mono ?_; rintro e w' ⟨rfl, rfl⟩) | (go_at_call 53; refine (iUtf8Ok s _ hs hT).mono ?_; rw [hv]; rintro e w1 ⟨rfl, hb1⟩) | (go_at_call 50; refine (hcx _).mono ?_; rintro e w2 ⟨rfl, rfl⟩))
  have HF := Lib.hid hf
  clear hT hx hcx hf e0 e1
  go_loopw [3, 36] (fun f i wr => ∃ k : Nat, k ≤ s.size ∧ f = .bool (allTo s digitN k) ∧ i = .int .i64 k ∧ allTo s okC k = true ∧ Below w.heap.size w wr) (fun _ i _ => s.size - (intOf i).toNat)
  case atStart => exact ⟨0, by omega, rfl, rfl, rfl, hb1⟩
  case round =>
    obtain ⟨k, hk, rfl, rfl, hall, hb3⟩ := hrel
    have HA := Lib.hid hall; clear hall
    by_cases hlt : k < s.size
    · have HE := fun w0 => iEnds s k w0 hlt hs
      cases c1 : decide ((s[k].toNat : Int) < 32)
      · cases c2 : ((s[k].toNat : Int) == 34)
        · cases c3 : ((s[k].toNat : Int) == 35)
          · cases c4 : ((s[k].toNat : Int) == 92)
            · cases c5 : endsB s k
              · rw [c5] at HE
                cases d0 : allTo s digitN k
                all_goals
                  go_wp2_with (first | (go_at_call 54; refine (HE _).mono ?_; rintro e w4 ⟨rfl, hd⟩) | (go_at_call 49; refine (isDigit_any _ _).mono ?_; rintro e w' ⟨rfl, rfl⟩))
                all_goals
                  have hb4 := bnext hb3 hd.below
                  have hx := bt_eq s k hlt
                  refine ⟨⟨k + 1, by omega, ?_, by go_num, by rw [allTo_succ, HA.out]; simp [okC, charBad, hx, c5]; simp at c1 c2 c3 c4; omega, hb4⟩, by simp [intOf]; omega⟩
                  rw [allTo_succ, d0, digitN, hx]
                  simp [digitB]
                (try (rw [Bool.eq_iff_iff]; simp; omega))
              · rw [c5] at HE
                go_wp2_with (go_at_call 54; refine (HE _).mono ?_; rintro e w4 ⟨rfl, hd⟩)
                go_ret
                exact ⟨ret_bool (plainB_bad hlt (by simp [charBad, c5])), bnext hb3 hd.below⟩
            · go_wp2_with fail
              go_ret
              exact ⟨ret_bool (plainB_bad hlt (by have hx := bt_eq s k hlt; simp at c4; simp [charBad, hx]; omega)), hb3⟩
          · go_wp2_with fail
            go_ret
            exact ⟨ret_bool (plainB_bad hlt (by have hx := bt_eq s k hlt; simp at c3; simp [charBad, hx]; omega)), hb3⟩
        · go_wp2_with fail
          go_ret
          exact ⟨ret_bool (plainB_bad hlt (by have hx := bt_eq s k hlt; simp at c2; simp [charBad, hx]; omega)), hb3⟩
      · go_wp2_with fail
        go_ret
        exact ⟨ret_bool (plainB_bad hlt (by have hx := bt_eq s k hlt; simp at c1; simp [charBad, hx]; omega)), hb3⟩
    · obtain rfl : k = s.size := by omega
      cases d0 : allTo s digitN s.size
      · have HP := Lib.hid (show plainB s = tailB s by rw [plainB, HF.out, HA.out, d0]; rfl)
        go_wp2_with fail
        all_goals
          go_ret
          refine ⟨ret_bool ?_, hb3⟩
          rw [HP.out, tailB]
          (try (first | rfl | simp [*]))
      · go_wp2_with fail
        go_ret
        exact ⟨ret_bool (by simp [plainB, d0]), hb3⟩
end Go.Proofs.YtclffhejoneiaaaGreatDoor
namespace Go.Proofs.YtclffhejoneiaaaGreatDoor
open Go.RowKit

set_option maxRecDepth 100000 in
theorem iPlainAll (s : ByteArray) (w : World) (hs : s.size ≤ 1048576) (hT : Tabs w) :
    Calls Tryz.prog 25 #[.string s] w fun e w' => e = .returned (.bool (plainAll s)) ∧ Below w.heap.size w w' := by
  have HP := Lib.hid (show plainAll s = (betweenB s.size 1 400 && ((runesO s).isSome && (!(bt s 0 == 32) && (!(bt s (s.size - 1) == 32) && plainB s)))) from rfl)
  cases hb : betweenB (s.size : Int) 1 400
  · go_enter Tryz.func25, Tryz.ntmps25
    go_wp2_with (go_at_call 52; refine (within_any _ _ _ _).mono ?_; rintro e w' ⟨rfl, rfl⟩)
    go_ret
    exact ⟨ret_bool (by rw [HP.out, hb]; rfl), Below.refl _ _⟩
  have h1 : 0 < s.size := by have := hb; simp [betweenB] at this; omega
  have HU := fun w0 hT => iUtf8Ok s w0 hs hT
  cases hv : (runesO s).isSome
  · rw [hv] at HU
    go_enter Tryz.func25, Tryz.ntmps25
    go_wp2_with (first | (go_at_call 52; refine (within_any _ _ _ _).mono ?_; rintro e w' ⟨rfl, rfl⟩) | (go_at_call 53; refine (HU _ hT).mono ?_; rintro e w1 ⟨rfl, hb1⟩))
    go_ret
    exact ⟨ret_bool (by rw [HP.out, hb, hv]; rfl), hb1⟩
  rw [hv] at HU
  have q0 := bt_eq s 0 (by omega)
  have q1 := bt_eq s (s.size - 1) (by omega)
  have hcx : ∀ w0 : World, Calls Tryz.prog 50 #[.string badFirst, .int .u8 (s[0].toNat : Int)] w0 fun e w' => e = .returned (.int .i64 (Lib.indexByte badFirst.data.toList s[0])) ∧ w' = w0 := fun w0 => by
    have := Tryz.strings_IndexByte badFirst (s[0].toNat : Int) w0
    simpa using this
  have HX := firstBad_ix s h1
  generalize Lib.indexByte badFirst.data.toList s[0] = ix at HX hcx
  cases hf : firstBad s
  · have hx : decide ((0 : Int) ≤ ix) = false := by rw [← HX]; exact hf
    have HC := Lib.hid hcx; have HU2 := Lib.hid HU; have HT := Lib.hid hT
    clear HX hcx HU hT
    cases e0 : ((s[0].toNat : Int) == 32)
    · have e0' : (bt s 0 == 32) = false := by rw [q0]; simp at e0; simp; omega
      cases e1 : ((s[s.size - 1].toNat : Int) == 32)
      · have e1' : (bt s (s.size - 1) == 32) = false := by rw [q1]; simp at e1; simp; omega
        refine (iPlainOk s w hs HT.out h1 hb hv hf e0 e1).mono ?_
        rintro e w' ⟨rfl, hb1⟩
        exact ⟨ret_bool (by rw [HP.out, hb, hv, e0', e1']; rfl), hb1⟩
      · have e1' : (bt s (s.size - 1) == 32) = true := by rw [q1]; simp at e1; simp; omega
        go_enter Tryz.func25, Tryz.ntmps25
        go_wp2_with (first | (go_at_call 52; refine (within_any _ _ _ _).mono ?_; rintro e w' ⟨rfl, rfl⟩) | (go_at_call 53; refine (HU2.out _ HT.out).mono ?_; rintro e w1 ⟨rfl, hb1⟩) | (go_at_call 50; refine (HC.out _).mono ?_; rintro e w2 ⟨rfl, rfl⟩))
        go_ret
        exact ⟨ret_bool (by rw [HP.out, hb, hv, e0', e1']; rfl), hb1⟩
    · have e0' : (bt s 0 == 32) = true := by rw [q0]; simp at e0; simp; omega
      go_enter Tryz.func25, Tryz.ntmps25
      go_wp2_with (first | (go_at_call 52; refine (within_any _ _ _ _).mono ?_; rintro e w' ⟨rfl, rfl⟩) | (go_at_call 53; refine (HU2.out _ HT.out).mono ?_; rintro e w1 ⟨rfl, hb1⟩) | (go_at_call 50; refine (HC.out _).mono ?_; rintro e w2 ⟨rfl, rfl⟩))
      go_ret
      exact ⟨ret_bool (by rw [HP.out, hb, hv, e0']; rfl), hb1⟩
  · have hx : decide ((0 : Int) ≤ ix) = true := by rw [← HX]; exact hf
    go_enter Tryz.func25, Tryz.ntmps25
    go_wp2_with (first | (go_at_call 52; refine (within_any _ _ _ _).mono ?_; rintro e w' ⟨rfl, rfl⟩) | (go_at_call 53; refine (HU _ hT).mono ?_; rintro e w1 ⟨rfl, hb1⟩) | (go_at_call 50; refine (hcx _).mono ?_; rintro e w2 ⟨rfl, rfl⟩))
    go_ret
    exact ⟨ret_bool (by rw [HP.out, ← plainB_first hf]; simp), hb1⟩

end Go.Proofs.YtclffhejoneiaaaGreatDoor
