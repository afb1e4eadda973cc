/- impl.ReadWhole: the contract. -/
import Derived.Test.YtpcojfcbomkgpaaDoorWhoU
import Derived.Test.YtpcojfcbomkgpaaDoorRqI
import Derived.WalkSmall
namespace Go.Proofs.YtpcojfcbomkgpaaDoor
open Go.RowKit

def stopL : ByteArray := ⟨#[46, 101, 69]⟩
theorem stop_none (c : UInt8) (h : c.toNat ≠ 46 ∧ c.toNat ≠ 101 ∧ c.toNat ≠ 69) : Lib.indexByte stopL.data.toList c = -1 :=
  u8_all (P := fun c => (c.toNat ≠ 46 ∧ c.toNat ≠ 101 ∧ c.toNat ≠ 69) → Lib.indexByte stopL.data.toList c = -1) (by decide +kernel) c h
theorem stop_at (c : UInt8) (b : Nat) (h : c.toNat = b) (i : Int) (hi : Lib.indexByte stopL.data.toList (UInt8.ofNat b) = i) : Lib.indexByte stopL.data.toList c = i := by
  have : c = UInt8.ofNat b := by rw [← h]; simp
  rw [this, hi]
theorem iStop (c : UInt8) (w0 : World) : Calls Tryd.prog 75 #[.string stopL, .int .u8 (c.toNat : Int)] w0 fun e w' => e = .returned (.int .i64 (Lib.indexByte stopL.data.toList c)) ∧ w0 = w' := by
  refine (Tryd.strings_IndexByte stopL (c.toNat : Int) w0).mono fun e w' ⟨h1, h2⟩ => ⟨by simpa using h1, h2.symm⟩

/-- strconv.ErrRange holds some error. -/
def Errs (w : World) : Prop := ∃ tp pv, w.var? Tryd.prog "strconv.ErrRange" = some #[.iface tp pv]
theorem errs_keep {w w' : World} (h : Errs w) (hb : Below w.heap.size w w') : Errs w' := by
  obtain ⟨tp, pv, h⟩ := h
  refine ⟨tp, pv, ?_⟩
  unfold World.var? at h ⊢
  cases hg : Tryd.prog.globalNamed "strconv.ErrRange" with
  | none => simp [hg] at h
  | some g =>
    simp only [hg, Option.bind_some] at h ⊢
    have hlt : g < w.heap.size := by
      rcases Nat.lt_or_ge g w.heap.size with h' | h'
      · exact h'
      · simp [Array.getElem?_eq_none h'] at h
    rw [hb.block g hlt]
    exact h
theorem iAtoiOk (t : ByteArray) (v : Int) (w : World) (hs : t.size ≤ 1048576) (h : Lib.atoiAll t.data.toList = .ok v) : Calls Tryd.prog 141 #[.string t] w fun e w' => e = .returned (.tuple #[.int .i64 v, .nilIface]) ∧ Below w.heap.size w w' := by
  refine (Tryd.strconv_Atoi_ok t (by omega) v h w).mono fun e w' ⟨h1, h2⟩ => ⟨h1, ?_⟩
  rcases h2 with rfl | ⟨u, rfl⟩
  · exact Below.refl _ _
  · exact ⟨rfl, rfl, rfl, by rw [Lib.bytesWorld_size]; omega, fun k hk => Lib.bytesWorld_at_old _ _ _ _ hk⟩
theorem iAtoiRange (t : ByteArray) (w : World) (hs : t.size ≤ 1048576) (h : Lib.atoiAll t.data.toList = .range) (hE : Errs w) :
    Calls Tryd.prog 141 #[.string t] w fun e w' => ∃ N : Nat, e = .returned (.tuple #[.int .i64 (Lib.atoiSat t.data.toList), .iface 184 (.pointer (some ⟨N, 0, none⟩))]) ∧ Below w.heap.size w w' := by
  obtain ⟨tp, pv, hE⟩ := hE
  refine (Tryd.strconv_Atoi_range_var t (by omega) h tp pv w hE).mono fun e w' h => ?_
  obtain ⟨N, h1, -, -, h4⟩ := h
  exact ⟨N, h1, h4⟩
theorem minus_list {s : ByteArray} {k q : Nat} (hk : k < s.size) (h1 : k + 1 ≤ q) (_h2 : q ≤ s.size) (h45 : bt s k = 45) : (s.extract k q).data.toList = 45 :: figs s (k + 1) q := by
  unfold figs
  rw [Lib.extract_data, Lib.extract_data]
  have hb := bt_eq s k hk
  have h3 : s[k] = 45 := UInt8.toNat_inj.1 (by rw [← hb, h45]; rfl)
  have h4 : s.data.toList.drop k = s[k] :: s.data.toList.drop (k + 1) := by
    rw [List.drop_eq_getElem_cons (by simpa using hk)]; rfl
  rw [h4, h3]
  have h5 : q - k = (q - (k + 1)) + 1 := by omega
  rw [h5, List.take_succ_cons]

set_option maxHeartbeats 4000000 in
set_option maxRecDepth 100000 in
theorem iReadWholeNeg (s : ByteArray) (k : Nat) (w : World) (hs : s.size ≤ 1048576) (hk : k < s.size) (c0 : s[k].toNat = 45) (hE : Errs w) :
    Calls Tryd.prog 78 #[.string s, .int .i64 (k : Int)] w fun e w' => e = .returned (.tuple #[.int .i64 (whoN (whoQ s (k : Int))), .int .i64 (whoE (whoQ s (k : Int)))]) ∧ Below w.heap.size w w' := by
  have HERR := Lib.hid hE; clear hE
  have hk0 : decide ((k : Int) < 0) = false := decide_eq_false (by omega)
  have hk1 : decide (s.size ≤ k) = false := decide_eq_false (by omega)
  have HQ := Lib.hid (who_in hk)
  have hbk := bt_eq s k hk
  have n0 : ((s[k].toNat : Int) == 45) = true := by rw [c0]; rfl
  have H45 := Lib.hid (show bt s k = 45 by omega)
  have HWF := Lib.hid (show whoFrom s k = (k + 1) from if_pos H45.out)
  clear c0 hbk
  go_enter Tryd.func78, Tryd.ntmps78
  go_wp2
  go_loop [6] (fun i => ∃ q : Nat, (k + 1) ≤ q ∧ q ≤ s.size ∧ i = .int .i64 (q : Int) ∧ ∀ i, (k + 1) ≤ i → i < q → dgAt s i = true) (fun i => s.size - (intOf i).toNat)
  case atStart => exact ⟨(k + 1), by omega, by omega, by go_num, fun i h1 h2 => by omega⟩
  case round =>
    obtain ⟨q, hfq, hq, rfl, hall⟩ := hrel
    by_cases hqs : q < s.size
    · have hbq0 := bt_eq s q hqs
      cases hdb : digitB (s[q].toNat : Int)
      · have hnd : dgAt s q = false := by
          cases h : dgAt s q
          · rfl
          · have := dgAt_iff.1 h; simp [digitB] at hdb; omega
        clear hbq0
        go_upto_region 9 with (first | (go_at_call 77; refine (isDigit_any _ _).mono ?_; rintro e w' ⟨rfl, rfl⟩))
        have HEN := Lib.hid (show Ends s (k + 1) q from ⟨hfq, hq, hall, fun _ => hnd⟩)
        clear hall
        by_cases e0 : q = (k + 1)
        · have he : ((q : Int) == (k : Int) + 1) = true := by rw [beq_iff_eq]; omega
          have HE0 := Lib.hid e0
          clear e0
          go_wp2
          go_ret2
          exact ⟨by rw [HQ.out, who_bad HWF.out HEN.out (.inl HE0.out)]; rfl, Below.refl _ _⟩
        have he : ((q : Int) == (k : Int) + 1) = false := by rw [beq_eq_false_iff_ne]; omega
        have hfs : (k + 1) < s.size := by omega
        have HH := Lib.hid (bt_eq s (k + 1) hfs)
        by_cases z2 : s[(k + 1)].toNat = 48
        · have d2 : ((s[(k + 1)].toNat : Int) == 48) = true := by rw [z2]; rfl
          by_cases z1 : (k + 1) + 1 < q
          · have d1 : (k : Int) + 1 + 1 < (q : Int) := by omega
            have HB := Lib.hid (show bt s (k + 1) = 48 ∧ (k + 1) + 1 < q from ⟨by rw [HH.out, z2], z1⟩)
            clear z1 z2
            go_wp2
            go_ret2
            exact ⟨by rw [HQ.out, who_bad HWF.out HEN.out (.inr (.inl HB.out))]; rfl, Below.refl _ _⟩
          have d1 : decide ((k : Int) + 1 + 1 < (q : Int)) = false := decide_eq_false (by omega)
          have HZ := Lib.hid (show bt s (k + 1) = 48 → q = (k + 1) + 1 from fun _ => by omega)
          clear z2
          have dq : decide ((q : Int) < (s.size : Int)) = true := decide_eq_true (by omega)
          have hbq := Lib.hid (bt_eq s q hqs)
          have hix := iStop s[q]
          by_cases c46 : s[q].toNat = 46
          · have HB := Lib.hid (show stopB s q = true by rw [stopB, hbq.out, c46, decide_eq_true hqs]; rfl)
            rw [stop_at s[q] 46 c46 0 rfl] at hix
            have HIX := Lib.hid hix
            clear c46 hix
            go_wp2_with (go_at_call 75; refine (HIX.out _).mono ?_; rintro e w' ⟨rfl, rfl⟩)
            go_ret2
            exact ⟨by rw [HQ.out, who_bad HWF.out HEN.out (.inr (.inr HB.out))]; rfl, Below.refl _ _⟩
          by_cases c101 : s[q].toNat = 101
          · have HB := Lib.hid (show stopB s q = true by rw [stopB, hbq.out, c101, decide_eq_true hqs]; rfl)
            rw [stop_at s[q] 101 c101 1 rfl] at hix
            have HIX := Lib.hid hix
            clear c101 hix
            go_wp2_with (go_at_call 75; refine (HIX.out _).mono ?_; rintro e w' ⟨rfl, rfl⟩)
            go_ret2
            exact ⟨by rw [HQ.out, who_bad HWF.out HEN.out (.inr (.inr HB.out))]; rfl, Below.refl _ _⟩
          by_cases c69 : s[q].toNat = 69
          · have HB := Lib.hid (show stopB s q = true by rw [stopB, hbq.out, c69, decide_eq_true hqs]; rfl)
            rw [stop_at s[q] 69 c69 2 rfl] at hix
            have HIX := Lib.hid hix
            clear c69 hix
            go_wp2_with (go_at_call 75; refine (HIX.out _).mono ?_; rintro e w' ⟨rfl, rfl⟩)
            go_ret2
            exact ⟨by rw [HQ.out, who_bad HWF.out HEN.out (.inr (.inr HB.out))]; rfl, Below.refl _ _⟩
          have HST := Lib.hid (show ¬ (q = (k + 1) ∨ (bt s (k + 1) = 48 ∧ (k + 1) + 1 < q) ∨ stopB s q = true) by
            rintro (h | ⟨h1, h2⟩ | h)
            · exact e0 h
            · have := HZ.out h1; omega
            · simp [stopB, hbq.out, c46, c101, c69] at h)
          rw [stop_none s[q] ⟨c46, c101, c69⟩] at hix
          have HIX := Lib.hid hix
          clear c46 c101 c69 hix
          have hcan := Lib.hid (show Canon (figs s (k + 1) q) from figs_canon HEN.out (by omega) HZ.out)
          have HW := Lib.hid (who_neg HWF.out HEN.out HST.out H45.out)
          have HAA := Lib.hid (atoi_minus hcan.out)
          rw [← minus_list hk (by omega) HEN.out.top H45.out] at HAA
          generalize hv : valFrom 0 (figs s (k + 1) q) = v at HW HAA
          clear hv
          have hx1 : (0 : Int) ≤ (k : Int) := by omega
          have hx2 : (k : Int) ≤ (q : Int) := by omega
          have hx3 : (q : Int) ≤ (s.size : Int) := by omega
          by_cases hv : v ≤ 9223372036854775808
          · have HR := Lib.hid (show whoO s k = some (-((v : Nat) : Int), q) by rw [HW.out, if_pos hv])
            have HAT := Lib.hid (fun w0 => iAtoiOk (s.extract k q) (-((v : Nat) : Int)) w0 (by rw [ByteArray.size_extract]; omega) (by have h := HAA.out; rw [if_pos hv] at h; exact h))
            clear hv
            go_wp2_with (first | (go_at_call 75; refine (HIX.out _).mono ?_; rintro e w' ⟨rfl, rfl⟩) | (go_at_call 141; refine (HAT.out _).mono ?_; rintro e w1 ⟨rfl, hb1⟩))
            go_ret2
            exact ⟨by rw [HQ.out, HR.out]; rfl, hb1⟩
          · have HR := Lib.hid (show whoO s k = none by rw [HW.out, if_neg hv])
            have HAT := Lib.hid (fun w0 hE => iAtoiRange (s.extract k q) w0 (by rw [ByteArray.size_extract]; omega) (by have h := HAA.out; rw [if_neg hv] at h; exact h) hE)
            clear hv
            go_wp2_with (first | (go_at_call 75; refine (HIX.out _).mono ?_; rintro e w' ⟨rfl, rfl⟩) | (go_at_call 141; refine (HAT.out _ HERR.out).mono ?_; rintro e w1 ⟨N, rfl, hb1⟩))
            go_ret2
            exact ⟨by rw [HQ.out, HR.out]; rfl, hb1⟩
        · have d2 : ((s[(k + 1)].toNat : Int) == 48) = false := by rw [beq_eq_false_iff_ne]; omega
          have HZ := Lib.hid (show bt s (k + 1) = 48 → q = (k + 1) + 1 from fun h => by rw [HH.out] at h; exact absurd h z2)
          clear z2
          have dq : decide ((q : Int) < (s.size : Int)) = true := decide_eq_true (by omega)
          have hbq := Lib.hid (bt_eq s q hqs)
          have hix := iStop s[q]
          by_cases c46 : s[q].toNat = 46
          · have HB := Lib.hid (show stopB s q = true by rw [stopB, hbq.out, c46, decide_eq_true hqs]; rfl)
            rw [stop_at s[q] 46 c46 0 rfl] at hix
            have HIX := Lib.hid hix
            clear c46 hix
            go_wp2_with (go_at_call 75; refine (HIX.out _).mono ?_; rintro e w' ⟨rfl, rfl⟩)
            go_ret2
            exact ⟨by rw [HQ.out, who_bad HWF.out HEN.out (.inr (.inr HB.out))]; rfl, Below.refl _ _⟩
          by_cases c101 : s[q].toNat = 101
          · have HB := Lib.hid (show stopB s q = true by rw [stopB, hbq.out, c101, decide_eq_true hqs]; rfl)
            rw [stop_at s[q] 101 c101 1 rfl] at hix
            have HIX := Lib.hid hix
            clear c101 hix
            go_wp2_with (go_at_call 75; refine (HIX.out _).mono ?_; rintro e w' ⟨rfl, rfl⟩)
            go_ret2
            exact ⟨by rw [HQ.out, who_bad HWF.out HEN.out (.inr (.inr HB.out))]; rfl, Below.refl _ _⟩
          by_cases c69 : s[q].toNat = 69
          · have HB := Lib.hid (show stopB s q = true by rw [stopB, hbq.out, c69, decide_eq_true hqs]; rfl)
            rw [stop_at s[q] 69 c69 2 rfl] at hix
            have HIX := Lib.hid hix
            clear c69 hix
            go_wp2_with (go_at_call 75; refine (HIX.out _).mono ?_; rintro e w' ⟨rfl, rfl⟩)
            go_ret2
            exact ⟨by rw [HQ.out, who_bad HWF.out HEN.out (.inr (.inr HB.out))]; rfl, Below.refl _ _⟩
          have HST := Lib.hid (show ¬ (q = (k + 1) ∨ (bt s (k + 1) = 48 ∧ (k + 1) + 1 < q) ∨ stopB s q = true) by
            rintro (h | ⟨h1, h2⟩ | h)
            · exact e0 h
            · have := HZ.out h1; omega
            · simp [stopB, hbq.out, c46, c101, c69] at h)
          rw [stop_none s[q] ⟨c46, c101, c69⟩] at hix
          have HIX := Lib.hid hix
          clear c46 c101 c69 hix
          have hcan := Lib.hid (show Canon (figs s (k + 1) q) from figs_canon HEN.out (by omega) HZ.out)
          have HW := Lib.hid (who_neg HWF.out HEN.out HST.out H45.out)
          have HAA := Lib.hid (atoi_minus hcan.out)
          rw [← minus_list hk (by omega) HEN.out.top H45.out] at HAA
          generalize hv : valFrom 0 (figs s (k + 1) q) = v at HW HAA
          clear hv
          have hx1 : (0 : Int) ≤ (k : Int) := by omega
          have hx2 : (k : Int) ≤ (q : Int) := by omega
          have hx3 : (q : Int) ≤ (s.size : Int) := by omega
          by_cases hv : v ≤ 9223372036854775808
          · have HR := Lib.hid (show whoO s k = some (-((v : Nat) : Int), q) by rw [HW.out, if_pos hv])
            have HAT := Lib.hid (fun w0 => iAtoiOk (s.extract k q) (-((v : Nat) : Int)) w0 (by rw [ByteArray.size_extract]; omega) (by have h := HAA.out; rw [if_pos hv] at h; exact h))
            clear hv
            go_wp2_with (first | (go_at_call 75; refine (HIX.out _).mono ?_; rintro e w' ⟨rfl, rfl⟩) | (go_at_call 141; refine (HAT.out _).mono ?_; rintro e w1 ⟨rfl, hb1⟩))
            go_ret2
            exact ⟨by rw [HQ.out, HR.out]; rfl, hb1⟩
          · have HR := Lib.hid (show whoO s k = none by rw [HW.out, if_neg hv])
            have HAT := Lib.hid (fun w0 hE => iAtoiRange (s.extract k q) w0 (by rw [ByteArray.size_extract]; omega) (by have h := HAA.out; rw [if_neg hv] at h; exact h) hE)
            clear hv
            go_wp2_with (first | (go_at_call 75; refine (HIX.out _).mono ?_; rintro e w' ⟨rfl, rfl⟩) | (go_at_call 141; refine (HAT.out _ HERR.out).mono ?_; rintro e w1 ⟨N, rfl, hb1⟩))
            go_ret2
            exact ⟨by rw [HQ.out, HR.out]; rfl, hb1⟩
      · have hyd : dgAt s q = true := dgAt_iff.2 (by simp [digitB] at hdb; omega)
        have HALL := Lib.hid (show ∀ i, (k + 1) ≤ i → i < q + 1 → dgAt s i = true from fun i h1 h2 => by
          rcases Nat.lt_or_ge i q with h | h
          · exact hall i h1 h
          · obtain rfl : i = q := by omega
            exact hyd)
        clear hall hyd hbq0
        go_wp2_with (go_at_call 77; refine (isDigit_any _ _).mono ?_; rintro e w' ⟨rfl, rfl⟩)
        go_round
        case rel => first | exact ⟨q + 1, by omega, by omega, by go_num, HALL.out⟩ | exact ⟨trivial, _, _, _, _, _, _, _, _, _, _, _, _, _, ⟨q + 1, by omega, by omega, by go_num, HALL.out⟩, rfl⟩
        case measure => simp [intOf]; omega
    · have hqe : q = s.size := by omega
      subst hqe
      clear hqs
      go_upto_region 9 with fail
      have HEN := Lib.hid (show Ends s (k + 1) s.size from ⟨hfq, Nat.le_refl _, hall, fun h => absurd h (by omega)⟩)
      clear hall
      by_cases e0 : s.size = (k + 1)
      · have he : ((s.size : Int) == (k : Int) + 1) = true := by rw [beq_iff_eq]; omega
        have HE0 := Lib.hid e0
        clear e0
        go_wp2
        go_ret2
        exact ⟨by rw [HQ.out, who_bad HWF.out HEN.out (.inl HE0.out)]; rfl, Below.refl _ _⟩
      have he : ((s.size : Int) == (k : Int) + 1) = false := by rw [beq_eq_false_iff_ne]; omega
      have hfs : (k + 1) < s.size := by omega
      have HH := Lib.hid (bt_eq s (k + 1) hfs)
      by_cases z2 : s[(k + 1)].toNat = 48
      · have d2 : ((s[(k + 1)].toNat : Int) == 48) = true := by rw [z2]; rfl
        by_cases z1 : (k + 1) + 1 < s.size
        · have d1 : (k : Int) + 1 + 1 < (s.size : Int) := by omega
          have HB := Lib.hid (show bt s (k + 1) = 48 ∧ (k + 1) + 1 < s.size from ⟨by rw [HH.out, z2], z1⟩)
          clear z1 z2
          go_wp2
          go_ret2
          exact ⟨by rw [HQ.out, who_bad HWF.out HEN.out (.inr (.inl HB.out))]; rfl, Below.refl _ _⟩
        have d1 : decide ((k : Int) + 1 + 1 < (s.size : Int)) = false := decide_eq_false (by omega)
        have HZ := Lib.hid (show bt s (k + 1) = 48 → s.size = (k + 1) + 1 from fun _ => by omega)
        clear z2
        have dq : decide ((s.size : Int) < (s.size : Int)) = false := decide_eq_false (by omega)
        have HST := Lib.hid (show ¬ (s.size = (k + 1) ∨ (bt s (k + 1) = 48 ∧ (k + 1) + 1 < s.size) ∨ stopB s s.size = true) by
          rintro (h | ⟨h1, h2⟩ | h)
          · exact e0 h
          · have := HZ.out h1; omega
          · rw [stopB, decide_eq_false (by omega)] at h; cases h)
        have hcan := Lib.hid (show Canon (figs s (k + 1) s.size) from figs_canon HEN.out (by omega) HZ.out)
        have HW := Lib.hid (who_neg HWF.out HEN.out HST.out H45.out)
        have HAA := Lib.hid (atoi_minus hcan.out)
        rw [← minus_list hk (by omega) HEN.out.top H45.out] at HAA
        generalize hv : valFrom 0 (figs s (k + 1) s.size) = v at HW HAA
        clear hv
        have hx1 : (0 : Int) ≤ (k : Int) := by omega
        have hx2 : (k : Int) ≤ (s.size : Int) := by omega
        have hx3 : (s.size : Int) ≤ (s.size : Int) := by omega
        by_cases hv : v ≤ 9223372036854775808
        · have HR := Lib.hid (show whoO s k = some (-((v : Nat) : Int), s.size) by rw [HW.out, if_pos hv])
          have HAT := Lib.hid (fun w0 => iAtoiOk (s.extract k s.size) (-((v : Nat) : Int)) w0 (by rw [ByteArray.size_extract]; omega) (by have h := HAA.out; rw [if_pos hv] at h; exact h))
          clear hv
          go_wp2_with (first | (go_at_call 141; refine (HAT.out _).mono ?_; rintro e w1 ⟨rfl, hb1⟩))
          go_ret2
          exact ⟨by rw [HQ.out, HR.out]; rfl, hb1⟩
        · have HR := Lib.hid (show whoO s k = none by rw [HW.out, if_neg hv])
          have HAT := Lib.hid (fun w0 hE => iAtoiRange (s.extract k s.size) w0 (by rw [ByteArray.size_extract]; omega) (by have h := HAA.out; rw [if_neg hv] at h; exact h) hE)
          clear hv
          go_wp2_with (first | (go_at_call 141; refine (HAT.out _ HERR.out).mono ?_; rintro e w1 ⟨N, rfl, hb1⟩))
          go_ret2
          exact ⟨by rw [HQ.out, HR.out]; rfl, hb1⟩
      · have d2 : ((s[(k + 1)].toNat : Int) == 48) = false := by rw [beq_eq_false_iff_ne]; omega
        have HZ := Lib.hid (show bt s (k + 1) = 48 → s.size = (k + 1) + 1 from fun h => by rw [HH.out] at h; exact absurd h z2)
        clear z2
        have dq : decide ((s.size : Int) < (s.size : Int)) = false := decide_eq_false (by omega)
        have HST := Lib.hid (show ¬ (s.size = (k + 1) ∨ (bt s (k + 1) = 48 ∧ (k + 1) + 1 < s.size) ∨ stopB s s.size = true) by
          rintro (h | ⟨h1, h2⟩ | h)
          · exact e0 h
          · have := HZ.out h1; omega
          · rw [stopB, decide_eq_false (by omega)] at h; cases h)
        have hcan := Lib.hid (show Canon (figs s (k + 1) s.size) from figs_canon HEN.out (by omega) HZ.out)
        have HW := Lib.hid (who_neg HWF.out HEN.out HST.out H45.out)
        have HAA := Lib.hid (atoi_minus hcan.out)
        rw [← minus_list hk (by omega) HEN.out.top H45.out] at HAA
        generalize hv : valFrom 0 (figs s (k + 1) s.size) = v at HW HAA
        clear hv
        have hx1 : (0 : Int) ≤ (k : Int) := by omega
        have hx2 : (k : Int) ≤ (s.size : Int) := by omega
        have hx3 : (s.size : Int) ≤ (s.size : Int) := by omega
        by_cases hv : v ≤ 9223372036854775808
        · have HR := Lib.hid (show whoO s k = some (-((v : Nat) : Int), s.size) by rw [HW.out, if_pos hv])
          have HAT := Lib.hid (fun w0 => iAtoiOk (s.extract k s.size) (-((v : Nat) : Int)) w0 (by rw [ByteArray.size_extract]; omega) (by have h := HAA.out; rw [if_pos hv] at h; exact h))
          clear hv
          go_wp2_with (first | (go_at_call 141; refine (HAT.out _).mono ?_; rintro e w1 ⟨rfl, hb1⟩))
          go_ret2
          exact ⟨by rw [HQ.out, HR.out]; rfl, hb1⟩
        · have HR := Lib.hid (show whoO s k = none by rw [HW.out, if_neg hv])
          have HAT := Lib.hid (fun w0 hE => iAtoiRange (s.extract k s.size) w0 (by rw [ByteArray.size_extract]; omega) (by have h := HAA.out; rw [if_neg hv] at h; exact h) hE)
          clear hv
          go_wp2_with (first | (go_at_call 141; refine (HAT.out _ HERR.out).mono ?_; rintro e w1 ⟨N, rfl, hb1⟩))
          go_ret2
          exact ⟨by rw [HQ.out, HR.out]; rfl, hb1⟩

set_option maxHeartbeats 4000000 in
set_option maxRecDepth 100000 in
theorem iReadWholePos (s : ByteArray) (k : Nat) (w : World) (hs : s.size ≤ 1048576) (hk : k < s.size) (c0 : s[k].toNat ≠ 45) (hE : Errs w) :
    Calls Tryd.prog 78 #[.string s, .int .i64 (k : Int)] w fun e w' => e = .returned (.tuple #[.int .i64 (whoN (whoQ s (k : Int))), .int .i64 (whoE (whoQ s (k : Int)))]) ∧ Below w.heap.size w w' := by
  have HERR := Lib.hid hE; clear hE
  have hk0 : decide ((k : Int) < 0) = false := decide_eq_false (by omega)
  have hk1 : decide (s.size ≤ k) = false := decide_eq_false (by omega)
  have HQ := Lib.hid (who_in hk)
  have hbk := bt_eq s k hk
  have n0 : ((s[k].toNat : Int) == 45) = false := by rw [beq_eq_false_iff_ne]; omega
  have H45 := Lib.hid (show bt s k ≠ 45 by omega)
  have HWF := Lib.hid (show whoFrom s k = k from if_neg H45.out)
  clear c0 hbk
  go_enter Tryd.func78, Tryd.ntmps78
  go_wp2
  go_loop [6] (fun i => ∃ q : Nat, k ≤ q ∧ q ≤ s.size ∧ i = .int .i64 (q : Int) ∧ ∀ i, k ≤ i → i < q → dgAt s i = true) (fun i => s.size - (intOf i).toNat)
  case atStart => exact ⟨k, by omega, by omega, rfl, fun i h1 h2 => by omega⟩
  case round =>
    obtain ⟨q, hfq, hq, rfl, hall⟩ := hrel
    by_cases hqs : q < s.size
    · have hbq0 := bt_eq s q hqs
      cases hdb : digitB (s[q].toNat : Int)
      · have hnd : dgAt s q = false := by
          cases h : dgAt s q
          · rfl
          · have := dgAt_iff.1 h; simp [digitB] at hdb; omega
        clear hbq0
        go_upto_region 9 with (first | (go_at_call 77; refine (isDigit_any _ _).mono ?_; rintro e w' ⟨rfl, rfl⟩))
        have HEN := Lib.hid (show Ends s k q from ⟨hfq, hq, hall, fun _ => hnd⟩)
        clear hall
        by_cases e0 : q = k
        · have he : ((q : Int) == (k : Int)) = true := by rw [beq_iff_eq]; omega
          have HE0 := Lib.hid e0
          clear e0
          go_wp2
          go_ret2
          exact ⟨by rw [HQ.out, who_bad HWF.out HEN.out (.inl HE0.out)]; rfl, Below.refl _ _⟩
        have he : ((q : Int) == (k : Int)) = false := by rw [beq_eq_false_iff_ne]; omega
        have hfs : k < s.size := by omega
        have HH := Lib.hid (bt_eq s k hfs)
        by_cases z2 : s[k].toNat = 48
        · have d2 : ((s[k].toNat : Int) == 48) = true := by rw [z2]; rfl
          by_cases z1 : k + 1 < q
          · have d1 : (k : Int) + 1 < (q : Int) := by omega
            have HB := Lib.hid (show bt s k = 48 ∧ k + 1 < q from ⟨by rw [HH.out, z2], z1⟩)
            clear z1 z2
            go_wp2
            go_ret2
            exact ⟨by rw [HQ.out, who_bad HWF.out HEN.out (.inr (.inl HB.out))]; rfl, Below.refl _ _⟩
          have d1 : decide ((k : Int) + 1 < (q : Int)) = false := decide_eq_false (by omega)
          have HZ := Lib.hid (show bt s k = 48 → q = k + 1 from fun _ => by omega)
          clear z2
          have dq : decide ((q : Int) < (s.size : Int)) = true := decide_eq_true (by omega)
          have hbq := Lib.hid (bt_eq s q hqs)
          have hix := iStop s[q]
          by_cases c46 : s[q].toNat = 46
          · have HB := Lib.hid (show stopB s q = true by rw [stopB, hbq.out, c46, decide_eq_true hqs]; rfl)
            rw [stop_at s[q] 46 c46 0 rfl] at hix
            have HIX := Lib.hid hix
            clear c46 hix
            go_wp2_with (go_at_call 75; refine (HIX.out _).mono ?_; rintro e w' ⟨rfl, rfl⟩)
            go_ret2
            exact ⟨by rw [HQ.out, who_bad HWF.out HEN.out (.inr (.inr HB.out))]; rfl, Below.refl _ _⟩
          by_cases c101 : s[q].toNat = 101
          · have HB := Lib.hid (show stopB s q = true by rw [stopB, hbq.out, c101, decide_eq_true hqs]; rfl)
            rw [stop_at s[q] 101 c101 1 rfl] at hix
            have HIX := Lib.hid hix
            clear c101 hix
            go_wp2_with (go_at_call 75; refine (HIX.out _).mono ?_; rintro e w' ⟨rfl, rfl⟩)
            go_ret2
            exact ⟨by rw [HQ.out, who_bad HWF.out HEN.out (.inr (.inr HB.out))]; rfl, Below.refl _ _⟩
          by_cases c69 : s[q].toNat = 69
          · have HB := Lib.hid (show stopB s q = true by rw [stopB, hbq.out, c69, decide_eq_true hqs]; rfl)
            rw [stop_at s[q] 69 c69 2 rfl] at hix
            have HIX := Lib.hid hix
            clear c69 hix
            go_wp2_with (go_at_call 75; refine (HIX.out _).mono ?_; rintro e w' ⟨rfl, rfl⟩)
            go_ret2
            exact ⟨by rw [HQ.out, who_bad HWF.out HEN.out (.inr (.inr HB.out))]; rfl, Below.refl _ _⟩
          have HST := Lib.hid (show ¬ (q = k ∨ (bt s k = 48 ∧ k + 1 < q) ∨ stopB s q = true) by
            rintro (h | ⟨h1, h2⟩ | h)
            · exact e0 h
            · have := HZ.out h1; omega
            · simp [stopB, hbq.out, c46, c101, c69] at h)
          rw [stop_none s[q] ⟨c46, c101, c69⟩] at hix
          have HIX := Lib.hid hix
          clear c46 c101 c69 hix
          have hcan := Lib.hid (show Canon (figs s k q) from figs_canon HEN.out (by omega) HZ.out)
          have HW := Lib.hid (who_pos HWF.out HEN.out HST.out H45.out)
          have HAA := Lib.hid (atoi_plain hcan.out)
          generalize hv : valFrom 0 (figs s k q) = v at HW HAA
          clear hv
          have hx1 : (0 : Int) ≤ (k : Int) := by omega
          have hx2 : (k : Int) ≤ (q : Int) := by omega
          have hx3 : (q : Int) ≤ (s.size : Int) := by omega
          by_cases hv : v < 9223372036854775808
          · have HR := Lib.hid (show whoO s k = some (((v : Nat) : Int), q) by rw [HW.out, if_pos hv])
            have HAT := Lib.hid (fun w0 => iAtoiOk (s.extract k q) (((v : Nat) : Int)) w0 (by rw [ByteArray.size_extract]; omega) (by have h := HAA.out; rw [if_pos hv] at h; exact h))
            clear hv
            go_wp2_with (first | (go_at_call 75; refine (HIX.out _).mono ?_; rintro e w' ⟨rfl, rfl⟩) | (go_at_call 141; refine (HAT.out _).mono ?_; rintro e w1 ⟨rfl, hb1⟩))
            go_ret2
            exact ⟨by rw [HQ.out, HR.out]; rfl, hb1⟩
          · have HR := Lib.hid (show whoO s k = none by rw [HW.out, if_neg hv])
            have HAT := Lib.hid (fun w0 hE => iAtoiRange (s.extract k q) w0 (by rw [ByteArray.size_extract]; omega) (by have h := HAA.out; rw [if_neg hv] at h; exact h) hE)
            clear hv
            go_wp2_with (first | (go_at_call 75; refine (HIX.out _).mono ?_; rintro e w' ⟨rfl, rfl⟩) | (go_at_call 141; refine (HAT.out _ HERR.out).mono ?_; rintro e w1 ⟨N, rfl, hb1⟩))
            go_ret2
            exact ⟨by rw [HQ.out, HR.out]; rfl, hb1⟩
        · have d2 : ((s[k].toNat : Int) == 48) = false := by rw [beq_eq_false_iff_ne]; omega
          have HZ := Lib.hid (show bt s k = 48 → q = k + 1 from fun h => by rw [HH.out] at h; exact absurd h z2)
          clear z2
          have dq : decide ((q : Int) < (s.size : Int)) = true := decide_eq_true (by omega)
          have hbq := Lib.hid (bt_eq s q hqs)
          have hix := iStop s[q]
          by_cases c46 : s[q].toNat = 46
          · have HB := Lib.hid (show stopB s q = true by rw [stopB, hbq.out, c46, decide_eq_true hqs]; rfl)
            rw [stop_at s[q] 46 c46 0 rfl] at hix
            have HIX := Lib.hid hix
            clear c46 hix
            go_wp2_with (go_at_call 75; refine (HIX.out _).mono ?_; rintro e w' ⟨rfl, rfl⟩)
            go_ret2
            exact ⟨by rw [HQ.out, who_bad HWF.out HEN.out (.inr (.inr HB.out))]; rfl, Below.refl _ _⟩
          by_cases c101 : s[q].toNat = 101
          · have HB := Lib.hid (show stopB s q = true by rw [stopB, hbq.out, c101, decide_eq_true hqs]; rfl)
            rw [stop_at s[q] 101 c101 1 rfl] at hix
            have HIX := Lib.hid hix
            clear c101 hix
            go_wp2_with (go_at_call 75; refine (HIX.out _).mono ?_; rintro e w' ⟨rfl, rfl⟩)
            go_ret2
            exact ⟨by rw [HQ.out, who_bad HWF.out HEN.out (.inr (.inr HB.out))]; rfl, Below.refl _ _⟩
          by_cases c69 : s[q].toNat = 69
          · have HB := Lib.hid (show stopB s q = true by rw [stopB, hbq.out, c69, decide_eq_true hqs]; rfl)
            rw [stop_at s[q] 69 c69 2 rfl] at hix
            have HIX := Lib.hid hix
            clear c69 hix
            go_wp2_with (go_at_call 75; refine (HIX.out _).mono ?_; rintro e w' ⟨rfl, rfl⟩)
            go_ret2
            exact ⟨by rw [HQ.out, who_bad HWF.out HEN.out (.inr (.inr HB.out))]; rfl, Below.refl _ _⟩
          have HST := Lib.hid (show ¬ (q = k ∨ (bt s k = 48 ∧ k + 1 < q) ∨ stopB s q = true) by
            rintro (h | ⟨h1, h2⟩ | h)
            · exact e0 h
            · have := HZ.out h1; omega
            · simp [stopB, hbq.out, c46, c101, c69] at h)
          rw [stop_none s[q] ⟨c46, c101, c69⟩] at hix
          have HIX := Lib.hid hix
          clear c46 c101 c69 hix
          have hcan := Lib.hid (show Canon (figs s k q) from figs_canon HEN.out (by omega) HZ.out)
          have HW := Lib.hid (who_pos HWF.out HEN.out HST.out H45.out)
          have HAA := Lib.hid (atoi_plain hcan.out)
          generalize hv : valFrom 0 (figs s k q) = v at HW HAA
          clear hv
          have hx1 : (0 : Int) ≤ (k : Int) := by omega
          have hx2 : (k : Int) ≤ (q : Int) := by omega
          have hx3 : (q : Int) ≤ (s.size : Int) := by omega
          by_cases hv : v < 9223372036854775808
          · have HR := Lib.hid (show whoO s k = some (((v : Nat) : Int), q) by rw [HW.out, if_pos hv])
            have HAT := Lib.hid (fun w0 => iAtoiOk (s.extract k q) (((v : Nat) : Int)) w0 (by rw [ByteArray.size_extract]; omega) (by have h := HAA.out; rw [if_pos hv] at h; exact h))
            clear hv
            go_wp2_with (first | (go_at_call 75; refine (HIX.out _).mono ?_; rintro e w' ⟨rfl, rfl⟩) | (go_at_call 141; refine (HAT.out _).mono ?_; rintro e w1 ⟨rfl, hb1⟩))
            go_ret2
            exact ⟨by rw [HQ.out, HR.out]; rfl, hb1⟩
          · have HR := Lib.hid (show whoO s k = none by rw [HW.out, if_neg hv])
            have HAT := Lib.hid (fun w0 hE => iAtoiRange (s.extract k q) w0 (by rw [ByteArray.size_extract]; omega) (by have h := HAA.out; rw [if_neg hv] at h; exact h) hE)
            clear hv
            go_wp2_with (first | (go_at_call 75; refine (HIX.out _).mono ?_; rintro e w' ⟨rfl, rfl⟩) | (go_at_call 141; refine (HAT.out _ HERR.out).mono ?_; rintro e w1 ⟨N, rfl, hb1⟩))
            go_ret2
            exact ⟨by rw [HQ.out, HR.out]; rfl, hb1⟩
      · have hyd : dgAt s q = true := dgAt_iff.2 (by simp [digitB] at hdb; omega)
        have HALL := Lib.hid (show ∀ i, k ≤ i → i < q + 1 → dgAt s i = true from fun i h1 h2 => by
          rcases Nat.lt_or_ge i q with h | h
          · exact hall i h1 h
          · obtain rfl : i = q := by omega
            exact hyd)
        clear hall hyd hbq0
        go_wp2_with (go_at_call 77; refine (isDigit_any _ _).mono ?_; rintro e w' ⟨rfl, rfl⟩)
        go_round
        case rel => first | exact ⟨q + 1, by omega, by omega, by go_num, HALL.out⟩ | exact ⟨trivial, _, _, _, _, _, _, _, _, _, _, _, _, _, ⟨q + 1, by omega, by omega, by go_num, HALL.out⟩, rfl⟩
        case measure => simp [intOf]; omega
    · have hqe : q = s.size := by omega
      subst hqe
      clear hqs
      go_upto_region 9 with fail
      have HEN := Lib.hid (show Ends s k s.size from ⟨hfq, Nat.le_refl _, hall, fun h => absurd h (by omega)⟩)
      clear hall
      by_cases e0 : s.size = k
      · have he : ((s.size : Int) == (k : Int)) = true := by rw [beq_iff_eq]; omega
        have HE0 := Lib.hid e0
        clear e0
        go_wp2
        go_ret2
        exact ⟨by rw [HQ.out, who_bad HWF.out HEN.out (.inl HE0.out)]; rfl, Below.refl _ _⟩
      have he : ((s.size : Int) == (k : Int)) = false := by rw [beq_eq_false_iff_ne]; omega
      have hfs : k < s.size := by omega
      have HH := Lib.hid (bt_eq s k hfs)
      by_cases z2 : s[k].toNat = 48
      · have d2 : ((s[k].toNat : Int) == 48) = true := by rw [z2]; rfl
        by_cases z1 : k + 1 < s.size
        · have d1 : (k : Int) + 1 < (s.size : Int) := by omega
          have HB := Lib.hid (show bt s k = 48 ∧ k + 1 < s.size from ⟨by rw [HH.out, z2], z1⟩)
          clear z1 z2
          go_wp2
          go_ret2
          exact ⟨by rw [HQ.out, who_bad HWF.out HEN.out (.inr (.inl HB.out))]; rfl, Below.refl _ _⟩
        have d1 : decide ((k : Int) + 1 < (s.size : Int)) = false := decide_eq_false (by omega)
        have HZ := Lib.hid (show bt s k = 48 → s.size = k + 1 from fun _ => by omega)
        clear z2
        have dq : decide ((s.size : Int) < (s.size : Int)) = false := decide_eq_false (by omega)
        have HST := Lib.hid (show ¬ (s.size = k ∨ (bt s k = 48 ∧ k + 1 < s.size) ∨ stopB s s.size = true) by
          rintro (h | ⟨h1, h2⟩ | h)
          · exact e0 h
          · have := HZ.out h1; omega
          · rw [stopB, decide_eq_false (by omega)] at h; cases h)
        have hcan := Lib.hid (show Canon (figs s k s.size) from figs_canon HEN.out (by omega) HZ.out)
        have HW := Lib.hid (who_pos HWF.out HEN.out HST.out H45.out)
        have HAA := Lib.hid (atoi_plain hcan.out)
        generalize hv : valFrom 0 (figs s k s.size) = v at HW HAA
        clear hv
        have hx1 : (0 : Int) ≤ (k : Int) := by omega
        have hx2 : (k : Int) ≤ (s.size : Int) := by omega
        have hx3 : (s.size : Int) ≤ (s.size : Int) := by omega
        by_cases hv : v < 9223372036854775808
        · have HR := Lib.hid (show whoO s k = some (((v : Nat) : Int), s.size) by rw [HW.out, if_pos hv])
          have HAT := Lib.hid (fun w0 => iAtoiOk (s.extract k s.size) (((v : Nat) : Int)) w0 (by rw [ByteArray.size_extract]; omega) (by have h := HAA.out; rw [if_pos hv] at h; exact h))
          clear hv
          go_wp2_with (first | (go_at_call 141; refine (HAT.out _).mono ?_; rintro e w1 ⟨rfl, hb1⟩))
          go_ret2
          exact ⟨by rw [HQ.out, HR.out]; rfl, hb1⟩
        · have HR := Lib.hid (show whoO s k = none by rw [HW.out, if_neg hv])
          have HAT := Lib.hid (fun w0 hE => iAtoiRange (s.extract k s.size) w0 (by rw [ByteArray.size_extract]; omega) (by have h := HAA.out; rw [if_neg hv] at h; exact h) hE)
          clear hv
          go_wp2_with (first | (go_at_call 141; refine (HAT.out _ HERR.out).mono ?_; rintro e w1 ⟨N, rfl, hb1⟩))
          go_ret2
          exact ⟨by rw [HQ.out, HR.out]; rfl, hb1⟩
      · have d2 : ((s[k].toNat : Int) == 48) = false := by rw [beq_eq_false_iff_ne]; omega
        have HZ := Lib.hid (show bt s k = 48 → s.size = k + 1 from fun h => by rw [HH.out] at h; exact absurd h z2)
        clear z2
        have dq : decide ((s.size : Int) < (s.size : Int)) = false := decide_eq_false (by omega)
        have HST := Lib.hid (show ¬ (s.size = k ∨ (bt s k = 48 ∧ k + 1 < s.size) ∨ stopB s s.size = true) by
          rintro (h | ⟨h1, h2⟩ | h)
          · exact e0 h
          · have := HZ.out h1; omega
          · rw [stopB, decide_eq_false (by omega)] at h; cases h)
        have hcan := Lib.hid (show Canon (figs s k s.size) from figs_canon HEN.out (by omega) HZ.out)
        have HW := Lib.hid (who_pos HWF.out HEN.out HST.out H45.out)
        have HAA := Lib.hid (atoi_plain hcan.out)
        generalize hv : valFrom 0 (figs s k s.size) = v at HW HAA
        clear hv
        have hx1 : (0 : Int) ≤ (k : Int) := by omega
        have hx2 : (k : Int) ≤ (s.size : Int) := by omega
        have hx3 : (s.size : Int) ≤ (s.size : Int) := by omega
        by_cases hv : v < 9223372036854775808
        · have HR := Lib.hid (show whoO s k = some (((v : Nat) : Int), s.size) by rw [HW.out, if_pos hv])
          have HAT := Lib.hid (fun w0 => iAtoiOk (s.extract k s.size) (((v : Nat) : Int)) w0 (by rw [ByteArray.size_extract]; omega) (by have h := HAA.out; rw [if_pos hv] at h; exact h))
          clear hv
          go_wp2_with (first | (go_at_call 141; refine (HAT.out _).mono ?_; rintro e w1 ⟨rfl, hb1⟩))
          go_ret2
          exact ⟨by rw [HQ.out, HR.out]; rfl, hb1⟩
        · have HR := Lib.hid (show whoO s k = none by rw [HW.out, if_neg hv])
          have HAT := Lib.hid (fun w0 hE => iAtoiRange (s.extract k s.size) w0 (by rw [ByteArray.size_extract]; omega) (by have h := HAA.out; rw [if_neg hv] at h; exact h) hE)
          clear hv
          go_wp2_with (first | (go_at_call 141; refine (HAT.out _ HERR.out).mono ?_; rintro e w1 ⟨N, rfl, hb1⟩))
          go_ret2
          exact ⟨by rw [HQ.out, HR.out]; rfl, hb1⟩

theorem iReadWhole (s : ByteArray) (p : Int) (w : World) (hs : s.size ≤ 1048576) (hE : Errs w) :
    Calls Tryd.prog 78 #[.string s, .int .i64 p] w fun e w' => e = .returned (.tuple #[.int .i64 (whoN (whoQ s p)), .int .i64 (whoE (whoQ s p))]) ∧ Below w.heap.size w w' := by
  by_cases h0 : p < 0
  · have H := Lib.hid (who_out (s := s) (p := p) (by omega))
    go_enter Tryd.func78, Tryd.ntmps78
    go_wp2
    go_ret2
    exact ⟨by rw [H.out]; rfl, Below.refl _ _⟩
  by_cases h1 : p < (s.size : Int)
  rotate_left
  · have H := Lib.hid (who_out (s := s) (p := p) (by omega))
    go_enter Tryd.func78, Tryd.ntmps78
    go_wp2
    go_ret2
    exact ⟨by rw [H.out]; rfl, Below.refl _ _⟩
  obtain ⟨k, rfl⟩ := Int.eq_ofNat_of_zero_le (show 0 ≤ p by omega)
  have hk : k < s.size := by omega
  by_cases c0 : s[k].toNat = 45
  · exact iReadWholeNeg s k w hs hk c0 hE
  · exact iReadWholePos s k w hs hk c0 hE

end Go.Proofs.YtpcojfcbomkgpaaDoor
