/- impl.readEscape: the contract. -/
import Derived.Test.YtpcojfcbomkgpaaDoorRqD
namespace Go.Proofs.YtpcojfcbomkgpaaDoor
open Go.RowKit

def escLet : ByteArray := ⟨#[98, 102, 110, 114, 116]⟩
theorem let_none (c : UInt8) (h : c.toNat ≠ 98 ∧ c.toNat ≠ 102 ∧ c.toNat ≠ 110 ∧ c.toNat ≠ 114 ∧ c.toNat ≠ 116) : Lib.indexByte escLet.data.toList c = -1 :=
  u8_all (P := fun c => (c.toNat ≠ 98 ∧ c.toNat ≠ 102 ∧ c.toNat ≠ 110 ∧ c.toNat ≠ 114 ∧ c.toNat ≠ 116) → Lib.indexByte escLet.data.toList c = -1) (by decide +kernel) c h
theorem let_at (c : UInt8) (b : Nat) (h : c.toNat = b) (i : Int) (hi : Lib.indexByte escLet.data.toList (UInt8.ofNat b) = i) : Lib.indexByte escLet.data.toList c = i := by
  have : c = UInt8.ofNat b := by rw [← h]; simp
  rw [this, hi]
theorem iLet (c : UInt8) (w0 : World) : Calls Tryd.prog 75 #[.string escLet, .int .u8 (c.toNat : Int)] w0 fun e w' => e = .returned (.int .i64 (Lib.indexByte escLet.data.toList c)) ∧ w0 = w' := by
  refine (Tryd.strings_IndexByte escLet (c.toNat : Int) w0).mono fun e w' ⟨h1, h2⟩ => ⟨by simpa using h1, h2.symm⟩

set_option maxHeartbeats 4000000 in
set_option maxRecDepth 100000 in
theorem iEscape (s : ByteArray) (k : Nat) (p : Int) (w : World) (hs : s.size ≤ 1048576) (hk : k ≤ 1048577) (hp : p = (k : Int)) (hT : Tabs w) (hV : Cases w) :
    Calls Tryd.prog 138 #[.string s, .int .i64 p] w fun e w' => e = .returned (.tuple #[.int .i64 (stN (escO s k)), .int .i64 (stE (escO s k))]) ∧ Below w.heap.size w w' := by
  subst hp
  have HTV := Lib.hid (And.intro hT hV); clear hT hV
  by_cases hin : s.size ≤ k
  · have H := Lib.hid (esc_out hin)
    go_enter Tryd.func138, Tryd.ntmps138
    go_wp2
    go_ret2
    exact ⟨by rw [H.out]; rfl, Below.refl _ _⟩
  have hks : k < s.size := by omega
  clear hin
  have hbt := bt_eq s k hks
  have h255 : (s[k].toNat : Int) ≤ 255 := by have := UInt8.toNat_lt s[k]; omega
  have hix := iLet s[k]
  by_cases c34 : s[k].toNat = 34
  · have H := Lib.hid (esc_lit hks (hbt.trans c34) (by omega))
    have d34 : ((s[k].toNat : Int) == 34) = true := by simp; omega
    have hc := Lib.hid (show (s[k].toNat : Int) = 34 by omega)
    clear c34 hbt hix
    go_enter Tryd.func138, Tryd.ntmps138
    go_wp2
    go_ret2
    exact ⟨by rw [H.out]; exact ret_at hc.out rfl, Below.refl _ _⟩
  have d34 : ((s[k].toNat : Int) == 34) = false := by simp; omega
  by_cases c92 : s[k].toNat = 92
  · have H := Lib.hid (esc_lit hks (hbt.trans c92) (by omega))
    have d92 : ((s[k].toNat : Int) == 92) = true := by simp; omega
    have hc := Lib.hid (show (s[k].toNat : Int) = 92 by omega)
    clear c92 hbt hix
    go_enter Tryd.func138, Tryd.ntmps138
    go_wp2
    go_ret2
    exact ⟨by rw [H.out]; exact ret_at hc.out rfl, Below.refl _ _⟩
  have d92 : ((s[k].toNat : Int) == 92) = false := by simp; omega
  by_cases c47 : s[k].toNat = 47
  · have H := Lib.hid (esc_lit hks (hbt.trans c47) (by omega))
    have d47 : ((s[k].toNat : Int) == 47) = true := by simp; omega
    have hc := Lib.hid (show (s[k].toNat : Int) = 47 by omega)
    clear c47 hbt hix
    go_enter Tryd.func138, Tryd.ntmps138
    go_wp2
    go_ret2
    exact ⟨by rw [H.out]; exact ret_at hc.out rfl, Below.refl _ _⟩
  have d47 : ((s[k].toNat : Int) == 47) = false := by simp; omega
  by_cases c98 : s[k].toNat = 98
  · have H := Lib.hid (esc_ctl (c := 8) hks (hbt.trans c98) (by omega))
    rw [let_at s[k] 98 c98 0 rfl] at hix
    have HIX := Lib.hid hix
    clear hbt hix c34 c92 c47 c98
    go_enter Tryd.func138, Tryd.ntmps138
    go_wp2_with (go_at_call 75; refine (HIX.out _).mono ?_; rintro e w' ⟨rfl, rfl⟩)
    go_ret2
    exact ⟨by rw [H.out]; exact ret_at (show _ = ((8 : Nat) : Int) by decide +kernel) rfl, Below.refl _ _⟩
  by_cases c102 : s[k].toNat = 102
  · have H := Lib.hid (esc_ctl (c := 12) hks (hbt.trans c102) (by omega))
    rw [let_at s[k] 102 c102 1 rfl] at hix
    have HIX := Lib.hid hix
    clear hbt hix c34 c92 c47 c98 c102
    go_enter Tryd.func138, Tryd.ntmps138
    go_wp2_with (go_at_call 75; refine (HIX.out _).mono ?_; rintro e w' ⟨rfl, rfl⟩)
    go_ret2
    exact ⟨by rw [H.out]; exact ret_at (show _ = ((12 : Nat) : Int) by decide +kernel) rfl, Below.refl _ _⟩
  by_cases c110 : s[k].toNat = 110
  · have H := Lib.hid (esc_ctl (c := 10) hks (hbt.trans c110) (by omega))
    rw [let_at s[k] 110 c110 2 rfl] at hix
    have HIX := Lib.hid hix
    clear hbt hix c34 c92 c47 c98 c102 c110
    go_enter Tryd.func138, Tryd.ntmps138
    go_wp2_with (go_at_call 75; refine (HIX.out _).mono ?_; rintro e w' ⟨rfl, rfl⟩)
    go_ret2
    exact ⟨by rw [H.out]; exact ret_at (show _ = ((10 : Nat) : Int) by decide +kernel) rfl, Below.refl _ _⟩
  by_cases c114 : s[k].toNat = 114
  · have H := Lib.hid (esc_ctl (c := 13) hks (hbt.trans c114) (by omega))
    rw [let_at s[k] 114 c114 3 rfl] at hix
    have HIX := Lib.hid hix
    clear hbt hix c34 c92 c47 c98 c102 c110 c114
    go_enter Tryd.func138, Tryd.ntmps138
    go_wp2_with (go_at_call 75; refine (HIX.out _).mono ?_; rintro e w' ⟨rfl, rfl⟩)
    go_ret2
    exact ⟨by rw [H.out]; exact ret_at (show _ = ((13 : Nat) : Int) by decide +kernel) rfl, Below.refl _ _⟩
  by_cases c116 : s[k].toNat = 116
  · have H := Lib.hid (esc_ctl (c := 9) hks (hbt.trans c116) (by omega))
    rw [let_at s[k] 116 c116 4 rfl] at hix
    have HIX := Lib.hid hix
    clear hbt hix c34 c92 c47 c98 c102 c110 c114 c116
    go_enter Tryd.func138, Tryd.ntmps138
    go_wp2_with (go_at_call 75; refine (HIX.out _).mono ?_; rintro e w' ⟨rfl, rfl⟩)
    go_ret2
    exact ⟨by rw [H.out]; exact ret_at (show _ = ((9 : Nat) : Int) by decide +kernel) rfl, Below.refl _ _⟩
  rw [let_none s[k] ⟨c98, c102, c110, c114, c116⟩] at hix
  have HIX := Lib.hid hix
  have HF1 := Lib.hid (fun w0 hT hV => iFour s (k + 1) ((k : Int) + 1) w0 hs (by omega) (by omega) hT hV)
  clear hix
  by_cases c9 : s[k].toNat = 117
  rotate_left
  · have H := Lib.hid (esc_other (s := s) (k := k) (by omega))
    have d9 : ((s[k].toNat : Int) != 117) = true := by simp; omega
    generalize fdN (fourO s (k + 1)) = z1 at HF1
    generalize (fourO s (k + 1)).isSome = z2 at HF1
    clear hbt c34 c92 c47 c98 c102 c110 c114 c116 c9
    go_enter Tryd.func138, Tryd.ntmps138
    go_wp2_with (first | (go_at_call 75; refine (HIX.out _).mono ?_; rintro e w' ⟨rfl, rfl⟩) | (go_at_call 189; (with_reducible refine (HF1.out _ HTV.out.1 HTV.out.2).mono ?_); rintro e w1 ⟨rfl, hb1⟩))
    go_ret2
    exact ⟨by rw [H.out]; rfl, hb1⟩
  have hb := Lib.hid (hbt.trans c9)
  have e9 : ((s[k].toNat : Int) != 117) = false := by rw [c9]; rfl
  clear hbt c34 c92 c47 c98 c102 c110 c114 c116 c9

  cases hf : fourO s (k + 1) with
  | none =>
    have H := Lib.hid (esc_u0 hks hb.out hf)
    rw [hf] at HF1
    simp only [fdN, Option.isSome_none] at HF1
    clear hf
    go_enter Tryd.func138, Tryd.ntmps138
    go_wp2_with (first | (go_at_call 75; refine (HIX.out _).mono ?_; rintro e w' ⟨rfl, rfl⟩) | (go_at_call 189; (with_reducible refine (HF1.out _ HTV.out.1 HTV.out.2).mono ?_); rintro e w1 ⟨rfl, hb1⟩) | (go_at_call 128; refine (within_any _ _ _ _).mono ?_; rintro e w' ⟨rfl, rfl⟩))
    go_ret2
    exact ⟨by rw [H.out]; rfl, hb1⟩
  | some n =>
    have hn := (fourO_some hf).2
    have hn4 := (fourO_some hf).1
    rw [hf] at HF1
    simp only [fdN, Option.isSome_some] at HF1
    by_cases g1 : 56320 ≤ n ∧ n ≤ 57343
    · have H := Lib.hid (esc_u1 hks hb.out hf g1)
      have hbw : betweenB (n : Int) 56320 57343 = true := by simp [betweenB]; omega
      clear hf
      go_enter Tryd.func138, Tryd.ntmps138
      go_wp2_with (first | (go_at_call 75; refine (HIX.out _).mono ?_; rintro e w' ⟨rfl, rfl⟩) | (go_at_call 189; (with_reducible refine (HF1.out _ HTV.out.1 HTV.out.2).mono ?_); rintro e w1 ⟨rfl, hb1⟩) | (go_at_call 128; refine (within_any _ _ _ _).mono ?_; rintro e w' ⟨rfl, rfl⟩))
      go_ret2
      exact ⟨by rw [H.out]; rfl, hb1⟩
    have hbw : betweenB (n : Int) 56320 57343 = false := by simp [betweenB]; omega
    by_cases g2 : 55296 ≤ n ∧ n ≤ 56319
    rotate_left
    · have H := Lib.hid (esc_u2 hks hb.out hf g1 g2)
      have hbw2 : betweenB (n : Int) 55296 56319 = false := by simp [betweenB]; omega
      clear hf g1 g2
      go_enter Tryd.func138, Tryd.ntmps138
      go_wp2_with (first | (go_at_call 75; refine (HIX.out _).mono ?_; rintro e w' ⟨rfl, rfl⟩) | (go_at_call 189; (with_reducible refine (HF1.out _ HTV.out.1 HTV.out.2).mono ?_); rintro e w1 ⟨rfl, hb1⟩) | (go_at_call 128; refine (within_any _ _ _ _).mono ?_; rintro e w' ⟨rfl, rfl⟩))
      go_ret2
      exact ⟨by rw [H.out]; exact ret_at rfl rfl, hb1⟩
    have hbw2 : betweenB (n : Int) 55296 56319 = true := by simp [betweenB]; omega
    have hn1 : (55296 : Int) ≤ n := by omega
    have hn2 : (n : Int) ≤ 56319 := by omega
    have HU3 := Lib.hid (esc_u3 hks hb.out hf g2)
    have HU4 := Lib.hid (fun m => esc_u4 (m := m) hks hb.out hf g2)
    have HU5 := Lib.hid (fun m => esc_u5 (m := m) hks hb.out hf g2)
    clear hf g1 g2
    have HF7 := Lib.hid (fun w0 hT hV => iFour s (k + 7) ((k : Int) + 7) w0 hs (by omega) (by omega) hT hV)
    cases hg : fourO s (k + 7) with
    | none =>
      have H := Lib.hid (HU3.out (.inr hg))
      rw [hg] at HF7
      simp only [fdN, Option.isSome_none] at HF7
      clear hg
      go_enter Tryd.func138, Tryd.ntmps138
      go_wp2_with (first | (go_at_call 75; refine (HIX.out _).mono ?_; rintro e w' ⟨rfl, rfl⟩) | (go_at_call 189; (with_reducible refine (HF1.out _ HTV.out.1 HTV.out.2).mono ?_); rintro e w1 ⟨rfl, hb1⟩) | (go_at_call 189; (with_reducible refine (HF7.out _ (tabs_keep HTV.out.1 hb1) (cases_keep HTV.out.2 hb1)).mono ?_); rintro e w2 ⟨rfl, hb2⟩) | (go_at_call 128; refine (within_any _ _ _ _).mono ?_; rintro e w' ⟨rfl, rfl⟩))
      go_ret2
      exact ⟨by rw [H.out]; rfl, bnext hb1 hb2⟩
    | some m =>
      rw [hg] at HF7
      simp only [fdN, Option.isSome_some] at HF7
      have hm := (fourO_some hg).2
      have hm4 := (fourO_some hg).1
      have k5 : k + 5 < s.size := by omega
      have k6 : k + 6 < s.size := by omega
      have hb5 := Lib.hid (bt_eq s (k + 5) k5)
      have hb6 := Lib.hid (bt_eq s (k + 6) k6)
      by_cases g5 : s[k + 5].toNat = 92
      rotate_left
      · have H := Lib.hid (HU3.out (.inl (by rw [hb5.out]; omega)))
        have n5 : ((s[k + 5].toNat : Int) != 92) = true := by simp; omega
        clear g5 hg
        go_enter Tryd.func138, Tryd.ntmps138
        go_wp2_with (first | (go_at_call 75; refine (HIX.out _).mono ?_; rintro e w' ⟨rfl, rfl⟩) | (go_at_call 189; (with_reducible refine (HF1.out _ HTV.out.1 HTV.out.2).mono ?_); rintro e w1 ⟨rfl, hb1⟩) | (go_at_call 189; (with_reducible refine (HF7.out _ (tabs_keep HTV.out.1 hb1) (cases_keep HTV.out.2 hb1)).mono ?_); rintro e w2 ⟨rfl, hb2⟩) | (go_at_call 128; refine (within_any _ _ _ _).mono ?_; rintro e w' ⟨rfl, rfl⟩))
        go_ret2
        exact ⟨by rw [H.out]; rfl, bnext hb1 hb2⟩
      have n5 : ((s[k + 5].toNat : Int) != 92) = false := by rw [g5]; rfl
      by_cases g6 : s[k + 6].toNat = 117
      rotate_left
      · have H := Lib.hid (HU3.out (.inl (by rw [hb6.out]; omega)))
        have n6 : ((s[k + 6].toNat : Int) != 117) = true := by simp; omega
        clear g5 g6 hg
        go_enter Tryd.func138, Tryd.ntmps138
        go_wp2_with (first | (go_at_call 75; refine (HIX.out _).mono ?_; rintro e w' ⟨rfl, rfl⟩) | (go_at_call 189; (with_reducible refine (HF1.out _ HTV.out.1 HTV.out.2).mono ?_); rintro e w1 ⟨rfl, hb1⟩) | (go_at_call 189; (with_reducible refine (HF7.out _ (tabs_keep HTV.out.1 hb1) (cases_keep HTV.out.2 hb1)).mono ?_); rintro e w2 ⟨rfl, hb2⟩) | (go_at_call 128; refine (within_any _ _ _ _).mono ?_; rintro e w' ⟨rfl, rfl⟩))
        go_ret2
        exact ⟨by rw [H.out]; rfl, bnext hb1 hb2⟩
      have n6 : ((s[k + 6].toNat : Int) != 117) = false := by rw [g6]; rfl
      have HB := Lib.hid (show bt s (k + 5) = 92 ∧ bt s (k + 6) = 117 from ⟨hb5.out.trans g5, hb6.out.trans g6⟩)
      clear g5 g6
      by_cases g4 : 56320 ≤ m ∧ m ≤ 57343
      rotate_left
      · have H := Lib.hid (HU4.out m HB.out hg g4)
        have hbw3 : betweenB (m : Int) 56320 57343 = false := by simp [betweenB]; omega
        clear hg g4
        go_enter Tryd.func138, Tryd.ntmps138
        go_wp2_with (first | (go_at_call 75; refine (HIX.out _).mono ?_; rintro e w' ⟨rfl, rfl⟩) | (go_at_call 189; (with_reducible refine (HF1.out _ HTV.out.1 HTV.out.2).mono ?_); rintro e w1 ⟨rfl, hb1⟩) | (go_at_call 189; (with_reducible refine (HF7.out _ (tabs_keep HTV.out.1 hb1) (cases_keep HTV.out.2 hb1)).mono ?_); rintro e w2 ⟨rfl, hb2⟩) | (go_at_call 128; refine (within_any _ _ _ _).mono ?_; rintro e w' ⟨rfl, rfl⟩))
        go_ret2
        exact ⟨by rw [H.out]; rfl, bnext hb1 hb2⟩
      · have H := Lib.hid (HU5.out m HB.out hg g4)
        have hbw3 : betweenB (m : Int) 56320 57343 = true := by simp [betweenB]; omega
        have hm1 : (56320 : Int) ≤ m := by omega
        have hm2 : (m : Int) ≤ 57343 := by omega
        clear hg g4
        go_enter Tryd.func138, Tryd.ntmps138
        go_wp2_with (first | (go_at_call 75; refine (HIX.out _).mono ?_; rintro e w' ⟨rfl, rfl⟩) | (go_at_call 189; (with_reducible refine (HF1.out _ HTV.out.1 HTV.out.2).mono ?_); rintro e w1 ⟨rfl, hb1⟩) | (go_at_call 189; (with_reducible refine (HF7.out _ (tabs_keep HTV.out.1 hb1) (cases_keep HTV.out.2 hb1)).mono ?_); rintro e w2 ⟨rfl, hb2⟩) | (go_at_call 128; refine (within_any _ _ _ _).mono ?_; rintro e w' ⟨rfl, rfl⟩))
        go_ret2
        exact ⟨by rw [H.out]; exact ret_at (by simp only [stN]; omega) (by simp only [stE]; omega), bnext hb1 hb2⟩

end Go.Proofs.YtpcojfcbomkgpaaDoor
