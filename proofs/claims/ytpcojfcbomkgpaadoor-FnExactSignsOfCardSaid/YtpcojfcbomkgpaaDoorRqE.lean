/- spec.l09Escape: the contract. -/
import Derived.Test.YtpcojfcbomkgpaaDoorRqS
namespace Go.Proofs.YtpcojfcbomkgpaaDoor
open Go.RowKit

def stN : Option (Nat × Nat) → Int
  | none => 0
  | some (n, _) => n
def stE : Option (Nat × Nat) → Int
  | none => -1
  | some (_, e) => e

theorem esc_out {s : ByteArray} {k : Nat} (h : s.size ≤ k) : escO s k = none := by rw [escO, if_pos h]
theorem esc_lit {s : ByteArray} {k b : Nat} (h : k < s.size) (hb : bt s k = b) (h1 : b = 34 ∨ b = 92 ∨ b = 47) : escO s k = some (b, k + 1) := by
  rw [escO, if_neg (by omega), hb, if_pos h1]
theorem esc_ctl {s : ByteArray} {k b c : Nat} (h : k < s.size) (hb : bt s k = b) (h1 : (b = 98 ∧ c = 8) ∨ (b = 102 ∧ c = 12) ∨ (b = 110 ∧ c = 10) ∨ (b = 114 ∧ c = 13) ∨ (b = 116 ∧ c = 9)) : escO s k = some (c, k + 1) := by
  rw [escO, if_neg (by omega), hb]
  rcases h1 with ⟨rfl, rfl⟩ | ⟨rfl, rfl⟩ | ⟨rfl, rfl⟩ | ⟨rfl, rfl⟩ | ⟨rfl, rfl⟩ <;> rfl
theorem esc_other {s : ByteArray} {k : Nat} (h : bt s k ≠ 34 ∧ bt s k ≠ 92 ∧ bt s k ≠ 47 ∧ bt s k ≠ 98 ∧ bt s k ≠ 102 ∧ bt s k ≠ 110 ∧ bt s k ≠ 114 ∧ bt s k ≠ 116 ∧ bt s k ≠ 117) : escO s k = none := by
  by_cases h0 : s.size ≤ k
  · exact esc_out h0
  · rw [escO, if_neg h0, if_neg (by omega), if_neg (by omega), if_neg (by omega), if_neg (by omega), if_neg (by omega), if_neg (by omega), if_neg (by omega)]
theorem esc_u {s : ByteArray} {k : Nat} (h : k < s.size) (hb : bt s k = 117) : escO s k =
    match fourO s (k + 1) with
    | none => none
    | some n =>
      if 56320 ≤ n ∧ n ≤ 57343 then none
      else if ¬ (55296 ≤ n ∧ n ≤ 56319) then some (n, k + 5)
      else if bt s (k + 5) = 92 ∧ bt s (k + 6) = 117 then
        match fourO s (k + 7) with
        | none => none
        | some m => if 56320 ≤ m ∧ m ≤ 57343 then some (65536 + 1024 * (n - 55296) + (m - 56320), k + 11) else none
      else none := by
  rw [escO, if_neg (by omega), hb]
  rfl
theorem esc_u0 {s : ByteArray} {k : Nat} (h : k < s.size) (hb : bt s k = 117) (hf : fourO s (k + 1) = none) : escO s k = none := by rw [esc_u h hb, hf]
theorem esc_u1 {s : ByteArray} {k n : Nat} (h : k < s.size) (hb : bt s k = 117) (hf : fourO s (k + 1) = some n) (h1 : 56320 ≤ n ∧ n ≤ 57343) : escO s k = none := by
  rw [esc_u h hb, hf]; exact if_pos h1
theorem esc_u2 {s : ByteArray} {k n : Nat} (h : k < s.size) (hb : bt s k = 117) (hf : fourO s (k + 1) = some n) (h1 : ¬ (56320 ≤ n ∧ n ≤ 57343)) (h2 : ¬ (55296 ≤ n ∧ n ≤ 56319)) : escO s k = some (n, k + 5) := by
  rw [esc_u h hb, hf]; exact (if_neg h1).trans (if_pos h2)
theorem esc_u3 {s : ByteArray} {k n : Nat} (h : k < s.size) (hb : bt s k = 117) (hf : fourO s (k + 1) = some n) (h2 : 55296 ≤ n ∧ n ≤ 56319) (h3 : ¬ (bt s (k + 5) = 92 ∧ bt s (k + 6) = 117) ∨ fourO s (k + 7) = none) : escO s k = none := by
  rw [esc_u h hb, hf]
  refine (if_neg (by omega)).trans ((if_neg (by omega)).trans ?_)
  split
  · rcases h3 with h3 | h3
    · exact absurd (by assumption) h3
    · rw [h3]
  · rfl
theorem esc_u4 {s : ByteArray} {k n m : Nat} (h : k < s.size) (hb : bt s k = 117) (hf : fourO s (k + 1) = some n) (h2 : 55296 ≤ n ∧ n ≤ 56319) (h3 : bt s (k + 5) = 92 ∧ bt s (k + 6) = 117) (hg : fourO s (k + 7) = some m) (h4 : ¬ (56320 ≤ m ∧ m ≤ 57343)) : escO s k = none := by
  rw [esc_u h hb, hf]
  refine (if_neg (by omega)).trans ((if_neg (by omega)).trans ((if_pos h3).trans ?_))
  rw [hg]; exact if_neg h4
theorem esc_u5 {s : ByteArray} {k n m : Nat} (h : k < s.size) (hb : bt s k = 117) (hf : fourO s (k + 1) = some n) (h2 : 55296 ≤ n ∧ n ≤ 56319) (h3 : bt s (k + 5) = 92 ∧ bt s (k + 6) = 117) (hg : fourO s (k + 7) = some m) (h4 : 56320 ≤ m ∧ m ≤ 57343) : escO s k = some (65536 + 1024 * (n - 55296) + (m - 56320), k + 11) := by
  rw [esc_u h hb, hf]
  refine (if_neg (by omega)).trans ((if_neg (by omega)).trans ((if_pos h3).trans ?_))
  rw [hg]; exact if_pos h4

set_option maxHeartbeats 2000000 in
set_option maxRecDepth 100000 in
theorem sEscape (s : ByteArray) (k : Nat) (p : Int) (w : World) (hs : s.size ≤ 1048576) (hk : k ≤ 1048577) (hp : p = (k : Int)) :
    Calls Tryd.prog 133 #[.string s, .int .i64 p] w fun e w' => e = .returned (.tuple #[.int .i64 (stN (escO s k)), .int .i64 (stE (escO s k))]) ∧ w = w' := by
  subst hp
  by_cases hin : s.size ≤ k
  · have H := Lib.hid (esc_out hin)
    go_enter Tryd.func133, Tryd.ntmps133
    go_wp2
    go_ret2
    exact ⟨by rw [H.out]; rfl, rfl⟩
  have hks : k < s.size := by omega
  clear hin
  have hbt := bt_eq s k hks
  have h255 : (s[k].toNat : Int) ≤ 255 := by have := UInt8.toNat_lt s[k]; omega
  by_cases c1 : s[k].toNat = 34
  · have H := Lib.hid (esc_lit hks (hbt.trans c1) (by omega)); clear hbt
    go_enter Tryd.func133, Tryd.ntmps133
    go_wp2
    go_ret2
    exact ⟨by rw [H.out]; rfl, rfl⟩
  have d1 : ((s[k].toNat : Int) == 34) = false := by simp; omega
  by_cases c2 : s[k].toNat = 92
  · have H := Lib.hid (esc_lit hks (hbt.trans c2) (by omega)); clear hbt d1 c1
    go_enter Tryd.func133, Tryd.ntmps133
    go_wp2
    go_ret2
    exact ⟨by rw [H.out]; rfl, rfl⟩
  have d2 : ((s[k].toNat : Int) == 92) = false := by simp; omega
  by_cases c3 : s[k].toNat = 47
  · have H := Lib.hid (esc_lit hks (hbt.trans c3) (by omega)); clear hbt d1 d2 c1 c2
    go_enter Tryd.func133, Tryd.ntmps133
    go_wp2
    go_ret2
    exact ⟨by rw [H.out]; rfl, rfl⟩
  have d3 : ((s[k].toNat : Int) == 47) = false := by simp; omega
  by_cases c4 : s[k].toNat = 98
  · have H := Lib.hid (esc_ctl (c := 8) hks (hbt.trans c4) (by omega)); clear hbt d1 d2 d3 c1 c2 c3
    go_enter Tryd.func133, Tryd.ntmps133
    go_wp2
    go_ret2
    exact ⟨by rw [H.out]; rfl, rfl⟩
  have d4 : ((s[k].toNat : Int) == 98) = false := by simp; omega
  by_cases c5 : s[k].toNat = 102
  · have H := Lib.hid (esc_ctl (c := 12) hks (hbt.trans c5) (by omega)); clear hbt d1 d2 d3 d4 c1 c2 c3 c4
    go_enter Tryd.func133, Tryd.ntmps133
    go_wp2
    go_ret2
    exact ⟨by rw [H.out]; rfl, rfl⟩
  have d5 : ((s[k].toNat : Int) == 102) = false := by simp; omega
  by_cases c6 : s[k].toNat = 110
  · have H := Lib.hid (esc_ctl (c := 10) hks (hbt.trans c6) (by omega)); clear hbt d1 d2 d3 d4 d5 c1 c2 c3 c4 c5
    go_enter Tryd.func133, Tryd.ntmps133
    go_wp2
    go_ret2
    exact ⟨by rw [H.out]; rfl, rfl⟩
  have d6 : ((s[k].toNat : Int) == 110) = false := by simp; omega
  by_cases c7 : s[k].toNat = 114
  · have H := Lib.hid (esc_ctl (c := 13) hks (hbt.trans c7) (by omega)); clear hbt d1 d2 d3 d4 d5 d6 c1 c2 c3 c4 c5 c6
    go_enter Tryd.func133, Tryd.ntmps133
    go_wp2
    go_ret2
    exact ⟨by rw [H.out]; rfl, rfl⟩
  have d7 : ((s[k].toNat : Int) == 114) = false := by simp; omega
  by_cases c8 : s[k].toNat = 116
  · have H := Lib.hid (esc_ctl (c := 9) hks (hbt.trans c8) (by omega)); clear hbt d1 d2 d3 d4 d5 d6 d7 c1 c2 c3 c4 c5 c6 c7
    go_enter Tryd.func133, Tryd.ntmps133
    go_wp2
    go_ret2
    exact ⟨by rw [H.out]; rfl, rfl⟩
  have d8 : ((s[k].toNat : Int) == 116) = false := by simp; omega
  by_cases c9 : s[k].toNat = 117
  rotate_left
  · have H := Lib.hid (esc_other (s := s) (k := k) (by omega)); clear hbt
    have d9 : ((s[k].toNat : Int) == 117) = false := by simp; omega
    clear c1 c2 c3 c4 c5 c6 c7 c8 c9
    go_enter Tryd.func133, Tryd.ntmps133
    go_wp2
    go_ret2
    exact ⟨by rw [H.out]; rfl, rfl⟩
  have hb := Lib.hid (hbt.trans c9)
  clear hbt c1 c2 c3 c4 c5 c6 c7 c8
  have e9 : ((s[k].toNat : Int) == 117) = true := by rw [c9]; rfl
  clear c9
  have HF1 := Lib.hid (fun w0 => sFour s (k + 1) ((k : Int) + 1) w0 hs (by omega) (by omega))
  cases hf : fourO s (k + 1) with
  | none =>
    have H := Lib.hid (esc_u0 hks hb.out hf)
    have HZ := Lib.hid (fourZ_none hf)
    clear hf
    go_enter Tryd.func133, Tryd.ntmps133
    go_wp2_with (go_at_call 186; refine (HF1.out _).mono ?_; rw [HZ.out]; rintro e w' ⟨rfl, rfl⟩)
    go_ret2
    exact ⟨by rw [H.out]; rfl, rfl⟩
  | some n =>
    have HZ := Lib.hid (fourZ_some hf)
    have hn := (fourO_some hf).2
    have hn4 := (fourO_some hf).1
    have hn0 : ((n : Int) < 0) = False := by simp
    by_cases g1 : 56320 ≤ n ∧ n ≤ 57343
    · have H := Lib.hid (esc_u1 hks hb.out hf g1)
      have hbw : betweenB (n : Int) 56320 57343 = true := by simp [betweenB]; omega
      clear hf
      go_enter Tryd.func133, Tryd.ntmps133
      go_wp2_with (first | (go_at_call 186; refine (HF1.out _).mono ?_; rw [HZ.out]; rintro e w' ⟨rfl, rfl⟩) | (go_at_call 71; refine (l01In_any _ _ _ _).mono ?_; rintro e w' ⟨rfl, rfl⟩))
      go_ret2
      exact ⟨by rw [H.out]; rfl, rfl⟩
    have hbw : betweenB (n : Int) 56320 57343 = false := by simp [betweenB]; omega
    by_cases g2 : 55296 ≤ n ∧ n ≤ 56319
    rotate_left
    · have H := Lib.hid (esc_u2 hks hb.out hf g1 g2)
      have hbw2 : betweenB (n : Int) 55296 56319 = false := by simp [betweenB]; omega
      clear hf g1 g2
      go_enter Tryd.func133, Tryd.ntmps133
      go_wp2_with (first | (go_at_call 186; refine (HF1.out _).mono ?_; rw [HZ.out]; rintro e w' ⟨rfl, rfl⟩) | (go_at_call 71; refine (l01In_any _ _ _ _).mono ?_; rintro e w' ⟨rfl, rfl⟩))
      go_ret2
      exact ⟨by rw [H.out]; exact ret_at rfl rfl, rfl⟩
    have hbw2 : betweenB (n : Int) 55296 56319 = true := by simp [betweenB]; omega
    have hn1 : (55296 : Int) ≤ n := by omega
    have hn2 : (n : Int) ≤ 56319 := by omega
    have HU3 := Lib.hid (esc_u3 hks hb.out hf g2)
    have HU4 := Lib.hid (fun m => esc_u4 (m := m) hks hb.out hf g2)
    have HU5 := Lib.hid (fun m => esc_u5 (m := m) hks hb.out hf g2)
    clear hf g1 g2
    by_cases h7 : k + 7 ≤ s.size
    rotate_left
    · have H := Lib.hid (HU3.out (.inr (show fourO s (k + 7) = none by rw [fourO, if_pos (by omega)])))
      have hd7 : decide ((s.size : Int) < (k : Int) + 7) = true := decide_eq_true (by omega)
      clear h7
      go_enter Tryd.func133, Tryd.ntmps133
      go_wp2_with (first | (go_at_call 186; refine (HF1.out _).mono ?_; rw [HZ.out]; rintro e w' ⟨rfl, rfl⟩) | (go_at_call 71; refine (l01In_any _ _ _ _).mono ?_; rintro e w' ⟨rfl, rfl⟩))
      go_ret2
      exact ⟨by rw [H.out]; rfl, rfl⟩
    have hd7 : decide ((s.size : Int) < (k : Int) + 7) = false := decide_eq_false (by omega)
    have k5 : k + 5 < s.size := by omega
    have k6 : k + 6 < s.size := by omega
    have hb5 := Lib.hid (bt_eq s (k + 5) k5)
    have hb6 := Lib.hid (bt_eq s (k + 6) k6)
    by_cases g5 : s[k + 5].toNat = 92
    rotate_left
    · have H := Lib.hid (HU3.out (.inl (by rw [hb5.out]; omega)))
      have n5 : ((s[k + 5].toNat : Int) != 92) = true := by simp; omega
      clear g5
      go_enter Tryd.func133, Tryd.ntmps133
      go_wp2_with (first | (go_at_call 186; refine (HF1.out _).mono ?_; rw [HZ.out]; rintro e w' ⟨rfl, rfl⟩) | (go_at_call 71; refine (l01In_any _ _ _ _).mono ?_; rintro e w' ⟨rfl, rfl⟩))
      go_ret2
      exact ⟨by rw [H.out]; rfl, rfl⟩
    have n5 : ((s[k + 5].toNat : Int) != 92) = false := by rw [g5]; rfl
    by_cases g6 : s[k + 6].toNat = 117
    rotate_left
    · have H := Lib.hid (HU3.out (.inl (by rw [hb6.out]; omega)))
      have n6 : ((s[k + 6].toNat : Int) != 117) = true := by simp; omega
      clear g5 g6
      go_enter Tryd.func133, Tryd.ntmps133
      go_wp2_with (first | (go_at_call 186; refine (HF1.out _).mono ?_; rw [HZ.out]; rintro e w' ⟨rfl, rfl⟩) | (go_at_call 71; refine (l01In_any _ _ _ _).mono ?_; rintro e w' ⟨rfl, rfl⟩))
      go_ret2
      exact ⟨by rw [H.out]; rfl, rfl⟩
    have n6 : ((s[k + 6].toNat : Int) != 117) = false := by rw [g6]; rfl
    have HB := Lib.hid (show bt s (k + 5) = 92 ∧ bt s (k + 6) = 117 from ⟨hb5.out.trans g5, hb6.out.trans g6⟩)
    clear g5 g6
    have HF7 := Lib.hid (fun w0 => sFour s (k + 7) ((k : Int) + 7) w0 hs (by omega) (by omega))
    cases hg : fourO s (k + 7) with
    | none =>
      have H := Lib.hid (HU3.out (.inr hg))
      have HZ7 := Lib.hid (fourZ_none hg)
      clear hg
      have hbw3 : betweenB (-1) 56320 57343 = false := by decide
      go_enter Tryd.func133, Tryd.ntmps133
      go_wp2_with (first | (go_at_call 186; (first | ((with_reducible refine (HF1.out _).mono ?_); rw [HZ.out]) | ((with_reducible refine (HF7.out _).mono ?_); rw [HZ7.out])); rintro e w' ⟨rfl, rfl⟩) | (go_at_call 71; refine (l01In_any _ _ _ _).mono ?_; rintro e w' ⟨rfl, rfl⟩))
      go_ret2
      exact ⟨by rw [H.out]; rfl, rfl⟩
    | some m =>
      have HZ7 := Lib.hid (fourZ_some hg)
      have hm := (fourO_some hg).2
      by_cases g4 : 56320 ≤ m ∧ m ≤ 57343
      rotate_left
      · have H := Lib.hid (HU4.out m HB.out hg g4)
        have hbw3 : betweenB (m : Int) 56320 57343 = false := by simp [betweenB]; omega
        clear hg g4
        go_enter Tryd.func133, Tryd.ntmps133
        go_wp2_with (first | (go_at_call 186; (first | ((with_reducible refine (HF1.out _).mono ?_); rw [HZ.out]) | ((with_reducible refine (HF7.out _).mono ?_); rw [HZ7.out])); rintro e w' ⟨rfl, rfl⟩) | (go_at_call 71; refine (l01In_any _ _ _ _).mono ?_; rintro e w' ⟨rfl, rfl⟩))
        go_ret2
        exact ⟨by rw [H.out]; rfl, rfl⟩
      · have H := Lib.hid (HU5.out m HB.out hg g4)
        have hbw3 : betweenB (m : Int) 56320 57343 = true := by simp [betweenB]; omega
        have hm1 : (56320 : Int) ≤ m := by omega
        have hm2 : (m : Int) ≤ 57343 := by omega
        clear hg g4
        go_enter Tryd.func133, Tryd.ntmps133
        go_wp2_with (first | (go_at_call 186; (first | ((with_reducible refine (HF1.out _).mono ?_); rw [HZ.out]) | ((with_reducible refine (HF7.out _).mono ?_); rw [HZ7.out])); rintro e w' ⟨rfl, rfl⟩) | (go_at_call 71; refine (l01In_any _ _ _ _).mono ?_; rintro e w' ⟨rfl, rfl⟩))
        go_ret2
        exact ⟨by rw [H.out]; exact ret_at (by simp only [stN]; omega) (by simp only [stE]; omega), rfl⟩

end Go.Proofs.YtpcojfcbomkgpaaDoor
