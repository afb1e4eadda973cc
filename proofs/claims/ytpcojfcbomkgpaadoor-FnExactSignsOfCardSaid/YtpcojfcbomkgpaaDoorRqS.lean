/- spec's l09Four, l09Escape, ReadQuoted: contracts. -/
import Derived.Test.YtpcojfcbomkgpaaDoorRq
import Derived.Test.YtpcojfcbomkgpaaDoorBuf
import Derived.Test.YtpcojfcbomkgpaaDoorQuoS
namespace Go.Proofs.YtpcojfcbomkgpaaDoor
open Go.RowKit

def valZ (c : Int) : Int := if 48 ≤ c ∧ c ≤ 57 then c - 48 else if 97 ≤ c ∧ c ≤ 102 then c - 87 else -1
theorem sValue (c : Int) (w : World) (h0 : 0 ≤ c) (h1 : c ≤ 255) : Calls Tryd.prog 222 #[.int .u8 c] w fun e w' => e = .returned (.int .i64 (valZ c)) ∧ w = w' := by
  have H : Hid (valZ c = if 48 ≤ c ∧ c ≤ 57 then c - 48 else if 97 ≤ c ∧ c ≤ 102 then c - 87 else -1) := rfl
  rcases (show c < 48 ∨ (48 ≤ c ∧ c ≤ 57) ∨ (58 ≤ c ∧ c < 97) ∨ (97 ≤ c ∧ c ≤ 102) ∨ 103 ≤ c by omega) with g | ⟨g, g'⟩ | ⟨g, g'⟩ | ⟨g, g'⟩ | g
  all_goals
    go_enter Tryd.func222, Tryd.ntmps222
    go_wp2
    go_ret
    refine ⟨ret_int ?_, rfl⟩
    rw [H.out]
    first
      | (rw [if_pos (by omega)]; done)
      | (rw [if_neg (by omega), if_pos (by omega)]; omega)
      | (rw [if_neg (by omega), if_neg (by omega)]; done)
def zOf (b : Nat) : Int := if 65 ≤ b ∧ b ≤ 70 then valZ ((b : Int) + 32) else valZ (b : Int)
theorem zOf_cases (b : Nat) : (hexO b = none ∧ zOf b = -1) ∨ ∃ d, d < 16 ∧ hexO b = some d ∧ zOf b = (d : Int) := by
  unfold zOf hexO valZ
  rcases (show b < 48 ∨ (48 ≤ b ∧ b ≤ 57) ∨ (58 ≤ b ∧ b < 65) ∨ (65 ≤ b ∧ b ≤ 70) ∨ (71 ≤ b ∧ b < 97) ∨ (97 ≤ b ∧ b ≤ 102) ∨ 103 ≤ b by omega) with g | g | g | g | g | g | g
  · left; rw [if_neg (by omega), if_neg (by omega), if_neg (by omega), if_neg (by omega), if_neg (by omega), if_neg (by omega)]; exact ⟨rfl, rfl⟩
  · right; rw [if_pos (by omega), if_neg (by omega), if_pos (by omega)]; exact ⟨b - 48, by omega, rfl, by omega⟩
  · left; rw [if_neg (by omega), if_neg (by omega), if_neg (by omega), if_neg (by omega), if_neg (by omega), if_neg (by omega)]; exact ⟨rfl, rfl⟩
  · right; rw [if_neg (by omega), if_pos (by omega), if_pos (by omega), if_neg (by omega), if_pos (by omega)]; exact ⟨b - 55, by omega, rfl, by omega⟩
  · left; rw [if_neg (by omega), if_neg (by omega), if_neg (by omega), if_neg (by omega), if_neg (by omega), if_neg (by omega)]; exact ⟨rfl, rfl⟩
  · right; rw [if_neg (by omega), if_neg (by omega), if_pos (by omega), if_neg (by omega), if_neg (by omega), if_pos (by omega)]; exact ⟨b - 87, by omega, rfl, by omega⟩
  · left; rw [if_neg (by omega), if_neg (by omega), if_neg (by omega), if_neg (by omega), if_neg (by omega), if_neg (by omega)]; exact ⟨rfl, rfl⟩

def fourZ (s : ByteArray) (k : Nat) : Int := match fourO s k with | none => -1 | some n => (n : Int)
theorem fourZ_none {s : ByteArray} {k : Nat} (h : fourO s k = none) : fourZ s k = -1 := by rw [fourZ, h]
theorem fourZ_some {s : ByteArray} {k n : Nat} (h : fourO s k = some n) : fourZ s k = n := by rw [fourZ, h]

set_option maxHeartbeats 1000000 in
theorem sFour (s : ByteArray) (k : Nat) (p : Int) (w : World) (hs : s.size ≤ 1048576) (hk : k ≤ 2000000) (hp : p = (k : Int)) : Calls Tryd.prog 186 #[.string s, .int .i64 p] w fun e w' => e = .returned (.int .i64 (fourZ s k)) ∧ w = w' := by
  subst hp
  by_cases hin : s.size < k + 4
  · have H := Lib.hid (fourZ_none (show fourO s k = none by rw [fourO, if_pos hin]))
    have hd : decide ((s.size : Int) < (k : Int) + 4) = true := decide_eq_true (by omega)
    clear hin
    go_enter Tryd.func186, Tryd.ntmps186
    go_wp2
    go_ret
    exact ⟨ret_int H.out.symm, rfl⟩
  have HF := Lib.hid (show fourO s k = hexTo s k 4 by rw [fourO, if_neg hin])
  have hd : decide ((s.size : Int) < (k : Int) + 4) = false := decide_eq_false (by omega)
  have hin2 : k + 4 ≤ s.size := by omega
  clear hin
  go_enter Tryd.func186, Tryd.ntmps186
  go_wp2
  clear hd
  go_loop [5, 6] (fun n i => ∃ q m : Nat, k ≤ q ∧ q ≤ k + 4 ∧ i = .int .i64 q ∧ n = .int .i64 m ∧ hexTo s k (q - k) = some m) (fun _ i => k + 4 - (intOf i).toNat)
  case atStart => exact ⟨k, 0, by omega, by omega, rfl, rfl, by rw [Nat.sub_self]; rfl⟩
  case round =>
    obtain ⟨q, m, hq, hq4, rfl, rfl, hx⟩ := hrel
    have HX := Lib.hid hx
    have hm : m ≤ 1048576 := by
      have h1 := hexTo_lt s k _ m hx
      have h2 : (16 : Nat) ^ (q - k) ≤ 16 ^ 4 := Nat.pow_le_pow_right (by omega) (by omega)
      have h3 : (16 : Nat) ^ 4 = 65536 := rfl
      omega
    clear hx
    by_cases hlt : q < k + 4
    · have hqs : q < s.size := by omega
      have hlt' : decide ((q : Int) < (k : Int) + 4) = true := decide_eq_true (by omega)
      have HB := Lib.hid (bt_eq s q hqs)
      have HS := Lib.hid (show hexTo s k (q + 1 - k) = (hexTo s k (q - k)).bind fun n => (hexO (bt s q)).map fun d => 16 * n + d by
        have e : q + 1 - k = (q - k) + 1 := by omega
        have e2 : k + (q - k) = q := by omega
        rw [e, hexTo, e2])
      have h255 : (s[q].toNat : Int) ≤ 255 := by have := UInt8.toNat_lt s[q]; omega
      have hz : Hid ((65 ≤ s[q].toNat ∧ s[q].toNat ≤ 70 → valZ ((s[q].toNat : Int) + 32) = zOf s[q].toNat) ∧ (¬ (65 ≤ s[q].toNat ∧ s[q].toNat ≤ 70) → valZ (s[q].toNat : Int) = zOf s[q].toNat)) :=
        ⟨fun h => by rw [zOf, if_pos h], fun h => by rw [zOf, if_neg h]⟩
      have HC := Lib.hid (zOf_cases s[q].toNat)
      rcases (show (s[q].toNat : Int) < 65 ∨ (65 ≤ (s[q].toNat : Int) ∧ (s[q].toNat : Int) ≤ 70) ∨ 71 ≤ (s[q].toNat : Int) by omega) with g | ⟨g, g'⟩ | g
      all_goals
        rcases HC.out with ⟨c1, c2⟩ | ⟨d, hd16, c1, c2⟩
      all_goals
        have C1 := Lib.hid c1; have C2 := Lib.hid c2; clear c1 c2
      all_goals
        go_wp2_with (go_at_call 222; refine (sValue _ _ (by omega) (by omega)).mono ?_; first | rw [hz.out.1 (by omega), C2.out] | rw [hz.out.2 (by omega), C2.out]; rintro e w' ⟨rfl, rfl⟩)
      all_goals
        first
          | (go_ret
             refine ⟨ret_int ?_, rfl⟩
             rw [fourZ_none]
             rw [HF.out]
             refine hexTo_none (i := q - k) ?_ 4 (by omega)
             have e2 : k + (q - k) = q := by omega
             rw [e2, HB.out]
             exact C1.out)
          | (go_round
             case rel => exact ⟨q + 1, 16 * m + d, by omega, by omega, by go_num, by go_num, by rw [HS.out, HX.out, HB.out, C1.out]; rfl⟩
             case measure => simp [intOf]; omega)
    · have hlt' : decide ((q : Int) < (k : Int) + 4) = false := decide_eq_false (by omega)
      have H := Lib.hid (fourZ_some (show fourO s k = some m by
        rw [HF.out]
        have e : q - k = 4 := by omega
        have := HX.out
        rw [e] at this
        exact this))
      go_wp2
      go_ret
      exact ⟨ret_int H.out.symm, rfl⟩

end Go.Proofs.YtpcojfcbomkgpaaDoor
