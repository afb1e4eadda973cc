/- spec.RuneAt: its contract. -/
import Derived.Test.YtbjialckijphiaaDoorRuneW
import Derived.Deep.RegionWith
namespace Go.Proofs.YtbjialckijphiaaDoor
open Go.RowKit

theorem rhead_le (b : Nat) (h : b < 256) : rhead b ≤ 255 := by
  unfold rhead
  split
  · omega
  split
  · omega
  split <;> omega

theorem racc_bd (s : ByteArray) (k : Nat) : ∀ i, i ≤ 4 → racc s k i ≤ 67375167 ∧ (i ≤ 3 → racc s k i ≤ 1052735)
  | 0, _ => ⟨Nat.zero_le _, fun _ => Nat.zero_le _⟩
  | 1, _ => by
    have := bt_lt s k
    have : rhead (bt s k) ≤ 255 := rhead_le _ (bt_lt s k)
    have h11 : racc s k 1 = rhead (bt s k) := rfl
    rw [h11]; omega
  | 2, _ => by
    have h1 := bt_lt s k
    have h2 := bt_lt s (k + 1)
    have : rhead (bt s k) ≤ 255 := rhead_le _ (bt_lt s k)
    have h21 : racc s k 2 = 64 * rhead (bt s k) + (bt s (k + 1) - 128) := rfl
    rw [h21]; omega
  | 3, _ => by
    have h1 := bt_lt s k
    have h2 := bt_lt s (k + 1)
    have h3 := bt_lt s (k + 2)
    have : rhead (bt s k) ≤ 255 := rhead_le _ (bt_lt s k)
    have h31 : racc s k 3 = 64 * (64 * rhead (bt s k) + (bt s (k + 1) - 128)) + (bt s (k + 2) - 128) := rfl
    rw [h31]; omega
  | 4, _ => by
    have h1 := (racc_bd s k 3 (by omega)).2 (by omega)
    have h4 := bt_lt s (k + 3)
    have h41 : racc s k 4 = 64 * racc s k 3 + (bt s (k + 3) - 128) := rfl
    rw [h41]; omega

theorem racc_step (s : ByteArray) (k i : Nat) (h : 1 ≤ i) : racc s k (i + 1) = 64 * racc s k i + (bt s (k + i) - 128) := by
  obtain ⟨j, rfl⟩ : ∃ j, i = j + 1 := ⟨i - 1, by omega⟩
  rfl

theorem rAt_out (s : ByteArray) (p : Int) (h : betweenB p 0 (s.size - 1) = false) : rN s p = 0 ∧ rNext s p = -1 := by
  have : ¬ (0 ≤ p ∧ p < s.size ∧ badD (rAt s p.toNat) = false) := by
    intro ⟨h0, h1, _⟩
    simp [betweenB] at h; omega
  exact ⟨if_neg this, if_neg this⟩
theorem rAt_bad (s : ByteArray) (k : Nat) (h : badD (Utf8.decode s k) = true) : rN s k = 0 ∧ rNext s k = -1 := by
  have : ¬ (0 ≤ (k : Int) ∧ (k : Int) < s.size ∧ badD (rAt s (k : Int).toNat) = false) := by
    rintro ⟨_, _, h2⟩
    rw [Int.toNat_natCast] at h2
    rw [rAt, h] at h2; cases h2
  exact ⟨if_neg this, if_neg this⟩
theorem rAt_good (s : ByteArray) (k n m : Nat) (hk : k < s.size) (h : Utf8.decode s k = (n, m)) (hb : badD (Utf8.decode s k) = false) : rN s k = n ∧ rNext s k = (k : Int) + m := by
  have : 0 ≤ (k : Int) ∧ (k : Int) < s.size ∧ badD (rAt s (k : Int).toNat) = false := ⟨by omega, by omega, by rw [Int.toNat_natCast]; exact hb⟩
  constructor
  · rw [rN, if_pos this, Int.toNat_natCast, rAt, h]
  · rw [rNext, if_pos this, Int.toNat_natCast, rAt, h]

/-- From the loop on: the head of the code point has been read. -/
theorem contB_btw (s : ByteArray) (k : Nat) (h : k < s.size) : betweenB (s[k].toNat : Int) 128 191 = contB (bt s k) := by
  rw [bt_eq s k h, Bool.eq_iff_iff]; simp [betweenB, contB]; omega

set_option maxHeartbeats 1000000 in
set_option maxRecDepth 100000 in
theorem sRuneAt (s : ByteArray) (p : Int) (w : World) (hs : s.size ≤ 1048576) (hp : -9223372036854775808 ≤ p ∧ p ≤ 9223372036854775807) :
    Calls Tryd.prog 54 #[.string s, .int .i64 p] w fun e w' => e = .returned (.tuple #[.int .i64 (rN s p), .int .i64 (rNext s p)]) ∧ Below w.heap.size w w' := by
  obtain ⟨-, -⟩ := hp
  cases hbt : betweenB p 0 ((s.size : Int) - 1)
  · obtain ⟨e1, e2⟩ := rAt_out s p hbt
    have E := Lib.hid (And.intro e1 e2); clear e1 e2
    go_enter Tryd.func54, Tryd.ntmps54
    go_wp2_with (go_at_call 32; refine (l01In_any _ _ _ _).mono ?_; rintro e w' ⟨rfl, rfl⟩)
    go_ret2
    exact ⟨ret_at E.out.1.symm E.out.2.symm, Below.refl _ _⟩
  have hr : 0 ≤ p ∧ p < s.size := by simp [betweenB] at hbt; omega
  obtain ⟨k, rfl⟩ := Int.eq_ofNat_of_zero_le hr.1
  have hk : k < s.size := by omega
  clear hr
  have hb256 : (s[k].toNat : Int) < 256 := by have := UInt8.toNat_lt s[k]; omega
  have hbe := bt_eq s k hk
  have hbd := racc_bd s k
  have HB := Lib.hid hbd; clear hbd
  have hsplit : ((240 : Int) ≤ (s[k].toNat : Int) ∧ rsize (bt s k) = 4 ∧ ((racc s k 1 : Nat) : Int) = (s[k].toNat : Int) - 240 ∧ ((rsize (bt s k) : Nat) : Int) = 4) ∨
      (((s[k].toNat : Int) ≤ 239 ∧ (224 : Int) ≤ (s[k].toNat : Int)) ∧ rsize (bt s k) = 3 ∧ ((racc s k 1 : Nat) : Int) = (s[k].toNat : Int) - 224 ∧ ((rsize (bt s k) : Nat) : Int) = 3) ∨
      (((s[k].toNat : Int) ≤ 223 ∧ (192 : Int) ≤ (s[k].toNat : Int)) ∧ rsize (bt s k) = 2 ∧ ((racc s k 1 : Nat) : Int) = (s[k].toNat : Int) - 192 ∧ ((rsize (bt s k) : Nat) : Int) = 2) ∨
      ((s[k].toNat : Int) ≤ 191 ∧ rsize (bt s k) = 1 ∧ ((racc s k 1 : Nat) : Int) = (s[k].toNat : Int) ∧ ((rsize (bt s k) : Nat) : Int) = 1) := by
    have e1 : racc s k 1 = rhead (bt s k) := rfl
    rw [e1, hbe]
    unfold rsize rhead
    by_cases g4 : 240 ≤ s[k].toNat
    · left; rw [if_pos g4, if_pos g4]; exact ⟨by omega, rfl, by omega, rfl⟩
    by_cases g3 : 224 ≤ s[k].toNat
    · right; left; rw [if_neg g4, if_pos g3, if_neg g4, if_pos g3]; exact ⟨by omega, rfl, by omega, rfl⟩
    by_cases g2 : 192 ≤ s[k].toNat
    · right; right; left; rw [if_neg g4, if_neg g3, if_pos g2, if_neg g4, if_neg g3, if_pos g2]; exact ⟨by omega, rfl, by omega, rfl⟩
    · right; right; right; rw [if_neg g4, if_neg g3, if_neg g2, if_neg g4, if_neg g3, if_neg g2]; exact ⟨by omega, rfl, by omega, rfl⟩
  clear hbe
  rcases hsplit with ⟨g, hsz, hrd, hLz⟩ | ⟨⟨g, g'⟩, hsz, hrd, hLz⟩ | ⟨⟨g, g'⟩, hsz, hrd, hLz⟩ | ⟨g, hsz, hrd, hLz⟩
  rotate_right
  · first
      | have d4 : decide ((240 : Int) ≤ (s[k].toNat : Int)) = true := decide_eq_true (by omega)
      | have d4 : decide ((240 : Int) ≤ (s[k].toNat : Int)) = false := decide_eq_false (by omega)
    first
      | have d3 : decide ((224 : Int) ≤ (s[k].toNat : Int)) = true := decide_eq_true (by omega)
      | have d3 : decide ((224 : Int) ≤ (s[k].toNat : Int)) = false := decide_eq_false (by omega)
    first
      | have d2 : decide ((192 : Int) ≤ (s[k].toNat : Int)) = true := decide_eq_true (by omega)
      | have d2 : decide ((192 : Int) ≤ (s[k].toNat : Int)) = false := decide_eq_false (by omega)
    have HS := Lib.hid hsz
    have HR := Lib.hid hrd
    have HLZ := Lib.hid hLz
    clear hrd hLz
    have hlen : ¬ s.size < k + rsize (bt s k) := by omega
    rw [hsz] at hlen
    clear hsz
    have hf1 : (k : Int) + ((rsize (bt s k) : Nat) : Int) ≤ s.size := by have := HS.out; omega
    have hf2 : (0 : Int) ≤ (k : Int) + ((rsize (bt s k) : Nat) : Int) := by omega
    have hf3 : (k : Int) ≤ (k : Int) + ((rsize (bt s k) : Nat) : Int) := by omega
    rw [HLZ.out] at hf1 hf2 hf3
    go_enter Tryd.func54, Tryd.ntmps54
    go_wp2_with (go_at_call 32; refine (l01In_any _ _ _ _).mono ?_; rintro e w' ⟨rfl, rfl⟩)
    go_loop [8, 9] (fun n i => ∃ j : Nat, 1 ≤ j ∧ j ≤ rsize (bt s k) ∧ i = .int .i64 j ∧ n = .int .i64 (racc s k j : Nat) ∧ ∀ i, 1 ≤ i → i < j → contB (bt s (k + i)) = true) (fun _ i => rsize (bt s k) - (intOf i).toNat)
    case atStart => exact ⟨1, by omega, by have := HS.out; omega, rfl, by rw [HR.out], fun i h1 h2 => by omega⟩
    case round =>
      obtain ⟨j, hj1, hj, rfl, rfl, hcs⟩ := hrel
      have HC := Lib.hid hcs; clear hcs
      rw [HS.out] at hj
      have hlt : ¬ j < rsize (bt s k) := by have := HS.out; omega
      obtain rfl : j = rsize (bt s k) := by have := HS.out; omega
      have HX := Lib.hid (same_ext s k (racc s k (rsize (bt s k))) (rsize (bt s k)) (by rw [HS.out]; omega))
      have HE := Lib.hid (dec_end s k (by rw [HS.out]; omega) HC.out)
      have HX' := HX
      rw [HS.out] at HX' hlt ⊢
      have hN : ((racc s k (rsize (bt s k)) : Nat) : Int) ≤ 67375167 := by have := (HB.out (rsize (bt s k)) (by omega)).1; omega
      go_wp2_with fail
      have hwr : IntKind.i64.wrap ((k : Int) + ((rsize (bt s k) : Nat) : Int)) = (k : Int) + ((rsize (bt s k) : Nat) : Int) := IntWalk.i64_in _ (by have := HS.out; omega)
      have hnt : ((k : Int) + ((rsize (bt s k) : Nat) : Int)).toNat = k + rsize (bt s k) := by omega
      rw [HLZ.out] at hwr hnt
      rw [HS.out] at hnt
      cases hX : (rtext ((racc s k (rsize (bt s k)) : Nat) : Int) == (s.extract k (k + rsize (bt s k))).toList)
      · have E : Hid (rN s k = 0 ∧ rNext s k = -1) := by
          rcases HE.out with ⟨a, -, -⟩ | ⟨-, b⟩
          · rw [HX.out, decide_eq_true a] at hX; cases hX
          · exact rAt_bad s k b
        rw [HS.out] at hX
        go_region_with (go_at_call 46; refine (sRuneText _ _).mono ?_; rintro e w1 ⟨rfl, hb1⟩)
        go_wp2
        go_ret2
        exact ⟨ret_at E.out.1.symm E.out.2.symm, bnext (Below.refl _ _).drew hb1⟩
      · have E : Hid (rN s k = (racc s k (rsize (bt s k)) : Nat) ∧ rNext s k = (k : Int) + (rsize (bt s k) : Nat)) := by
          rcases HE.out with ⟨-, b, c⟩ | ⟨a, -⟩
          · exact rAt_good s k _ _ hk b c
          · rw [HX.out, decide_eq_false a] at hX; cases hX
        rw [HS.out] at hX
        go_region_with (go_at_call 46; refine (sRuneText _ _).mono ?_; rintro e w1 ⟨rfl, hb1⟩)
        go_wp2
        go_ret2
        exact ⟨ret_at (by rw [E.out.1, HS.out]) (by rw [E.out.2, HLZ.out]), bnext (Below.refl _ _).drew hb1⟩
  all_goals
    first
      | have d4 : decide ((240 : Int) ≤ (s[k].toNat : Int)) = true := decide_eq_true (by omega)
      | have d4 : decide ((240 : Int) ≤ (s[k].toNat : Int)) = false := decide_eq_false (by omega)
    first
      | have d3 : decide ((224 : Int) ≤ (s[k].toNat : Int)) = true := decide_eq_true (by omega)
      | have d3 : decide ((224 : Int) ≤ (s[k].toNat : Int)) = false := decide_eq_false (by omega)
    first
      | have d2 : decide ((192 : Int) ≤ (s[k].toNat : Int)) = true := decide_eq_true (by omega)
      | have d2 : decide ((192 : Int) ≤ (s[k].toNat : Int)) = false := decide_eq_false (by omega)
    have HS := Lib.hid hsz
    have HR := Lib.hid hrd
    have HLZ := Lib.hid hLz
    clear hrd hLz
    by_cases hlen : s.size < k + rsize (bt s k)
    · have E := Lib.hid (rAt_bad s k (dec_short s k hk hlen))
      rw [hsz] at hlen
      clear hsz
      go_enter Tryd.func54, Tryd.ntmps54
      go_wp2_with (go_at_call 32; refine (l01In_any _ _ _ _).mono ?_; rintro e w' ⟨rfl, rfl⟩)
      go_ret2
      exact ⟨ret_at E.out.1.symm E.out.2.symm, Below.refl _ _⟩
    rw [hsz] at hlen
    clear hsz
    have hf1 : (k : Int) + ((rsize (bt s k) : Nat) : Int) ≤ s.size := by have := HS.out; omega
    have hf2 : (0 : Int) ≤ (k : Int) + ((rsize (bt s k) : Nat) : Int) := by omega
    have hf3 : (k : Int) ≤ (k : Int) + ((rsize (bt s k) : Nat) : Int) := by omega
    rw [HLZ.out] at hf1 hf2 hf3
    go_enter Tryd.func54, Tryd.ntmps54
    go_wp2_with (go_at_call 32; refine (l01In_any _ _ _ _).mono ?_; rintro e w' ⟨rfl, rfl⟩)
    go_loop [8, 9] (fun n i => ∃ j : Nat, 1 ≤ j ∧ j ≤ rsize (bt s k) ∧ i = .int .i64 j ∧ n = .int .i64 (racc s k j : Nat) ∧ ∀ i, 1 ≤ i → i < j → contB (bt s (k + i)) = true) (fun _ i => rsize (bt s k) - (intOf i).toNat)
    case atStart => exact ⟨1, by omega, by have := HS.out; omega, rfl, by rw [HR.out], fun i h1 h2 => by omega⟩
    case round =>
      obtain ⟨j, hj1, hj, rfl, rfl, hcs⟩ := hrel
      have HC := Lib.hid hcs; clear hcs
      rw [HS.out] at hj
      by_cases hlt : j < rsize (bt s k)
      · have hkj : k + j < s.size := by rw [HS.out] at hlt; omega
        have HCB := Lib.hid (contB_btw s (k + j) hkj)
        have HBE := Lib.hid (bt_eq s (k + j) hkj)
        have HST := Lib.hid (racc_step s k j hj1)
        have hN : ((racc s k j : Nat) : Int) ≤ 1052735 := by have := (HB.out j (by omega)).2 (by rw [HS.out] at hlt; omega); omega
        have hx256 : (s[k + j].toNat : Int) ≤ 255 := by have := UInt8.toNat_lt s[k + j]; omega
        rw [HS.out] at hlt
        cases hbb : betweenB (s[k + j].toNat : Int) 128 191
        · have E := Lib.hid (rAt_bad s k (dec_cont s k j hj1 (by rw [HS.out]; omega) (by rw [← HCB.out]; exact hbb)))
          go_wp2_with (go_at_call 32; refine (l01In_any _ _ _ _).mono ?_; rintro e w' ⟨rfl, rfl⟩)
          go_ret2
          exact ⟨ret_at E.out.1.symm E.out.2.symm, Below.refl _ _⟩
        · have hx128 : (128 : Int) ≤ (s[k + j].toNat : Int) := by simp [betweenB] at hbb; omega
          go_wp2_with (go_at_call 32; refine (l01In_any _ _ _ _).mono ?_; rintro e w' ⟨rfl, rfl⟩)
          go_round
          case rel => exact ⟨j + 1, by omega, by rw [HS.out]; omega, by go_num, by rw [HST.out, HBE.out]; congr 1; omega, fun i h1 h2 => by
            rcases Nat.lt_or_ge i j with h | h
            · exact HC.out i h1 h
            · obtain rfl : i = j := by omega
              rw [← HCB.out]; exact hbb⟩
          case measure => simp [intOf, HS.out]; omega
      · obtain rfl : j = rsize (bt s k) := by have := HS.out; omega
        have HX := Lib.hid (same_ext s k (racc s k (rsize (bt s k))) (rsize (bt s k)) (by rw [HS.out]; omega))
        have HE := Lib.hid (dec_end s k (by rw [HS.out]; omega) HC.out)
        have HX' := HX
        rw [HS.out] at HX' hlt ⊢
        have hN : ((racc s k (rsize (bt s k)) : Nat) : Int) ≤ 67375167 := by have := (HB.out (rsize (bt s k)) (by omega)).1; omega
        go_wp2_with fail
        have hwr : IntKind.i64.wrap ((k : Int) + ((rsize (bt s k) : Nat) : Int)) = (k : Int) + ((rsize (bt s k) : Nat) : Int) := IntWalk.i64_in _ (by have := HS.out; omega)
        have hnt : ((k : Int) + ((rsize (bt s k) : Nat) : Int)).toNat = k + rsize (bt s k) := by omega
        rw [HLZ.out] at hwr hnt
        rw [HS.out] at hnt
        cases hX : (rtext ((racc s k (rsize (bt s k)) : Nat) : Int) == (s.extract k (k + rsize (bt s k))).toList)
        · have E : Hid (rN s k = 0 ∧ rNext s k = -1) := by
            rcases HE.out with ⟨a, -, -⟩ | ⟨-, b⟩
            · rw [HX.out, decide_eq_true a] at hX; cases hX
            · exact rAt_bad s k b
          rw [HS.out] at hX
          go_region_with (go_at_call 46; refine (sRuneText _ _).mono ?_; rintro e w1 ⟨rfl, hb1⟩)
          go_wp2
          go_ret2
          exact ⟨ret_at E.out.1.symm E.out.2.symm, bnext (Below.refl _ _).drew hb1⟩
        · have E : Hid (rN s k = (racc s k (rsize (bt s k)) : Nat) ∧ rNext s k = (k : Int) + (rsize (bt s k) : Nat)) := by
            rcases HE.out with ⟨-, b, c⟩ | ⟨a, -⟩
            · exact rAt_good s k _ _ hk b c
            · rw [HX.out, decide_eq_false a] at hX; cases hX
          rw [HS.out] at hX
          go_region_with (go_at_call 46; refine (sRuneText _ _).mono ?_; rintro e w1 ⟨rfl, hb1⟩)
          go_wp2
          go_ret2
          exact ⟨ret_at (by rw [E.out.1, HS.out]) (by rw [E.out.2, HLZ.out]), bnext (Below.refl _ _).drew hb1⟩

end Go.Proofs.YtbjialckijphiaaDoor
