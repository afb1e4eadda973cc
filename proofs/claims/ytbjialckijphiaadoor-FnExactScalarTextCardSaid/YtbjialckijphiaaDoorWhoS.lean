/- spec's Decimal, ReadInt: contracts. -/
import Derived.Test.YtbjialckijphiaaDoorWhoP
import Derived.Test.YtbjialckijphiaaDoorQuoS
import Derived.Lib.ItoaLen
namespace Go.Proofs.YtbjialckijphiaaDoor
open Go.RowKit

theorem fig_dg (m : Nat) : UInt8.ofNat (figZ ((m : Int) % 10)).toNat = UInt8.ofNat (48 + m % 10) := by
  have e : (m : Int) % 10 = ((m % 10 : Nat) : Int) := by omega
  rw [e, figZ, if_pos (by omega)]
  congr 1
theorem one_app (b : UInt8) (t : ByteArray) : ((⟨#[b]⟩ : ByteArray) ++ t).data.toList = b :: t.data.toList := by simp
theorem dec_step {M m : Nat} {l : List UInt8} (h : Lib.decDigits M = Lib.decDigits m ++ l) : (m < 10 → Lib.decDigits M = UInt8.ofNat (48 + m % 10) :: l) ∧ (10 ≤ m → Lib.decDigits M = Lib.decDigits (m / 10) ++ (UInt8.ofNat (48 + m % 10) :: l)) := by
  constructor
  · intro h1
    rw [h, Lib.decDigits_one h1, Nat.mod_eq_of_lt h1]; rfl
  · intro h1
    rw [h, Lib.decDigits, dif_neg (by omega)]; simp
/-- What is still to be told of M ahead of the text t. -/
def DecRel (M m : Nat) (t : ByteArray) : Prop := (m = 0 ∧ t.data.toList = Lib.decDigits M) ∨ (1 ≤ m ∧ m ≤ M ∧ Lib.decDigits M = Lib.decDigits m ++ t.data.toList)
theorem DecRel.step {M m : Nat} {t : ByteArray} (h : DecRel M m t) (hm : 1 ≤ m) : DecRel M (m / 10) ((⟨#[UInt8.ofNat (48 + m % 10)]⟩ : ByteArray) ++ t) := by
  rcases h with ⟨h, _⟩ | ⟨_, h1, h2⟩
  · omega
  · have h3 := dec_step h2
    by_cases h4 : m < 10
    · left
      exact ⟨by omega, by rw [one_app, h3.1 h4]⟩
    · right
      exact ⟨by omega, by omega, by rw [one_app, h3.2 (by omega)]⟩
theorem DecRel.size {M m : Nat} {t : ByteArray} (h : DecRel M m t) (hM : M < 18446744073709551616) : t.size ≤ 20 := by
  have h20 := Lib.nDigits_le20 M hM
  rw [← Lib.decDigits_length] at h20
  have hs : t.data.toList.length = t.size := by simp
  rcases h with ⟨_, h⟩ | ⟨_, _, h⟩
  · rw [← h] at h20; omega
  · rw [h, List.length_append] at h20; omega
theorem itoa_pos (m : Nat) : Lib.itoa (m : Int) = Lib.decDigits m := by rw [Lib.itoa, if_neg (by omega)]; simp
theorem itoa_neg (m : Nat) (h : 1 ≤ m) : Lib.itoa (-(m : Int)) = 45 :: Lib.decDigits m := by rw [Lib.itoa, if_pos (by omega)]; simp
theorem text_of {t : ByteArray} {l : List UInt8} (h : t.data.toList = l) : t = ⟨l.toArray⟩ := by
  apply ByteArray.ext
  rw [← h]

set_option maxHeartbeats 1000000 in
set_option maxRecDepth 100000 in
theorem sDecPos (M : Nat) (w : World) (h1 : 1 ≤ M) (h2 : M ≤ 9223372036854775807) : Calls Tryd.prog 29 #[.int .i64 (M : Int)] w fun e w' => e = .returned (.string ⟨(Lib.itoa (M : Int)).toArray⟩) ∧ Below w.heap.size w w' := by
  have e0 : ((M : Int) == 0) = false := by rw [beq_eq_false_iff_ne]; omega
  have HM := Lib.hid h2
  have e1 : decide ((M : Int) < 0) = false := decide_eq_false (by omega)
  go_enter Tryd.func29, Tryd.ntmps29
  go_wp2
  go_loopw [0, 4] (fun a v wr => ∃ (m : Nat) (t : ByteArray), a = .int .i64 (m : Int) ∧ v = .string t ∧ m ≤ M ∧ DecRel M m t ∧ Below w.heap.size w wr) (fun a _ _ => (intOf a).toNat)
  case atStart => exact ⟨M, ⟨#[]⟩, rfl, rfl, by omega, .inr ⟨h1, by omega, by simp⟩, Below.refl _ _⟩
  case round =>
    obtain ⟨m, t, rfl, rfl, hmM, hrel, hb⟩ := hrel
    have ht := hrel.size (by have := HM.out; omega)
    have hm9 : (m : Int) ≤ 9223372036854775807 := by have := HM.out; omega
    by_cases hm : m = 0
    · subst hm
      have HT := Lib.hid (show t = ⟨(Lib.itoa (M : Int)).toArray⟩ by
        rw [itoa_pos]
        rcases hrel with ⟨_, h⟩ | ⟨h, _⟩
        · exact text_of h
        · omega)
      clear hrel
      go_wp2
      go_ret
      exact ⟨ret_str HT.out, hb⟩
    · have HS := Lib.hid (hrel.step (by omega))
      have n0 : ((m : Int) != 0) = true := by rw [bne_iff_ne]; omega
      have hr0 : (0 : Int) ≤ (m : Int) % 10 := by omega
      have hr1 : (m : Int) % 10 < 10 := by omega
      have k1 := conv1 wr (figZ ((m : Int) % 10))
      rw [fig_dg] at k1
      generalize UInt8.ofNat (48 + m % 10) = c at k1 HS
      have hz := hb.size
      clear hrel
      have hpos : 1 ≤ m := by omega
      clear hm
      go_wp2_with (go_at_call 40; refine (sFigure _ _ (by omega) (by omega)).mono ?_; rintro e w' ⟨rfl, rfl⟩)
      go_roundw
      case rel => exact ⟨m / 10, _, by go_num, rfl, by omega, HS.out, by repeat (first | exact hb | (refine Below.alloc ?_ (by first | omega | (simp; done) | (simp; omega)) _) | (refine Below.setCell ?_ (by first | omega | (simp; done) | (simp; omega)) _) | (refine Below.drew ?_) | (refine below_drewN ?_ _))⟩
      case measure => simp [intOf]; omega

set_option maxHeartbeats 1000000 in
set_option maxRecDepth 100000 in
theorem sDecNeg (M : Nat) (w : World) (h1 : 1 ≤ M) (h2 : M ≤ 9223372036854775808) : Calls Tryd.prog 29 #[.int .i64 (-(M : Int))] w fun e w' => e = .returned (.string ⟨(Lib.itoa (-(M : Int))).toArray⟩) ∧ Below w.heap.size w w' := by
  have HI := Lib.hid (itoa_neg M h1)
  have HM := Lib.hid h2
  obtain ⟨z0, hz0⟩ : ∃ z0 : Int, z0 = -(M : Int) := ⟨_, rfl⟩
  rw [← hz0] at HI ⊢
  have e0 : (z0 == 0) = false := by rw [beq_eq_false_iff_ne]; omega
  have e1 : decide (z0 < 0) = true := decide_eq_true (by omega)
  have HZ0 := Lib.hid hz0
  clear hz0
  go_enter Tryd.func29, Tryd.ntmps29
  go_wp2
  go_loopw [0, 4] (fun a v wr => ∃ (m : Nat) (z : Int) (t : ByteArray), a = .int .i64 z ∧ v = .string t ∧ Hid (z = -(m : Int)) ∧ m ≤ M ∧ DecRel M m t ∧ Below w.heap.size w wr) (fun a _ _ => (intOf a).natAbs)
  case atStart => exact ⟨M, z0, ⟨#[]⟩, rfl, rfl, HZ0, by omega, .inr ⟨h1, by omega, by simp⟩, Below.refl _ _⟩
  case round =>
    obtain ⟨m, z, t, rfl, rfl, HZ, hmM, hrel, hb⟩ := hrel
    have ht := hrel.size (by have := HM.out; omega)
    by_cases hm : m = 0
    · subst hm
      have hz : z = 0 := by have := HZ.out; omega
      subst hz
      have HT := Lib.hid (show (⟨#[45]⟩ : ByteArray) ++ t = ⟨(Lib.itoa z0).toArray⟩ by
        refine text_of ?_
        rw [one_app, HI.out]
        rcases hrel with ⟨_, h⟩ | ⟨h, _⟩
        · rw [h]
        · omega)
      clear hrel
      go_wp2
      go_ret
      exact ⟨ret_str HT.out, hb⟩
    · have HS := Lib.hid (hrel.step (by omega))
      have n0 : (z != 0) = true := by rw [bne_iff_ne]; have := HZ.out; omega
      have hzt : z.tmod 10 = -((m % 10 : Nat) : Int) := by
        rw [HZ.out, Int.neg_tmod, Int.tmod_eq_emod_of_nonneg (by omega)]; omega
      have hzq : z.tdiv 10 = -((m / 10 : Nat) : Int) := by
        rw [HZ.out, Int.neg_tdiv, Int.tdiv_eq_ediv_of_nonneg (by omega)]; omega
      have hz1 : -9223372036854775808 ≤ z := by have := HZ.out; have := HM.out; omega
      have hz2 : z ≤ 0 := by have := HZ.out; omega
      have HD := Lib.hid (show UInt8.ofNat (48 + m % 10) = UInt8.ofNat (figZ ((m % 10 : Nat) : Int)).toNat by rw [figZ, if_pos (by omega)]; congr 1)
      have hd9 : m % 10 ≤ 9 := by omega
      have hm10 : m / 10 ≤ 922337203685477580 := by have := HM.out; omega
      have HMM := Lib.hid (show m / 10 < m by omega)
      generalize m % 10 = d at hzt HD hd9 HS
      generalize hq : m / 10 = q at hzq hm10 HS HMM
      have HQ := Lib.hid (show q ≤ M by have := HMM.out; omega)
      have k1 := conv1 wr (figZ (d : Int))
      rw [← HD.out] at k1
      clear HD
      generalize UInt8.ofNat (48 + d) = c at k1 HS
      have hz := hb.size
      clear hrel hm hq
      by_cases hd0 : d = 0
      · subst hd0
        rw [show ((0 : Nat) : Int) = 0 from rfl] at k1
        go_wp2_with (go_at_call 40; refine (sFigure _ _ (by omega) (by omega)).mono ?_; rintro e w' ⟨rfl, rfl⟩)
        go_roundw
        case rel => exact ⟨q, _, _, rfl, rfl, Lib.hid rfl, HQ.out, HS.out, by repeat (first | exact hb | (refine Below.alloc ?_ (by first | omega | (simp; done) | (simp; omega)) _) | (refine Below.setCell ?_ (by first | omega | (simp; done) | (simp; omega)) _) | (refine Below.drew ?_) | (refine below_drewN ?_ _))⟩
        case measure => have := HZ.out; have := HMM.out; simp [intOf]; omega
      · have hdn : decide (-(d : Int) < 0) = true := decide_eq_true (by omega)
        go_wp2_with (go_at_call 40; refine (sFigure _ _ (by omega) (by omega)).mono ?_; rintro e w' ⟨rfl, rfl⟩)
        go_roundw
        case rel => exact ⟨q, _, _, rfl, rfl, Lib.hid rfl, HQ.out, HS.out, by repeat (first | exact hb | (refine Below.alloc ?_ (by first | omega | (simp; done) | (simp; omega)) _) | (refine Below.setCell ?_ (by first | omega | (simp; done) | (simp; omega)) _) | (refine Below.drew ?_) | (refine below_drewN ?_ _))⟩
        case measure => have := HZ.out; have := HMM.out; simp [intOf]; omega

theorem sDecimal (n : Int) (w : World) (h1 : -9223372036854775808 ≤ n) (h2 : n ≤ 9223372036854775807) : Calls Tryd.prog 29 #[.int .i64 n] w fun e w' => e = .returned (.string ⟨(Lib.itoa n).toArray⟩) ∧ Below w.heap.size w w' := by
  rcases (show n = 0 ∨ 0 < n ∨ n < 0 by omega) with rfl | h | h
  · have HI := Lib.hid (show (⟨#[48]⟩ : ByteArray) = ⟨(Lib.itoa 0).toArray⟩ by
      have := itoa_pos 0
      rw [show ((0 : Nat) : Int) = 0 from rfl] at this
      rw [this, Lib.decDigits_one (by omega)]; rfl)
    go_enter Tryd.func29, Tryd.ntmps29
    go_wp2
    go_ret
    exact ⟨ret_str HI.out, Below.refl _ _⟩
  · obtain ⟨m, rfl⟩ := Int.eq_ofNat_of_zero_le (show 0 ≤ n by omega)
    exact sDecPos m w (by omega) (by omega)
  · obtain ⟨m, hm⟩ := Int.eq_ofNat_of_zero_le (show 0 ≤ -n by omega)
    obtain rfl : n = -(m : Int) := by omega
    exact sDecNeg m w (by omega) (by omega)

end Go.Proofs.YtbjialckijphiaaDoor
