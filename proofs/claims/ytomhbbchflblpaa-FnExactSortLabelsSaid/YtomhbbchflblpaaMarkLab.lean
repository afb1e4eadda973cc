/- markLabelS, heldLabelS. -/
import Derived.Test.YtomhbbchflblpaaFlat
import Derived.StillTailTactics
namespace Go.Proofs.Ytomhbbchflblpaa
open Go.RowKit

def markLab (k i m : Nat) : Value := if m = 0 then .string (mtext (k + 2 * i)) else .string (mtext (k + 2 * i + 1))
def partLab (k j : Nat) (f : Nat → Nat → Value) (i m : Nat) : Value := if i < j then markLab k i m else f i m

set_option maxRecDepth 100000 in
set_option maxHeartbeats 2000000 in
theorem markLabelS_own (n : Nat) (f : Nat → Nat → Value) (a : Option Addr) (cap : Nat) (fp : List Nat) (k : Nat) (w : World) (hk : k + 2 * n ≤ 1073741824) (ho : FlatOwn w (.slice a n cap) n 2 f fp) :
    Calls Try.prog 9 #[.slice a n cap, .int .i64 k] w fun e w' => e = .returned (.int .i64 ((k : Int) + 2 * (n : Int))) ∧ FlatOwn w' (.slice a n cap) n 2 (markLab k) fp ∧ Apart fp w w' := by
  go_enter Try.func9, Try.ntmps9
  go_wp2
  go_loopw [1, 5] (fun s1 s5 wr => ∃ j kk : Nat, j ≤ n ∧ s5 = .int .i64 j ∧ s1 = .int .i64 kk ∧ Hid (kk = k + 2 * j) ∧ Hid (FlatOwn wr (.slice a n cap) n 2 (partLab k j f) fp) ∧ Apart fp w wr) (fun _ s5 _ => n - (intOf s5).toNat)
  case atStart => exact ⟨0, k, by omega, rfl, rfl, rfl, ho.congr fun i _ m _ => by simp [partLab], Apart.refl _ _⟩
  case round =>
    obtain ⟨j, kk, hj, rfl, rfl, HKK, HO, hap⟩ := hrel
    clear ho
    by_cases hlt : j < n
    · rcases HO.out with ⟨e, _⟩ | ⟨g, cap', e, N, F, hv, hfp, hrow, hN, hF⟩
      · omega
      simp only [Value.slice.injEq] at hv
      obtain ⟨rfl, -, rfl⟩ := hv
      have HFP := Lib.hid hfp
      have HF := Lib.hid hF
      have hNj : (j + 1) * 2 ≤ N := Nat.le_trans (Nat.mul_le_mul_right _ hlt) hN
      have HN := Lib.hid hN
      have hkb : kk + 2 ≤ 1073741824 := by have := HKK.out; omega
      have HMT := Lib.hid (fun w0 => markText_any kk w0 (by omega))
      have HMT1 := Lib.hid (fun w0 => (show Calls Try.prog 20 #[.int .i64 ((kk : Int) + 1)] w0 fun e w' => e = .returned (.string (mtext (kk + 1))) ∧ Below w0.heap.size w0 w' from by
        have := markText_any (kk + 1) w0 (by omega)
        rw [show (kk : Int) + 1 = ((kk + 1 : Nat) : Int) by omega]; exact this))
      have HAP := Lib.hid hap
      clear hF hfp HO hN hap
      go_wp2_with fail
      refine (HMT.out _).mono ?_
      rintro e w1 ⟨rfl, hb1⟩
      have hrow1 := rowIs_keep hrow hb1
      have d0 := hrow1.cell (i := j * 2) (by omega)
      have f0 := hrow1.frozen (j * 2)
      have HAP1 := Lib.hid (HAP.out.trans (Apart.of_below hb1 _))
      have HR1 := Lib.hid hrow1
      clear hrow hb1 hrow1 HAP
      go_wp2_with fail
      refine (HMT1.out _).mono ?_
      rintro e w2 ⟨rfl, hb2⟩
      have hrow2 := rowIs_keep (HR1.out.set (j * 2) (.string (mtext kk))) hb2
      have d1 := hrow2.cell (i := j * 2 + 1) (by omega)
      have f1 := hrow2.frozen (j * 2 + 1)
      have HAP2 := Lib.hid ((HAP1.out.setCell (p := ⟨g, j * 2, none⟩) (by rw [HFP.out]; simp) (.string (mtext kk))).trans (Apart.of_below hb2 _))
      have HR2 := Lib.hid hrow2
      clear hb2 hrow2 HAP1 HR1 d0 f0
      go_wp2
      go_roundw
      case rel =>
        refine ⟨j + 1, kk + 2, by omega, by go_num, by go_num, by unfold Hid; have := HKK.out; omega, .inr ⟨g, _, _, _, _, rfl, HFP.out, (HR2.out.set (j * 2 + 1) (.string (mtext (kk + 1)))), HN.out, fun i hi m hm => ?_⟩, (HAP2.out.setCell (p := ⟨g, j * 2 + 1, none⟩) (by rw [HFP.out]; simp) (.string (mtext (kk + 1))))⟩
        have hkk := HKK.out
        show (if i * 2 + m = j * 2 + 1 then _ else if i * 2 + m = j * 2 then _ else F (i * 2 + m)) = _
        by_cases hij : i = j
        · subst hij
          have e : partLab k (i + 1) f i m = markLab k i m := by unfold partLab; rw [if_pos (by omega)]
          rw [e, markLab]
          rcases (show m = 0 ∨ m = 1 by omega) with rfl | rfl
          · rw [if_neg (by omega), if_pos (by omega), if_pos rfl, hkk]
          · rw [if_pos rfl, if_neg (by omega), hkk]
        · rw [if_neg (by omega), if_neg (by omega), HF.out i hi m hm]
          unfold partLab
          by_cases hl : i < j
          · rw [if_pos hl, if_pos (by omega)]
          · rw [if_neg hl, if_neg (by omega)]
      case measure => simp [intOf] <;> omega
    · obtain rfl : j = n := by omega
      go_wp2
      go_ret
      exact ⟨ret_int (by have := HKK.out; omega), HO.out.congr fun i hi m _ => by rw [partLab, if_pos hi], hap⟩

set_option maxRecDepth 100000 in
set_option maxHeartbeats 2000000 in
theorem heldLabelS_in (n : Nat) (a : Option Addr) (cap k : Nat) (w : World) (hk : k + 2 * n ≤ 1073741824) (hc : SlAt w a n 2 (markLab k)) :
    Calls Try.prog 10 #[.slice a n cap, .int .i64 k] w fun e w' => e = .returned (.int .i64 ((k : Int) + 2 * (n : Int))) ∧ Below w.heap.size w w' := by
  go_enter Try.func10, Try.ntmps10
  go_wp2
  go_loopw [1, 5] (fun s1 s5 wr => ∃ j kk : Nat, j ≤ n ∧ s5 = .int .i64 j ∧ s1 = .int .i64 kk ∧ Hid (kk = k + 2 * j) ∧ Below w.heap.size w wr) (fun _ s5 _ => n - (intOf s5).toNat)
  case atStart => exact ⟨0, k, by omega, rfl, rfl, rfl, Below.refl _ _⟩
  case round =>
    obtain ⟨j, kk, hj, rfl, rfl, HKK, hb⟩ := hrel
    by_cases hlt : j < n
    · obtain ⟨b, off, rfl, hcell⟩ := (hc.keep hb).at (by omega)
      have hkb : kk + 2 ≤ 1073741824 := by have := HKK.out; omega
      have c0 : wr.cell? ⟨b, off + j * 2, none⟩ = some (.string (mtext kk)) := by
        have := hcell j hlt 0 (by omega)
        rw [markLab, if_pos rfl, ← HKK.out] at this
        simpa using this
      have c1 : wr.cell? ⟨b, off + j * 2 + 1, none⟩ = some (.string (mtext (kk + 1))) := by
        have := hcell j hlt 1 (by omega)
        rw [markLab, if_neg (by omega), ← HKK.out] at this
        exact this
      clear hcell hc
      have c0d : wr.drew.cell? ⟨b, off + j * 2, none⟩ = some (.string (mtext kk)) := c0
      have c1d : wr.drew.cell? ⟨b, off + j * 2 + 1, none⟩ = some (.string (mtext (kk + 1))) := c1
      have HMT := Lib.hid (fun w0 => markText_any kk w0 (by omega))
      have HMT1 := Lib.hid (fun w0 => (show Calls Try.prog 20 #[.int .i64 ((kk : Int) + 1)] w0 fun e w' => e = .returned (.string (mtext (kk + 1))) ∧ Below w0.heap.size w0 w' from by
        have := markText_any (kk + 1) w0 (by omega)
        rw [show (kk : Int) + 1 = ((kk + 1 : Nat) : Int) by omega]; exact this))
      have e0 : ((mtext kk).toList != (mtext kk).toList) = false := by simp [bne]
      have e1 : ((mtext (kk + 1)).toList != (mtext (kk + 1)).toList) = false := by simp [bne]
      have HBD := Lib.hid hb.drew
      have C1D := Lib.hid c1d
      clear c1 c1d
      go_wp2_with fail
      go_region_with (go_at_call 20; refine (HMT.out _).mono ?_; rintro e w1 ⟨rfl, hb1⟩; have c01 := bkeep hb1 c0d)
      all_goals
        have c11 := bkeep hb1 C1D.out
        have c11d : w1.drew.cell? ⟨b, off + j * 2 + 1, none⟩ = some (.string (mtext (kk + 1))) := c11
        have HB1 := Lib.hid (bnext HBD.out hb1)
        have HB1D := Lib.hid (bnext HBD.out hb1).drew
        clear hb1 c0 c0d c01
        go_wp2_with fail
        go_region_with (go_at_call 20; refine (HMT1.out _).mono ?_; rintro e w2 ⟨rfl, hb2⟩; have c12 := bkeep hb2 c11d)
        all_goals
          go_wp2
          go_roundw
          case rel => exact ⟨j + 1, kk + 2, by omega, by go_num, by go_num, by unfold Hid; have := HKK.out; omega, bnext HB1D.out hb2⟩
          case measure => simp [intOf] <;> omega
    · obtain rfl : j = n := by omega
      go_wp2
      go_ret
      exact ⟨ret_int (by have := HKK.out; omega), hb⟩

end Go.Proofs.Ytomhbbchflblpaa
