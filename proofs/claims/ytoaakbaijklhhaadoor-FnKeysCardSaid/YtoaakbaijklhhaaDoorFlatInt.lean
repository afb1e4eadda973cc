/- markIntS, heldIntS, eqIntS. -/
import Derived.Test.YtoaakbaijklhhaaDoorFlat
import Derived.StillTailTactics
namespace Go.Proofs.YtoaakbaijklhhaaDoor
open Go.RowKit

def markInt (k i m : Nat) : Value := if m = 0 then .int .i64 ((k + 1 * i + 0 : Nat) : Int) else undef
def partInt (k j : Nat) (f : Nat → Nat → Value) (i m : Nat) : Value := if i < j then markInt k i m else f i m
theorem markInt_0 (k i : Nat) : markInt k i 0 = .int .i64 ((k + 1 * i + 0 : Nat) : Int) := rfl

set_option maxRecDepth 100000 in
set_option maxHeartbeats 2000000 in
theorem markIntS_own (n : Nat) (f : Nat → Nat → Value) (a : Option Addr) (cap : Nat) (fp : List Nat) (k : Nat) (w : World) (hk : k + 1 * n ≤ 1073741824) (ho : FlatOwn w (.slice a n cap) n 1 f fp) :
    Calls Tryd.prog 18 #[.slice a n cap, .int .i64 k] w fun e w' => e = .returned (.int .i64 ((k : Int) + 1 * (n : Int))) ∧ FlatOwn w' (.slice a n cap) n 1 (markInt k) fp ∧ Apart fp w w' := by
  go_enter Tryd.func18, Tryd.ntmps18
  go_wp2
  go_loopw [1, 5] (fun s1 s5 wr => ∃ j kk : Nat, j ≤ n ∧ s5 = .int .i64 j ∧ s1 = .int .i64 kk ∧ Hid (kk = k + 1 * j) ∧ Hid (FlatOwn wr (.slice a n cap) n 1 (partInt k j f) fp) ∧ Apart fp w wr) (fun _ s5 _ => n - (intOf s5).toNat)
  case atStart => exact ⟨0, k, by omega, rfl, rfl, rfl, ho.congr fun i _ m _ => by simp [partInt], Apart.refl _ _⟩
  case round =>
    obtain ⟨j, kk, hj, rfl, rfl, HKK, HO, hap⟩ := hrel
    clear ho
    by_cases hlt : j < n
    · rcases HO.out with ⟨e, _⟩ | ⟨g, cap', e, N, F, hv, hfp, hrow, hN, hF⟩
      · omega
      simp only [Value.slice.injEq] at hv
      obtain ⟨rfl, -, rfl⟩ := hv
      have HFP := Lib.hid hfp
      have HF := Lib.hid hF
      have hNj : (j + 1) * 1 ≤ N := Nat.le_trans (Nat.mul_le_mul_right _ hlt) hN
      have hkb : kk + 1 ≤ 1073741824 := by have := HKK.out; omega
      clear hF hfp HO
      have d0 := hrow.cell (i := j) (by omega)
      have f0 := hrow.frozen (j)
      have hrow0 := hrow; have hap0 := hap
      clear hrow hap
      have HRZ := Lib.hid (And.intro hrow0 hap0); clear hrow0 hap0
      go_wp2
      go_roundw
      case rel =>
        refine ⟨j + 1, kk + 1, by omega, by go_num, by go_num, by unfold Hid; have := HKK.out; omega, .inr ⟨g, _, _, _, _, rfl, HFP.out, (HRZ.out.1.set (j) (.int .i64 ((kk : Int)))), hN, fun i hi m hm => ?_⟩, (HRZ.out.2.setCell (p := ⟨g, j, none⟩) (by rw [HFP.out]; simp) (.int .i64 ((kk : Int))))⟩
        have hkk := HKK.out
        by_cases hij : i = j
        · subst hij
          rw [partInt, if_pos (by omega)]
          rcases (show m = 0 by omega) with rfl
          · rw [markInt_0]
            (repeat (first | rw [if_pos (by omega)] | rw [if_neg (by omega)]))
            congr 1; omega
        · have h1 : ∀ m0, m0 < 1 → i * 1 + m ≠ j * 1 + m0 := fun m0 h0 => by omega
          have h2 := HF.out i hi m hm
          (repeat (rw [if_neg (by omega)]))
          rw [h2]
          unfold partInt
          by_cases hl : i < j
          · rw [if_pos hl, if_pos (by omega)]
          · rw [if_neg hl, if_neg (by omega)]
      case measure => simp [intOf]; omega
    · obtain rfl : j = n := by omega
      go_wp2
      go_ret
      exact ⟨ret_int (by have := HKK.out; omega), HO.out.congr fun i hi m _ => by rw [partInt, if_pos hi], hap⟩

set_option maxRecDepth 100000 in
set_option maxHeartbeats 2000000 in
theorem heldIntS_in (n : Nat) (a : Option Addr) (cap k : Nat) (w : World) (hk : k + 1 * n ≤ 1073741824) (hc : SlAt w a n 1 (markInt k)) :
    Calls Tryd.prog 19 #[.slice a n cap, .int .i64 k] w fun e w' => e = .returned (.int .i64 ((k : Int) + 1 * (n : Int))) ∧ Below w.heap.size w w' := by
  go_enter Tryd.func19, Tryd.ntmps19
  go_wp2
  go_loopw [1, 5] (fun s1 s5 wr => ∃ j kk : Nat, j ≤ n ∧ s5 = .int .i64 j ∧ s1 = .int .i64 kk ∧ Hid (kk = k + 1 * j) ∧ Below w.heap.size w wr) (fun _ s5 _ => n - (intOf s5).toNat)
  case atStart => exact ⟨0, k, by omega, rfl, rfl, rfl, Below.refl _ _⟩
  case round =>
    obtain ⟨j, kk, hj, rfl, rfl, HKK, hb⟩ := hrel
    by_cases hlt : j < n
    · obtain ⟨b, off, rfl, hcell⟩ := (hc.keep hb).at (by omega)
      have hkb : kk + 1 ≤ 1073741824 := by have := HKK.out; omega
      have c0 : wr.cell? ⟨b, off + j, none⟩ = some (.int .i64 ((kk : Int))) := by
        have := hcell j hlt 0 (by omega)
        rw [markInt_0, ← HKK.out] at this
        rw [show ((kk + 0 : Nat) : Int) = (kk : Int) by omega] at this; simpa using this
      clear hcell hc
      have e0 : (((kk : Int)) != ((kk : Int))) = false := by simp
      go_wp2
      go_roundw
      case rel => exact ⟨j + 1, kk + 1, by omega, by go_num, by go_num, by unfold Hid; have := HKK.out; omega, hb⟩
      case measure => simp [intOf]; omega
    · obtain rfl : j = n := by omega
      go_wp2
      go_ret
      exact ⟨ret_int (by have := HKK.out; omega), hb⟩

end Go.Proofs.YtoaakbaijklhhaaDoor
