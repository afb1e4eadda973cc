/- eqLabelS, SameLabels. -/
import Derived.Test.YtomhbbchflblpaaDoorMemB
import Derived.StillTailTactics
namespace Go.Proofs.YtomhbbchflblpaaDoor
open Go.RowKit

theorem sameS_refl (a : ByteArray) : sameS a a = true := (sameS_iff a a).2 rfl
theorem selfEq (a : ByteArray) : (a.toList == a.toList) = true := beq_self_eq_true _

/-- Two lists of labels are one. -/
def sameLab (L M : List (ByteArray × ByteArray)) (k : Nat) : Bool := sameS (keyAt L k) (keyAt M k) && sameS (valAt L k) (valAt M k)
def sameLabs (L M : List (ByteArray × ByteArray)) : Bool := decide (L.length = M.length) && (List.range L.length).all fun k => sameLab L M k
theorem sameLabs_no {L M : List (ByteArray × ByteArray)} {k : Nat} (h : k < L.length) (e : sameLab L M k = false) : sameLabs L M = false := by
  have : ((List.range L.length).all fun k => sameLab L M k) = false := by rw [List.all_eq_false]; exact ⟨k, List.mem_range.2 h, by simp [e]⟩
  simp [sameLabs, this]
theorem sameLabs_yes {L M : List (ByteArray × ByteArray)} (h : L.length = M.length) (e : ∀ k, k < L.length → sameLab L M k = true) : sameLabs L M = true := by
  have : ((List.range L.length).all fun k => sameLab L M k) = true := by rw [List.all_eq_true]; exact fun x hx => e x (List.mem_range.1 hx)
  rw [sameLabs, this, h]; simp

theorem slEqual (L M : List (ByteArray × ByteArray)) (a a' : Option Addr) (cap cap' : Nat) (w : World) (hn : L.length ≤ 1048576) (hm : M.length ≤ 1048576) (hc : SlAt w a L.length 2 (labF L)) (hc' : SlAt w a' M.length 2 (labF M)) :
    Calls Tryd.prog 30 #[.slice a L.length cap, .slice a' M.length cap'] w fun e w' => e = .returned (.bool (sameLabs L M)) ∧ Below w.heap.size w w' := by
  by_cases hlen : L.length = M.length
  rotate_left
  · have h1 : ((L.length : Int) == (M.length : Int)) = false := by rw [beq_eq_false_iff_ne]; omega
    have h2 : ((L.length : Int) != (M.length : Int)) = true := by rw [bne, h1]; rfl
    go_enter Tryd.func30, Tryd.ntmps30
    go_wp2
    go_ret
    exact ⟨ret_bool (by simp [sameLabs, hlen]), Below.refl _ _⟩
  have HL := Lib.hid hlen
  have h2 : ((L.length : Int) != (M.length : Int)) = false := by rw [bne_eq_false_iff_eq]; omega
  clear hlen
  go_enter Tryd.func30, Tryd.ntmps30
  go_wp2
  go_loopw [13] (fun i wr => ∃ k : Nat, k ≤ L.length ∧ i = .int .i64 k ∧ (∀ i, i < k → sameLab L M i = true) ∧ Below w.heap.size w wr) (fun i _ => L.length - (intOf i).toNat)
  case atStart => exact ⟨0, by omega, rfl, fun i hi => by omega, Below.refl _ _⟩
  case round =>
    obtain ⟨k, hk, rfl, hs, hb⟩ := hrel
    have HS := Lib.hid hs; clear hs
    by_cases hlt : k < L.length
    · have hlm : k < M.length := by have := HL.out; omega
      obtain ⟨b, off, rfl, hcell⟩ := (hc.keep hb).at (by omega)
      obtain ⟨b', off', rfl, hcell'⟩ := (hc'.keep hb).at (by omega)
      have c0 : wr.cell? ⟨b, off + k * 2, none⟩ = some (.string (keyAt L k)) := by simpa [labF] using hcell k hlt 0 (by omega)
      have c1 : wr.cell? ⟨b, off + k * 2 + 1, none⟩ = some (.string (valAt L k)) := by simpa [labF] using hcell k hlt 1 (by omega)
      have d0 : wr.cell? ⟨b', off' + k * 2, none⟩ = some (.string (keyAt M k)) := by simpa [labF] using hcell' k hlm 0 (by omega)
      have d1 : wr.cell? ⟨b', off' + k * 2 + 1, none⟩ = some (.string (valAt M k)) := by simpa [labF] using hcell' k hlm 1 (by omega)
      clear hcell hc hcell' hc'
      cases hk1 : ((keyAt L k).toList == (keyAt M k).toList) <;> cases hv1 : ((valAt L k).toList == (valAt M k).toList)
      all_goals
        go_wp2_with fail
        go_quiet (fail)
        go_wp2
      · go_ret
        exact ⟨ret_bool (sameLabs_no hlt (by simp [sameLab, sameS, hk1])).symm, below_drewN hb _⟩
      · go_ret
        exact ⟨ret_bool (sameLabs_no hlt (by simp [sameLab, sameS, hk1])).symm, below_drewN hb _⟩
      · go_ret
        exact ⟨ret_bool (sameLabs_no hlt (by simp [sameLab, sameS, hv1])).symm, below_drewN hb _⟩
      · go_roundw
        case rel => exact ⟨k + 1, by omega, by go_num, fun i hi => by
          rcases Nat.lt_or_ge i k with h | h
          · exact HS.out i h
          · obtain rfl : i = k := by omega
            simp [sameLab, sameS, hk1, hv1], below_drewN hb _⟩
        case measure => simp [intOf]; omega
    · obtain rfl : k = L.length := by omega
      go_wp2
      go_ret
      exact ⟨ret_bool (sameLabs_yes HL.out HS.out).symm, hb⟩

theorem iSameLabels (L M : List (ByteArray × ByteArray)) (a a' : Option Addr) (cap cap' : Nat) (w : World) (hn : L.length ≤ 1048576) (hm : M.length ≤ 1048576) (hc : SlAt w a L.length 2 (labF L)) (hc' : SlAt w a' M.length 2 (labF M)) :
    Calls Tryd.prog 14 #[.slice a L.length cap, .slice a' M.length cap'] w fun e w' => e = .returned (.bool (sameLabs L M)) ∧ Below w.heap.size w w' := by
  go_enter Tryd.func14, Tryd.ntmps14
  go_wp2_with (go_at_call 30; refine (slEqual L M a a' cap cap' _ hn hm hc hc').mono ?_; rintro e w1 ⟨rfl, hb1⟩)
  go_ret
  exact ⟨rfl, hb1⟩

end Go.Proofs.YtomhbbchflblpaaDoor
