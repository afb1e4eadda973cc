/- eqLabelS, SameLabels. -/
import Derived.Test.YtomhbbchflblpaaMemB
import Derived.StillTailTactics
namespace Go.Proofs.Ytomhbbchflblpaa
open Go.RowKit

theorem sameS_refl (a : ByteArray) : sameS a a = true := (sameS_iff a a).2 rfl
theorem selfEq (a : ByteArray) : (a.toList == a.toList) = true := beq_self_eq_true _

theorem eqLabel_same (k v : ByteArray) (w : World) :
    Calls Try.prog 19 #[.agg #[.string k, .string v], .agg #[.string k, .string v]] w fun e w' => e = .returned (.bool true) ∧ Below w.heap.size w w' := by
  go_enter Try.func19, Try.ntmps19
  go_wp2
  go_ret
  exact ⟨rfl, by repeat (first | exact Below.refl _ _ | (refine Below.alloc ?_ (by first | omega | (simp; done) | (simp; omega)) _) | (refine Below.setCell ?_ (by first | omega | (simp; done) | (simp; omega)) _) | (refine Below.drew ?_) | (refine below_drewN ?_ _))⟩

set_option maxRecDepth 100000 in
theorem eqLabelS_same (L : List (ByteArray × ByteArray)) (a a' : Option Addr) (cap cap' : Nat) (w : World) (hn : L.length ≤ 1048576) (hc : SlAt w a L.length 2 (labF L)) (hc' : SlAt w a' L.length 2 (labF L)) :
    Calls Try.prog 8 #[.slice a L.length cap, .slice a' L.length cap'] w fun e w' => e = .returned (.bool true) ∧ Below w.heap.size w w' := by
  go_enter Try.func8, Try.ntmps8
  go_wp2
  go_loopw [5] (fun i wr => ∃ k : Nat, k ≤ L.length ∧ i = .int .i64 k ∧ Below w.heap.size w wr) (fun i _ => L.length - (intOf i).toNat)
  case atStart => exact ⟨0, by omega, rfl, Below.refl _ _⟩
  case round =>
    obtain ⟨k, hk, rfl, hb⟩ := hrel
    by_cases hlt : k < L.length
    · obtain ⟨b, off, rfl, hcell⟩ := (hc.keep hb).at (by omega)
      obtain ⟨b', off', rfl, hcell'⟩ := (hc'.keep hb).at (by omega)
      have c0 : wr.cell? ⟨b, off + k * 2, none⟩ = some (.string (keyAt L k)) := by simpa [labF] using hcell k hlt 0 (by omega)
      have c1 : wr.cell? ⟨b, off + k * 2 + 1, none⟩ = some (.string (valAt L k)) := by simpa [labF] using hcell k hlt 1 (by omega)
      have d0 : wr.cell? ⟨b', off' + k * 2, none⟩ = some (.string (keyAt L k)) := by simpa [labF] using hcell' k hlt 0 (by omega)
      have d1 : wr.cell? ⟨b', off' + k * 2 + 1, none⟩ = some (.string (valAt L k)) := by simpa [labF] using hcell' k hlt 1 (by omega)
      clear hcell hc hcell' hc'
      go_wp2_with fail
      go_still_tail 8, (by kernel_rfl)
      change wpList _ _ _ _ _ wr.drew
      go_wp2_with (go_at_call 19; refine (eqLabel_same _ _ _).mono ?_; rintro e w1 ⟨rfl, hb1⟩)
      go_roundw
      case rel => exact ⟨k + 1, by omega, by go_num, bnext hb.drew hb1⟩
      case measure => simp [intOf]; omega
    · obtain rfl : k = L.length := by omega
      go_wp2
      go_ret
      exact ⟨rfl, hb⟩

/-- Two lists of labels are one. -/
def sameLab (L M : List (ByteArray × ByteArray)) (k : Nat) : Bool := sameS (keyAt L k) (keyAt M k) && sameS (valAt L k) (valAt M k)
def sameLabs (L M : List (ByteArray × ByteArray)) : Bool := decide (L.length = M.length) && (List.range L.length).all fun k => sameLab L M k
theorem sameLabs_no {L M : List (ByteArray × ByteArray)} {k : Nat} (h : k < L.length) (e : sameLab L M k = false) : sameLabs L M = false := by
  have : ((List.range L.length).all fun k => sameLab L M k) = false := by rw [List.all_eq_false]; exact ⟨k, List.mem_range.2 h, by simp [e]⟩
  simp [sameLabs, this]
theorem sameLabs_yes {L M : List (ByteArray × ByteArray)} (h : L.length = M.length) (e : ∀ k, k < L.length → sameLab L M k = true) : sameLabs L M = true := by
  have : ((List.range L.length).all fun k => sameLab L M k) = true := by rw [List.all_eq_true]; exact fun x hx => e x (List.mem_range.1 hx)
  rw [sameLabs, this, h]; simp

end Go.Proofs.Ytomhbbchflblpaa
