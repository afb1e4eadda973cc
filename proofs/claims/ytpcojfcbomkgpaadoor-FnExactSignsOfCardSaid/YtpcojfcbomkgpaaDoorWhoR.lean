/- spec.ReadInt over figures: the contract. -/
import Derived.Test.YtpcojfcbomkgpaaDoorWhoS
namespace Go.Proofs.YtpcojfcbomkgpaaDoor
open Go.RowKit

def riZ (v : Nat) : Int := if v ≤ 9223372036854775807 then (v : Int) else 0
theorem riZ_yes {v : Nat} (h : v ≤ 9223372036854775807) : riZ v = v := if_pos h
theorem riZ_no {v : Nat} (h : ¬ v ≤ 9223372036854775807) : riZ v = 0 := if_neg h
def riB (v : Nat) : Bool := decide (v ≤ 9223372036854775807)
theorem byteAt_toNat (t : ByteArray) (j : Nat) (h : j < t.size) : (t.data.toList.getD j 0).toNat = t[j].toNat := by
  have : t.data.toList[j]? = some t[j] := by
    rw [List.getElem?_eq_getElem (by simpa using h)]; rfl
  rw [List.getD_eq_getElem?_getD, this]; rfl

set_option maxHeartbeats 1000000 in
set_option maxRecDepth 100000 in
theorem sReadInt (t : ByteArray) (w : World) (hc : Canon t.data.toList) : Calls Tryd.prog 136 #[.string t] w fun e w' => e = .returned (.tuple #[.int .i64 (riZ (valFrom 0 t.data.toList)), .bool (riB (valFrom 0 t.data.toList))]) ∧ Below w.heap.size w w' := by
  have hlen : t.data.toList.length = t.size := by simp
  have HC := Lib.hid hc; have HLEN := Lib.hid hlen
  clear hc hlen
  by_cases h19 : 19 < t.size
  · have hv := canon_len HC.out (by rw [HLEN.out]; exact h19)
    have H := Lib.hid (And.intro (riZ_no (v := valFrom 0 t.data.toList) (by omega)) (show riB (valFrom 0 t.data.toList) = false from decide_eq_false (by omega)))
    clear hv
    go_enter Tryd.func136, Tryd.ntmps136
    go_wp2
    go_ret2
    exact ⟨by rw [H.out.1, H.out.2]; rfl, Below.refl _ _⟩
  have h19' : t.size ≤ 19 := by omega
  clear h19
  go_enter Tryd.func136, Tryd.ntmps136
  go_wp2
  go_loop [4, 5] (fun n i => ∃ j v : Nat, j ≤ t.size ∧ i = .int .i64 (j : Int) ∧ n = .int .i64 (v : Int) ∧ v = valFrom 0 (t.data.toList.take j) ∧ v ≤ 9223372036854775807) (fun _ i => t.size - (intOf i).toNat)
  case atStart => exact ⟨0, 0, by omega, rfl, rfl, rfl, by omega⟩
  case round =>
    obtain ⟨j, v, hj, rfl, rfl, hv, hvm⟩ := hrel
    have HV := Lib.hid hv; clear hv
    by_cases hlt : j < t.size
    · have HB := Lib.hid (byteAt_toNat t j hlt)
      have hdg : 48 ≤ t[j].toNat ∧ t[j].toNat ≤ 57 := by
        have hm : t.data.toList.getD j 0 ∈ t.data.toList := by
          rw [List.getD_eq_getElem?_getD, List.getElem?_eq_getElem (by rw [HLEN.out]; exact hlt)]; exact List.getElem_mem _
        have := isDg_iff.1 (HC.out.dg _ hm)
        have := HB.out
        omega
      have hd1 : (48 : Int) ≤ (t[j].toNat : Int) := by omega
      have hd2 : (t[j].toNat : Int) ≤ 57 := by omega
      have HS := Lib.hid (show valFrom 0 (t.data.toList.take (j + 1)) = 10 * v + (t[j].toNat - 48) by rw [val_take _ j (by rw [HLEN.out]; exact hlt), HB.out, HV.out])
      have HLE := Lib.hid (val_take_le t.data.toList (j + 1))
      clear hdg
      by_cases ho : (9223372036854775807 - ((t[j].toNat : Int) - 48)) / 10 < (v : Int)
      · have H := Lib.hid (And.intro (riZ_no (v := valFrom 0 t.data.toList) (by have := HS.out; have := HLE.out; omega)) (show riB (valFrom 0 t.data.toList) = false from decide_eq_false (by have := HS.out; have := HLE.out; omega)))
        go_wp2
        go_ret2
        exact ⟨by rw [H.out.1, H.out.2]; rfl, Below.refl _ _⟩
      · have hb10 : 10 * (v : Int) + ((t[j].toNat : Int) - 48) ≤ 9223372036854775807 := by omega
        go_wp2
        go_round
        case rel => exact ⟨j + 1, 10 * v + (t[j].toNat - 48), by omega, by go_num, by congr 1; omega, HS.out.symm, by omega⟩
        case measure => simp [intOf]; omega
    · obtain rfl : j = t.size := by omega
      have hfull : valFrom 0 t.data.toList = v := by
        rw [HV.out, List.take_of_length_le (by rw [HLEN.out]; exact Nat.le_refl _)]
      have H := Lib.hid (And.intro (riZ_yes (v := valFrom 0 t.data.toList) (by omega)) (show riB (valFrom 0 t.data.toList) = true from decide_eq_true (by omega)))
      have HT := Lib.hid (show (⟨(Lib.itoa (v : Int)).toArray⟩ : ByteArray) = t by
        rw [itoa_pos, ← hfull, dec_val _ _ rfl HC.out])
      have HF := Lib.hid hfull
      clear hfull
      have e1 := beq_self_eq_true t.toList
      go_wp2_with (go_at_call 179; refine (sDecimal _ _ (by omega) (by omega)).mono ?_; rw [HT.out]; rintro e w1 ⟨rfl, hb1⟩)
      go_ret2
      exact ⟨by rw [H.out.1, H.out.2, HF.out]; rfl, hb1⟩

end Go.Proofs.YtpcojfcbomkgpaaDoor
