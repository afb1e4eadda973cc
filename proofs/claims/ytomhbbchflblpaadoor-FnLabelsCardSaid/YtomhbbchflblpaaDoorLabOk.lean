/- LabelsOk: contracts of both texts. -/
import Derived.Test.YtomhbbchflblpaaDoorKeys
import Derived.Test.YtomhbbchflblpaaDoorMemC
namespace Go.Proofs.YtomhbbchflblpaaDoor
open Go.RowKit

def geS (a b : ByteArray) : Bool := !(Op.bytesLess a.toList b.toList)
def labAt (L : List (ByteArray × ByteArray)) (i : Nat) : Bool := labelKeyB (keyAt L i) && labelValueB (valAt L i) && !(decide (0 < i) && geS (keyAt L (i - 1)) (keyAt L i))
def labsOkB (L : List (ByteArray × ByteArray)) : Bool := decide (L.length ≤ 6) && (List.range L.length).all (labAt L)
theorem labs_no {L : List (ByteArray × ByteArray)} {k : Nat} (h : k < L.length) (e : labAt L k = false) : labsOkB L = false := by
  have : (List.range L.length).all (labAt L) = false := by rw [List.all_eq_false]; exact ⟨k, List.mem_range.2 h, by simp [e]⟩
  rw [labsOkB, this, Bool.and_false]
theorem labs_yes {L : List (ByteArray × ByteArray)} (e : ∀ k, k < L.length → labAt L k = true) : labsOkB L = decide (L.length ≤ 6) := by
  have : (List.range L.length).all (labAt L) = true := by rw [List.all_eq_true]; exact fun x hx => e x (List.mem_range.1 hx)
  rw [labsOkB, this, Bool.and_true]
theorem upto_succ {p : Nat → Bool} {k : Nat} (h : ∀ i, i < k → p i = true) (hk : p k = true) : ∀ i, i < k + 1 → p i = true := fun i hi => by
  rcases Nat.lt_or_ge i k with g | g
  · exact h i g
  · obtain rfl : i = k := by omega
    exact hk

set_option maxHeartbeats 1000000 in
theorem iLabelsOk (L : List (ByteArray × ByteArray)) (a : Option Addr) (cap : Nat) (w : World) (hn : L.length ≤ 2000000) (hc : SlAt w a L.length 2 (labF L)) (hsz : ∀ i, i < L.length → (keyAt L i).size ≤ 1048576 ∧ (valAt L i).size ≤ 1048576) :
    Calls Tryd.prog 13 #[.slice a L.length cap] w fun e w' => e = .returned (.bool (labsOkB L)) ∧ Below w.heap.size w w' := by
  have HSZ := Lib.hid hsz; clear hsz
  go_enter Tryd.func13, Tryd.ntmps13
  go_wp2
  go_loopw [7] (fun i wr => ∃ k : Nat, k ≤ L.length ∧ i = .int .i64 k ∧ (∀ i, i < k → labAt L i = true) ∧ Below w.heap.size w wr) (fun i _ => L.length - (intOf i).toNat)
  case atStart => exact ⟨0, by omega, rfl, fun i hi => by omega, Below.refl _ _⟩
  case round =>
    obtain ⟨k, hk, rfl, hall, hb⟩ := hrel
    have HA := Lib.hid hall; clear hall
    by_cases hlt : k < L.length
    · obtain ⟨hs1, hs2⟩ := HSZ.out k hlt
      obtain ⟨b, off, rfl, hcell⟩ := (hc.keep hb).at (by omega)
      have c0 : wr.cell? ⟨b, off + k * 2, none⟩ = some (.string (keyAt L k)) := by simpa [labF] using hcell k hlt 0 (by omega)
      have c1 : wr.cell? ⟨b, off + k * 2 + 1, none⟩ = some (.string (valAt L k)) := by simpa [labF] using hcell k hlt 1 (by omega)
      have hz := hb.size
      have hlb := lt_of_cell c0
      cases hkb : labelKeyB (keyAt L k)
      · clear hcell hc
        go_wp2_with fail
        go_quiet ((first | (go_at_call 28; exact quiet_eq (iLabelKeyOk _ _ hs1)) | (go_at_call 29; exact quiet_eq (iLabelValueOk _ _ hs2))))
        go_wp2
        go_ret
        exact ⟨ret_bool (labs_no hlt (by simp [labAt, hkb])).symm, by repeat (first | exact hb | (refine Below.alloc ?_ (by first | omega | (simp; done) | (simp; omega)) _) | (refine Below.setCell ?_ (by first | omega | (simp; done) | (simp; omega)) _) | (refine Below.drew ?_) | (refine below_drewN ?_ _))⟩
      cases hvb : labelValueB (valAt L k)
      · clear hcell hc
        go_wp2_with fail
        go_quiet ((first | (go_at_call 28; exact quiet_eq (iLabelKeyOk _ _ hs1)) | (go_at_call 29; exact quiet_eq (iLabelValueOk _ _ hs2))))
        go_wp2
        go_ret
        exact ⟨ret_bool (labs_no hlt (by simp [labAt, hkb, hvb])).symm, by repeat (first | exact hb | (refine Below.alloc ?_ (by first | omega | (simp; done) | (simp; omega)) _) | (refine Below.setCell ?_ (by first | omega | (simp; done) | (simp; omega)) _) | (refine Below.drew ?_) | (refine below_drewN ?_ _))⟩
      by_cases h0 : 0 < k
      · have p0 : wr.cell? ⟨b, off + (k - 1) * 2, none⟩ = some (.string (keyAt L (k - 1))) := by simpa [labF] using hcell (k - 1) (by omega) 0 (by omega)
        have h0' : (0 : Int) < (k : Int) := by omega
        have h1' : (1 : Int) ≤ (k : Int) := by omega
        have hwr : IntKind.i64.wrap ((k : Int) - 1) = (k : Int) - 1 := IntWalk.i64_in _ (by omega)
        have hnt : ((k : Int) - 1).toNat = k - 1 := by omega
        have hge : (0 : Int) ≤ (k : Int) - 1 := by omega
        clear hcell hc
        cases hg : geS (keyAt L (k - 1)) (keyAt L k)
        · have hg' : (Op.bytesLess (keyAt L (k - 1)).toList (keyAt L k).toList) = true := by simpa [geS] using hg
          go_wp2_with fail
          go_quiet ((first | (go_at_call 28; exact quiet_eq (iLabelKeyOk _ _ hs1)) | (go_at_call 29; exact quiet_eq (iLabelValueOk _ _ hs2))))
          go_wp2
          go_roundw
          case rel => exact ⟨k + 1, by omega, by go_num, upto_succ HA.out (by simp [labAt, hkb, hvb, hg]), by repeat (first | exact hb | (refine Below.alloc ?_ (by first | omega | (simp; done) | (simp; omega)) _) | (refine Below.setCell ?_ (by first | omega | (simp; done) | (simp; omega)) _) | (refine Below.drew ?_) | (refine below_drewN ?_ _))⟩
          case measure => simp [intOf]; omega
        · have hg' : (Op.bytesLess (keyAt L (k - 1)).toList (keyAt L k).toList) = false := by simpa [geS] using hg
          go_wp2_with fail
          go_quiet ((first | (go_at_call 28; exact quiet_eq (iLabelKeyOk _ _ hs1)) | (go_at_call 29; exact quiet_eq (iLabelValueOk _ _ hs2))))
          go_wp2
          go_ret
          exact ⟨ret_bool (labs_no hlt (by simp [labAt, hg, h0])).symm, by repeat (first | exact hb | (refine Below.alloc ?_ (by first | omega | (simp; done) | (simp; omega)) _) | (refine Below.setCell ?_ (by first | omega | (simp; done) | (simp; omega)) _) | (refine Below.drew ?_) | (refine below_drewN ?_ _))⟩
      · have h0' : decide ((0 : Int) < (k : Int)) = false := decide_eq_false (by omega)
        clear hcell hc
        go_wp2_with fail
        go_quiet ((first | (go_at_call 28; exact quiet_eq (iLabelKeyOk _ _ hs1)) | (go_at_call 29; exact quiet_eq (iLabelValueOk _ _ hs2))))
        go_wp2
        go_roundw
        case rel => exact ⟨k + 1, by omega, by go_num, upto_succ HA.out (by simp [labAt, hkb, hvb, h0]), by repeat (first | exact hb | (refine Below.alloc ?_ (by first | omega | (simp; done) | (simp; omega)) _) | (refine Below.setCell ?_ (by first | omega | (simp; done) | (simp; omega)) _) | (refine Below.drew ?_) | (refine below_drewN ?_ _))⟩
        case measure => simp [intOf]; omega
    · obtain rfl : k = L.length := by omega
      go_wp2
      go_ret
      exact ⟨ret_bool (by rw [labs_yes HA.out]; exact decide_eq_decide.2 (by omega)), hb⟩

set_option maxHeartbeats 1000000 in
theorem sLabelsOk (L : List (ByteArray × ByteArray)) (a : Option Addr) (cap : Nat) (w : World) (hn : L.length ≤ 2000000) (hc : SlAt w a L.length 2 (labF L)) (hsz : ∀ i, i < L.length → (keyAt L i).size ≤ 1048576 ∧ (valAt L i).size ≤ 1048576) :
    Calls Tryd.prog 21 #[.slice a L.length cap] w fun e w' => e = .returned (.bool (labsOkB L)) ∧ Below w.heap.size w w' := by
  have HSZ := Lib.hid hsz; clear hsz
  by_cases h6 : L.length ≤ 6
  rotate_left
  · go_enter Tryd.func21, Tryd.ntmps21
    go_wp2
    go_ret
    exact ⟨ret_bool (by rw [labsOkB, decide_eq_false h6]; rfl), Below.refl _ _⟩
  go_enter Tryd.func21, Tryd.ntmps21
  go_wp2
  go_loopw [3] (fun i wr => ∃ k : Nat, k ≤ L.length ∧ i = .int .i64 k ∧ (∀ i, i < k → labAt L i = true) ∧ Below w.heap.size w wr) (fun i _ => L.length - (intOf i).toNat)
  case atStart => exact ⟨0, by omega, rfl, fun i hi => by omega, Below.refl _ _⟩
  case round =>
    obtain ⟨k, hk, rfl, hall, hb⟩ := hrel
    have HA := Lib.hid hall; clear hall
    by_cases hlt : k < L.length
    · obtain ⟨hs1, hs2⟩ := HSZ.out k hlt
      obtain ⟨b, off, rfl, hcell⟩ := (hc.keep hb).at (by omega)
      have c0 : wr.cell? ⟨b, off + k * 2, none⟩ = some (.string (keyAt L k)) := by simpa [labF] using hcell k hlt 0 (by omega)
      have c1 : wr.cell? ⟨b, off + k * 2 + 1, none⟩ = some (.string (valAt L k)) := by simpa [labF] using hcell k hlt 1 (by omega)
      have hz := hb.size
      have hlb := lt_of_cell c0
      cases hkb : labelKeyB (keyAt L k)
      · clear hcell hc
        go_wp2_with fail
        go_quiet ((first | (go_at_call 40; exact quiet_drew (sLabelKeyOk _ _ hs1)) | (go_at_call 41; exact quiet_drew (sLabelValueOk _ _ hs2))))
        go_wp2
        go_ret
        exact ⟨ret_bool (labs_no hlt (by simp [labAt, hkb])).symm, by repeat (first | exact hb | (refine Below.alloc ?_ (by first | omega | (simp; done) | (simp; omega)) _) | (refine Below.setCell ?_ (by first | omega | (simp; done) | (simp; omega)) _) | (refine Below.drew ?_) | (refine below_drewN ?_ _))⟩
      cases hvb : labelValueB (valAt L k)
      · clear hcell hc
        go_wp2_with fail
        go_quiet ((first | (go_at_call 40; exact quiet_drew (sLabelKeyOk _ _ hs1)) | (go_at_call 41; exact quiet_drew (sLabelValueOk _ _ hs2))))
        go_wp2
        go_ret
        exact ⟨ret_bool (labs_no hlt (by simp [labAt, hkb, hvb])).symm, by repeat (first | exact hb | (refine Below.alloc ?_ (by first | omega | (simp; done) | (simp; omega)) _) | (refine Below.setCell ?_ (by first | omega | (simp; done) | (simp; omega)) _) | (refine Below.drew ?_) | (refine below_drewN ?_ _))⟩
      by_cases h0 : 0 < k
      · have p0 : wr.cell? ⟨b, off + (k - 1) * 2, none⟩ = some (.string (keyAt L (k - 1))) := by simpa [labF] using hcell (k - 1) (by omega) 0 (by omega)
        have h0' : (0 : Int) < (k : Int) := by omega
        have h1' : (1 : Int) ≤ (k : Int) := by omega
        have hwr : IntKind.i64.wrap ((k : Int) - 1) = (k : Int) - 1 := IntWalk.i64_in _ (by omega)
        have hnt : ((k : Int) - 1).toNat = k - 1 := by omega
        have hge : (0 : Int) ≤ (k : Int) - 1 := by omega
        clear hcell hc
        cases hg : geS (keyAt L (k - 1)) (keyAt L k)
        · have hg' : (Op.bytesLess (keyAt L (k - 1)).toList (keyAt L k).toList) = true := by simpa [geS] using hg
          go_wp2_with fail
          go_quiet ((first | (go_at_call 40; exact quiet_drew (sLabelKeyOk _ _ hs1)) | (go_at_call 41; exact quiet_drew (sLabelValueOk _ _ hs2))))
          go_wp2
          go_roundw
          case rel => exact ⟨k + 1, by omega, by go_num, upto_succ HA.out (by simp [labAt, hkb, hvb, hg]), by repeat (first | exact hb | (refine Below.alloc ?_ (by first | omega | (simp; done) | (simp; omega)) _) | (refine Below.setCell ?_ (by first | omega | (simp; done) | (simp; omega)) _) | (refine Below.drew ?_) | (refine below_drewN ?_ _))⟩
          case measure => simp [intOf]; omega
        · have hg' : (Op.bytesLess (keyAt L (k - 1)).toList (keyAt L k).toList) = false := by simpa [geS] using hg
          go_wp2_with fail
          go_quiet ((first | (go_at_call 40; exact quiet_drew (sLabelKeyOk _ _ hs1)) | (go_at_call 41; exact quiet_drew (sLabelValueOk _ _ hs2))))
          go_wp2
          go_ret
          exact ⟨ret_bool (labs_no hlt (by simp [labAt, hg, h0])).symm, by repeat (first | exact hb | (refine Below.alloc ?_ (by first | omega | (simp; done) | (simp; omega)) _) | (refine Below.setCell ?_ (by first | omega | (simp; done) | (simp; omega)) _) | (refine Below.drew ?_) | (refine below_drewN ?_ _))⟩
      · have h0' : decide ((0 : Int) < (k : Int)) = false := decide_eq_false (by omega)
        clear hcell hc
        go_wp2_with fail
        go_quiet ((first | (go_at_call 40; exact quiet_drew (sLabelKeyOk _ _ hs1)) | (go_at_call 41; exact quiet_drew (sLabelValueOk _ _ hs2))))
        go_wp2
        go_roundw
        case rel => exact ⟨k + 1, by omega, by go_num, upto_succ HA.out (by simp [labAt, hkb, hvb, h0]), by repeat (first | exact hb | (refine Below.alloc ?_ (by first | omega | (simp; done) | (simp; omega)) _) | (refine Below.setCell ?_ (by first | omega | (simp; done) | (simp; omega)) _) | (refine Below.drew ?_) | (refine below_drewN ?_ _))⟩
        case measure => simp [intOf]; omega
    · obtain rfl : k = L.length := by omega
      go_wp2
      go_ret
      exact ⟨ret_bool (by rw [labs_yes HA.out, decide_eq_true h6]), hb⟩

theorem size_le_sum (L : List (ByteArray × ByteArray)) (n : Nat) (h : lenSum L L.length ≤ n) : ∀ i, i < L.length → (keyAt L i).size ≤ n ∧ (valAt L i).size ≤ n := fun i hi => by
  have h1 := lenSum_succ L i hi
  have h2 := lenSum_mono L i hi
  omega

end Go.Proofs.YtomhbbchflblpaaDoor
