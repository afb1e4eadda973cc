/- NeedOk: contracts of both texts. -/
import Derived.Test.YtjkfjdapkkhkfaaLabOk
import Derived.Test.YtjkfjdapkkhkfaaNeedA
namespace Go.Proofs.Ytjkfjdapkkhkfaa
open Go.RowKit

def valOk (V : List ByteArray) (i : Nat) : Bool := labelValueB (strAt V i) && !(decide (0 < i) && geS (strAt V (i - 1)) (strAt V i))
def valsOkB (V : List ByteArray) : Bool := (List.range V.length).all (valOk V)
def needOkB (n : Nd) : Bool := labelKeyB n.key && betweenB n.op 1 4 && (if 3 ≤ n.op then decide (n.vals.length = 0) else betweenB n.vals.length 1 4 && valsOkB n.vals)
theorem vals_no {V : List ByteArray} {k : Nat} (h : k < V.length) (e : valOk V k = false) : valsOkB V = false := by
  rw [valsOkB, List.all_eq_false]; exact ⟨k, List.mem_range.2 h, by simp [e]⟩
theorem vals_yes {V : List ByteArray} (e : ∀ k, k < V.length → valOk V k = true) : valsOkB V = true := by
  rw [valsOkB, List.all_eq_true]; exact fun x hx => e x (List.mem_range.1 hx)
theorem sizes_at (l : List ByteArray) (k : Nat) (h : k < l.length) : (strAt l k).size ≤ sizes l := by
  have h1 := sizes_take l k h
  have h2 := sizes_le l (k + 1)
  omega
theorem need_sizes (n : Nd) (h : n.wt ≤ 1048576) : n.key.size ≤ 1048576 ∧ n.vals.length ≤ 1048576 ∧ ∀ i, i < n.vals.length → (strAt n.vals i).size ≤ 1048576 := by
  have e : n.wt = n.key.size + strWt n.vals := rfl
  have e2 := strWt_eq n.vals
  exact ⟨by omega, by omega, fun i hi => by have := sizes_at n.vals i hi; omega⟩

set_option maxHeartbeats 2000000 in
theorem iNeedOk (n : Nd) (vv : Value) (w : World) (hw : n.wt ≤ 1048576) (hv : StrsIn w Any vv n.vals) :
    Calls Try.prog 21 #[.agg #[.string n.key, .int .i64 n.op, vv]] w fun e w' => e = .returned (.bool (needOkB n)) ∧ Below w.heap.size w w' := by
  obtain ⟨hks, hvl, hvs⟩ := need_sizes n hw
  have HVS := Lib.hid hvs; clear hvs hw
  obtain ⟨a, m, rfl⟩ := hv.len
  have hB := nd_alloc w #[.string n.key, .int .i64 n.op, .slice a n.vals.length m] 34
  have HO : Hid (needOkB n = (labelKeyB n.key && betweenB n.op 1 4 && (if 3 ≤ n.op then decide (n.vals.length = 0) else betweenB n.vals.length 1 4 && valsOkB n.vals))) := rfl
  cases hk : labelKeyB n.key
  · go_enter Try.func21, Try.ntmps21
    go_wp2_with (go_at_call 39; refine (iLabelKeyOk _ _ hks).mono ?_; rintro e w1 ⟨rfl, rfl⟩)
    go_ret
    exact ⟨ret_bool (by rw [HO.out, hk]; rfl), hB⟩
  cases hop : betweenB n.op 1 4
  · go_enter Try.func21, Try.ntmps21
    go_wp2_with (first | (go_at_call 39; refine (iLabelKeyOk _ _ hks).mono ?_; rintro e w1 ⟨rfl, rfl⟩) | (go_at_call 47; refine (within_any _ _ _ _).mono ?_; rintro e w1 ⟨rfl, rfl⟩))
    go_ret
    exact ⟨ret_bool (by rw [HO.out, hk, hop]; rfl), hB⟩
  by_cases h3 : 2 < n.op
  · go_enter Try.func21, Try.ntmps21
    go_wp2_with (first | (go_at_call 39; refine (iLabelKeyOk _ _ hks).mono ?_; rintro e w1 ⟨rfl, rfl⟩) | (go_at_call 47; refine (within_any _ _ _ _).mono ?_; rintro e w1 ⟨rfl, rfl⟩))
    go_ret
    exact ⟨ret_bool (by rw [HO.out, hk, hop, if_pos (by omega), Bool.eq_iff_iff]; simp), hB⟩
  have HN := Lib.hid (show needOkB n = (betweenB n.vals.length 1 4 && valsOkB n.vals) by rw [HO.out, hk, hop, if_neg (by omega)]; rfl)
  have hvb := hv.keep hB
  clear hv
  go_enter Try.func21, Try.ntmps21
  go_wp2_with (first | (go_at_call 39; refine (iLabelKeyOk _ _ hks).mono ?_; rintro e w1 ⟨rfl, rfl⟩) | (go_at_call 47; refine (within_any _ _ _ _).mono ?_; rintro e w1 ⟨rfl, rfl⟩))
  go_loop [25] (fun s => ∃ k : Nat, k ≤ n.vals.length ∧ s = .int .i64 k ∧ Hid (∀ i, i < k → valOk n.vals i = true)) (fun s => n.vals.length - (intOf s).toNat)
  case atStart => exact ⟨0, by omega, rfl, fun i hi => by omega⟩
  case round =>
    obtain ⟨k, hkk, rfl, HA⟩ := hrel
    by_cases hlt : k < n.vals.length
    · have hs2 := HVS.out k hlt
      obtain ⟨b, off, rfl, hcell⟩ := hvb.at hlt
      have c0 := hcell k hlt
      cases hvk : labelValueB (strAt n.vals k)
      · clear hcell
        go_wp2_with (go_at_call 40; refine (iLabelValueOk _ _ hs2).mono ?_; rintro e w1 ⟨rfl, rfl⟩)
        go_ret
        exact ⟨ret_bool (by rw [HN.out, vals_no hlt (by simp [valOk, hvk]), Bool.and_false]), hB⟩
      by_cases h0 : 0 < k
      · have p0 := hcell (k - 1) (by omega)
        have h0' : (0 : Int) < (k : Int) := by omega
        have h1' : (1 : Int) ≤ (k : Int) := by omega
        have hwr : IntKind.i64.wrap ((k : Int) - 1) = (k : Int) - 1 := IntWalk.i64_in _ (by omega)
        have hnt : ((k : Int) - 1).toNat = k - 1 := by omega
        have hge : (0 : Int) ≤ (k : Int) - 1 := by omega
        clear hcell
        cases hg : geS (strAt n.vals (k - 1)) (strAt n.vals k)
        · have hg' : (Op.bytesLess (strAt n.vals (k - 1)).toList (strAt n.vals k).toList) = true := by simpa [geS] using hg
          go_wp2_with (go_at_call 40; refine (iLabelValueOk _ _ hs2).mono ?_; rintro e w1 ⟨rfl, rfl⟩)
          go_round
          case rel => exact ⟨k + 1, by omega, by go_num, upto_succ HA.out (by simp [valOk, hvk, hg])⟩
          case measure => simp [intOf]; omega
        · have hg' : (Op.bytesLess (strAt n.vals (k - 1)).toList (strAt n.vals k).toList) = false := by simpa [geS] using hg
          go_wp2_with (go_at_call 40; refine (iLabelValueOk _ _ hs2).mono ?_; rintro e w1 ⟨rfl, rfl⟩)
          go_ret
          exact ⟨ret_bool (by rw [HN.out, vals_no hlt (by simp [valOk, hg, h0]), Bool.and_false]), hB⟩
      · have h0' : decide ((0 : Int) < (k : Int)) = false := decide_eq_false (by omega)
        clear hcell
        go_wp2_with (go_at_call 40; refine (iLabelValueOk _ _ hs2).mono ?_; rintro e w1 ⟨rfl, rfl⟩)
        go_round
        case rel => exact ⟨k + 1, by omega, by go_num, upto_succ HA.out (by simp [valOk, hvk, h0])⟩
        case measure => simp [intOf]; omega
    · obtain rfl : k = n.vals.length := by omega
      go_wp2_with (go_at_call 47; refine (within_any _ _ _ _).mono ?_; rintro e w1 ⟨rfl, rfl⟩)
      go_ret
      exact ⟨ret_bool (by rw [HN.out, vals_yes HA.out, Bool.and_true]), hB⟩

set_option maxHeartbeats 2000000 in
theorem sNeedOk (n : Nd) (vv : Value) (w : World) (hw : n.wt ≤ 1048576) (hv : StrsIn w Any vv n.vals) :
    Calls Try.prog 20 #[.agg #[.string n.key, .int .i64 n.op, vv]] w fun e w' => e = .returned (.bool (needOkB n)) ∧ Below w.heap.size w w' := by
  obtain ⟨hks, hvl, hvs⟩ := need_sizes n hw
  have HVS := Lib.hid hvs; clear hvs hw
  obtain ⟨a, m, rfl⟩ := hv.len
  have hB := nd_alloc w #[.string n.key, .int .i64 n.op, .slice a n.vals.length m] 34
  have HO : Hid (needOkB n = (labelKeyB n.key && betweenB n.op 1 4 && (if 3 ≤ n.op then decide (n.vals.length = 0) else betweenB n.vals.length 1 4 && valsOkB n.vals))) := rfl
  have HB := Lib.hid hB
  cases hk : labelKeyB n.key
  · go_enter Try.func20, Try.ntmps20
    go_wp2_with (go_at_call 36; refine (sLabelKeyOk _ _ hks).mono ?_; rintro e w1 ⟨rfl, q1, rfl⟩)
    go_ret
    exact ⟨ret_bool (by rw [HO.out, hk]; rfl), below_drewN hB _⟩
  cases hop : betweenB n.op 1 4
  · go_enter Try.func20, Try.ntmps20
    go_wp2_with (first | (go_at_call 36; refine (sLabelKeyOk _ _ hks).mono ?_; rintro e w1 ⟨rfl, q1, rfl⟩) | (go_at_call 46; refine (l01In_any _ _ _ _).mono ?_; rintro e w1 ⟨rfl, rfl⟩))
    go_ret
    exact ⟨ret_bool (by rw [HO.out, hk, hop]; rfl), below_drewN hB _⟩
  by_cases h3 : 3 ≤ n.op
  · go_enter Try.func20, Try.ntmps20
    go_wp2_with (first | (go_at_call 36; refine (sLabelKeyOk _ _ hks).mono ?_; rintro e w1 ⟨rfl, q1, rfl⟩) | (go_at_call 46; refine (l01In_any _ _ _ _).mono ?_; rintro e w1 ⟨rfl, rfl⟩))
    go_ret
    exact ⟨ret_bool (by rw [HO.out, hk, hop, if_pos (by omega), Bool.eq_iff_iff]; simp), below_drewN hB _⟩
  have HN := Lib.hid (show needOkB n = (betweenB n.vals.length 1 4 && valsOkB n.vals) by rw [HO.out, hk, hop, if_neg (by omega)]; rfl)
  cases hbl : betweenB (n.vals.length : Int) 1 4
  · go_enter Try.func20, Try.ntmps20
    go_wp2_with (first | (go_at_call 36; refine (sLabelKeyOk _ _ hks).mono ?_; rintro e w1 ⟨rfl, q1, rfl⟩) | (go_at_call 46; refine (l01In_any _ _ _ _).mono ?_; rintro e w1 ⟨rfl, rfl⟩))
    go_ret
    exact ⟨ret_bool (by rw [HN.out, hbl]; rfl), below_drewN hB _⟩
  go_enter Try.func20, Try.ntmps20
  go_wp2_with (first | (go_at_call 36; refine (sLabelKeyOk _ _ hks).mono ?_; rintro e w1 ⟨rfl, q1, rfl⟩) | (go_at_call 46; refine (l01In_any _ _ _ _).mono ?_; rintro e w1 ⟨rfl, rfl⟩))
  go_loopw [3] (fun s wr => ∃ k : Nat, k ≤ n.vals.length ∧ s = .int .i64 k ∧ Hid (∀ i, i < k → valOk n.vals i = true) ∧ wr.cell? ⟨w.heap.size, 2, none⟩ = some (.slice a n.vals.length m) ∧ Below w.heap.size w wr) (fun s _ => n.vals.length - (intOf s).toNat)
  case atStart => exact ⟨0, by omega, rfl, fun i hi => by omega, by go_simp, below_drewN HB.out _⟩
  case round =>
    obtain ⟨k, hkk, rfl, HA, p2, hb⟩ := hrel
    clear hB
    by_cases hlt : k < n.vals.length
    · have hs2 := HVS.out k hlt
      obtain ⟨b, off, rfl, hcell⟩ := (hv.keep hb).at hlt
      have c0 := hcell k hlt
      clear hv
      cases hvk : labelValueB (strAt n.vals k)
      · clear hcell
        go_wp2_with fail
        go_quiet ((go_at_call 37; exact quiet_drew (sLabelValueOk _ _ hs2)))
        go_wp2
        go_ret
        exact ⟨ret_bool (by rw [HN.out, vals_no hlt (by simp [valOk, hvk]), Bool.and_false]), by repeat (first | exact hb | (refine Below.alloc ?_ (by first | omega | (simp; done) | (simp; omega)) _) | (refine Below.setCell ?_ (by first | omega | (simp; done) | (simp; omega)) _) | (refine Below.drew ?_) | (refine below_drewN ?_ _))⟩
      by_cases h0 : 0 < k
      · have p0 := hcell (k - 1) (by omega)
        have h0' : (0 : Int) < (k : Int) := by omega
        have h1' : (1 : Int) ≤ (k : Int) := by omega
        have hwr : IntKind.i64.wrap ((k : Int) - 1) = (k : Int) - 1 := IntWalk.i64_in _ (by omega)
        have hnt : ((k : Int) - 1).toNat = k - 1 := by omega
        have hge : (0 : Int) ≤ (k : Int) - 1 := by omega
        clear hcell
        cases hg : geS (strAt n.vals (k - 1)) (strAt n.vals k)
        · have hg' : (Op.bytesLess (strAt n.vals (k - 1)).toList (strAt n.vals k).toList) = true := by simpa [geS] using hg
          go_wp2_with fail
          go_quiet ((go_at_call 37; exact quiet_drew (sLabelValueOk _ _ hs2)))
          go_wp2
          go_roundw
          case rel => exact ⟨k + 1, by omega, by go_num, upto_succ HA.out (by simp [valOk, hvk, hg]), p2, by repeat (first | exact hb | (refine Below.alloc ?_ (by first | omega | (simp; done) | (simp; omega)) _) | (refine Below.setCell ?_ (by first | omega | (simp; done) | (simp; omega)) _) | (refine Below.drew ?_) | (refine below_drewN ?_ _))⟩
          case measure => simp [intOf]; omega
        · have hg' : (Op.bytesLess (strAt n.vals (k - 1)).toList (strAt n.vals k).toList) = false := by simpa [geS] using hg
          go_wp2_with fail
          go_quiet ((go_at_call 37; exact quiet_drew (sLabelValueOk _ _ hs2)))
          go_wp2
          go_ret
          exact ⟨ret_bool (by rw [HN.out, vals_no hlt (by simp [valOk, hg, h0]), Bool.and_false]), by repeat (first | exact hb | (refine Below.alloc ?_ (by first | omega | (simp; done) | (simp; omega)) _) | (refine Below.setCell ?_ (by first | omega | (simp; done) | (simp; omega)) _) | (refine Below.drew ?_) | (refine below_drewN ?_ _))⟩
      · have h0' : decide ((0 : Int) < (k : Int)) = false := decide_eq_false (by omega)
        clear hcell
        go_wp2_with fail
        go_quiet ((go_at_call 37; exact quiet_drew (sLabelValueOk _ _ hs2)))
        go_wp2
        go_roundw
        case rel => exact ⟨k + 1, by omega, by go_num, upto_succ HA.out (by simp [valOk, hvk, h0]), p2, by repeat (first | exact hb | (refine Below.alloc ?_ (by first | omega | (simp; done) | (simp; omega)) _) | (refine Below.setCell ?_ (by first | omega | (simp; done) | (simp; omega)) _) | (refine Below.drew ?_) | (refine below_drewN ?_ _))⟩
        case measure => simp [intOf]; omega
    · obtain rfl : k = n.vals.length := by omega
      go_wp2
      go_ret
      exact ⟨ret_bool (by rw [HN.out, hbl, vals_yes HA.out]; rfl), hb⟩

end Go.Proofs.Ytjkfjdapkkhkfaa
