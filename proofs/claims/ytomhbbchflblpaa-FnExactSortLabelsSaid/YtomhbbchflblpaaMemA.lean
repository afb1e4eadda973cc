import Derived.Test.YtomhbbchflblpaaMem
namespace Go.Proofs.Ytomhbbchflblpaa
open Go.RowKit

theorem szLabel_any (k v : ByteArray) (left : Int) (w : World) (hk : k.size ≤ maxLen) (hv : v.size ≤ maxLen) (hl : 0 ≤ left) (hl2 : left ≤ 1048576) :
    Calls Try.prog 11 #[.agg #[.string k, .string v], .int .i64 left] w fun e w' => e = .returned (.int .i64 (lessZ left (k.size + v.size))) ∧ Below w.heap.size w w' := by
  unfold maxLen at hk hv
  by_cases h1 : left - k.size < 0
  · go_enter Try.func11, Try.ntmps11
    go_wp2
    go_ret
    exact ⟨ret_int (lessZ_neg (by omega)).symm, by repeat (first | exact Below.refl _ _ | (refine Below.alloc ?_ (by first | omega | (simp; done) | (simp; omega)) _) | (refine Below.setCell ?_ (by first | omega | (simp; done) | (simp; omega)) _) | (refine Below.drew ?_) | (refine below_drewN ?_ _))⟩
  by_cases h2 : left - k.size - v.size < 0
  · go_enter Try.func11, Try.ntmps11
    go_wp2
    go_ret
    exact ⟨ret_int (lessZ_neg (by omega)).symm, by repeat (first | exact Below.refl _ _ | (refine Below.alloc ?_ (by first | omega | (simp; done) | (simp; omega)) _) | (refine Below.setCell ?_ (by first | omega | (simp; done) | (simp; omega)) _) | (refine Below.drew ?_) | (refine below_drewN ?_ _))⟩
  · go_enter Try.func11, Try.ntmps11
    go_wp2
    go_ret
    exact ⟨ret_int (by rw [lessZ_pos (by omega)]; omega), by repeat (first | exact Below.refl _ _ | (refine Below.alloc ?_ (by first | omega | (simp; done) | (simp; omega)) _) | (refine Below.setCell ?_ (by first | omega | (simp; done) | (simp; omega)) _) | (refine Below.drew ?_) | (refine below_drewN ?_ _))⟩

theorem toLabel_any (k v : ByteArray) (w : World) :
    Calls Try.prog 13 #[.agg #[.string k, .string v]] w fun e w' => e = .returned (.agg #[.string k, .string v]) ∧ Below w.heap.size w w' := by
  go_enter Try.func13, Try.ntmps13
  go_wp2
  refine bodyPost_ret (v := .agg #[.string k, .string v]) (by simp [results, Try.results13, go_sem]) rfl ⟨rfl, ?_⟩
  exact (by repeat (first | exact Below.refl _ _ | (refine Below.alloc ?_ (by first | omega | (simp; done) | (simp; omega)) _) | (refine Below.setCell ?_ (by first | omega | (simp; done) | (simp; omega)) _) | (refine Below.drew ?_) | (refine below_drewN ?_ _)))

/-- A list of labels in memory. -/
def keyAt (L : List (ByteArray × ByteArray)) (i : Nat) : ByteArray := (L.getD i (ByteArray.empty, ByteArray.empty)).1
def valAt (L : List (ByteArray × ByteArray)) (i : Nat) : ByteArray := (L.getD i (ByteArray.empty, ByteArray.empty)).2
def labF (L : List (ByteArray × ByteArray)) (i j : Nat) : Value := if j = 0 then .string (keyAt L i) else .string (valAt L i)
def lenSum (L : List (ByteArray × ByteArray)) (k : Nat) : Nat := ((L.take k).map fun x => x.1.size + x.2.size).sum
theorem lenSum_succ (L : List (ByteArray × ByteArray)) (k : Nat) (h : k < L.length) : lenSum L (k + 1) = lenSum L k + (keyAt L k).size + (valAt L k).size := by
  have e : (L.getD k (ByteArray.empty, ByteArray.empty)) = L[k] := by rw [List.getD_eq_getElem?_getD, List.getElem?_eq_getElem h]; rfl
  unfold lenSum keyAt valAt
  rw [List.take_succ_eq_append_getElem h, List.map_append, List.sum_append_nat, e]
  simp only [List.map_cons, List.map_nil, List.sum_cons, List.sum_nil]
  omega
theorem lenSum_mono (L : List (ByteArray × ByteArray)) (k : Nat) (_h : k < L.length) : lenSum L (k + 1) ≤ lenSum L L.length := by
  unfold lenSum
  rw [List.take_length]
  conv => rhs; rw [← List.take_append_drop (k + 1) L, List.map_append, List.sum_append_nat]
  omega

theorem szLabelS_any (L : List (ByteArray × ByteArray)) (a : Option Addr) (cap : Nat) (w : World) (left : Int) (hn : L.length ≤ maxLen) (hsz : ∀ i, i < L.length → (keyAt L i).size ≤ maxLen ∧ (valAt L i).size ≤ maxLen)
    (hl0 : 0 ≤ left) (hl1 : left ≤ 1048576) (hc : SlAt w a L.length 2 (labF L)) :
    Calls Try.prog 4 #[.slice a L.length cap, .int .i64 left] w fun e w' => e = .returned (.int .i64 (lessZ left (L.length + lenSum L L.length))) ∧ Below w.heap.size w w' := by
  unfold maxLen at hn
  by_cases hln : left - L.length < 0
  · go_enter Try.func4, Try.ntmps4
    go_wp2
    go_ret
    exact ⟨ret_int (lessZ_neg (by omega)).symm, Below.refl _ _⟩
  go_enter Try.func4, Try.ntmps4
  go_wp2_with fail
  go_loopw [1, 5] (fun l i wr => ∃ k : Nat, k ≤ L.length ∧ i = .int .i64 k ∧ ∃ l0 : Int, 0 ≤ l0 ∧ l0 ≤ left ∧ l0 + (L.length + lenSum L k) = left ∧ l = .int .i64 l0 ∧ Below w.heap.size w wr) (fun _ i _ => L.length - (intOf i).toNat)
  case atStart => exact ⟨0, by omega, rfl, _, by omega, by omega, by simp [lenSum], rfl, Below.refl _ _⟩
  case round =>
    obtain ⟨k, hk, rfl, l0, hl0, hll, hle, rfl, hb⟩ := hrel
    have HE := Lib.hid hle; clear hle
    by_cases hlt : k < L.length
    · obtain ⟨b, off, rfl, hcell⟩ := (hc.keep hb).at (by omega)
      have c0 : wr.cell? ⟨b, off + k * 2, none⟩ = some (.string (keyAt L k)) := by simpa [labF] using hcell k hlt 0 (by omega)
      have c1 : wr.cell? ⟨b, off + k * 2 + 1, none⟩ = some (.string (valAt L k)) := by simpa [labF] using hcell k hlt 1 (by omega)
      obtain ⟨hs1, hs2⟩ := hsz k hlt
      clear hcell hc
      have HS := Lib.hid (lenSum_succ L k hlt)
      have HM := Lib.hid (lenSum_mono L k hlt)
      by_cases hx : l0 < (keyAt L k).size + (valAt L k).size
      · have hy := lessZ_neg hx
        go_wp2_with (go_at_call 11; refine (szLabel_any _ _ _ _ hs1 hs2 hl0 (by omega)).mono ?_; rintro e w1 ⟨rfl, hb1⟩)
        go_ret
        refine ⟨ret_int (lessZ_neg ?_).symm, bnext hb hb1⟩
        have := HE.out; have := HS.out; have := HM.out; omega
      · have hy := lessZ_pos hx
        have hz : 0 ≤ l0 - ((keyAt L k).size + (valAt L k).size) := by omega
        go_wp2_with (go_at_call 11; refine (szLabel_any _ _ _ _ hs1 hs2 hl0 (by omega)).mono ?_; rintro e w1 ⟨rfl, hb1⟩)
        go_roundw
        case rel => exact ⟨k + 1, by omega, by go_num, _, hz, by omega, by have := HE.out; have := HS.out; omega, rfl, bnext hb hb1⟩
        case measure => simp [intOf]; omega
    · obtain rfl : k = L.length := by omega
      go_wp2
      go_ret
      exact ⟨ret_int (by rw [lessZ_pos (by have := HE.out; omega)]; have := HE.out; omega), hb⟩
theorem Try.infoLabel : (Try.prog.info? 34).map (fun i => (i.zero, i.size, i.bytes)) = some (some (.agg #[.string ⟨#[]⟩, .string ⟨#[]⟩]), 2, 32) := by kernel_rfl

theorem labF_step {L : List (ByteArray × ByteArray)} {F : Nat → Value} {k : Nat} (h : ∀ i, i < k → ∀ j, j < 2 → F (i * 2 + j) = labF L i j) :
    ∀ i, i < k + 1 → ∀ j, j < 2 → (if i * 2 + j = k * 2 + 1 then .string (valAt L k) else if i * 2 + j = k * 2 then .string (keyAt L k) else F (i * 2 + j)) = labF L i j := by
  intro i hi j hj
  by_cases hik : i = k
  · subst hik
    rcases (show j = 0 ∨ j = 1 by omega) with rfl | rfl
    · rw [if_neg (by omega), if_pos (by omega)]; rfl
    · rw [if_pos (by omega)]; rfl
  · rw [if_neg (by omega), if_neg (by omega)]; exact h i (by omega) j hj

theorem toLabelS_any (L : List (ByteArray × ByteArray)) (a : Option Addr) (cap : Nat) (w : World) (hn : L.length ≤ 1048576) (hc : SlAt w a L.length 2 (labF L)) :
    Calls Try.prog 6 #[.slice a L.length cap] w fun e w' => (∃ g F, e = .returned (.slice (some ⟨g, 0, none⟩) L.length L.length) ∧ w.heap.size ≤ g ∧ w'.rowIs g 34 (L.length * 2) F ∧ ∀ i, i < L.length → ∀ j, j < 2 → F (i * 2 + j) = labF L i j) ∧ Below w.heap.size w w' := by
  obtain ⟨i0, hi, hz0, hz1, hz2⟩ := info_parts Try.infoLabel
  go_enter Try.func6, Try.ntmps6
  have hb2 : i0.bytes * L.length ≤ 281474976710656 := by rw [hz2]; omega
  have hb3 : L.length ≤ maxLen := by unfold maxLen; omega
  go_wp2_with (at_make; refine wpList_make_full _ rfl (.tmp 6) (.tmp 6) 24 rfl w.heap.size 34 i0 _ 2 Try.underlying24 hi hz0 hz1 .i64 .i64 _ _ L.length rfl rfl rfl rfl hb2 hb3 (Nat.le_refl _) ?_; intro w1 hown hgrow)
  obtain ⟨F0, hrow0, -, -, -, -⟩ := rowIs_of_owns hown
  have hbel1 : Below w.heap.size w w1 := (Below.refl _ _).grown hgrow (Nat.le_refl _) (fun k hk => by cases hk)
  obtain ⟨g, hg⟩ : ∃ g, g = w.heap.size := ⟨_, rfl⟩
  rw [← hg] at hrow0 ⊢
  have hgle : w.heap.size ≤ g := by omega
  have HG := Lib.hid hg; clear hg hown hgrow
  go_loopw [4] (fun i wr => ∃ k : Nat, k ≤ L.length ∧ i = .int .i64 k ∧ Below w.heap.size w wr ∧ ∃ F, wr.rowIs g 34 (L.length * 2) F ∧ ∀ i, i < k → ∀ j, j < 2 → F (i * 2 + j) = labF L i j) (fun i _ => L.length - (intOf i).toNat)
  case atStart => exact ⟨0, by omega, rfl, hbel1, F0, hrow0, fun i hi => by omega⟩
  case round =>
    obtain ⟨k, hk, rfl, hb, F, hrow, hF⟩ := hrel
    have HF := Lib.hid hF; clear hF hrow0
    by_cases hlt : k < L.length
    · obtain ⟨b, off, rfl, hcell⟩ := (hc.keep hb).at (by omega)
      have c0 : wr.cell? ⟨b, off + k * 2, none⟩ = some (.string (keyAt L k)) := by simpa [labF] using hcell k hlt 0 (by omega)
      have c1 : wr.cell? ⟨b, off + k * 2 + 1, none⟩ = some (.string (valAt L k)) := by simpa [labF] using hcell k hlt 1 (by omega)
      clear hcell hc
      go_wp2_with (go_at_call 13; refine (toLabel_any _ _ _).mono ?_; rintro e w2 ⟨rfl, hb2⟩; have hrow2 := rowIs_keep hrow hb2; have d0 := hrow2.cell (i := k * 2) (by omega); have d1 := hrow2.cell (i := k * 2 + 1) (by omega); have f0 := hrow2.frozen (k * 2); have f1 := hrow2.frozen (k * 2 + 1))
      go_roundw
      case rel => exact ⟨k + 1, by omega, by go_num, ((bnext hb hb2).setCell (by omega) _).setCell (by omega) _, _, rowIs_set2 hrow2 (k * 2) _ _, labF_step HF.out⟩
      case measure => simp [intOf]; omega
    · obtain rfl : k = L.length := by omega
      go_wp2
      go_ret
      exact ⟨⟨g, F, rfl, hgle, hrow, HF.out⟩, hb⟩

end Go.Proofs.Ytomhbbchflblpaa
