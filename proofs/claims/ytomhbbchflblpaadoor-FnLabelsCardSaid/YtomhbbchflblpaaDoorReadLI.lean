/- impl.ReadLabelsLine: the contract. -/
import Derived.Test.YtomhbbchflblpaaDoorReadLS
namespace Go.Proofs.YtomhbbchflblpaaDoor
open Go.RowKit

/-- The library's own variable holds some number. -/
def MaxOk (w : World) : Prop := ∃ m, w.cell? ⟨0, 0, none⟩ = some (.int .i64 m)
theorem MaxOk.keep {w w' : World} (h : MaxOk w) (hb : Below w.heap.size w w') : MaxOk w' := by
  obtain ⟨m, hm⟩ := h
  exact ⟨m, bkeep hb hm⟩
theorem drewB (w : World) (n : Nat) : Below w.heap.size w (w.drewN n) := Drew.below ⟨n, rfl⟩
theorem iSplit (s : ByteArray) (c : UInt8) (w : World) (hs : s.size ≤ 1048576) (hM : MaxOk w) : Calls Tryd.prog 25 #[.string s, .string ⟨#[c]⟩] w (CutRow c s w) := by
  obtain ⟨m, hm⟩ := hM
  refine (Tryd.strings_Split s ⟨#[c]⟩ m w (by omega) hm (by show 1 ≤ 1; omega)).mono ?_
  rintro e w' ⟨rfl, rfl⟩
  have hl : Lib.countB s ⟨#[c]⟩ + 1 = (partsL c s).length := by
    rw [← Lib.splitB_all ⟨#[c]⟩ (by show 1 ≤ 1; omega) 0 _ s rfl, split_parts]
  rw [hl, split_parts]
  refine ⟨_, rfl, ?_, rowAlloc _ _⟩
  have hp := parts_len c s
  have := World.ownsRow_lit (base := w.heap.size) (e := 9) (size := 1) w ((partsL c s).map Value.string).toArray (partsL c s).length (Nat.le_refl _) (by unfold maxLen; omega) (by simp)
  simpa using this
theorem iCut (p : ByteArray) (w : World) (hs : p.size ≤ 1048576) (hM : MaxOk w) : Calls Tryd.prog 26 #[.string p, .string ⟨#[61]⟩] w fun e w' => (∃ b, e = .returned (.tuple #[.string (kvB p).1, .string (kvB p).2, .bool b])) ∧ Below w.heap.size w w' := by
  obtain ⟨m, hm⟩ := hM
  refine (Tryd.strings_Cut p ⟨#[61]⟩ m w (by omega) hm).mono ?_
  rintro e w' ⟨rfl, n, rfl⟩
  exact ⟨⟨_, rfl⟩, drewB w n⟩
theorem ok_line {s : ByteArray} (hd : dashB s = false) (h0 : 0 < s.size) (h : lineB (labsOf s) = s) : readOkB s = true := by
  obtain ⟨h1, h2⟩ := line_bwd h h0
  exact ok_yes hd (line_fwd h1 h2).2.2 h1 h2
theorem ok_nline {s : ByteArray} (hd : dashB s = false) (h : lineB (labsOf s) ≠ s) : readOkB s = false := by
  cases hr : readOkB s
  · rfl
  · rw [readOkB, hd] at hr
    simp only [Bool.false_or, Bool.and_eq_true, decide_eq_true_eq] at hr
    exact absurd (line_fwd hr.2.1 hr.2.2).1 h
theorem ok_empty {s : ByteArray} (hd : dashB s = false) (h : s.size = 0) : readOkB s = false := by
  cases hr : readOkB s
  · rfl
  · rw [readOkB, hd] at hr
    simp only [Bool.false_or, Bool.and_eq_true, decide_eq_true_eq] at hr
    have := (line_fwd hr.2.1 hr.2.2).2.1
    omega
theorem line_nil : lineB [] = ⟨#[45]⟩ := by decide +kernel
theorem toList_len5 (s : ByteArray) : s.toList.length = s.size := by rw [ByteArray.toList_eq]; simp
theorem eq_of_toList {a b : ByteArray} (h : a.toList = b.toList) : a = b := by
  apply ByteArray.ext
  apply Array.ext'
  rw [← ByteArray.toList_eq, ← ByteArray.toList_eq, h]

set_option maxRecDepth 100000 in
set_option maxHeartbeats 2000000 in
theorem iReadLabels (s : ByteArray) (w : World) (hs : s.size ≤ 1048576) (hM : MaxOk w) : Calls Tryd.prog 10 #[.string s] w (ReadP s w) := by
  have HM := Lib.hid hM; clear hM
  cases hd : (s.toList == [45])
  rotate_left
  · obtain rfl : s = ⟨#[45]⟩ := eq_of_toList (by rw [beq_iff_eq] at hd; rw [hd, ByteArray.toList_eq])
    have HD := Lib.hid (show dashB ⟨#[45]⟩ = true from hd)
    have HR0 := Lib.hid (RowB.start 35 2 w #[] rfl)
    clear hd hs
    obtain ⟨a5, cap5, fp5, hv5, -, -, hsl5⟩ := HR0.out.sl (f := labF []) (by simp)
    simp only [Value.slice.injEq] at hv5
    obtain ⟨rfl, -, rfl⟩ := hv5
    have HL := Lib.hid (fun w0 (h : SlAt w0 (some ⟨w.heap.size, 0, none⟩) 0 2 (labF [])) => iLabelsLine [] (some ⟨w.heap.size, 0, none⟩) 0 w0 (by simp) h (by simp))
    rw [line_nil] at HL
    have HSL := Lib.hid hsl5
    clear hsl5
    go_enter Tryd.func10, Tryd.ntmps10
    go_wp2_with fail
    refine (HL.out _ HSL.out).mono ?_
    rintro e w3 ⟨rfl, hb3⟩
    have HB3 := Lib.hid (bnext (rowAlloc w (.cells #[] 35)) hb3)
    clear hb3
    go_wp2
    go_ret2
    exact read_dash _ _ HD.out HB3.out
  have HD := Lib.hid (show dashB s = false from hd)
  have hd2 : (s.toList != [45]) = true := by rw [bne, hd]; rfl
  have hLn : (partsL 44 s).length = (labsOf s).length := by rw [labsOf, List.length_map]
  have hlen := parts_len 44 s
  have HR0 := Lib.hid (RowB.start 35 2 w #[] rfl)
  have HM1 := Lib.hid (HM.out.keep (rowAlloc w (.cells #[] 35)))
  go_enter Tryd.func10, Tryd.ntmps10
  go_wp2_with fail
  refine (iSplit s 44 _ hs HM1.out).mono ?_
  rintro e w2 ⟨v2, rfl, hr2⟩
  rw [hLn] at hr2
  obtain ⟨a, cap, fp, rfl, hfo, hge, -⟩ := hr2.sl (fun i hi => strCell _ i (by rw [hLn]; exact hi))
  have hz2 := hr2.bel.size
  have G2 := Lib.hid (GFlat.new hfo hge)
  have R2 := Lib.hid (show RowS 35 2 (w.alloc (.cells #[] 35)).heap.size w2.heap.size w w2 (.slice (some ⟨w.heap.size, 0, none⟩) 0 0) 0 [] from ⟨HR0.out.keep hr2.bel, fun b hb => by simp [Value.ownBlock] at hb; subst hb; left; exact rowAllocLt _ _, Nat.le_refl _⟩)
  have HLN := Lib.hid hLn
  have hln3 : (labsOf s).length ≤ 1048577 := by omega
  clear hr2 hfo hge HR0 hLn
  go_wp2
  go_loopw [4, 16] (fun v i wr => ∃ k : Nat, k ≤ (labsOf s).length ∧ i = .int .i64 k ∧ Hid (RowS 35 2 (w.alloc (.cells #[] 35)).heap.size w2.heap.size w wr v k (labCells ((labsOf s).take k))) ∧ Hid (GFlat wr (w.alloc (.cells #[] 35)).heap.size w2.heap.size (.slice a (labsOf s).length cap) (labsOf s).length 1 (strF (partsL 44 s)) fp)) (fun _ i _ => (labsOf s).length - (intOf i).toNat)
  case atStart => exact ⟨0, by omega, rfl, R2, G2⟩
  case round =>
    obtain ⟨k, hk, rfl, HR, HG⟩ := hrel
    by_cases hlt : k < (labsOf s).length
    · have hltP : k < (partsL 44 s).length := by rw [HLN.out]; exact hlt
      obtain ⟨b, off, rfl, hcell⟩ := HG.out.own.sl.at (by omega)
      have c0 : wr.cell? ⟨b, off + k, none⟩ = some (.string (strAt (partsL 44 s) k)) := by simpa [strF] using hcell k hlt 0 (by omega)
      have hps := part_at hltP
      have HL := Lib.hid (labs_take hltP)
      clear hcell
      go_wp2_with fail
      refine (iCut (strAt (partsL 44 s) k) _ (by omega) (HM.out.keep HR.out.row.bel)).mono ?_
      rintro e w3 ⟨⟨b3, rfl⟩, hb3⟩
      have R3 := Lib.hid (HR.out.keep hb3)
      have G3 := Lib.hid (HG.out.keep hb3)
      clear HR HG hb3
      go_wp2_with (at_builtin; refine wpList_rowS Tryd.elLab (by rfl) _ _ (by rfl) _ _ _ [.string (kvB (strAt (partsL 44 s) k)).1, .string (kvB (strAt (partsL 44 s) k)).2] w _ (by rfl) R3.out _ 1 1 (by rfl) rfl (by simp [Value.oneCell']) (by rfl) (by omega) ?_; intro v4 w4 hrow4 hg4; have G4 := Lib.hid (GFlat.grown (R3.out.alloc _) hg4 (G3.out.keep (rowAlloc _ _))))
      go_roundw
      case rel => exact ⟨k + 1, by omega, by go_num, Lib.hid (by rw [HL.out]; exact hrow4), G4⟩
      case measure => simp [intOf] <;> omega
    · obtain rfl : k = (labsOf s).length := by omega
      have hrow := HR.out.row
      rw [List.take_length] at hrow
      have HROW := Lib.hid hrow
      obtain ⟨a5, cap5, fp5, rfl, -, -, hsl5⟩ := hrow.sl (labCell _)
      have HSL := Lib.hid hsl5
      have HSZ := Lib.hid (fun i hi => labs_sizes s i hi)
      clear hrow hsl5 HR HG
      rcases Nat.eq_zero_or_pos s.size with h0 | h0
      · have H := Lib.hid (ok_empty HD.out h0)
        have hem : s.toList.isEmpty = true := by
          rw [List.isEmpty_iff]; exact List.eq_nil_of_length_eq_zero (by rw [toList_len5]; exact h0)
        clear h0
        go_wp2_with fail
        go_ret2
        exact read_none _ _ H.out HROW.out.bel
      have hem : s.toList.isEmpty = false := by
        cases hz : s.toList.isEmpty
        · rfl
        · have h1 := toList_len5 s
          rw [List.isEmpty_iff.1 hz] at h1
          simp at h1; omega
      have HLL := Lib.hid (fun w0 h => iLabelsLine (labsOf s) a5 cap5 w0 (by omega) h (fun i hi => ⟨by have := (HSZ.out i hi).1; omega, by have := (HSZ.out i hi).2; omega⟩))
      cases he : ((lineB (labsOf s)).toList == s.toList)
      · have H := Lib.hid (ok_nline HD.out (fun e => by rw [e] at he; simp at he))
        have he2 : ((lineB (labsOf s)).toList != s.toList) = true := by rw [bne, he]; rfl
        go_wp2_with fail
        refine (HLL.out _ HSL.out).mono ?_
        rintro e w6 ⟨rfl, hb6⟩
        have HB6 := Lib.hid (bnext HROW.out.bel hb6)
        go_wp2
        go_ret2
        exact read_none _ _ H.out HB6.out
      · have H := Lib.hid (ok_line HD.out h0 (eq_of_toList (by rw [beq_iff_eq] at he; exact he)))
        have he2 : ((lineB (labsOf s)).toList != s.toList) = false := by rw [bne, he]; rfl
        go_wp2_with fail
        refine (HLL.out _ HSL.out).mono ?_
        rintro e w6 ⟨rfl, hb6⟩
        have HROW6 := Lib.hid (HROW.out.keep hb6)
        go_wp2
        go_ret2
        exact read_some HD.out H.out HROW6.out

end Go.Proofs.YtomhbbchflblpaaDoor
