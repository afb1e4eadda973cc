/- LabelKeyOk and LabelValueOk: contracts and the two laws' walks. -/
import Derived.Test.YtomhbbchflblpaaDoorWords
namespace Go.Proofs.YtomhbbchflblpaaDoor
open Go.RowKit

def keyOthers : ByteArray := ⟨#[45, 95, 46, 47]⟩
def valueOthers : ByteArray := ⟨#[45, 95, 46]⟩
theorem toList_length (s : ByteArray) : s.toList.length = s.size := by rw [ByteArray.toList_eq]; simp
theorem emptyB_pos (s : ByteArray) (h : 0 < s.size) : s.toList.isEmpty = false := by
  cases hx : s.toList with
  | nil => have := toList_length s; rw [hx] at this; simp at this; omega
  | cons a l => rfl
theorem emptyB_zero (s : ByteArray) (h : ¬ 0 < s.size) : s.toList.isEmpty = true := by
  rw [List.isEmpty_iff, ← List.length_eq_zero_iff, toList_length]; omega
def labelKeyB (s : ByteArray) : Bool := decide (s.size ≤ 30) && wordOkB s keyOthers
def labelValueB (s : ByteArray) : Bool := s.toList.isEmpty || decide (s.size ≤ 20) && wordOkB s valueOthers

theorem iLabelKeyOk (s : ByteArray) (w : World) (hs : s.size ≤ 1048576) : Calls Tryd.prog 28 #[.string s] w fun e w' => e = .returned (.bool (labelKeyB s)) ∧ w = w' := by
  have LN : Hid (labelKeyB s = (decide (s.size ≤ 30) && (decide (0 < s.size) && wordOkL s ⟨#[45, 95, 46, 47]⟩))) := rfl
  cases hb : betweenB (s.size : Int) 1 30
  · go_enter Tryd.func28, Tryd.ntmps28
    go_wp2_with (go_at_call 24; refine (within_any _ _ _ _).mono ?_; rintro e w' ⟨rfl, rfl⟩)
    go_ret
    refine ⟨ret_bool ?_, rfl⟩
    rw [LN.out]
    simp only [betweenB, Bool.and_eq_false_iff, decide_eq_false_iff_not] at hb
    rcases hb with hb | hb
    · rw [show decide (0 < s.size) = false from decide_eq_false (by omega)]; simp
    · rw [show decide (s.size ≤ 30) = false from decide_eq_false (by omega)]; simp
  · have hb2 := hb
    simp only [betweenB, Bool.and_eq_true, decide_eq_true_eq] at hb2
    have h0 : 0 < s.size := by omega
    go_enter Tryd.func28, Tryd.ntmps28
    go_wp2_with (first | (go_at_call 24; refine (within_any _ _ _ _).mono ?_; rintro e w' ⟨rfl, rfl⟩) | (go_at_call 47; refine (iwordOk _ _ _ h0 hs).mono ?_; rintro e w' ⟨rfl, rfl⟩))
    go_ret
    refine ⟨ret_bool ?_, rfl⟩
    rw [LN.out, decide_eq_true h0, decide_eq_true (show s.size ≤ 30 by omega)]; rfl

theorem sLabelKeyOk (s : ByteArray) (w : World) (hs : s.size ≤ 1048576) : Calls Tryd.prog 40 #[.string s] w fun e w' => e = .returned (.bool (labelKeyB s)) ∧ Drew w w' := by
  have LN : Hid (labelKeyB s = (decide (s.size ≤ 30) && wordOkB s ⟨#[45, 95, 46, 47]⟩)) := rfl
  by_cases h : s.size ≤ 30
  all_goals
    go_enter Tryd.func40, Tryd.ntmps40
    go_wp2_with (go_at_call 53; refine (sl14Word _ _ _ hs (by decide)).mono ?_; rintro e w' ⟨rfl, hd⟩)
    go_ret
  · exact ⟨ret_bool (by rw [LN.out, decide_eq_true h]; rfl), hd⟩
  · exact ⟨ret_bool (by rw [LN.out, decide_eq_false h]; rfl), Drew.refl _⟩

theorem iLabelValueOk (s : ByteArray) (w : World) (hs : s.size ≤ 1048576) : Calls Tryd.prog 29 #[.string s] w fun e w' => e = .returned (.bool (labelValueB s)) ∧ w = w' := by
  have LN : Hid (labelValueB s = (s.toList.isEmpty || decide (s.size ≤ 20) && (decide (0 < s.size) && wordOkL s ⟨#[45, 95, 46]⟩))) := rfl
  by_cases h0 : 0 < s.size
  · have he := emptyB_pos s h0
    by_cases h : s.size ≤ 20
    all_goals
      go_enter Tryd.func29, Tryd.ntmps29
      go_wp2_with (go_at_call 47; refine (iwordOk _ _ _ h0 hs).mono ?_; rintro e w' ⟨rfl, rfl⟩)
      go_ret
    · exact ⟨ret_bool (by rw [LN.out, he, decide_eq_true h, decide_eq_true h0]; rfl), rfl⟩
    · exact ⟨ret_bool (by rw [LN.out, he, decide_eq_false h]; rfl), rfl⟩
  · have he := emptyB_zero s h0
    go_enter Tryd.func29, Tryd.ntmps29
    go_wp2
    go_ret
    exact ⟨ret_bool (by rw [LN.out, he]; rfl), rfl⟩

theorem sLabelValueOk (s : ByteArray) (w : World) (hs : s.size ≤ 1048576) : Calls Tryd.prog 41 #[.string s] w fun e w' => e = .returned (.bool (labelValueB s)) ∧ Drew w w' := by
  have LN : Hid (labelValueB s = (s.toList.isEmpty || decide (s.size ≤ 20) && wordOkB s ⟨#[45, 95, 46]⟩)) := rfl
  cases he : s.toList.isEmpty
  · by_cases h : s.size ≤ 20
    all_goals
      go_enter Tryd.func41, Tryd.ntmps41
      go_wp2_with (go_at_call 53; refine (sl14Word _ _ _ hs (by decide)).mono ?_; rintro e w' ⟨rfl, hd⟩)
      go_ret
    · exact ⟨ret_bool (by rw [LN.out, he, decide_eq_true h]; rfl), hd⟩
    · exact ⟨ret_bool (by rw [LN.out, he, decide_eq_false h]; rfl), Drew.refl _⟩
  · go_enter Tryd.func41, Tryd.ntmps41
    go_wp2
    go_ret
    exact ⟨ret_bool (by rw [LN.out, he]; rfl), Drew.refl _⟩

end Go.Proofs.YtomhbbchflblpaaDoor
