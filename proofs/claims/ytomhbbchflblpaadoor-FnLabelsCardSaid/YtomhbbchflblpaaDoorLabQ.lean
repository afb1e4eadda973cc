/- The plain law of FnLabels: a line of labels comes back; every label is found among the sorted ones. No program. -/
import Derived.Test.YtomhbbchflblpaaDoorSortP
import Derived.Test.YtomhbbchflblpaaDoorReadLS
namespace Go.Proofs.YtomhbbchflblpaaDoor
open Go.RowKit

theorem word_no {s o : ByteArray} {c : UInt8} (h : s.data.toList.all (wordB o) = true) (hc : wordB o c = false) : c ∉ s.data.toList := fun hm => by
  have := List.all_eq_true.1 h c hm
  rw [hc] at this; cases this
theorem key_no {k : ByteArray} (h : labelKeyB k = true) : (61 : UInt8) ∉ k.data.toList ∧ (44 : UInt8) ∉ k.data.toList := by
  simp only [labelKeyB, Bool.and_eq_true, decide_eq_true_eq, wordOkB, wordOkL] at h
  exact ⟨word_no h.2.2.2 (by decide), word_no h.2.2.2 (by decide)⟩
theorem value_no2 {v : ByteArray} (h : labelValueB v = true) : (44 : UInt8) ∉ v.data.toList := by
  intro hm
  simp only [labelValueB, Bool.or_eq_true, Bool.and_eq_true, decide_eq_true_eq, wordOkB, wordOkL] at h
  rcases h with h | h
  · rw [List.isEmpty_iff, ByteArray.toList_eq] at h; rw [h] at hm; simp at hm
  · exact word_no h.2.2.2 (by decide) hm
theorem labs_each {L : List Lb} (h : labsOkB L = true) : ∀ x, x ∈ L → labelKeyB x.1 = true ∧ labelValueB x.2 = true := by
  intro x hx
  obtain ⟨i, hi, rfl⟩ := List.getElem_of_mem hx
  rw [labsOkB, Bool.and_eq_true, List.all_eq_true] at h
  have h2 := h.2 i (List.mem_range.2 hi)
  rw [labAt, Bool.and_eq_true, Bool.and_eq_true] at h2
  rw [lab_get L i hi]
  exact h2.1
theorem labB_data (x : Lb) : (labB x).data.toList = x.1.data.toList ++ 61 :: x.2.data.toList := by
  rw [labB, app_data, app_data]; simp
theorem lab_back {x : Lb} (hk : (61 : UInt8) ∉ x.1.data.toList) (hv : (61 : UInt8) ∉ x.2.data.toList) : kvB (labB x) = x ∧ twoB (labB x) = true := by
  refine ⟨?_, ?_⟩
  · rw [kvB, labB_data, cut_hit hk]
  · rw [twoB, partsL, labB_data, cutL_hit 61 _ _ hk, cutL_miss 61 _ hv]; rfl
theorem join_back (c : UInt8) : ∀ X : List (List UInt8), X ≠ [] → (∀ x, x ∈ X → c ∉ x) → cutL c (Lib.join X [c]) = X
  | [], h, _ => absurd rfl h
  | [x], _, hx => by rw [Lib.join_one]; exact cutL_miss c x (hx x (by simp))
  | x :: y :: r, _, hx => by
    have ih := join_back c (y :: r) (by simp) (fun z hz => hx z (by simp [hz]))
    have e : Lib.join (x :: y :: r) [c] = x ++ c :: Lib.join (y :: r) [c] := by simp [Lib.join_cons, Lib.joinTail]
    rw [e, cutL_hit c x _ (hx x (by simp)), ih]
theorem line_parts {L : List Lb} (h : labsOkB L = true) (h0 : 0 < L.length) : partsL 44 (lineB L) = L.map labB := by
  apply map_data
  rw [parts_data, lineB, if_pos h, if_neg (by omega), labLine]
  have e : (⟨(Lib.join (labTexts L) [44]).toArray⟩ : ByteArray).data.toList = Lib.join (labTexts L) [44] := by simp
  rw [e, join_back 44 (labTexts L) (by intro e; have := congrArg List.length e; simp [labTexts] at this; subst this; simp at h0) (fun x hx => by
    obtain ⟨y, hy, rfl⟩ := List.mem_map.1 hx
    have h1 := labs_each h y hy
    rw [labB_data]
    simp only [List.mem_append, List.mem_cons, not_or]
    exact ⟨(key_no h1.1).2, by decide, value_no2 h1.2⟩)]
  simp [labTexts]
theorem line_labs {L : List Lb} (h : labsOkB L = true) (h0 : 0 < L.length) : labsOf (lineB L) = L ∧ allTwo (lineB L) = true := by
  have hb : ∀ x, x ∈ L → kvB (labB x) = x ∧ twoB (labB x) = true := fun x hx => lab_back (key_no (labs_each h x hx).1).1 (value_no (labs_each h x hx).2)
  refine ⟨?_, ?_⟩
  · rw [labsOf, line_parts h h0, List.map_map]
    conv => rhs; rw [← List.map_id L]
    exact List.map_congr_left fun x hx => (hb x hx).1
  · rw [allTwo, line_parts h h0, List.all_eq_true]
    intro p hp
    obtain ⟨x, hx, rfl⟩ := List.mem_map.1 hp
    exact (hb x hx).2
/-- A line of labels comes back. -/
theorem read_line {L : List Lb} (h : labsOkB L = true) : readOkB (lineB L) = true ∧ readL (lineB L) = L := by
  rcases Nat.eq_zero_or_pos L.length with h0 | h0
  · have e : L = [] := List.eq_nil_of_length_eq_zero h0
    subst e
    have hd : dashB (lineB []) = true := by decide +kernel
    exact ⟨by rw [readOkB, hd]; rfl, by rw [readL, if_pos hd]⟩
  · obtain ⟨h1, h2⟩ := line_labs h h0
    have hd : dashB (lineB L) = false := by
      cases e : dashB (lineB L)
      · rfl
      · exfalso
        rw [dashB, beq_iff_eq, ByteArray.toList_eq] at e
        have hp := line_parts h h0
        rw [partsL, e] at hp
        have h3 : (cutL 44 [45]).map (fun l => (⟨l.toArray⟩ : ByteArray)) = [⟨#[45]⟩] := by decide
        rw [h3] at hp
        have hm : (⟨#[45]⟩ : ByteArray) ∈ L.map labB := by rw [← hp]; simp
        obtain ⟨x, hx, hxe⟩ := List.mem_map.1 hm
        have := (lab_back (x := x) (key_no (labs_each h x hx).1).1 (value_no (labs_each h x hx).2)).2
        rw [hxe] at this
        revert this
        decide
    have hf := line_fwd h2 (by rw [h1]; exact h)
    have hk : readOkB (lineB L) = true := by
      rw [readOkB, hd, h2, h1, h, decide_eq_true (by rw [h1] at hf; omega)]; rfl
    exact ⟨hk, by rw [readL, if_neg (by rw [hd]; decide), if_pos hk, h1]⟩

/-! ### Every label is found -/
theorem insL_has {x y : Lb} {l : List Lb} (h : y = x ∨ y ∈ l) : y ∈ insL x l := by
  simp only [insL, List.mem_append, List.mem_cons]
  rcases h with rfl | h
  · exact .inr (.inl rfl)
  · rw [← List.take_append_drop (posL x l) l, List.mem_append] at h
    rcases h with h | h
    · exact .inl h
    · exact .inr (.inr h)
theorem sortN_has {L : List Lb} : ∀ k i, i < k → labN L i ∈ sortN L k
  | 0, i, h => absurd h (by omega)
  | k + 1, i, h => by
    rw [sortN]
    rcases Nat.lt_or_ge i k with g | g
    · exact insL_has (.inr (sortN_has k i g))
    · obtain rfl : i = k := by omega
      exact insL_has (.inl rfl)
theorem key_lt {L : List Lb} (h : labsOkB L = true) : ∀ j, j < L.length → ∀ i, i < j → Op.bytesLess (keyAt L i).toList (keyAt L j).toList = true
  | 0, _, i, hi => absurd hi (by omega)
  | j + 1, hj, i, hi => by
    rw [labsOkB, Bool.and_eq_true, List.all_eq_true] at h
    have h2 := h.2 (j + 1) (List.mem_range.2 hj)
    have h3 : Op.bytesLess (keyAt L j).toList (keyAt L (j + 1)).toList = true := by
      rw [labAt, Bool.and_eq_true] at h2
      have := h2.2
      simpa [geS] using this
    rcases Nat.lt_or_ge i j with g | g
    · exact bl_trans _ _ _ (key_lt (by rw [labsOkB, Bool.and_eq_true, List.all_eq_true]; exact h) j (by omega) i g) h3
    · obtain rfl : i = j := by omega
      exact h3
theorem look_in {R : List Lb} (h : labsOkB R = true) {x : Lb} (hx : x ∈ R) : lookV R x.1 = x.2 ∧ lookB R x.1 = true := by
  obtain ⟨k, hk, rfl⟩ := List.getElem_of_mem hx
  have hg := lab_get R k hk
  rw [hg]
  exact look_hit R (keyAt R k) k hk (fun i hi => by
    cases e : sameS (keyAt R i) (keyAt R k)
    · rfl
    · rw [sameS_iff] at e
      have := key_lt h k hk i hi
      rw [e, bl_irr] at this; cases this) (sameS_refl _)
/-- What LabelAt finds in the sorted labels. -/
theorem sort_look {L : List Lb} (h : sortOk L = true) (i : Nat) (hi : i < L.length) : lookV (sortR L) (keyAt L i) = valAt L i ∧ lookB (sortR L) (keyAt L i) = true := by
  have hr : sortR L = sortN L L.length := if_pos h
  have hok : labsOkB (sortN L L.length) = true := by rw [sortOk, Bool.and_eq_true] at h; exact h.2
  rw [hr]
  exact look_in hok (x := labN L i) (sortN_has L.length i hi)

end Go.Proofs.YtomhbbchflblpaaDoor
