/- A row of labels in which a call exchanges elements: what stands. No walk. -/
import Derived.Test.YtomhbbchflblpaaDoorSortP
import Derived.Test.YtomhbbchflblpaaDoorMemA
import Derived.Test.YtomhbbchflblpaaDoorMarkA
import Derived.Lib.Bytealg
namespace Go.Proofs.YtomhbbchflblpaaDoor
open Go.RowKit

/-- Block g holds the labels C, from its first cell on. -/
def LRow (w : World) (g : Nat) (C : List Lb) : Prop :=
  ∃ e N F, w.rowIs g e N F ∧ C.length * 2 ≤ N ∧ ∀ i, i < C.length → F (i * 2) = .string (labN C i).1 ∧ F (i * 2 + 1) = .string (labN C i).2
theorem LRow.keep {w w' : World} {g : Nat} {C : List Lb} (h : LRow w g C) (hb : Below w.heap.size w w') : LRow w' g C := by
  obtain ⟨e, N, F, h1, h2, h3⟩ := h
  exact ⟨e, N, F, rowIs_keep h1 hb, h2, h3⟩
theorem LRow.lt {w : World} {g : Nat} {C : List Lb} (h : LRow w g C) : g < w.heap.size := by
  obtain ⟨e, N, F, h1, h2, h3⟩ := h; exact h1.lt
theorem LRow.at {w : World} {g : Nat} {C : List Lb} (h : LRow w g C) {i : Nat} (hi : i < C.length) : w.cell? ⟨g, i * 2, none⟩ = some (.string (labN C i).1) ∧ w.cell? ⟨g, i * 2 + 1, none⟩ = some (.string (labN C i).2) := by
  obtain ⟨e, N, F, h1, h2, h3⟩ := h
  have h4 := h3 i hi
  exact ⟨by rw [h1.cell (by omega), h4.1], by rw [h1.cell (by omega), h4.2]⟩
theorem LRow.frozen {w : World} {g : Nat} {C : List Lb} (h : LRow w g C) (i : Nat) : w.frozen? ⟨g, i, none⟩ = false := by
  obtain ⟨e, N, F, h1, h2, h3⟩ := h; exact h1.frozen i
/-- Two elements exchanged. -/
theorem LRow.swap {w : World} {g : Nat} {C : List Lb} {a b : Nat} (h : LRow w g C) (ha : a < C.length) (hb : b < C.length) :
    LRow ((((w.setCell ⟨g, a * 2, none⟩ (.string (labN C b).1)).setCell ⟨g, a * 2 + 1, none⟩ (.string (labN C b).2)).setCell ⟨g, b * 2, none⟩ (.string (labN C a).1)).setCell ⟨g, b * 2 + 1, none⟩ (.string (labN C a).2)) g (swL C a b) := by
  obtain ⟨e, N, F, h1, h2, h3⟩ := h
  refine ⟨e, N, _, (((h1.set (a * 2) _).set (a * 2 + 1) _).set (b * 2) _).set (b * 2 + 1) _, by rw [swL_len]; exact h2, fun i hi => ?_⟩
  rw [swL_len] at hi
  rw [swL_at ha hb]
  have h4 := h3 i hi
  by_cases e1 : i = b
  · subst e1
    constructor
    · show (if i * 2 = i * 2 + 1 then _ else if i * 2 = i * 2 then _ else _) = _
      rw [if_neg (by omega), if_pos rfl, if_pos rfl]
    · show (if i * 2 + 1 = i * 2 + 1 then _ else _) = _
      rw [if_pos rfl, if_pos rfl]
  · rw [if_neg e1]
    by_cases e2 : i = a
    · subst e2
      constructor
      · show (if i * 2 = b * 2 + 1 then _ else if i * 2 = b * 2 then _ else if i * 2 = i * 2 + 1 then _ else if i * 2 = i * 2 then _ else _) = _
        rw [if_neg (by omega), if_neg (by omega), if_neg (by omega), if_pos rfl, if_pos rfl]
      · show (if i * 2 + 1 = b * 2 + 1 then _ else if i * 2 + 1 = b * 2 then _ else if i * 2 + 1 = i * 2 + 1 then _ else _) = _
        rw [if_neg (by omega), if_neg (by omega), if_pos rfl, if_pos rfl]
    · rw [if_neg e2]
      constructor
      · show (if i * 2 = b * 2 + 1 then _ else if i * 2 = b * 2 then _ else if i * 2 = a * 2 + 1 then _ else if i * 2 = a * 2 then _ else F (i * 2)) = _
        rw [if_neg (by omega), if_neg (by omega), if_neg (by omega), if_neg (by omega)]; exact h4.1
      · show (if i * 2 + 1 = b * 2 + 1 then _ else if i * 2 + 1 = b * 2 then _ else if i * 2 + 1 = a * 2 + 1 then _ else if i * 2 + 1 = a * 2 then _ else F (i * 2 + 1)) = _
        rw [if_neg (by omega), if_neg (by omega), if_neg (by omega), if_neg (by omega)]; exact h4.2
structure SR (w0 : World) (g : Nat) (w : World) (C : List Lb) : Prop where
  row : LRow w g C
  ap : Apart [g] w0 w
theorem SR.keep {w0 w w' : World} {g : Nat} {C : List Lb} (h : SR w0 g w C) (hb : Below w.heap.size w w') : SR w0 g w' C := ⟨h.row.keep hb, h.ap.trans (Apart.of_below hb _)⟩
theorem SR.start {w : World} {g : Nat} {C : List Lb} (h : LRow w g C) : SR w g w C := ⟨h, Apart.refl _ _⟩
theorem SR.swap {w0 w : World} {g : Nat} {C : List Lb} {a b : Nat} (h : SR w0 g w C) (ha : a < C.length) (hb : b < C.length) :
    SR w0 g ((((w.setCell ⟨g, a * 2, none⟩ (.string (labN C b).1)).setCell ⟨g, a * 2 + 1, none⟩ (.string (labN C b).2)).setCell ⟨g, b * 2, none⟩ (.string (labN C a).1)).setCell ⟨g, b * 2 + 1, none⟩ (.string (labN C a).2)) (swL C a b) :=
  ⟨h.row.swap ha hb, (((h.ap.setCell (p := ⟨g, a * 2, none⟩) (by simp) _).setCell (p := ⟨g, a * 2 + 1, none⟩) (by simp) _).setCell (p := ⟨g, b * 2, none⟩) (by simp) _).setCell (p := ⟨g, b * 2 + 1, none⟩) (by simp) _⟩
/-- The labels are all among those of D. -/
def Among (D C : List Lb) : Prop := C.length = D.length ∧ ∀ x, x ∈ C → x ∈ D
theorem Among.refl (D : List Lb) : Among D D := ⟨rfl, fun _ h => h⟩
theorem Among.swap {D C : List Lb} {a b : Nat} (h : Among D C) (ha : a < C.length) (hb : b < C.length) : Among D (swL C a b) := ⟨by rw [swL_len]; exact h.1, fun x hx => h.2 x (swL_mem ha hb hx)⟩
theorem Among.trans {D C B : List Lb} (h : Among D C) (k : Among C B) : Among D B := ⟨k.1.trans h.1, fun x hx => h.2 x (k.2 x hx)⟩
theorem cmp_less : ∀ x y : List UInt8, decide (Lib.compareBytes x y < 0) = Op.bytesLess x y
  | [], [] => rfl
  | [], _ :: _ => rfl
  | _ :: _, [] => rfl
  | a :: x, b :: y => by
    have ih := cmp_less x y
    simp only [Lib.compareBytes, Op.bytesLess]
    by_cases h1 : a < b
    · simp [h1]
    · by_cases h2 : b < a
      · have hne : ¬ a = b := fun e => by subst e; exact h1 h2
        simp [h1, h2, hne]
      · have e : a = b := UInt8.le_antisymm (UInt8.not_lt.1 h2) (UInt8.not_lt.1 h1)
        subst e
        simp [h1, ih]

end Go.Proofs.YtomhbbchflblpaaDoor
