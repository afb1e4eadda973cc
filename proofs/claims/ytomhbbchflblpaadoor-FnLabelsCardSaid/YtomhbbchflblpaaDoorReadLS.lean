/- spec.ReadLabelsLine: the contract. -/
import Derived.Test.YtomhbbchflblpaaDoorCutS
import Derived.Test.YtomhbbchflblpaaDoorSpot
namespace Go.Proofs.YtomhbbchflblpaaDoor
open Go.RowKit

theorem rowAlloc (w : World) (o : Obj) : Below w.heap.size w (w.alloc o) := (Below.refl _ _).alloc (Nat.le_refl _) _

theorem rowAllocLt (w : World) (o : Obj) : w.heap.size < (w.alloc o).heap.size := by simp

def dashB (s : ByteArray) : Bool := s.toList == [45]

def readOkB (s : ByteArray) : Bool := dashB s || (decide (s.size ≤ 400) && (allTwo s && labsOkB (labsOf s)))

def readL (s : ByteArray) : List (ByteArray × ByteArray) := if dashB s = true then [] else if readOkB s = true then labsOf s else []

def ReadF (s : ByteArray) (w : World) (e : Ending) (w' : World) : Prop := ∃ a cap fp, e = .returned (.tuple #[.slice a (readL s).length cap, .bool (readOkB s)]) ∧ GFlat w' w.heap.size w'.heap.size (.slice a (readL s).length cap) (readL s).length 2 (labF (readL s)) fp

def ReadP (s : ByteArray) (w : World) (e : Ending) (w' : World) : Prop := ReadF s w e w' ∧ Below w.heap.size w w'

theorem read_none {s : ByteArray} {w w' : World} (a : Option Addr) (cap : Nat) (h : readOkB s = false) (hb : Below w.heap.size w w') : ReadP s w (.returned (.tuple #[.slice a 0 cap, .bool false])) w' := by
  have hd : dashB s = false := by
    cases h2 : dashB s
    · rfl
    · rw [readOkB, h2] at h; cases h
  have e : readL s = [] := by rw [readL, hd, h]; rfl
  unfold ReadP ReadF
  rw [e, h]
  exact ⟨⟨a, cap, [], rfl, ⟨.inl ⟨rfl, rfl, a, cap, rfl⟩, fun x hx => by simp at hx⟩⟩, hb⟩

theorem read_dash {s : ByteArray} {w w' : World} (a : Option Addr) (cap : Nat) (h : dashB s = true) (hb : Below w.heap.size w w') : ReadP s w (.returned (.tuple #[.slice a 0 cap, .bool true])) w' := by
  have e : readL s = [] := by rw [readL, if_pos h]
  have ho : readOkB s = true := by rw [readOkB, h]; rfl
  unfold ReadP ReadF
  rw [e, ho]
  exact ⟨⟨a, cap, [], rfl, ⟨.inl ⟨rfl, rfl, a, cap, rfl⟩, fun x hx => by simp at hx⟩⟩, hb⟩

theorem read_some {s : ByteArray} {w w' : World} {v : Value} (h : dashB s = false) (ho : readOkB s = true) (hr : RowB 35 2 w w' v (labsOf s).length (labCells (labsOf s))) : ReadP s w (.returned (.tuple #[v, .bool true])) w' := by
  have e : readL s = labsOf s := by rw [readL, h, ho]; rfl
  obtain ⟨a, cap, fp, rfl, h1, h2, -⟩ := hr.sl (labCell _)
  unfold ReadP ReadF
  rw [e, ho]
  exact ⟨⟨a, cap, fp, rfl, GFlat.new h1 h2⟩, hr.bel⟩

theorem ok_two {s : ByteArray} (hd : dashB s = false) (h : allTwo s = false) : readOkB s = false := by rw [readOkB, hd, h]; simp

theorem ok_labs {s : ByteArray} (hd : dashB s = false) (h : labsOkB (labsOf s) = false) : readOkB s = false := by rw [readOkB, hd, h]; simp

theorem ok_long {s : ByteArray} (hd : dashB s = false) (h : ¬ s.size ≤ 400) : readOkB s = false := by rw [readOkB, hd, decide_eq_false h]; rfl

theorem ok_yes {s : ByteArray} (hd : dashB s = false) (h : s.size ≤ 400) (h2 : allTwo s = true) (h3 : labsOkB (labsOf s) = true) : readOkB s = true := by rw [readOkB, hd, decide_eq_true h, h2, h3]; rfl

theorem two_all {s : ByteArray} (h : ∀ i, i < (partsL 44 s).length → twoB (strAt (partsL 44 s) i) = true) : allTwo s = true := by
  apply List.all_eq_true.2
  intro p hp
  obtain ⟨i, hi, rfl⟩ := List.getElem_of_mem hp
  have := h i hi
  rw [strAt, List.getD_eq_getElem?_getD, List.getElem?_eq_getElem hi] at this
  exact this

theorem two_not {s : ByteArray} {i : Nat} (hi : i < (partsL 44 s).length) (h : twoB (strAt (partsL 44 s) i) = false) : allTwo s = false := by
  rw [allTwo, List.all_eq_false]
  refine ⟨_, List.getElem_mem hi, ?_⟩
  rw [strAt, List.getD_eq_getElem?_getD, List.getElem?_eq_getElem hi] at h
  simpa using h

theorem labs_take {s : ByteArray} {k : Nat} (hk : k < (partsL 44 s).length) : labCells ((labsOf s).take (k + 1)) = labCells ((labsOf s).take k) ++ [.string (kvB (strAt (partsL 44 s) k)).1, .string (kvB (strAt (partsL 44 s) k)).2] := by
  have hl : k < (labsOf s).length := by rw [labsOf, List.length_map]; exact hk
  rw [List.take_succ_eq_append_getElem hl, labCells_snoc]
  have : (labsOf s)[k] = kvB (strAt (partsL 44 s) k) := by
    simp [labsOf, strAt, List.getD_eq_getElem?_getD, hk]
  rw [this]

theorem part_at {s : ByteArray} {k : Nat} (hk : k < (partsL 44 s).length) : (strAt (partsL 44 s) k).size ≤ s.size := by
  have := part_size (List.getElem_mem hk)
  rw [strAt, List.getD_eq_getElem?_getD, List.getElem?_eq_getElem hk]
  exact this

end Go.Proofs.YtomhbbchflblpaaDoor
