import Derived.Test.YtomhbbchflblpaaDoorMem
namespace Go.Proofs.YtomhbbchflblpaaDoor
open Go.RowKit

/-- A list of labels in memory. -/
def keyAt (L : List (ByteArray × ByteArray)) (i : Nat) : ByteArray := (L.getD i (ByteArray.empty, ByteArray.empty)).1
def valAt (L : List (ByteArray × ByteArray)) (i : Nat) : ByteArray := (L.getD i (ByteArray.empty, ByteArray.empty)).2
def labF (L : List (ByteArray × ByteArray)) (i j : Nat) : Value := if j = 0 then .string (keyAt L i) else .string (valAt L i)
def lenSum (L : List (ByteArray × ByteArray)) (k : Nat) : Nat := ((L.take k).map fun x => x.1.size + x.2.size).sum
theorem lenSum_succ (L : List (ByteArray × ByteArray)) (k : Nat) (h : k < L.length) : lenSum L (k + 1) = lenSum L k + (keyAt L k).size + (valAt L k).size := by
  have e : (L.getD k (ByteArray.empty, ByteArray.empty)) = L[k] := by rw [List.getD_eq_getElem?_getD, List.getElem?_eq_getElem h]; rfl
  unfold lenSum keyAt valAt
  rw [List.take_succ_eq_append_getElem h, List.map_append, List.sum_append_nat, e]
  simp only [List.map_cons, List.map_nil, List.sum_cons, List.sum_nil]
  omega
theorem lenSum_mono (L : List (ByteArray × ByteArray)) (k : Nat) (_h : k < L.length) : lenSum L (k + 1) ≤ lenSum L L.length := by
  unfold lenSum
  rw [List.take_length]
  conv => rhs; rw [← List.take_append_drop (k + 1) L, List.map_append, List.sum_append_nat]
  omega

theorem Tryd.infoLabel : (Tryd.prog.info? 35).map (fun i => (i.zero, i.size, i.bytes)) = some (some (.agg #[.string ⟨#[]⟩, .string ⟨#[]⟩]), 2, 32) := by kernel_rfl

theorem labF_step {L : List (ByteArray × ByteArray)} {F : Nat → Value} {k : Nat} (h : ∀ i, i < k → ∀ j, j < 2 → F (i * 2 + j) = labF L i j) :
    ∀ i, i < k + 1 → ∀ j, j < 2 → (if i * 2 + j = k * 2 + 1 then .string (valAt L k) else if i * 2 + j = k * 2 then .string (keyAt L k) else F (i * 2 + j)) = labF L i j := by
  intro i hi j hj
  by_cases hik : i = k
  · subst hik
    rcases (show j = 0 ∨ j = 1 by omega) with rfl | rfl
    · rw [if_neg (by omega), if_pos (by omega)]; rfl
    · rw [if_pos (by omega)]; rfl
  · rw [if_neg (by omega), if_neg (by omega)]; exact h i (by omega) j hj

end Go.Proofs.YtomhbbchflblpaaDoor
