/- How an argument of labels is opened; the laws' walks of LabelAt and SameLabels. -/
import Derived.Test.YtomhbbchflblpaaMemC
import Derived.Deep.SlicePairs
import Derived.ProofKit
namespace Go.Proofs.Ytomhbbchflblpaa
open Go.RowKit Go.Deep Go.ChangeShapes Go.WideShapes

theorem Try.cells36 : Try.prog.cellsOf 33 = 2 := by kernel_rfl
theorem Try.cellsStr : Try.prog.cellsOf 9 = 1 := by kernel_rfl
theorem Try.undLabel : ∃ f0 f1 : Field, Try.prog.underlying 33 = some (.struct #[f0, f1]) ∧ f0.offset = 0 ∧ f1.offset = 1 ∧ f0.type = 9 ∧ f1.type = 9 := ⟨_, _, Try.underlying33, rfl, rfl, rfl, rfl⟩

theorem keyAt_map (n : Nat) (f g : Nat → ByteArray) (i : Nat) (h : i < n) : keyAt ((List.range n).map fun i => (f i, g i)) i = f i := by
  simp [keyAt, List.getD_eq_getElem?_getD, h]
theorem valAt_map (n : Nat) (f g : Nat → ByteArray) (i : Nat) (h : i < n) : valAt ((List.range n).map fun i => (f i, g i)) i = g i := by
  simp [valAt, List.getD_eq_getElem?_getD, h]

theorem openLabels {H : Type} {enc : TypeId × Value → H} {W : World} {base : Nat} {v : Value} {d : DataW H} {p : List MemPlace} (hval : Value.okWide Try.prog W .any base 22 v)
    (h : DataW.Trod enc Try.prog W 0 (fun _ => true) true 22 v d p) :
    ∃ (a : Option Addr) (cap : Nat) (L : List (ByteArray × ByteArray)), v = .slice a L.length cap ∧ L.length ≤ maxLen ∧ SlAt W a L.length 2 (labF L) ∧ ∀ i, i < L.length → (keyAt L i).size ≤ maxLen ∧ (valAt L i).size ≤ maxLen := by
  obtain ⟨a, len, cap, rfl⟩ := okWide_slice Try.underlying22 hval
  obtain ⟨fuel, hf⟩ := h
  obtain ⟨f0, f1, hu, o0, o1, t0, t1⟩ := Try.undLabel
  rcases open_slice_pairs Try.underlying22 hu Try.cells36 o0 o1 (by rw [t0]; exact Try.cellsStr) (by rw [t1]; exact Try.cellsStr) hf with ⟨hcs, _⟩ | ⟨x, l, c, m, n, V0, V1, D0, D1, P0, P1, hcs, _, hl, hm, hmm, _, hx⟩
  · simp [Value.cells] at hcs
    obtain ⟨rfl, rfl, rfl⟩ := hcs
    exact ⟨none, 0, [], rfl, by simp, .inl rfl, fun i hi => by simp at hi⟩
  · simp [Value.cells] at hcs
    obtain ⟨rfl, rfl, rfl⟩ := hcs
    have hlm : len ≤ m := by rw [hmm]; split <;> omega
    have each : ∀ i, i < len → ∃ q : ByteArray × ByteArray, W.cell? (x.add (i * 2)) = some (.string q.1) ∧ W.cell? (x.add (i * 2 + 1)) = some (.string q.2) ∧ q.1.size ≤ maxLen ∧ q.2.size ≤ maxLen := fun i hi => by
      obtain ⟨c0, c1, r0, r1⟩ := hx i (by omega)
      rw [t0] at r0; rw [t1] at r1
      obtain ⟨s0, e0, -, z0⟩ := DataW.trod_string Try.underlying9 r0
      obtain ⟨s1, e1, -, z1⟩ := DataW.trod_string Try.underlying9 r1
      simp only [List.cons.injEq, and_true] at e0 e1
      exact ⟨(s0, s1), by rw [c0, e0], by rw [c1, e1], z0, z1⟩
    obtain ⟨q, hq⟩ := choose_lt each
    refine ⟨some x, cap, (List.range len).map fun i => ((q i).1, (q i).2), by simp, by simp; omega, ?_, ?_⟩
    · rw [List.length_map, List.length_range]
      rcases Nat.eq_zero_or_pos len with h0 | h0
      · exact .inl h0
      · obtain ⟨b, o, spot⟩ := x
        have hs : spot = none := by simpa [Addr.add] using World.cell?_spot (hq 0 h0).1
        subst hs
        refine .inr ⟨b, o, rfl, fun i hi j hj => ?_⟩
        obtain ⟨c0, c1, -, -⟩ := hq i hi
        rw [addr_add] at c0 c1
        rcases (show j = 0 ∨ j = 1 by omega) with rfl | rfl
        · rw [labF, if_pos rfl, keyAt_map _ _ _ _ hi]; exact c0
        · rw [labF, if_neg (by omega), valAt_map _ _ _ _ hi, Nat.add_assoc]; exact c1
    · intro i hi
      rw [List.length_map, List.length_range] at hi
      rw [keyAt_map _ _ _ _ hi, valAt_map _ _ _ _ hi]
      exact ⟨(hq i hi).2.2.1, (hq i hi).2.2.2⟩

end Go.Proofs.Ytomhbbchflblpaa
