/- Lists of strings: szStringS, toStringS, eqStringS; one that came in, opened. -/
import Derived.Test.YtomhbbchflblpaaGreatDoorTreeO
import Derived.Deep.Strs
import Derived.ProofKit
namespace Go.Proofs.YtomhbbchflblpaaGreatDoor
open Go.RowKit Go.Deep Go.ChangeShapes Go.WideShapes

def strFits (l : List ByteArray) : Prop := l.length ≤ maxLen ∧ ∀ i, i < l.length → (strAt l i).size ≤ maxLen
def sizes (l : List ByteArray) : Nat := (l.map ByteArray.size).sum
theorem strWt_eq (l : List ByteArray) : strWt l = l.length + sizes l := rfl
theorem sizes_take : ∀ (l : List ByteArray) (k : Nat), k < l.length → sizes (l.take (k + 1)) = sizes (l.take k) + (strAt l k).size
  | [], k, h => by simp at h
  | t :: ts, 0, _ => by simp [sizes, strAt]
  | t :: ts, k + 1, h => by
    have := sizes_take ts k (by simpa using h)
    simp only [sizes, List.take_succ_cons, List.map_cons, List.sum_cons] at this ⊢
    have e : strAt (t :: ts) (k + 1) = strAt ts k := rfl
    rw [this, e]; omega
theorem sizes_le : ∀ (l : List ByteArray) (k : Nat), sizes (l.take k) ≤ sizes l
  | [], k => by simp
  | t :: ts, 0 => by simp [sizes]
  | t :: ts, k + 1 => by
    have := sizes_le ts k
    simp only [sizes, List.take_succ_cons, List.map_cons, List.sum_cons] at this ⊢; omega

theorem Tryz.infoStr : (Tryz.prog.info? 9).map (fun i => (i.zero, i.size, i.bytes)) = some (some (.string ⟨#[]⟩), 1, 16) := by kernel_rfl
def StrNew (B : Nat) (l : List ByteArray) (e : Ending) (w' : World) : Prop := ∃ v fp, e = .returned v ∧ StrOwn w' v l fp ∧ fp.Nodup ∧ ∀ b, b ∈ fp → B ≤ b
theorem str_shape {w : World} {v : Value} {l : List ByteArray} {fp : List Nat} (h : StrOwn w v l fp) : ∃ a c, v = .slice a l.length c := by
  rcases h with ⟨rfl, _, a, c, rfl, _⟩ | ⟨g, cap, e, N, F, rfl, _⟩
  · exact ⟨a, c, rfl⟩
  · exact ⟨_, cap, rfl⟩

/-- The same, with a capacity of just that length. -/
def StrNewC (B : Nat) (l : List ByteArray) (e : Ending) (w' : World) : Prop := ∃ a fp, e = .returned (.slice a l.length l.length) ∧ StrOwn w' (.slice a l.length l.length) l fp ∧ fp.Nodup ∧ ∀ b, b ∈ fp → B ≤ b

theorem selfEqS (a : ByteArray) : (a.toList == a.toList) = true := beq_self_eq_true _

theorem Tryz.cellsStr : Tryz.prog.cellsOf 9 = 1 := by kernel_rfl
def Any (_ : Nat) : Prop := True

theorem openStrs {H : Type} {enc : TypeId × Value → H} {W : World} {fuel : Nat} {v : Value} {x : DataW H × List MemPlace} (h : DataW.trod enc Tryz.prog W 0 (fun _ => true) true fuel 25 [v] = some x) :
    ∃ l, StrsIn W Any v l ∧ strFits l := by
  rcases open_strs Tryz.underlying25 Tryz.underlying9 Tryz.cellsStr h with ⟨hcs, _⟩ | ⟨a, len, cap, m, Sx, hcs, _, hl, hm, hmm, _, hx⟩
  · simp at hcs; subst hcs
    exact ⟨[], ⟨none, 0, rfl, .inl rfl⟩, by unfold strFits maxLen; simp⟩
  · simp at hcs; subst hcs
    have hlm : len ≤ m := by rw [hmm]; split <;> omega
    have hget : ∀ i, i < len → strAt ((List.range len).map Sx) i = Sx i := fun i hi => by simp [strAt, List.getD_eq_getElem?_getD, hi]
    refine ⟨(List.range len).map Sx, ⟨some a, cap, by simp, ?_⟩, by simp; omega, fun i hi => ?_⟩
    · rcases Nat.eq_zero_or_pos len with h0 | h0
      · left; simp [h0]
      · right
        obtain ⟨b, o, spot⟩ := a
        have hs : spot = none := by simpa [Addr.add] using World.cell?_spot (hx 0 (by omega)).1
        subst hs
        refine ⟨b, o, rfl, trivial, fun i hi => ?_⟩
        simp at hi
        have := (hx i (by omega)).1
        rw [addr_add] at this
        rw [hget i hi]; exact this
    · simp at hi
      rw [hget i hi]; exact (hx i (by omega)).2

end Go.Proofs.YtomhbbchflblpaaGreatDoor
