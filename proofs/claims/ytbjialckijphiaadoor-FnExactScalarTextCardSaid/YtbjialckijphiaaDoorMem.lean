/- Slices that lie in memory: what a reading of them is, and that it stays. -/
import Derived.Test.YtbjialckijphiaaDoorSmall
import Derived.Deep.OwnRows
import Derived.Carry
namespace Go.Proofs.YtbjialckijphiaaDoor
open Go.RowKit

theorem lt_of_cell {w : World} {b o : Nat} {v : Value} (h : w.cell? ⟨b, o, none⟩ = some v) : b < w.heap.size := by
  rcases Nat.lt_or_ge b w.heap.size with hb | hb
  · exact hb
  · simp [World.cell?, Array.getElem?_eq_none hb] at h

theorem addr_add (b o n : Nat) : (⟨b, o, none⟩ : Addr).add n = ⟨b, o + n, none⟩ := by
  by_cases h : n = 0
  · simp [Addr.add, h]
  · simp [Addr.add, h]

theorem bkeep {w w' : World} (h : Below w.heap.size w w') {b o : Nat} {v : Value} (hc : w.cell? ⟨b, o, none⟩ = some v) : w'.cell? ⟨b, o, none⟩ = some v :=
  (h.cell (p := ⟨b, o, none⟩) (lt_of_cell hc)).trans hc

theorem bcell {W w1 : World} (hb : Below W.heap.size W w1) : (∀ b o, b < W.heap.size → w1.cell? ⟨b, o, none⟩ = W.cell? ⟨b, o, none⟩) ∧ (∀ b o, b < W.heap.size → w1.frozen? ⟨b, o, none⟩ = W.frozen? ⟨b, o, none⟩) :=
  ⟨fun b o h => hb.cell (p := ⟨b, o, none⟩) h, fun b o h => hb.frozen (p := ⟨b, o, none⟩) h⟩

theorem bnext {w w1 w2 : World} (h : Below w.heap.size w w1) (k : Below w1.heap.size w1 w2) : Below w.heap.size w w2 := h.trans (k.mono h.size)

/-- The slice's address a leads to n elements of c cells each, cell j of element i holding f i j. -/
def SlAt (w : World) (a : Option Addr) (n c : Nat) (f : Nat → Nat → Value) : Prop :=
  n = 0 ∨ ∃ b o, a = some ⟨b, o, none⟩ ∧ ∀ i, i < n → ∀ j, j < c → w.cell? ⟨b, o + i * c + j, none⟩ = some (f i j)

theorem SlAt.keep {w w' : World} {a : Option Addr} {n c : Nat} {f : Nat → Nat → Value} (h : SlAt w a n c f) (hb : Below w.heap.size w w') : SlAt w' a n c f := by
  rcases h with h | ⟨b, o, h1, h2⟩
  · exact .inl h
  · exact .inr ⟨b, o, h1, fun i hi j hj => bkeep hb (h2 i hi j hj)⟩

theorem SlAt.at {w : World} {a : Option Addr} {n c : Nat} {f : Nat → Nat → Value} (h : SlAt w a n c f) (hn : 0 < n) :
    ∃ b o, a = some ⟨b, o, none⟩ ∧ ∀ i, i < n → ∀ j, j < c → w.cell? ⟨b, o + i * c + j, none⟩ = some (f i j) := by
  rcases h with h | h
  · omega
  · exact h

theorem SlAt.congr {w : World} {a : Option Addr} {n c : Nat} {f g : Nat → Nat → Value} (h : SlAt w a n c f) (e : ∀ i, i < n → ∀ j, j < c → f i j = g i j) : SlAt w a n c g := by
  rcases h with h | ⟨b, o, h1, h2⟩
  · exact .inl h
  · exact .inr ⟨b, o, h1, fun i hi j hj => by rw [h2 i hi j hj, e i hi j hj]⟩

/-- A row of the call's own, read as a slice. -/
theorem SlAt.of_row {w : World} {g e N n c : Nat} {F : Nat → Value} {f : Nat → Nat → Value} (h : w.rowIs g e N F) (hN : n * c ≤ N) (hf : ∀ i, i < n → ∀ j, j < c → F (i * c + j) = f i j) :
    SlAt w (some ⟨g, 0, none⟩) n c f := by
  refine .inr ⟨g, 0, rfl, fun i hi j hj => ?_⟩
  have : i * c + j < N := by
    have h1 : (i + 1) * c ≤ n * c := Nat.mul_le_mul_right c hi
    rw [Nat.add_mul] at h1; omega
  rw [Nat.zero_add, h.cell this, hf i hi j hj]

theorem rowIs_keep {w w' : World} {g e N : Nat} {F : Nat → Value} (h : w.rowIs g e N F) (hb : Below w.heap.size w w') : w'.rowIs g e N F :=
  h.of_block (hb.block g h.lt)

/-- What 'make' with a length leaves, as a row. -/
theorem rowIs_of_owns {w : World} {base e size g n cap : Nat} {xs : List Value} (h : w.ownsRow base e size (.slice (some ⟨g, 0, none⟩) n cap) n xs) :
    ∃ F : Nat → Value, w.rowIs g e (cap * size) F ∧ n ≤ cap ∧ cap ≤ maxLen ∧ base ≤ g ∧ ∀ i, i < n * size → xs[i]? = some (F i) := by
  obtain ⟨h0, h⟩ := h
  rcases h with ⟨h, _⟩ | ⟨g', cap', cur, hv, hg, hh, hn, hm, hs, hx⟩
  · simp at h
  · simp only [Value.slice.injEq, Option.some.injEq, Addr.mk.injEq] at hv
    obtain ⟨⟨rfl, _⟩, _, rfl⟩ := hv
    refine ⟨fun i => cur.getD i undef, ⟨cur, hh, hs, fun i hi => ?_⟩, hn, hm, hg, fun i hi => ?_⟩
    · have : i < cur.size := by omega
      simp [Array.getD, this]
    · have h1 : n * size ≤ cap * size := Nat.mul_le_mul_right _ hn
      have : i < cur.size := by omega
      rw [← hx, List.getElem?_take_of_lt hi]
      simp [Array.getD, this]

/-- What is left of 'left' behind n places; -1 where there are not so many. -/
def lessZ (left n : Int) : Int := if left < n then -1 else left - n
theorem lessZ_neg {left n : Int} (h : left < n) : lessZ left n = -1 := if_pos h
theorem lessZ_pos {left n : Int} (h : ¬ left < n) : lessZ left n = left - n := if_neg h
theorem ret_int {k : IntKind} {a b : Int} (h : a = b) : Ending.returned (.int k a) = .returned (.int k b) := by rw [h]

/-- Two stores into one row: an element of two cells. -/
theorem rowIs_set2 {w : World} {g e N : Nat} {F : Nat → Value} (h : w.rowIs g e N F) (i : Nat) (u v : Value) :
    ((w.setCell ⟨g, i, none⟩ u).setCell ⟨g, i + 1, none⟩ v).rowIs g e N (fun j => if j = i + 1 then v else if j = i then u else F j) :=
  (h.set i u).set (i + 1) v

end Go.Proofs.YtbjialckijphiaaDoor
