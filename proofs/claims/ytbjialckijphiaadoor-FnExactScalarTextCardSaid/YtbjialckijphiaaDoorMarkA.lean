/- Marks: what markText answers; markStringS writes its marks into a row of its own, heldStringS finds them. -/
import Derived.Test.YtbjialckijphiaaDoorTreeO
import Derived.Test.YtbjialckijphiaaDoorConv
import Derived.Deep.RegionWith
namespace Go.Proofs.YtbjialckijphiaaDoor
open Go.RowKit

/-- The worlds are one but for the blocks of L. -/
structure Apart (L : List Nat) (w w' : World) : Prop where
  os : w'.os = w.os
  tape : w'.tape = w.tape
  output : w'.output = w.output
  size : w.heap.size ≤ w'.heap.size
  block : ∀ k, k < w.heap.size → k ∉ L → w'.heap[k]? = w.heap[k]?
theorem Apart.refl (L : List Nat) (w : World) : Apart L w w := ⟨rfl, rfl, rfl, Nat.le_refl _, fun _ _ _ => rfl⟩
theorem Apart.trans {L : List Nat} {a b c : World} (h : Apart L a b) (k : Apart L b c) : Apart L a c :=
  ⟨k.os.trans h.os, k.tape.trans h.tape, k.output.trans h.output, Nat.le_trans h.size k.size, fun i hi hn => (k.block i (Nat.lt_of_lt_of_le hi h.size) hn).trans (h.block i hi hn)⟩
theorem Apart.of_below {w w' : World} (h : Below w.heap.size w w') (L : List Nat) : Apart L w w' := ⟨h.os, h.tape, h.output, h.size, fun k hk _ => h.block k hk⟩
theorem Apart.mono {L M : List Nat} {w w' : World} (h : Apart L w w') (hs : ∀ x, x ∈ L → x ∈ M) : Apart M w w' := ⟨h.os, h.tape, h.output, h.size, fun k hk hn => h.block k hk fun hx => hn (hs k hx)⟩
theorem Apart.setCell {L : List Nat} {a w : World} (h : Apart L a w) {p : Addr} (hp : p.block ∈ L) (u : Value) : Apart L a (w.setCell p u) :=
  h.trans ⟨rfl, rfl, rfl, by simp [World.setCell], fun k _ hn => Below.heap_setCell _ _ _ _ fun e => hn (e ▸ hp)⟩
theorem Apart.below {L : List Nat} {B : Nat} {w w' : World} (h : Apart L w w') (hB : B ≤ w.heap.size) (hL : ∀ x, x ∈ L → B ≤ x) : Below B w w' :=
  ⟨h.os, h.tape, h.output, h.size, fun k hk => h.block k (by omega) fun hx => by have := hL k hx; omega⟩
theorem Apart.row {L : List Nat} {w w' : World} (h : Apart L w w') {g e N : Nat} {F : Nat → Value} (hr : w.rowIs g e N F) (hg : g ∉ L) : w'.rowIs g e N F := hr.of_block (h.block g hr.lt hg)

def mdig (k : Nat) : ByteArray := ⟨#[48 + UInt8.ofNat (k % 10)]⟩
def mgo (k : Nat) (out : ByteArray) : ByteArray := if k = 0 then out else mgo (k / 10) (mdig k ++ out)
termination_by k
decreasing_by omega
def mtext (k : Nat) : ByteArray := if k = 0 then ⟨#[109, 48]⟩ else ⟨#[109]⟩ ++ mgo k ⟨#[]⟩
theorem mgo_zero (out : ByteArray) : mgo 0 out = out := by unfold mgo; simp
theorem mgo_pos (k : Nat) (out : ByteArray) (h : 0 < k) : mgo k out = mgo (k / 10) (mdig k ++ out) := by
  conv => lhs; unfold mgo
  rw [if_neg (by omega)]

/-- The marks of n strings. -/
def markStrs (k n : Nat) : List ByteArray := (List.range n).map fun i => mtext (k + i)
theorem markStrs_len (k n : Nat) : (markStrs k n).length = n := by simp [markStrs]
theorem markStrs_at (k n i : Nat) (h : i < n) : strAt (markStrs k n) i = mtext (k + i) := by simp [markStrs, strAt, List.getD_eq_getElem?_getD, h]
theorem strs_ext (l m : List ByteArray) (hl : l.length = m.length) (h : ∀ i, i < l.length → strAt l i = strAt m i) : l = m := by
  apply List.ext_getElem hl
  intro i h1 h2
  have := h i h1
  simp only [strAt, List.getD_eq_getElem?_getD, List.getElem?_eq_getElem h1, List.getElem?_eq_getElem h2, Option.getD_some] at this
  exact this
theorem strAt_set (l : List ByteArray) (i j : Nat) (x : ByteArray) (h : j < l.length) : strAt (l.set j x) i = if i = j then x else strAt l i := by
  simp only [strAt, List.getD_eq_getElem?_getD, List.getElem?_set]
  by_cases e : j = i
  · subst e; simp [h]
  · rw [if_neg e, if_neg (fun h => e h.symm)]

end Go.Proofs.YtbjialckijphiaaDoor
