/- Regions that draw their order, whose operations only read and whose callees only make memory of their own: one walk, in the order of the text (the library's wpQuiet, at the class of worlds in which all that was lies as it was). -/
import Derived.Test.YtbjialckijphiaaDoorMem
import Derived.BigQuiet
namespace Go.Proofs.YtbjialckijphiaaDoor
open Go.RowKit

/-- A world in which w lies as it was. -/
structure Aft (w : World) where
  now : World
  bel : Below w.heap.size w now
instance (w : World) : Inhabited (Aft w) := ⟨⟨w, Below.refl _ _⟩⟩
theorem aft_cell {w : World} {b o : Nat} {v : Value} (h : w.cell? ⟨b, o, none⟩ = some v) : ∀ x : Aft w, x.now.cell? ⟨b, o, none⟩ = some v := fun x => bkeep x.bel h
theorem wp_region_soft_lit {P : Program} {id : Nat} {Q : Exit → Act → World → Prop} {a : Act} {w : World} {l : List Oper} (hm : P.follows .mixedOrders = true) (hB : Region.lexB .any l.toArray = true)
    (h : wpQuiet P l.toArray (fun w' => ∃ x : Aft w, w' = x.now) (fun a' => ∀ w', (∃ x : Aft w, w' = x.now) → Q .normal a' w') l a) : (Code.region id l.toArray true).wp P Q a w :=
  wp_region_quiet (C := fun w' => ∃ x : Aft w, w' = x.now) hm hB ⟨⟨_, (Below.refl _ _).drew⟩, rfl⟩ (by simpa using h)
theorem soft_end {w w' : World} (h : ∃ x : Aft w, w' = x.now) : Below w.heap.size w w' := by
  obtain ⟨x, rfl⟩ := h; exact x.bel
theorem soft_call {P : Program} {f : FuncId} {args : Array Value} {w : World} {x : Aft w} {v : Value} (h : Calls P f args x.now fun e w' => e = .returned v ∧ Below x.now.heap.size x.now w') :
    Calls P f args x.now fun e w' => e = .returned v ∧ ∃ y : Aft w, w' = y.now :=
  h.mono fun _ w' ⟨h1, h2⟩ => ⟨h1, ⟨w', bnext x.bel h2⟩, rfl⟩

end Go.Proofs.YtbjialckijphiaaDoor
