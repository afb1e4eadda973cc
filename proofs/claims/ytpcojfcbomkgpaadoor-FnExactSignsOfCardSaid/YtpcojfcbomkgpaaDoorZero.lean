/- Fresh result locals of types Tree, Sign, Line, Fault. -/
import Derived.Test.YtpcojfcbomkgpaaDoorTreeT
namespace Go.Proofs.YtpcojfcbomkgpaaDoor
open Go.RowKit

def ZTl (v0 v1 v2 v3 v4 v5 : Value) : Nat → Value | 0 => v0 | 1 => v1 | 2 => v2 | 3 => v3 | 4 => v4 | _ => v5
theorem ZTl_get (v0 v1 v2 v3 v4 v5 : Value) : ∀ i, i < (#[v0, v1, v2, v3, v4, v5] : Array Value).size → (#[v0, v1, v2, v3, v4, v5] : Array Value)[i]? = some (ZTl v0 v1 v2 v3 v4 v5 i)
  | 0, _ | 1, _ | 2, _ | 3, _ | 4, _ | 5, _ => rfl
  | i + 6, h => by simp at h; omega
/-- A fresh local of type impl.Tree, made in world w0. -/
def ZT (w0 w : World) : Prop := w.rowIs w0.heap.size 50 6 (ZTl (.int .i64 0) (.bool false) (.int .i64 0) (.string ⟨#[]⟩) (.slice none 0 0) (.slice none 0 0)) ∧ Below w0.heap.size w0 w
theorem ZT.new (w : World) : ZT w (w.alloc (.cells #[.int .i64 0, .bool false, .int .i64 0, .string ⟨#[]⟩, .slice none 0 0, .slice none 0 0] 50)) := ⟨World.rowIs_alloc w #[.int .i64 0, .bool false, .int .i64 0, .string ⟨#[]⟩, .slice none 0 0, .slice none 0 0] 50 (ZTl (.int .i64 0) (.bool false) (.int .i64 0) (.string ⟨#[]⟩) (.slice none 0 0) (.slice none 0 0)) (ZTl_get _ _ _ _ _ _), (Below.refl _ _).alloc (Nat.le_refl _) _⟩
theorem ZT.keep {w0 w w' : World} (h : ZT w0 w) (hb : Below w.heap.size w w') : ZT w0 w' := ⟨rowIs_keep h.1 hb, bnext h.2 hb⟩
theorem ZT.cells {w0 w : World} (h : ZT w0 w) : w.cell? ⟨w0.heap.size, 0, none⟩ = some (.int .i64 0) ∧ w.cell? ⟨w0.heap.size, 1, none⟩ = some (.bool false) ∧ w.cell? ⟨w0.heap.size, 2, none⟩ = some (.int .i64 0) ∧ w.cell? ⟨w0.heap.size, 3, none⟩ = some (.string ⟨#[]⟩) ∧ w.cell? ⟨w0.heap.size, 4, none⟩ = some (.slice none 0 0) ∧ w.cell? ⟨w0.heap.size, 5, none⟩ = some (.slice none 0 0) := by
  have g := h.1
  exact ⟨g.cell (by omega), g.cell (by omega), g.cell (by omega), g.cell (by omega), g.cell (by omega), g.cell (by omega)⟩
theorem ZT.frozen {w0 w : World} (h : ZT w0 w) : w.frozen? ⟨w0.heap.size, 0, none⟩ = false ∧ w.frozen? ⟨w0.heap.size, 1, none⟩ = false ∧ w.frozen? ⟨w0.heap.size, 2, none⟩ = false ∧ w.frozen? ⟨w0.heap.size, 3, none⟩ = false ∧ w.frozen? ⟨w0.heap.size, 4, none⟩ = false ∧ w.frozen? ⟨w0.heap.size, 5, none⟩ = false := by
  have g := h.1
  exact ⟨g.frozen 0, g.frozen 1, g.frozen 2, g.frozen 3, g.frozen 4, g.frozen 5⟩
theorem ZT.lt {w0 w : World} (h : ZT w0 w) : w0.heap.size < w.heap.size := World.rowIs.lt h.1

def ZSl (v0 v1 v2 v3 : Value) : Nat → Value | 0 => v0 | 1 => v1 | 2 => v2 | _ => v3
theorem ZSl_get (v0 v1 v2 v3 : Value) : ∀ i, i < (#[v0, v1, v2, v3] : Array Value).size → (#[v0, v1, v2, v3] : Array Value)[i]? = some (ZSl v0 v1 v2 v3 i)
  | 0, _ | 1, _ | 2, _ | 3, _ => rfl
  | i + 4, h => by simp at h; omega
/-- A fresh local of type impl.Sign, made in world w0. -/
def ZS (w0 w : World) : Prop := w.rowIs w0.heap.size 23 4 (ZSl (.int .i64 0) (.string ⟨#[]⟩) (.int .i64 0) (.int .i64 0)) ∧ Below w0.heap.size w0 w
theorem ZS.new (w : World) : ZS w (w.alloc (.cells #[.int .i64 0, .string ⟨#[]⟩, .int .i64 0, .int .i64 0] 23)) := ⟨World.rowIs_alloc w #[.int .i64 0, .string ⟨#[]⟩, .int .i64 0, .int .i64 0] 23 (ZSl (.int .i64 0) (.string ⟨#[]⟩) (.int .i64 0) (.int .i64 0)) (ZSl_get _ _ _ _), (Below.refl _ _).alloc (Nat.le_refl _) _⟩
theorem ZS.keep {w0 w w' : World} (h : ZS w0 w) (hb : Below w.heap.size w w') : ZS w0 w' := ⟨rowIs_keep h.1 hb, bnext h.2 hb⟩
theorem ZS.cells {w0 w : World} (h : ZS w0 w) : w.cell? ⟨w0.heap.size, 0, none⟩ = some (.int .i64 0) ∧ w.cell? ⟨w0.heap.size, 1, none⟩ = some (.string ⟨#[]⟩) ∧ w.cell? ⟨w0.heap.size, 2, none⟩ = some (.int .i64 0) ∧ w.cell? ⟨w0.heap.size, 3, none⟩ = some (.int .i64 0) := by
  have g := h.1
  exact ⟨g.cell (by omega), g.cell (by omega), g.cell (by omega), g.cell (by omega)⟩
theorem ZS.frozen {w0 w : World} (h : ZS w0 w) : w.frozen? ⟨w0.heap.size, 0, none⟩ = false ∧ w.frozen? ⟨w0.heap.size, 1, none⟩ = false ∧ w.frozen? ⟨w0.heap.size, 2, none⟩ = false ∧ w.frozen? ⟨w0.heap.size, 3, none⟩ = false := by
  have g := h.1
  exact ⟨g.frozen 0, g.frozen 1, g.frozen 2, g.frozen 3⟩
theorem ZS.lt {w0 w : World} (h : ZS w0 w) : w0.heap.size < w.heap.size := World.rowIs.lt h.1

def ZFl (v0 v1 v2 : Value) : Nat → Value | 0 => v0 | 1 => v1 | _ => v2
theorem ZFl_get (v0 v1 v2 : Value) : ∀ i, i < (#[v0, v1, v2] : Array Value).size → (#[v0, v1, v2] : Array Value)[i]? = some (ZFl v0 v1 v2 i)
  | 0, _ | 1, _ | 2, _ => rfl
  | i + 3, h => by simp at h; omega
/-- A fresh local of type impl.Fault, made in world w0. -/
def ZF (w0 w : World) : Prop := w.rowIs w0.heap.size 30 3 (ZFl (.int .i64 0) (.int .i64 0) (.string ⟨#[]⟩)) ∧ Below w0.heap.size w0 w
theorem ZF.new (w : World) : ZF w (w.alloc (.cells #[.int .i64 0, .int .i64 0, .string ⟨#[]⟩] 30)) := ⟨World.rowIs_alloc w #[.int .i64 0, .int .i64 0, .string ⟨#[]⟩] 30 (ZFl (.int .i64 0) (.int .i64 0) (.string ⟨#[]⟩)) (ZFl_get _ _ _), (Below.refl _ _).alloc (Nat.le_refl _) _⟩
theorem ZF.keep {w0 w w' : World} (h : ZF w0 w) (hb : Below w.heap.size w w') : ZF w0 w' := ⟨rowIs_keep h.1 hb, bnext h.2 hb⟩
theorem ZF.cells {w0 w : World} (h : ZF w0 w) : w.cell? ⟨w0.heap.size, 0, none⟩ = some (.int .i64 0) ∧ w.cell? ⟨w0.heap.size, 1, none⟩ = some (.int .i64 0) ∧ w.cell? ⟨w0.heap.size, 2, none⟩ = some (.string ⟨#[]⟩) := by
  have g := h.1
  exact ⟨g.cell (by omega), g.cell (by omega), g.cell (by omega)⟩
theorem ZF.frozen {w0 w : World} (h : ZF w0 w) : w.frozen? ⟨w0.heap.size, 0, none⟩ = false ∧ w.frozen? ⟨w0.heap.size, 1, none⟩ = false ∧ w.frozen? ⟨w0.heap.size, 2, none⟩ = false := by
  have g := h.1
  exact ⟨g.frozen 0, g.frozen 1, g.frozen 2⟩
theorem ZF.lt {w0 w : World} (h : ZF w0 w) : w0.heap.size < w.heap.size := World.rowIs.lt h.1

end Go.Proofs.YtpcojfcbomkgpaaDoor
