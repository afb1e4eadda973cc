/- A tree's value in a local of its own (six cells). -/
import Derived.Test.YtbjialckijphiaaDoorTreeT
namespace Go.Proofs.YtbjialckijphiaaDoor
open Go.RowKit

def Spill (w : World) (b : Nat) (t : Tr) (vk vs : Value) : Prop :=
  ∃ e F, w.rowIs b e 6 F ∧ F 0 = .int .i64 t.kind ∧ F 1 = .bool t.flag ∧ F 2 = .int .i64 t.num ∧ F 3 = .string t.text ∧ F 4 = vk ∧ F 5 = vs
theorem Spill.cells {w : World} {b : Nat} {t : Tr} {vk vs : Value} (h : Spill w b t vk vs) :
    w.cell? ⟨b, 0, none⟩ = some (.int .i64 t.kind) ∧ w.cell? ⟨b, 1, none⟩ = some (.bool t.flag) ∧ w.cell? ⟨b, 2, none⟩ = some (.int .i64 t.num) ∧
    w.cell? ⟨b, 3, none⟩ = some (.string t.text) ∧ w.cell? ⟨b, 4, none⟩ = some vk ∧ w.cell? ⟨b, 5, none⟩ = some vs := by
  obtain ⟨e, F, hr, h0, h1, h2, h3, h4, h5⟩ := h
  exact ⟨by rw [hr.cell (by omega), h0], by rw [hr.cell (by omega), h1], by rw [hr.cell (by omega), h2], by rw [hr.cell (by omega), h3], by rw [hr.cell (by omega), h4], by rw [hr.cell (by omega), h5]⟩
theorem Spill.keep {w w' : World} {b : Nat} {t : Tr} {vk vs : Value} (h : Spill w b t vk vs) (hb : Below w.heap.size w w') : Spill w' b t vk vs := by
  obtain ⟨e, F, hr, hF⟩ := h
  exact ⟨e, F, rowIs_keep hr hb, hF⟩
theorem Spill.of_block {w w' : World} {b : Nat} {t : Tr} {vk vs : Value} (h : Spill w b t vk vs) (hb : w'.heap[b]? = w.heap[b]?) : Spill w' b t vk vs := by
  obtain ⟨e, F, hr, hF⟩ := h
  exact ⟨e, F, hr.of_block hb, hF⟩
theorem Spill.lt {w : World} {b : Nat} {t : Tr} {vk vs : Value} (h : Spill w b t vk vs) : b < w.heap.size := by
  obtain ⟨e, F, hr, hF⟩ := h; exact hr.lt
theorem Spill.frozen {w : World} {b : Nat} {t : Tr} {vk vs : Value} (h : Spill w b t vk vs) (i : Nat) : w.frozen? ⟨b, i, none⟩ = false := by
  obtain ⟨e, F, hr, hF⟩ := h; exact hr.frozen i
theorem Spill.set5 {w : World} {b : Nat} {t : Tr} {vk vs : Value} (h : Spill w b t vk vs) (u : Value) : Spill (w.setCell ⟨b, 5, none⟩ u) b t vk u := by
  obtain ⟨e, F, hr, h0, h1, h2, h3, h4, h5⟩ := h
  exact ⟨e, _, hr.set 5 u, h0, h1, h2, h3, h4, rfl⟩
theorem Spill.set4 {w : World} {b : Nat} {t : Tr} {vk vs : Value} (h : Spill w b t vk vs) (u : Value) : Spill (w.setCell ⟨b, 4, none⟩ u) b t u vs := by
  obtain ⟨e, F, hr, h0, h1, h2, h3, h4, h5⟩ := h
  exact ⟨e, _, hr.set 4 u, h0, h1, h2, h3, rfl, h5⟩
theorem Spill.other {w : World} {b : Nat} {t : Tr} {vk vs : Value} (h : Spill w b t vk vs) {a : Addr} (ha : b ≠ a.block) (u : Value) : Spill (w.setCell a u) b t vk vs :=
  h.of_block (Below.heap_setCell _ _ _ _ ha)
theorem Spill.new (w : World) (t : Tr) (vk vs : Value) (e : TypeId) : Spill (w.alloc (.cells #[.int .i64 t.kind, .bool t.flag, .int .i64 t.num, .string t.text, vk, vs] e)) w.heap.size t vk vs :=
  ⟨e, _, World.rowIs_alloc w #[.int .i64 t.kind, .bool t.flag, .int .i64 t.num, .string t.text, vk, vs] e (lit6 (.int .i64 t.kind) (.bool t.flag) (.int .i64 t.num) (.string t.text) vk vs) (lit6_get _ _ _ _ _ _), rfl, rfl, rfl, rfl, rfl, rfl⟩
/-- A new local, then the value stored. -/
theorem Spill.put (w : World) (t : Tr) (vk vs : Value) (e : TypeId) (u0 u1 u2 u3 u4 u5 : Value) :
    Spill (((((((w.alloc (.cells #[u0, u1, u2, u3, u4, u5] e)).setCell ⟨w.heap.size, 0, none⟩ (.int .i64 t.kind)).setCell ⟨w.heap.size, 1, none⟩ (.bool t.flag)).setCell ⟨w.heap.size, 2, none⟩ (.int .i64 t.num)).setCell ⟨w.heap.size, 3, none⟩ (.string t.text)).setCell ⟨w.heap.size, 4, none⟩ vk).setCell ⟨w.heap.size, 5, none⟩ vs) w.heap.size t vk vs := by
  have h := rowIs_set6 (World.rowIs_alloc w #[u0, u1, u2, u3, u4, u5] e (lit6 u0 u1 u2 u3 u4 u5) (lit6_get _ _ _ _ _ _)) 0 (.int .i64 t.kind) (.bool t.flag) (.int .i64 t.num) (.string t.text) vk vs
  obtain ⟨n0, n1, n2, n3, n4, n5⟩ := put6_new (lit6 u0 u1 u2 u3 u4 u5) 0 (.int .i64 t.kind) (.bool t.flag) (.int .i64 t.num) (.string t.text) vk vs
  exact ⟨e, _, h, n0, n1, n2, n3, n4, n5⟩
theorem put_below (w : World) (v0 v1 v2 v3 v4 v5 : Value) (e : TypeId) (u : Array Value) :
    Below w.heap.size w (((((((w.alloc (.cells u e)).setCell ⟨w.heap.size, 0, none⟩ v0).setCell ⟨w.heap.size, 1, none⟩ v1).setCell ⟨w.heap.size, 2, none⟩ v2).setCell ⟨w.heap.size, 3, none⟩ v3).setCell ⟨w.heap.size, 4, none⟩ v4).setCell ⟨w.heap.size, 5, none⟩ v5) :=
  have h : Below w.heap.size w (w.alloc (.cells u e)) := by repeat (first | exact Below.refl _ _ | (refine Below.alloc ?_ (by first | omega | (simp; done) | (simp; omega)) _) | (refine Below.setCell ?_ (by first | omega | (simp; done) | (simp; omega)) _) | (refine Below.drew ?_) | (refine below_drewN ?_ _))
  (((((h.setCell (p := ⟨w.heap.size, 0, none⟩) (Nat.le_refl _) _).setCell (p := ⟨w.heap.size, 1, none⟩) (Nat.le_refl _) _).setCell (p := ⟨w.heap.size, 2, none⟩) (Nat.le_refl _) _).setCell (p := ⟨w.heap.size, 3, none⟩) (Nat.le_refl _) _).setCell (p := ⟨w.heap.size, 4, none⟩) (Nat.le_refl _) _).setCell (p := ⟨w.heap.size, 5, none⟩) (Nat.le_refl _) _
theorem alloc_below (w : World) (u : Array Value) (e : TypeId) : Below w.heap.size w (w.alloc (.cells u e)) := by repeat (first | exact Below.refl _ _ | (refine Below.alloc ?_ (by first | omega | (simp; done) | (simp; omega)) _) | (refine Below.setCell ?_ (by first | omega | (simp; done) | (simp; omega)) _) | (refine Below.drew ?_) | (refine below_drewN ?_ _))

end Go.Proofs.YtbjialckijphiaaDoor
