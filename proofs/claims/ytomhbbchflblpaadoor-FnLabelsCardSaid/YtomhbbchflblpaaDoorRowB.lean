/- Rows of elements of any kind that a call makes by append. -/
import Derived.Test.YtomhbbchflblpaaDoorFlat
import Derived.Test.YtomhbbchflblpaaDoorStrS
import Derived.Test.YtomhbbchflblpaaDoorMemA
import Derived.Deep.AppendLies
namespace Go.Proofs.YtomhbbchflblpaaDoor
open Go.RowKit

theorem row_base {w : World} {base e size : Nat} {v : Value} {n : Nat} {xs : List Value} (h : w.ownsRow base e size v n xs) : ∀ k, v.ownBlock = some k → base ≤ k := by
  intro k hk
  rcases h.2 with ⟨rfl, _⟩ | ⟨g, cap, cur, rfl, hg, _⟩
  · simp [Value.ownBlock] at hk
  · simp [Value.ownBlock] at hk; omega
theorem row_keep {w w' : World} {base e size : Nat} {v : Value} {n : Nat} {xs : List Value} (h : w.ownsRow base e size v n xs) (hb : Below w.heap.size w w') : w'.ownsRow base e size v n xs := by
  obtain ⟨h1, h2⟩ := h
  refine ⟨h1, ?_⟩
  rcases h2 with h2 | ⟨g, cap, cur, hv, hg, hh, r⟩
  · exact .inl h2
  · have : g < w.heap.size := (Array.getElem?_eq_some_iff.1 hh).1
    exact .inr ⟨g, cap, cur, hv, hg, by rw [hb.block g this]; exact hh, r⟩
theorem row_mono {w : World} {B B' e size n : Nat} {v : Value} {xs : List Value} (h : w.ownsRow B e size v n xs) (hB : B' ≤ B) : w.ownsRow B' e size v n xs := by
  refine ⟨h.1, ?_⟩
  rcases h.2 with h0 | ⟨g, cap, cur, hv, hb, rest⟩
  · exact .inl h0
  · exact .inr ⟨g, cap, cur, hv, by omega, rest⟩
/-- The row of a slice's element type. -/
def ElemT (t e : TypeId) (c : Nat) : Prop :=
  ∃ i z, Tryd.prog.underlying t = some (.slice e) ∧ Tryd.prog.info? e = some i ∧ i.zero = some z ∧ i.size = c ∧ i.bytes ≤ 64 ∧ z.cells.size = c ∧ 0 < c
theorem Tryd.elStr : ElemT 46 9 1 := by
  obtain ⟨i0, hi, hz0, hz1, hz2⟩ := info_parts Tryd.infoStr
  exact ⟨i0, _, Tryd.underlying46, hi, hz0, hz1, by omega, rfl, by omega⟩
theorem Tryd.infoLab : (Tryd.prog.info? 35).map (fun i => (i.zero, i.size, i.bytes)) = some (some (.agg #[.string ⟨#[]⟩, .string ⟨#[]⟩]), 2, 32) := by kernel_rfl
theorem Tryd.elLab : ElemT 24 35 2 := by
  obtain ⟨i0, hi, hz0, hz1, hz2⟩ := info_parts Tryd.infoLab
  exact ⟨i0, _, Tryd.underlying24, hi, hz0, hz1, by omega, rfl, by omega⟩
structure RowB (e c : Nat) (W0 w : World) (v : Value) (n : Nat) (xs : List Value) : Prop where
  own : w.ownsRow W0.heap.size e c v n xs
  bel : Below W0.heap.size W0 w
theorem RowB.keep {e c : Nat} {W0 w w' : World} {v : Value} {n : Nat} {xs : List Value} (h : RowB e c W0 w v n xs) (hb : Below w.heap.size w w') : RowB e c W0 w' v n xs := ⟨row_keep h.own hb, bnext h.bel hb⟩
theorem RowB.alloc {e c : Nat} {W0 w : World} {v : Value} {n : Nat} {xs : List Value} (h : RowB e c W0 w v n xs) (o : Obj) : RowB e c W0 (w.alloc o) v n xs := h.keep ((Below.refl _ _).alloc (Nat.le_refl _) _)
theorem RowB.grown {e c : Nat} {W0 w w' : World} {v v' : Value} {n n' : Nat} {xs xs' : List Value} (h : RowB e c W0 w v n xs) (ho : w'.ownsRow W0.heap.size e c v' n' xs') (hg : w.grownBy w' v.ownBlock) : RowB e c W0 w' v' n' xs' :=
  ⟨ho, h.bel.grown hg h.bel.size (row_base h.own)⟩
theorem RowB.since {e c : Nat} {W W0 w : World} {v : Value} {n : Nat} {xs : List Value} (h : RowB e c W0 w v n xs) (hb : Below W.heap.size W W0) : RowB e c W w v n xs := ⟨row_mono h.own hb.size, bnext hb h.bel⟩
theorem RowB.start (e c : Nat) (w : World) (o : Array Value) (ho : o = #[]) : RowB e c w (w.alloc (.cells o e)) (.slice (some ⟨w.heap.size, 0, none⟩) 0 0) 0 [] := by
  subst ho
  exact ⟨World.ownsRow_lit (base := w.heap.size) (e := e) (size := c) w #[] 0 (Nat.le_refl _) (by unfold maxLen; omega) (by simp), (Below.refl _ _).alloc (Nat.le_refl _) _⟩
theorem RowB.sl {e c : Nat} {W0 w : World} {v : Value} {n : Nat} {xs : List Value} {f : Nat → Nat → Value} (h : RowB e c W0 w v n xs) (hx : ∀ i, i < n → ∀ j, j < c → xs[i * c + j]? = some (f i j)) :
    ∃ a cap fp, v = .slice a n cap ∧ FlatOwn w (.slice a n cap) n c f fp ∧ (∀ x, x ∈ fp → W0.heap.size ≤ x) ∧ SlAt w a n c f := by
  obtain ⟨fp, h1, h2⟩ := FlatOwn.of_owns h.own hx
  obtain ⟨a, cap, rfl⟩ := h1.shape
  exact ⟨a, cap, fp, rfl, h1, h2, h1.sl⟩

theorem wpList_row {t e : TypeId} {c : Nat} (hE : ElemT t e c) {ops : Array Oper} {rest : List Oper} {o : Oper} {a : Act} {Q : Exit → Act → World → Prop} (hgd : o.guard = none) (s x : Operand)
    (ho : o.op = .call { callee := .builtin .append, args := #[s, x], argTypes := #[t, t] })
    (v : Value) (n : Nat) (xs news : List Value) (W0 w : World) (hs : a.eval s = v) (hb : RowB e c W0 w v n xs) (cs : Array Value) (m k : Nat) (hc : cs = news.toArray) (hm : news.length = m * c) (h1 : ∀ u ∈ news, u.oneCell' = true)
    (hx : a.eval x = .slice (some ⟨w.heap.size, 0, none⟩) m k) (hlen : n + m ≤ 1000000000)
    (h : ∀ v' w', RowB e c W0 w' v' (n + m) (xs ++ news) → wpList Tryd.prog ops Q rest (a.put o.dst v') w') : wpList Tryd.prog ops Q (o :: rest) a (w.alloc (.cells cs e)) := by
  subst hc
  obtain ⟨i0, z, ht, hi, hz0, hz1, hz2, hz3, hz4⟩ := hE
  have hb' := hb.alloc (.cells news.toArray e)
  refine wpList_append_own _ hgd s x t ho W0.heap.size e i0 z c i0.bytes ht hi hz0 hz1 rfl hz3 hz4 v n _ hs hb'.own ⟨w.heap.size, 0, none⟩ m k news hx hm ?_ h1 (by unfold maxLen; omega) (Nat.le_trans (Nat.mul_le_mul hlen hz2) (by decide)) hb'.bel.size ?_
  · intro j u hj
    have hj' : j < news.length := (List.getElem?_eq_some_iff.1 hj).1
    rw [addr_add, Nat.zero_add]
    have hr := World.rowIs_alloc w news.toArray e (fun j => news.getD j undef) (fun i hi => by
      simp at hi
      simp [hi])
    rw [hr.cell (by simpa using hj'), List.getD_eq_getElem?_getD, hj]; rfl
  · intro v' w' ho' hg _
    exact h v' w' (hb'.grown ho' hg)
theorem step_rowAt {t e : TypeId} {c : Nat} (hE : ElemT t e c) {ops : Array Oper} {o : Oper} {a : Act} {K : Act → World → Prop} {Q : Exit → Act → World → Prop} {E : Prop} (hgd : o.guard = none) (s x : Operand)
    (ho : o.op = .call { callee := .builtin .append, args := #[s, x], argTypes := #[t, t] })
    (v : Value) (n : Nat) (xs news : List Value) (W0 : World) {w : World} (hs : a.eval s = v) (hb : RowB e c W0 w v n xs) (B : Nat) (cs : Array Value) (hB : w.heap[B]? = some (.cells cs e (0, 0))) (m k : Nat) (hc : cs = news.toArray) (hm : news.length = m * c) (h1 : ∀ u ∈ news, u.oneCell' = true)
    (hx : a.eval x = .slice (some ⟨B, 0, none⟩) m k) (hlen : n + m ≤ 1000000000)
    (h : ∀ v' w', RowB e c W0 w' v' (n + m) (xs ++ news) → K (a.put o.dst v') w') :
    if Region.wanted o (yielded ops a.tmps) = true then Oper.wp Tryd.prog o a w K Q else E := by
  have hw : Region.wanted o (yielded ops a.tmps) = true := by simp [Region.wanted, hgd]
  rw [if_pos hw]
  subst hc
  obtain ⟨i0, z, ht, hi, hz0, hz1, hz2, hz3, hz4⟩ := hE
  refine wp_append_own _ s x t ho W0.heap.size e i0 z c i0.bytes ht hi hz0 hz1 rfl hz3 hz4 v n _ hs hb.own ⟨B, 0, none⟩ m k news hx hm ?_ h1 (by unfold maxLen; omega) (Nat.le_trans (Nat.mul_le_mul hlen hz2) (by decide)) hb.bel.size ?_
  · intro j u hj
    exact World.news_of_block hB j u (by simpa using hj)
  · intro v' w' ho' hg _
    exact h v' w' (hb.grown ho' hg)

theorem strCell (l : List ByteArray) (i : Nat) (h : i < l.length) (j : Nat) (hj : j < 1) : (l.map Value.string)[i * 1 + j]? = some (strF l i j) := by
  obtain rfl : j = 0 := by omega
  simp [strF, strAt, List.getD_eq_getElem?_getD, h]
def labCells (L : List (ByteArray × ByteArray)) : List Value := L.flatMap fun x => [.string x.1, .string x.2]
theorem labCells_snoc (L : List (ByteArray × ByteArray)) (x : ByteArray × ByteArray) : labCells (L ++ [x]) = labCells L ++ [.string x.1, .string x.2] := by simp [labCells]
theorem labCell : ∀ (L : List (ByteArray × ByteArray)) (i : Nat), i < L.length → ∀ j, j < 2 → (labCells L)[i * 2 + j]? = some (labF L i j)
  | [], i, h, _, _ => by simp at h
  | x :: L, 0, _, j, hj => by
    rcases (show j = 0 ∨ j = 1 by omega) with rfl | rfl <;> rfl
  | x :: L, i + 1, h, j, hj => by
    have ih := labCell L i (by simpa using h) j hj
    have e : labCells (x :: L) = .string x.1 :: .string x.2 :: labCells L := rfl
    rw [e, show (i + 1) * 2 + j = (i * 2 + j) + 1 + 1 by omega, List.getElem?_cons_succ, List.getElem?_cons_succ, ih]
    rfl

end Go.Proofs.YtomhbbchflblpaaDoor
