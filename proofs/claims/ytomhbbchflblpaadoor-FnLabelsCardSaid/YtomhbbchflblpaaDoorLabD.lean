/- Drawn labels: what stands while the reference draws them. No walk but the append of a label. -/
import Derived.Test.YtomhbbchflblpaaDoorSortY
import Derived.Test.YtomhbbchflblpaaDoorDraw
namespace Go.Proofs.YtomhbbchflblpaaDoor
open Go.RowKit

/-- Short labels. -/
def SmL (L : List Lb) : Prop := ∀ x, x ∈ L → x.1.size ≤ 40 ∧ x.2.size ≤ 40
theorem SmL.nil : SmL [] := fun x h => by simp at h
theorem SmL.snoc {L : List Lb} {k v : ByteArray} (h : SmL L) (hk : k.size ≤ 40) (hv : v.size ≤ 40) : SmL (L ++ [(k, v)]) := fun x hx => by
  rw [List.mem_append, List.mem_singleton] at hx
  rcases hx with hx | rfl
  · exact h x hx
  · exact ⟨hk, hv⟩
theorem SmL.at {L : List Lb} (h : SmL L) {i : Nat} (hi : i < L.length) : (keyAt L i).size ≤ 40 ∧ (valAt L i).size ≤ 40 := h _ (labN_mem hi)
theorem SmL.big {L : List Lb} (h : SmL L) : ∀ i, i < L.length → (keyAt L i).size ≤ 1048576 ∧ (valAt L i).size ≤ 1048576 := fun i hi => by
  have := h.at hi; omega
theorem SmL.sort {L : List Lb} (h : SmL L) : SmL (sortR L) := fun x hx => by
  unfold sortR at hx
  split at hx
  · exact h x (sortN_mem _ (Nat.le_refl _) hx)
  · exact h x hx
theorem sort_len (L : List Lb) : (sortR L).length = L.length := by
  unfold sortR
  split
  · exact sortN_len _ _
  · rfl
theorem own_apart {w w' : World} {base e size g : Nat} {v : Value} {n : Nat} {xs : List Value} (h : w.ownsRow base e size v n xs) (ha : Apart [g] w w') (hg : g < base) : w'.ownsRow base e size v n xs := by
  obtain ⟨h1, h2⟩ := h
  refine ⟨h1, ?_⟩
  rcases h2 with h2 | ⟨q, cap, cur, hv, hq, hh, r⟩
  · exact .inl h2
  · have : q < w.heap.size := (Array.getElem?_eq_some_iff.1 hh).1
    exact .inr ⟨q, cap, cur, hv, hq, by rw [ha.block q this (by simp; omega)]; exact hh, r⟩
/-- A row of drawn labels that the call owns, and the cursor. -/
structure LabS (W0 : World) (g : Nat) (w : World) (v : Value) (L : List Lb) : Prop where
  cur : Cur w g
  ap : Apart [g] W0 w
  own : w.ownsRow W0.heap.size 35 2 v L.length (cellsLab L)
  sm : SmL L
  hg : g < W0.heap.size
theorem LabS.go {W0 w w' : World} {g : Nat} {v : Value} {L : List Lb} (h : LabS W0 g w v L) (hc : Cur w' g) (ha : Apart [g] w w') : LabS W0 g w' v L :=
  ⟨hc, h.ap.trans ha, own_apart h.own ha h.hg, h.sm, h.hg⟩
theorem LabS.keep {W0 w w' : World} {g : Nat} {v : Value} {L : List Lb} (h : LabS W0 g w v L) (hb : Below w.heap.size w w') : LabS W0 g w' v L :=
  h.go (h.cur.keep hb) (Apart.of_below hb _)
theorem LabS.start {w : World} {g : Nat} (hC : Cur w g) : LabS w g (w.alloc (.cells #[] 35)) (.slice (some ⟨w.heap.size, 0, none⟩) 0 0) [] := by
  have hal : Below w.heap.size w (w.alloc (.cells #[] 35)) := (Below.refl _ _).alloc (Nat.le_refl _) _
  exact ⟨hC.keep hal, Apart.of_below hal _, World.ownsRow_made w #[] 0 (Nat.le_refl _) (by unfold maxLen; omega) rfl, SmL.nil, hC.lt⟩
theorem LabS.put {W0 w w' : World} {g : Nat} {v v' : Value} {L L' : List Lb} (h : LabS W0 g w v L) (hb : Below W0.heap.size w w') (ho : w'.ownsRow W0.heap.size 35 2 v' L'.length (cellsLab L')) (hs : SmL L') : LabS W0 g w' v' L' :=
  ⟨h.cur.same fun k hk _ => hb.block k (by have := h.hg; omega), ⟨hb.os.trans h.ap.os, hb.tape.trans h.ap.tape, hb.output.trans h.ap.output, Nat.le_trans h.ap.size hb.size, fun k hk hn => (hb.block k hk).trans (h.ap.block k hk hn)⟩, ho, hs, h.hg⟩
theorem LabS.shape {W0 w : World} {g : Nat} {v : Value} {L : List Lb} (h : LabS W0 g w v L) : ∃ a c, v = .slice a L.length c := own_shape h.own
theorem LabS.sl {W0 w : World} {g : Nat} {a : Option Addr} {c : Nat} {L : List Lb} (h : LabS W0 g w (.slice a L.length c) L) : SlAt w a L.length 2 (labF L) := own_sl h.own rfl
/-- append(row, Label{..}) inside a region that draws its order. -/
theorem step_lab {ops : Array Oper} {o : Oper} {a : Act} {C : Act → World → Prop} {Q : Exit → Act → World → Prop} {X : Prop} (hgd : o.guard = none) (s x : Operand)
    (ho : o.op = .call { callee := .builtin .append, args := #[s, x], argTypes := #[24, 24] })
    {W0 we w : World} {g : Nat} {v : Value} {L : List Lb} (he : LabS W0 g we v L) (ky vl : ByteArray) (hk : ky.size ≤ 40) (hv : vl.size ≤ 40) (hL : L.length ≤ 1000)
    (hs : a.eval s = v) (B : Nat) (hx : a.eval x = .slice (some ⟨B, 0, none⟩) 1 1) (hb : Below we.heap.size we w) (hB : w.heap[B]? = some (.cells #[.string ky, .string vl] 35 (0, 0)))
    (h : ∀ v' w', LabS W0 g w' v' (L ++ [(ky, vl)]) → C (a.put o.dst v') w') :
    if Region.wanted o (yielded ops a.tmps) = true then Oper.wp Tryd.prog o a w C Q else X := by
  obtain ⟨i0, hi, hz0, hz1, hz2⟩ := info_parts Tryd.infoLabel
  have hw := he.keep hb
  have hsz : W0.heap.size ≤ w.heap.size := hw.ap.size
  refine step_append_in hgd s x 24 ho W0.heap.size 35 i0 _ 2 32 Tryd.underlying24 hi hz0 hz1 hz2 rfl (by decide) v L.length _ hs hw.own _ 1 1 (cellsLab [(ky, vl)]) hx rfl (two_src hB) (cellsLab_one _) (by unfold maxLen; omega) (by omega) hsz ?_
  intro v' w' hown hgrow _
  rw [← cells_app] at hown
  exact h v' w' (hw.put (own_over hw.own hgrow hsz) (by rw [List.length_append]; exact hown) (hw.sm.snoc hk hv))

/-- append(row, Label{..}), one after the other. -/
theorem wpList_lab {ops : Array Oper} {rest : List Oper} {o : Oper} {a : Act} {Q : Exit → Act → World → Prop} (hgd : o.guard = none) (s x : Operand)
    (ho : o.op = .call { callee := .builtin .append, args := #[s, x], argTypes := #[24, 24] })
    {W0 we w : World} {g : Nat} {v : Value} {L : List Lb} (he : LabS W0 g we v L) (ky vl : ByteArray) (hk : ky.size ≤ 40) (hv : vl.size ≤ 40) (hL : L.length ≤ 1000)
    (hs : a.eval s = v) (B : Nat) (hx : a.eval x = .slice (some ⟨B, 0, none⟩) 1 1) (hb : Below we.heap.size we w) (hB : w.heap[B]? = some (.cells #[.string ky, .string vl] 35 (0, 0)))
    (h : ∀ a' c' w', LabS W0 g w' (.slice a' (L.length + 1) c') (L ++ [(ky, vl)]) → wpList Tryd.prog ops Q rest (a.put o.dst (.slice a' (L.length + 1) c')) w') : wpList Tryd.prog ops Q (o :: rest) a w := by
  obtain ⟨i0, hi, hz0, hz1, hz2⟩ := info_parts Tryd.infoLabel
  have hw := he.keep hb
  have hsz : W0.heap.size ≤ w.heap.size := hw.ap.size
  obtain ⟨a1, c1, rfl⟩ := hw.shape
  obtain ⟨b, o', e1, e2⟩ := (two_src hB).resolve_left (by omega)
  refine wpList_append_in hgd s x 24 ho W0.heap.size 35 i0 _ 2 32 Tryd.underlying24 hi hz0 hz1 hz2 rfl (by decide) _ L.length _ hs hw.own _ 1 1 (cellsLab [(ky, vl)]) hx rfl (two_src hB) (cellsLab_one _) (by unfold maxLen; omega) (by omega) hsz ?_
  intro v' w' hown hgrow _
  rw [← cells_app] at hown
  obtain ⟨a', c', rfl⟩ := own_shape hown
  exact h a' c' w' (hw.put (own_over hw.own hgrow hsz) (by rw [List.length_append]; exact hown) (hw.sm.snoc hk hv))
/-- append([]Label{}, row...). -/
theorem wpList_labs {ops : Array Oper} {rest : List Oper} {o : Oper} {a : Act} {Q : Exit → Act → World → Prop} (hgd : o.guard = none) (s x : Operand)
    (ho : o.op = .call { callee := .builtin .append, args := #[s, x], argTypes := #[24, 24] })
    {W0 w : World} {g : Nat} {ad : Option Addr} {c : Nat} {L : List Lb} (he : LabS W0 g w (.slice ad L.length c) L) (hL : L.length ≤ 1000)
    (hs : a.eval s = .slice (some ⟨w.heap.size, 0, none⟩) 0 0) (hx : a.eval x = .slice ad L.length c)
    (h : ∀ v' w', LabS w g w' v' L → wpList Tryd.prog ops Q rest (a.put o.dst v') w') : wpList Tryd.prog ops Q (o :: rest) a (w.alloc (.cells #[] 35)) := by
  obtain ⟨i0, hi, hz0, hz1, hz2⟩ := info_parts Tryd.infoLabel
  have h0 := LabS.start he.cur
  have hal : Below w.heap.size w (w.alloc (.cells #[] 35)) := (Below.refl _ _).alloc (Nat.le_refl _) _
  have hsrc := lab_src ((he.keep hal).sl)
  have hsz := h0.ap.size
  refine wpList_append_in hgd s x 24 ho w.heap.size 35 i0 _ 2 32 Tryd.underlying24 hi hz0 hz1 hz2 rfl (by decide) _ 0 [] hs h0.own _ L.length c (cellsLab L) hx (cellsLab_len L) hsrc (cellsLab_one L) (by unfold maxLen; omega) (by omega) hsz ?_
  intro v' w' hown hgrow _
  rw [Nat.zero_add, List.nil_append] at hown
  exact h v' w' (h0.put (own_over h0.own hgrow hsz) hown he.sm)
theorem LabS.sorted {W0 w w' : World} {g : Nat} {v v' : Value} {L : List Lb} (h : LabS W0 g w v L) (hb : Below w.heap.size w w') (ho : w'.ownsRow w.heap.size 35 2 v' (sortR L).length (cellsLab (sortR L))) : LabS W0 g w' v' (sortR L) :=
  h.put (hb.mono h.ap.size) (own_sink ho h.ap.size) h.sm.sort
/-- SortLabels of a row with one label more. -/
theorem sSortOne (L : List Lb) (x : Lb) (a : Option Addr) (cap : Nat) {W0 w : World} {g : Nat} (hL : L.length ≤ 1000) (h : LabS W0 g w (.slice a (L.length + 1) cap) (L ++ [x])) : Calls Tryd.prog 7 #[.slice a (L.length + 1) cap] w fun e w' => ∃ a' c', e = .returned (.tuple #[.slice a' (L.length + 1) c', .bool (sortOk (L ++ [x]))]) ∧ LabS W0 g w' (.slice a' (L.length + 1) c') (sortR (L ++ [x])) := by
  have e : (L ++ [x]).length = L.length + 1 := by simp
  have h2 := h
  rw [← e] at h2 ⊢
  refine (sSortLabelsO (L ++ [x]) a cap _ (by rw [e]; omega) h2.sl h2.sm.big).mono ?_
  rintro e' w' ⟨⟨v, rfl, ho⟩, hb⟩
  have hs := h2.sorted hb ho
  rw [sort_len] at ho
  obtain ⟨a', c', rfl⟩ := own_shape ho
  exact ⟨a', c', rfl, hs⟩
theorem LabS.sink {W0 W1 w : World} {g : Nat} {v v' : Value} {L L' : List Lb} (h : LabS W0 g W1 v L) (k : LabS W1 g w v' L') : LabS W0 g w v' L' :=
  ⟨k.cur, h.ap.trans k.ap, own_sink k.own h.ap.size, k.sm, h.hg⟩
theorem LabS.past {W0 W1 w : World} {g : Nat} {v v' : Value} {L L' : List Lb} (h : LabS W0 g W1 v L) (k : LabS W1 g w v' L') : LabS W0 g w v L := h.go k.cur k.ap
/-- Drawn labels come back; only the cursor has turned. -/
def LabP (g m : Nat) (W0 : World) (e : Ending) (w' : World) : Prop := ∃ v L, L.length ≤ m ∧ e = .returned v ∧ LabS W0 g w' v L
/-- Drawn labels, all of them new. -/
def LabW (W0 : World) (e : Ending) (w' : World) : Prop := ∃ a c L, L.length ≤ 20 ∧ SmL L ∧ e = .returned (.slice a L.length c) ∧ SlAt w' a L.length 2 (labF L) ∧ Below W0.heap.size W0 w'

end Go.Proofs.YtomhbbchflblpaaDoor
