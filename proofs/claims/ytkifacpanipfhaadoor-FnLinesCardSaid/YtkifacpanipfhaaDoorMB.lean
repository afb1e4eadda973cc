/- RowC, SpotC, BufG, SayS, LayC, DecI, SayL, IdtP, ScalT, IdtK, IdtS, IdtA, merged. -/
import Derived.Test.YtkifacpanipfhaaDoorFlat
import Derived.Test.YtkifacpanipfhaaDoorStrS
import Derived.Deep.AppendLies
import Derived.Test.YtkifacpanipfhaaDoorBuf
import Derived.Test.YtkifacpanipfhaaDoorLI
import Derived.Test.YtkifacpanipfhaaDoorLay
import Derived.Shelf.Strings.Trim
import Derived.Lib.LaidTab
import Derived.Lib.AppendIntMem
import Derived.Test.YtkifacpanipfhaaDoorMA
import Derived.Test.YtkifacpanipfhaaDoorTreeOk
import Derived.Deep.RegionLaw
import Derived.Lib.Join
import Derived.Lib.JoinFns
namespace Go.Proofs.YtkifacpanipfhaaDoor
open Go.RowKit

theorem row_base {w : World} {base e size : Nat} {v : Value} {n : Nat} {xs : List Value} (h : w.ownsRow base e size v n xs) : ∀ k, v.ownBlock = some k → base ≤ k := by
  intro k hk
  rcases h.2 with ⟨rfl, _⟩ | ⟨g, cap, cur, rfl, hg, _⟩
  · simp [Value.ownBlock] at hk
  · simp [Value.ownBlock] at hk; omega
theorem row_keep {w w' : World} {base e size : Nat} {v : Value} {n : Nat} {xs : List Value} (h : w.ownsRow base e size v n xs) (hb : Below w.heap.size w w') : w'.ownsRow base e size v n xs := by
  obtain ⟨h1, h2⟩ := h
  refine ⟨h1, ?_⟩
  rcases h2 with h2 | ⟨g, cap, cur, hv, hg, hh, r⟩
  · exact .inl h2
  · have : g < w.heap.size := (Array.getElem?_eq_some_iff.1 hh).1
    exact .inr ⟨g, cap, cur, hv, hg, by rw [hb.block g this]; exact hh, r⟩
theorem row_mono {w : World} {B B' e size n : Nat} {v : Value} {xs : List Value} (h : w.ownsRow B e size v n xs) (hB : B' ≤ B) : w.ownsRow B' e size v n xs := by
  refine ⟨h.1, ?_⟩
  rcases h.2 with h0 | ⟨g, cap, cur, hv, hb, rest⟩
  · exact .inl h0
  · exact .inr ⟨g, cap, cur, hv, by omega, rest⟩
/-- The row of a slice's element type. -/
def ElemT (t e : TypeId) (c : Nat) : Prop :=
  ∃ i z, Tryd.prog.underlying t = some (.slice e) ∧ Tryd.prog.info? e = some i ∧ i.zero = some z ∧ i.size = c ∧ i.bytes ≤ 64 ∧ z.cells.size = c ∧ 0 < c
theorem Tryd.elStr : ElemT 24 9 1 := by
  obtain ⟨i0, hi, hz0, hz1, hz2⟩ := info_parts Tryd.infoStr
  exact ⟨i0, _, Tryd.underlying24, hi, hz0, hz1, by omega, rfl, by omega⟩
structure RowB (e c : Nat) (W0 w : World) (v : Value) (n : Nat) (xs : List Value) : Prop where
  own : w.ownsRow W0.heap.size e c v n xs
  bel : Below W0.heap.size W0 w
theorem RowB.keep {e c : Nat} {W0 w w' : World} {v : Value} {n : Nat} {xs : List Value} (h : RowB e c W0 w v n xs) (hb : Below w.heap.size w w') : RowB e c W0 w' v n xs := ⟨row_keep h.own hb, bnext h.bel hb⟩
theorem RowB.alloc {e c : Nat} {W0 w : World} {v : Value} {n : Nat} {xs : List Value} (h : RowB e c W0 w v n xs) (o : Obj) : RowB e c W0 (w.alloc o) v n xs := h.keep ((Below.refl _ _).alloc (Nat.le_refl _) _)
theorem RowB.grown {e c : Nat} {W0 w w' : World} {v v' : Value} {n n' : Nat} {xs xs' : List Value} (h : RowB e c W0 w v n xs) (ho : w'.ownsRow W0.heap.size e c v' n' xs') (hg : w.grownBy w' v.ownBlock) : RowB e c W0 w' v' n' xs' :=
  ⟨ho, h.bel.grown hg h.bel.size (row_base h.own)⟩
theorem RowB.since {e c : Nat} {W W0 w : World} {v : Value} {n : Nat} {xs : List Value} (h : RowB e c W0 w v n xs) (hb : Below W.heap.size W W0) : RowB e c W w v n xs := ⟨row_mono h.own hb.size, bnext hb h.bel⟩
theorem RowB.start (e c : Nat) (w : World) (o : Array Value) (ho : o = #[]) : RowB e c w (w.alloc (.cells o e)) (.slice (some ⟨w.heap.size, 0, none⟩) 0 0) 0 [] := by
  subst ho
  exact ⟨World.ownsRow_lit (base := w.heap.size) (e := e) (size := c) w #[] 0 (Nat.le_refl _) (by unfold maxLen; omega) (by simp), (Below.refl _ _).alloc (Nat.le_refl _) _⟩
theorem RowB.sl {e c : Nat} {W0 w : World} {v : Value} {n : Nat} {xs : List Value} {f : Nat → Nat → Value} (h : RowB e c W0 w v n xs) (hx : ∀ i, i < n → ∀ j, j < c → xs[i * c + j]? = some (f i j)) :
    ∃ a cap fp, v = .slice a n cap ∧ FlatOwn w (.slice a n cap) n c f fp ∧ (∀ x, x ∈ fp → W0.heap.size ≤ x) ∧ SlAt w a n c f := by
  obtain ⟨fp, h1, h2⟩ := FlatOwn.of_owns h.own hx
  obtain ⟨a, cap, rfl⟩ := h1.shape
  exact ⟨a, cap, fp, rfl, h1, h2, h1.sl⟩

theorem wpList_row {t e : TypeId} {c : Nat} (hE : ElemT t e c) {ops : Array Oper} {rest : List Oper} {o : Oper} {a : Act} {Q : Exit → Act → World → Prop} (hgd : o.guard = none) (s x : Operand)
    (ho : o.op = .call { callee := .builtin .append, args := #[s, x], argTypes := #[t, t] })
    (v : Value) (n : Nat) (xs news : List Value) (W0 w : World) (hs : a.eval s = v) (hb : RowB e c W0 w v n xs) (cs : Array Value) (m k : Nat) (hc : cs = news.toArray) (hm : news.length = m * c) (h1 : ∀ u ∈ news, u.oneCell' = true)
    (hx : a.eval x = .slice (some ⟨w.heap.size, 0, none⟩) m k) (hlen : n + m ≤ 1000000000)
    (h : ∀ v' w', RowB e c W0 w' v' (n + m) (xs ++ news) → wpList Tryd.prog ops Q rest (a.put o.dst v') w') : wpList Tryd.prog ops Q (o :: rest) a (w.alloc (.cells cs e)) := by
  subst hc
  obtain ⟨i0, z, ht, hi, hz0, hz1, hz2, hz3, hz4⟩ := hE
  have hb' := hb.alloc (.cells news.toArray e)
  refine wpList_append_own _ hgd s x t ho W0.heap.size e i0 z c i0.bytes ht hi hz0 hz1 rfl hz3 hz4 v n _ hs hb'.own ⟨w.heap.size, 0, none⟩ m k news hx hm ?_ h1 (by unfold maxLen; omega) (Nat.le_trans (Nat.mul_le_mul hlen hz2) (by decide)) hb'.bel.size ?_
  · intro j u hj
    have hj' : j < news.length := (List.getElem?_eq_some_iff.1 hj).1
    rw [addr_add, Nat.zero_add]
    have hr := World.rowIs_alloc w news.toArray e (fun j => news.getD j undef) (fun i hi => by
      simp at hi
      simp [hi])
    rw [hr.cell (by simpa using hj'), List.getD_eq_getElem?_getD, hj]; rfl
  · intro v' w' ho' hg _
    exact h v' w' (hb'.grown ho' hg)
theorem step_rowAt {t e : TypeId} {c : Nat} (hE : ElemT t e c) {ops : Array Oper} {o : Oper} {a : Act} {K : Act → World → Prop} {Q : Exit → Act → World → Prop} {E : Prop} (hgd : o.guard = none) (s x : Operand)
    (ho : o.op = .call { callee := .builtin .append, args := #[s, x], argTypes := #[t, t] })
    (v : Value) (n : Nat) (xs news : List Value) (W0 : World) {w : World} (hs : a.eval s = v) (hb : RowB e c W0 w v n xs) (B : Nat) (cs : Array Value) (hB : w.heap[B]? = some (.cells cs e (0, 0))) (m k : Nat) (hc : cs = news.toArray) (hm : news.length = m * c) (h1 : ∀ u ∈ news, u.oneCell' = true)
    (hx : a.eval x = .slice (some ⟨B, 0, none⟩) m k) (hlen : n + m ≤ 1000000000)
    (h : ∀ v' w', RowB e c W0 w' v' (n + m) (xs ++ news) → K (a.put o.dst v') w') :
    if Region.wanted o (yielded ops a.tmps) = true then Oper.wp Tryd.prog o a w K Q else E := by
  have hw : Region.wanted o (yielded ops a.tmps) = true := by simp [Region.wanted, hgd]
  rw [if_pos hw]
  subst hc
  obtain ⟨i0, z, ht, hi, hz0, hz1, hz2, hz3, hz4⟩ := hE
  refine wp_append_own _ s x t ho W0.heap.size e i0 z c i0.bytes ht hi hz0 hz1 rfl hz3 hz4 v n _ hs hb.own ⟨B, 0, none⟩ m k news hx hm ?_ h1 (by unfold maxLen; omega) (Nat.le_trans (Nat.mul_le_mul hlen hz2) (by decide)) hb.bel.size ?_
  · intro j u hj
    exact World.news_of_block hB j u (by simpa using hj)
  · intro v' w' ho' hg _
    exact h v' w' (hb.grown ho' hg)

theorem strCell (l : List ByteArray) (i : Nat) (h : i < l.length) (j : Nat) (hj : j < 1) : (l.map Value.string)[i * 1 + j]? = some (strF l i j) := by
  obtain rfl : j = 0 := by omega
  simp [strF, strAt, List.getD_eq_getElem?_getD, h]

end Go.Proofs.YtkifacpanipfhaaDoor
namespace Go.Proofs.YtkifacpanipfhaaDoor
open Go.RowKit

/-- Where the slice lies behind an append: where it lay, or in a new block. -/
def Spot (v v' : Value) (w : World) : Prop := v'.ownBlock = v.ownBlock ∨ ∃ g, v'.ownBlock = some g ∧ w.heap.size ≤ g

theorem run_append_spot {P : Program} (w : World) (base : Nat) (t ty e : TypeId) (i : TypeInfo) (z : Value) (size bytes : Nat) (ht : P.underlying t = some (.slice e)) (hi : P.info? e = some i) (hz : i.zero = some z)
    (hsize : i.size = size) (hby : i.bytes = bytes) (hzs : z.cells.size = size) (hsz : 0 < size)
    (v : Value) (n : Nat) (xs : List Value) (hown : w.ownsRow base e size v n xs)
    (a : Addr) (m c : Nat) (news : List Value) (hl : news.length = m * size) (hnews : ∀ j u, news[j]? = some u → w.cell? (a.add j) = some u) (h1 : ∀ u ∈ news, u.oneCell' = true)
    (h63 : n + m ≤ maxLen) (hbytes : (n + m) * bytes ≤ 140737488355328) (hbase : base ≤ w.heap.size) :
    ∃ v' w', (Builtin.append_ #[t, t] ty #[v, .slice (some a) m c]).run P w = .ok v' w' ∧ w'.ownsRow base e size v' (n + m) (xs ++ news) ∧ w.grownBy w' v.ownBlock ∧ Spot v v' w := by
  obtain ⟨v', w', hr, h2, h3, -⟩ := run_append_own (P := P) w base t ty e i z size bytes ht hi hz hsize hby hzs hsz v n xs hown a m c news hl hnews h1 h63 hbytes hbase
  refine ⟨v', w', hr, h2, h3, ?_⟩
  rcases hown.2 with ⟨rfl, rfl⟩ | ⟨g, cap, cur, rfl, hbg, hg, hnc, hcm, hcs, htake⟩
  · have hx : xs = [] := List.eq_nil_of_length_eq_zero (by simpa using hown.1)
    subst hx
    obtain ⟨v2, w2, hr2, k2, -, -⟩ := run_append_own (P := P) w w.heap.size t ty e i z size bytes ht hi hz hsize hby hzs hsz _ 0 [] (World.ownsRow_nil w w.heap.size e size) a m c news hl hnews h1 h63 hbytes (Nat.le_refl _)
    have := hr.symm.trans hr2
    injection this with e1 e2
    subst e1
    cases hb : v'.ownBlock with
    | none => exact .inl (by rw [hb]; rfl)
    | some g => exact .inr ⟨g, hb, (k2.lt g hb).1⟩
  · subst hsize; subst hby
    by_cases hroom : n + m ≤ cap
    · have hfit : n * i.size + news.length ≤ cur.size := by rw [hl, hcs, ← Nat.add_mul]; exact Nat.mul_le_mul_right _ hroom
      have := hr.symm.trans (run_append_room (P := P) w t ty e i ht hi g n cap cur hg a m c news hl hnews h1 hroom hfit)
      injection this with e1 e2
      subst e1
      exact .inl rfl
    · have holds : ∀ j u, xs[j]? = some u → w.cell? ((⟨g, 0, none⟩ : Addr).add j) = some u := hown.cells (g := g) rfl
      have := hr.symm.trans (run_append_grow (P := P) w t ty e i z ht hi hz ⟨g, 0, none⟩ n cap xs hown.1 holds a m c news hl hnews (by omega) (by unfold maxLen at h63; omega) (growslice_fits (by omega) hbytes))
      injection this with e1 e2
      subst e1
      exact .inr ⟨w.heap.size, rfl, Nat.le_refl _⟩

theorem wpList_append_spot {P : Program} {w : World} {ops : Array Oper} {rest : List Oper} {o : Oper} {a : Act} {Q : Exit → Act → World → Prop} (hgd : o.guard = none) (s x : Operand) (t : TypeId)
    (ho : o.op = .call { callee := .builtin .append, args := #[s, x], argTypes := #[t, t] })
    (base : Nat) (e : TypeId) (i : TypeInfo) (z : Value) (size bytes : Nat) (ht : P.underlying t = some (.slice e)) (hi : P.info? e = some i) (hz : i.zero = some z)
    (hsize : i.size = size) (hby : i.bytes = bytes) (hzs : z.cells.size = size) (hsz : 0 < size)
    (v : Value) (n : Nat) (xs : List Value) (hs : a.eval s = v) (hown : w.ownsRow base e size v n xs)
    (ad : Addr) (m c : Nat) (news : List Value) (hx : a.eval x = .slice (some ad) m c) (hl : news.length = m * size) (hnews : ∀ j u, news[j]? = some u → w.cell? (ad.add j) = some u) (h1 : ∀ u ∈ news, u.oneCell' = true)
    (h63 : n + m ≤ maxLen) (hbytes : (n + m) * bytes ≤ 140737488355328) (hbase : base ≤ w.heap.size)
    (h : ∀ v' w', w'.ownsRow base e size v' (n + m) (xs ++ news) → w.grownBy w' v.ownBlock → Spot v v' w → wpList P ops Q rest (a.put o.dst v') w') : wpList P ops Q (o :: rest) a w := by
  refine wpList_plain hgd fun K hK => ?_
  obtain ⟨v', w', hr, h2, h3, h4⟩ := run_append_spot (P := P) w base t o.type e i z size bytes ht hi hz hsize hby hzs hsz v n xs hown ad m c news hl hnews h1 h63 hbytes hbase
  unfold Oper.wp execOp
  simp only [ho, resolve, invoke, builtin, Sem.run_bind, Sem.run_pure, Result.andThen_ok, List.map_toArray, List.map_cons, List.map_nil, hs, hx, hr]
  exact hK _ _ (h v' w' h2 h3 h4)

theorem wp_append_spot {P : Program} {w : World} {o : Oper} {a : Act} {K : Act → World → Prop} {Q : Exit → Act → World → Prop} (s x : Operand) (t : TypeId)
    (ho : o.op = .call { callee := .builtin .append, args := #[s, x], argTypes := #[t, t] })
    (base : Nat) (e : TypeId) (i : TypeInfo) (z : Value) (size bytes : Nat) (ht : P.underlying t = some (.slice e)) (hi : P.info? e = some i) (hz : i.zero = some z)
    (hsize : i.size = size) (hby : i.bytes = bytes) (hzs : z.cells.size = size) (hsz : 0 < size)
    (v : Value) (n : Nat) (xs : List Value) (hs : a.eval s = v) (hown : w.ownsRow base e size v n xs)
    (ad : Addr) (m c : Nat) (news : List Value) (hx : a.eval x = .slice (some ad) m c) (hl : news.length = m * size) (hnews : ∀ j u, news[j]? = some u → w.cell? (ad.add j) = some u) (h1 : ∀ u ∈ news, u.oneCell' = true)
    (h63 : n + m ≤ maxLen) (hbytes : (n + m) * bytes ≤ 140737488355328) (hbase : base ≤ w.heap.size)
    (h : ∀ v' w', w'.ownsRow base e size v' (n + m) (xs ++ news) → w.grownBy w' v.ownBlock → Spot v v' w → K (a.put o.dst v') w') : o.wp P a w K Q := by
  obtain ⟨v', w', hr, h2, h3, h4⟩ := run_append_spot (P := P) w base t o.type e i z size bytes ht hi hz hsize hby hzs hsz v n xs hown ad m c news hl hnews h1 h63 hbytes hbase
  unfold Oper.wp execOp
  simp only [ho, resolve, invoke, builtin, Sem.run_bind, Sem.run_pure, Result.andThen_ok, List.map_toArray, List.map_cons, List.map_nil, hs, hx, hr]
  exact h v' w' h2 h3 h4

theorem apart_grown {w w' : World} {v : Value} (h : w.grownBy w' v.ownBlock) : Apart v.ownBlock.toList w w' :=
  ⟨h.os, h.tape, h.output, h.size, fun k hk hn => h.block k hk (fun e => hn (by rw [← e]; simp))⟩
/-- A row that grows, apart from what lies between lo and hi: where it began, or behind hi. -/
structure RowS (e c lo hi : Nat) (W0 w : World) (v : Value) (n : Nat) (xs : List Value) : Prop where
  row : RowB e c W0 w v n xs
  sep : ∀ b, v.ownBlock = some b → b < lo ∨ hi ≤ b
  hi : hi ≤ w.heap.size
theorem RowS.keep {e c lo hi : Nat} {W0 w w' : World} {v : Value} {n : Nat} {xs : List Value} (h : RowS e c lo hi W0 w v n xs) (hb : Below w.heap.size w w') : RowS e c lo hi W0 w' v n xs := ⟨h.row.keep hb, h.sep, Nat.le_trans h.hi hb.size⟩
theorem RowS.alloc {e c lo hi : Nat} {W0 w : World} {v : Value} {n : Nat} {xs : List Value} (h : RowS e c lo hi W0 w v n xs) (o : Obj) : RowS e c lo hi W0 (w.alloc o) v n xs := h.keep ((Below.refl _ _).alloc (Nat.le_refl _) _)
theorem RowS.next {e c lo hi : Nat} {W0 w w' : World} {v v' : Value} {n n' : Nat} {xs xs' : List Value} (h : RowS e c lo hi W0 w v n xs) (ho : w'.ownsRow W0.heap.size e c v' n' xs') (hg : w.grownBy w' v.ownBlock) (hs : Spot v v' w) : RowS e c lo hi W0 w' v' n' xs' := by
  refine ⟨h.row.grown ho hg, fun b hb => ?_, Nat.le_trans h.hi hg.size⟩
  rcases hs with hs | ⟨g, hs, hge⟩
  · exact h.sep b (by rw [← hs]; exact hb)
  · rw [hs] at hb
    cases hb
    exact .inr (Nat.le_trans h.hi hge)
theorem GFlat.grown {e c lo hi : Nat} {W0 w w' : World} {v : Value} {n : Nat} {xs : List Value} (h : RowS e c lo hi W0 w v n xs) (hg : w.grownBy w' v.ownBlock) {u : Value} {m c' : Nat} {f : Nat → Nat → Value} {fp : List Nat} (hf : GFlat w lo hi u m c' f fp) : GFlat w' lo hi u m c' f fp :=
  hf.far (apart_grown hg) (fun x hx => h.sep x (by simpa using hx))

theorem wpList_rowS {t e : TypeId} {c lo hi : Nat} (hE : ElemT t e c) {ops : Array Oper} {rest : List Oper} {o : Oper} {a : Act} {Q : Exit → Act → World → Prop} (hgd : o.guard = none) (s x : Operand)
    (ho : o.op = .call { callee := .builtin .append, args := #[s, x], argTypes := #[t, t] })
    (v : Value) (n : Nat) (xs news : List Value) (W0 w : World) (hs : a.eval s = v) (hb : RowS e c lo hi W0 w v n xs) (cs : Array Value) (m k : Nat) (hc : cs = news.toArray) (hm : news.length = m * c) (h1 : ∀ u ∈ news, u.oneCell' = true)
    (hx : a.eval x = .slice (some ⟨w.heap.size, 0, none⟩) m k) (hlen : n + m ≤ 1000000000)
    (h : ∀ v' w', RowS e c lo hi W0 w' v' (n + m) (xs ++ news) → (w.alloc (.cells cs e)).grownBy w' v.ownBlock → wpList Tryd.prog ops Q rest (a.put o.dst v') w') : wpList Tryd.prog ops Q (o :: rest) a (w.alloc (.cells cs e)) := by
  subst hc
  obtain ⟨i0, z, ht, hi, hz0, hz1, hz2, hz3, hz4⟩ := hE
  have hb' := hb.alloc (.cells news.toArray e)
  refine wpList_append_spot hgd s x t ho W0.heap.size e i0 z c i0.bytes ht hi hz0 hz1 rfl hz3 hz4 v n _ hs hb'.row.own ⟨w.heap.size, 0, none⟩ m k news hx hm ?_ h1 (by unfold maxLen; omega) (Nat.le_trans (Nat.mul_le_mul hlen hz2) (by decide)) hb'.row.bel.size ?_
  · intro j u hj
    have hj' : j < news.length := (List.getElem?_eq_some_iff.1 hj).1
    rw [addr_add, Nat.zero_add]
    have hr := World.rowIs_alloc w news.toArray e (fun j => news.getD j undef) (fun i hi => by
      simp at hi
      simp [hi])
    rw [hr.cell (by simpa using hj'), List.getD_eq_getElem?_getD, hj]; rfl
  · intro v' w' ho' hg hsp
    exact h v' w' (hb'.next ho' hg hsp) hg
theorem step_rowS {t e : TypeId} {c lo hi : Nat} (hE : ElemT t e c) {ops : Array Oper} {o : Oper} {a : Act} {K : Act → World → Prop} {Q : Exit → Act → World → Prop} {E : Prop} (hgd : o.guard = none) (s x : Operand)
    (ho : o.op = .call { callee := .builtin .append, args := #[s, x], argTypes := #[t, t] })
    (v : Value) (n : Nat) (xs news : List Value) (W0 : World) {w : World} (hs : a.eval s = v) (hb : RowS e c lo hi W0 w v n xs) (B : Nat) (cs : Array Value) (hB : w.heap[B]? = some (.cells cs e (0, 0))) (m k : Nat) (hc : cs = news.toArray) (hm : news.length = m * c) (h1 : ∀ u ∈ news, u.oneCell' = true)
    (hx : a.eval x = .slice (some ⟨B, 0, none⟩) m k) (hlen : n + m ≤ 1000000000)
    (h : ∀ v' w', RowS e c lo hi W0 w' v' (n + m) (xs ++ news) → w.grownBy w' v.ownBlock → K (a.put o.dst v') w') :
    if Region.wanted o (yielded ops a.tmps) = true then Oper.wp Tryd.prog o a w K Q else E := by
  have hw : Region.wanted o (yielded ops a.tmps) = true := by simp [Region.wanted, hgd]
  rw [if_pos hw]
  subst hc
  obtain ⟨i0, z, ht, hi, hz0, hz1, hz2, hz3, hz4⟩ := hE
  refine wp_append_spot s x t ho W0.heap.size e i0 z c i0.bytes ht hi hz0 hz1 rfl hz3 hz4 v n _ hs hb.row.own ⟨B, 0, none⟩ m k news hx hm ?_ h1 (by unfold maxLen; omega) (Nat.le_trans (Nat.mul_le_mul hlen hz2) (by decide)) hb.row.bel.size ?_
  · intro j u hj
    exact World.news_of_block hB j u (by simpa using hj)
  · intro v' w' ho' hg hsp
    exact h v' w' (hb.next ho' hg hsp) hg

end Go.Proofs.YtkifacpanipfhaaDoor
namespace Go.Proofs.YtkifacpanipfhaaDoor
open Go.RowKit

structure Gr (w w' : World) (v v' : Value) : Prop where
  hg : w.grownBy w' v.ownBlock
  hs : Spot v v' w
theorem Gr.refl (w : World) (v : Value) : Gr w w v v := ⟨⟨rfl, rfl, rfl, Nat.le_refl _, fun _ _ _ => rfl⟩, .inl rfl⟩
theorem Gr.block {a b : World} {u v : Value} (h : Gr a b u v) {k : Nat} (hk : k < a.heap.size) (hn : some k ≠ u.ownBlock) : b.heap[k]? = a.heap[k]? := h.hg.block k hk hn
theorem Gr.trans {a b c : World} {u v x : Value} (h : Gr a b u v) (k : Gr b c v x) : Gr a c u x := by
  refine ⟨⟨k.hg.os.trans h.hg.os, k.hg.tape.trans h.hg.tape, k.hg.output.trans h.hg.output, Nat.le_trans h.hg.size k.hg.size, fun n hn hne => ?_⟩, ?_⟩
  · refine (k.hg.block n (Nat.lt_of_lt_of_le hn h.hg.size) ?_).trans (h.hg.block n hn hne)
    rcases h.hs with e | ⟨g, e, hge⟩
    · rw [e]; exact hne
    · rw [e]; intro he; cases he; omega
  · rcases k.hs with e | ⟨g, e, hge⟩
    · rcases h.hs with e' | ⟨g', e', hge'⟩
      · exact .inl (e.trans e')
      · exact .inr ⟨g', e.trans e', hge'⟩
    · exact .inr ⟨g, e, Nat.le_trans h.hg.size hge⟩
theorem Gr.keep {a b c : World} {u v : Value} (h : Gr a b u v) (hb : Below b.heap.size b c) : Gr a c u v :=
  ⟨⟨hb.os.trans h.hg.os, hb.tape.trans h.hg.tape, hb.output.trans h.hg.output, Nat.le_trans h.hg.size hb.size, fun n hn hne => (hb.block n (Nat.lt_of_lt_of_le hn h.hg.size)).trans (h.hg.block n hn hne)⟩, h.hs⟩
theorem Gr.pre {a b c : World} {u v : Value} (hb : Below a.heap.size a b) (h : Gr b c u v) : Gr a c u v := by
  refine ⟨⟨h.hg.os.trans hb.os, h.hg.tape.trans hb.tape, h.hg.output.trans hb.output, Nat.le_trans hb.size h.hg.size, fun n hn hne => (h.hg.block n (Nat.lt_of_lt_of_le hn hb.size) hne).trans (hb.block n hn)⟩, ?_⟩
  rcases h.hs with e | ⟨g, e, hge⟩
  · exact .inl e
  · exact .inr ⟨g, e, Nat.le_trans hb.size hge⟩

/-- Bytes that grew: since world a, out of the value u. -/
structure BufG (W0 a : World) (u : Value) (w : World) (v : Value) (l : List UInt8) : Prop where
  buf : Buf W0 w v l
  gr : Gr a w u v
theorem BufG.start {W0 w : World} {v : Value} {l : List UInt8} (h : Buf W0 w v l) : BufG W0 w v w v l := ⟨h, Gr.refl _ _⟩
theorem BufG.keep {W0 a w w' : World} {u v : Value} {l : List UInt8} (h : BufG W0 a u w v l) (hb : Below w.heap.size w w') : BufG W0 a u w' v l := ⟨h.buf.keep hb, h.gr.keep hb⟩
theorem BufG.alloc {W0 a w : World} {u v : Value} {l : List UInt8} (h : BufG W0 a u w v l) (o : Obj) : BufG W0 a u (w.alloc o) v l := h.keep ((Below.refl _ _).alloc (Nat.le_refl _) _)
theorem BufG.trans {W0 a w w' : World} {u v v' : Value} {l l' : List UInt8} (h : BufG W0 a u w v l) (k : BufG W0 w v w' v' l') : BufG W0 a u w' v' l' := ⟨k.buf, h.gr.trans k.gr⟩
theorem BufG.pre {W0 a b w : World} {u v : Value} {l : List UInt8} (hb : Below a.heap.size a b) (h : BufG W0 b u w v l) : BufG W0 a u w v l := ⟨h.buf, Gr.pre hb h.gr⟩
/-- The row's own block is no block that is new since w. -/
theorem Buf.lt {W0 w : World} {v : Value} {l : List UInt8} (h : Buf W0 w v l) {k : Nat} (hk : w.heap.size ≤ k) : some k ≠ v.ownBlock := by
  intro e
  have := (h.own.lt k e.symm).2
  omega

theorem run_append_spot_string {P : Program} (w : World) (base : Nat) (t u ty e : TypeId) (i : TypeInfo) (ht : P.underlying t = some (.slice e)) (hu : P.underlying u = some .string) (hi : P.info? e = some i) (hz : i.zero = some (.int .u8 0))
    (hsize : i.size = 1) (hby : i.bytes = 1)
    (v : Value) (n : Nat) (xs : List Value) (hown : w.ownsRow base e 1 v n xs) (s : ByteArray)
    (h63 : n + s.size ≤ maxLen) (hbytes : n + s.size ≤ 140737488355328) (hbase : base ≤ w.heap.size) :
    ∃ v' w', (Builtin.append_ #[t, u] ty #[v, .string s]).run P w = .ok v' w' ∧ w'.ownsRow base e 1 v' (n + s.size) (xs ++ Lib.strCells s) ∧ w.grownBy w' v.ownBlock ∧ Spot v v' w := by
  obtain ⟨v', w', hr, h2, h3, -⟩ := Lib.run_append_own_string (P := P) w base t u ty e i ht hu hi hz hsize hby v n xs hown s h63 hbytes hbase
  refine ⟨v', w', hr, h2, h3, ?_⟩
  have hxl : xs.length = n := by simpa using hown.1
  rcases hown.2 with ⟨rfl, rfl⟩ | ⟨g, cap, cur, rfl, hbg, hg, hnc, hcm, hcs, htake⟩
  · have hx : xs = [] := List.eq_nil_of_length_eq_zero hxl
    subst hx
    obtain ⟨v2, w2, hr2, k2, -, -⟩ := Lib.run_append_own_string (P := P) w w.heap.size t u ty e i ht hu hi hz hsize hby _ 0 [] (World.ownsRow_nil w w.heap.size e 1) s h63 hbytes (Nat.le_refl _)
    have := hr.symm.trans hr2
    injection this with e1 e2
    subst e1
    cases hb : v'.ownBlock with
    | none => exact .inl (by rw [hb]; rfl)
    | some g => exact .inr ⟨g, hb, (k2.lt g hb).1⟩
  · by_cases hroom : n + s.size ≤ cap
    · have hcs' : cur.size = cap := by simpa using hcs
      have := hr.symm.trans (Lib.run_append_room_string (P := P) w t u ty e i ht hu hi hsize g n cap cur hg s hroom (by omega))
      injection this with e1 e2
      subst e1
      exact .inl rfl
    · have holds : ∀ j x, xs[j]? = some x → w.cell? ((⟨g, 0, none⟩ : Addr).add j) = some x := hown.cells (g := g) rfl
      have := hr.symm.trans (Lib.run_append_grow_string (P := P) w t u ty e i (.int .u8 0) ht hu hi hz ⟨g, 0, none⟩ n cap xs (by rw [hsize]; simpa using hxl) holds s (by omega) (by unfold maxLen at h63; omega) (by rw [hby]; exact growslice_fits (by omega) (by omega)))
      injection this with e1 e2
      subst e1
      exact .inr ⟨w.heap.size, rfl, Nat.le_refl _⟩

/-- 'append(v, text...)'. -/
theorem wpList_bufGS {ops : Array Oper} {rest : List Oper} {o : Oper} {a : Act} {Q : Exit → Act → World → Prop} (hgd : o.guard = none) (s x : Operand)
    (ho : o.op = .call { callee := .builtin .append, args := #[s, x], argTypes := #[22, 9] })
    (v : Value) (l : List UInt8) (W0 wa : World) (u : Value) (w : World) (hs : a.eval s = v) (hb : BufG W0 wa u w v l) (t : ByteArray)
    (hx : a.eval x = .string t) (hlen : l.length + t.size ≤ 1000000000)
    (h : ∀ v' w', BufG W0 wa u w' v' (l ++ t.data.toList) → Gr w w' v v' → wpList Tryd.prog ops Q rest (a.put o.dst v') w') : wpList Tryd.prog ops Q (o :: rest) a w := by
  obtain ⟨i0, hi, hz0, hz1, hz2⟩ := info_parts Tryd.infoU8
  refine wpList_plain hgd fun K hK => ?_
  obtain ⟨v', w', hr, h2, h3, h4⟩ := run_append_spot_string (P := Tryd.prog) w W0.heap.size 22 9 o.type 5 i0 Tryd.underlying22 Tryd.underlying9 hi hz0 hz1 hz2 v l.length _ hb.buf.own t (by unfold maxLen; omega) (by omega) hb.buf.bel.size
  unfold Oper.wp execOp
  simp only [ho, resolve, invoke, builtin, Sem.run_bind, Sem.run_pure, Result.andThen_ok, List.map_toArray, List.map_cons, List.map_nil, hs, hx, hr]
  have hgr : Gr w w' v v' := ⟨h3, h4⟩
  exact hK _ _ (h v' w' ⟨hb.buf.grown (l' := l ++ t.data.toList) (by simpa [strCells_eq] using h2) h3, hb.gr.trans hgr⟩ hgr)

/-- 'append(v, bytes..)': the new bytes lie in the block that the statement has just laid. -/
theorem wpList_bufG {ops : Array Oper} {rest : List Oper} {o : Oper} {a : Act} {Q : Exit → Act → World → Prop} (hgd : o.guard = none) (s x : Operand)
    (ho : o.op = .call { callee := .builtin .append, args := #[s, x], argTypes := #[22, 22] })
    (v : Value) (l news : List UInt8) (W0 wa : World) (u : Value) (w : World) (hs : a.eval s = v) (hb : BufG W0 wa u w v l) (cs : Array Value) (m c : Nat) (hc : cs = (news.map byteV).toArray) (hm : m = news.length)
    (hx : a.eval x = .slice (some ⟨w.heap.size, 0, none⟩) m c) (hlen : l.length + m ≤ 1000000000)
    (h : ∀ v' w', BufG W0 wa u w' v' (l ++ news) → Gr w w' v v' → wpList Tryd.prog ops Q rest (a.put o.dst v') w') : wpList Tryd.prog ops Q (o :: rest) a (w.alloc (.cells cs 5)) := by
  subst hc; subst hm
  obtain ⟨i0, hi, hz0, hz1, hz2⟩ := info_parts Tryd.infoU8
  have hb' := hb.alloc (.cells (news.map byteV).toArray 5)
  refine wpList_append_spot hgd s x 22 ho W0.heap.size 5 i0 (.int .u8 0) 1 1 Tryd.underlying22 hi hz0 hz1 hz2 rfl (by decide) v l.length _ hs hb'.buf.own ⟨w.heap.size, 0, none⟩ news.length c (news.map byteV) hx (by simp) ?_ (fun u hu => byteV_one hu) (by unfold maxLen; omega) (by omega) hb'.buf.bel.size ?_
  · intro j u hj
    have hj' : j < news.length := by have := (List.getElem?_eq_some_iff.1 hj).1; simpa using this
    rw [addr_add, Nat.zero_add]
    have hr := World.rowIs_alloc w (news.map byteV).toArray 5 (fun j => (news.map byteV).getD j undef) (fun i hi => by
      simp at hi
      simp [hi])
    rw [hr.cell (by simpa using hj'), List.getD_eq_getElem?_getD, hj]; rfl
  · intro v' w' ho' hg hsp
    have hgr : Gr (w.alloc (.cells (news.map byteV).toArray 5)) w' v v' := ⟨hg, hsp⟩
    exact h v' w' ⟨hb'.buf.grown (l' := l ++ news) (by simpa using ho') hg, hb'.gr.trans hgr⟩ (Gr.pre ((Below.refl _ _).alloc (Nat.le_refl _) _) hgr)

end Go.Proofs.YtkifacpanipfhaaDoor
namespace Go.Proofs.YtkifacpanipfhaaDoor
open Go.RowKit

theorem Gr.ne {a b : World} {u v : Value} (h : Gr a b u v) {k : Nat} (hk : k < a.heap.size) (hn : some k ≠ u.ownBlock) : some k ≠ v.ownBlock := by
  rcases h.hs with e | ⟨g, e, hge⟩
  · rw [e]; exact hn
  · rw [e]; intro he; cases he; omega
/-- A box that the bytes do not lie in. -/
def BoxS (w : World) (b : Nat) (t : Tr) (vk vs : Value) (u : Value) : Prop := Spill w b t vk vs ∧ some b ≠ u.ownBlock
theorem BoxS.gr {a b : World} {k : Nat} {t : Tr} {vk vs u v : Value} (h : BoxS a k t vk vs u) (g : Gr a b u v) : BoxS b k t vk vs v := ⟨h.1.of_block (g.block h.1.lt h.2), g.ne h.1.lt h.2⟩
theorem BoxS.keep {a b : World} {k : Nat} {t : Tr} {vk vs u : Value} (h : BoxS a k t vk vs u) (g : Below a.heap.size a b) : BoxS b k t vk vs u := ⟨h.1.keep g, h.2⟩
theorem say_start5 {t : Tr} (h : t.kind = 5) (l : List UInt8) : SayAt false t.keys t.kids 0 (l ++ [91]) [93] (l ++ sayB t) := by
  have := sayAt_start false t.keys t.kids (l ++ [91]) [93]
  rw [say_list h]; simpa using this
theorem say_start6 {t : Tr} (h : t.kind = 6) (l : List UInt8) : SayAt true t.keys t.kids 0 (l ++ [123]) [125] (l ++ sayB t) := by
  have := sayAt_start true t.keys t.kids (l ++ [123]) [125]
  rw [say_map h]; simpa using this
theorem head_f0 {keys : List ByteArray} {k : Nat} (h : ¬ 0 < k) : headK false keys k = [] := by simp [headK, h]
theorem head_f {keys : List ByteArray} {k : Nat} (h : 0 < k) : headK false keys k = [44] := by simp [headK, h]
theorem head_t0 {keys : List ByteArray} {k : Nat} (h : ¬ 0 < k) : headK true keys k = (quotedB (strAt keys k)).data.toList ++ [58] := by simp [headK, qL, h]
theorem head_t {keys : List ByteArray} {k : Nat} (h : 0 < k) : headK true keys k = [44] ++ ((quotedB (strAt keys k)).data.toList ++ [58]) := by simp [headK, qL, h]
theorem kind_eqs (k : Int) (c : Int) (h : k = c) (d : Int) : (k == d) = decide (c = d) := by subst h; exact Bool.eq_iff_iff.2 (by simp)

end Go.Proofs.YtkifacpanipfhaaDoor
namespace Go.Proofs.YtkifacpanipfhaaDoor
open Go.RowKit

theorem Tryd.strings_TrimLeft_one (s : ByteArray) (c : UInt8) (hc : c.toNat < 128) (w : World) : Calls Tryd.prog 69 #[.string s, .string ⟨#[c]⟩] w fun e w' => e = .returned (.string ⟨(Lib.trimLeftB s.data.toList c).toArray⟩) ∧ w' = w := Any.strings_TrimLeft_one Tryd.laysTL s c hc w
theorem Tryd.strings_TrimRight_one (s : ByteArray) (c : UInt8) (hc : c.toNat < 128) (w : World) (hs : s.size ≤ 9223372036854775807) : Calls Tryd.prog 71 #[.string s, .string ⟨#[c]⟩] w fun e w' => e = .returned (.string ⟨(Lib.trimRightB s.data.toList c).toArray⟩) ∧ w' = w := Any.strings_TrimRight_one Tryd.laysTR s c hc w hs

end Go.Proofs.YtkifacpanipfhaaDoor
namespace Go.Proofs.YtkifacpanipfhaaDoor
open Go.RowKit

end Go.Proofs.YtkifacpanipfhaaDoor
namespace Go.Proofs.YtkifacpanipfhaaDoor
open Go.RowKit

end Go.Proofs.YtkifacpanipfhaaDoor
namespace Go.Proofs.YtkifacpanipfhaaDoor
open Go.RowKit

def bytesB (l : List UInt8) : ByteArray := ⟨l.toArray⟩
def scalTB (k : Int) (f : Bool) (n : Int) (s : ByteArray) : ByteArray :=
  if k = 1 then ⟨#[110, 117, 108, 108]⟩ else if k = 2 then (if f = true then ⟨#[116, 114, 117, 101]⟩ else ⟨#[102, 97, 108, 115, 101]⟩) else if k = 3 then ⟨(Lib.itoa n).toArray⟩ else if k = 4 then keyTextB s
  else if k = 5 then ⟨#[91, 93]⟩ else ⟨#[123, 125]⟩
theorem scal_null {k : Int} {f : Bool} {n : Int} {s : ByteArray} (h : k = 1) : scalTB k f n s = ⟨#[110, 117, 108, 108]⟩ := by rw [scalTB, if_pos h]
theorem scal_true {k : Int} {f : Bool} {n : Int} {s : ByteArray} (h : k = 2) (hf : f = true) : scalTB k f n s = ⟨#[116, 114, 117, 101]⟩ := by rw [scalTB, if_neg (by omega), if_pos h, if_pos hf]
theorem scal_false {k : Int} {f : Bool} {n : Int} {s : ByteArray} (h : k = 2) (hf : f = false) : scalTB k f n s = ⟨#[102, 97, 108, 115, 101]⟩ := by rw [scalTB, if_neg (by omega), if_pos h, if_neg (by simp [hf])]
theorem scal_int {k : Int} {f : Bool} {n : Int} {s : ByteArray} (h : k = 3) : scalTB k f n s = ⟨(Lib.itoa n).toArray⟩ := by rw [scalTB, if_neg (by omega), if_neg (by omega), if_pos h]
theorem scal_text {k : Int} {f : Bool} {n : Int} {s : ByteArray} (h : k = 4) : scalTB k f n s = keyTextB s := by rw [scalTB, if_neg (by omega), if_neg (by omega), if_neg (by omega), if_pos h]
theorem scal_list {k : Int} {f : Bool} {n : Int} {s : ByteArray} (h : k = 5) : scalTB k f n s = ⟨#[91, 93]⟩ := by rw [scalTB, if_neg (by omega), if_neg (by omega), if_neg (by omega), if_neg (by omega), if_pos h]
theorem scal_map {k : Int} {f : Bool} {n : Int} {s : ByteArray} (h : k = 6) : scalTB k f n s = ⟨#[123, 125]⟩ := by rw [scalTB, if_neg (by omega), if_neg (by omega), if_neg (by omega), if_neg (by omega), if_neg (by omega)]
/-- What the braced text of such a tree is. -/
theorem scal_say {t : Tr} (h : t.kind < 4) (h1 : 1 ≤ t.kind) : (⟨(sayB t).toArray⟩ : ByteArray) = scalTB t.kind t.flag t.num t.text := by
  rcases (show t.kind = 1 ∨ t.kind = 2 ∨ t.kind = 3 by omega) with e | e | e
  · rw [say_null e, scal_null e]; rfl
  · cases hf : t.flag
    · rw [say_false e hf, scal_false e rfl]; rfl
    · rw [say_true e hf, scal_true e rfl]; rfl
  · rw [say_int e, scal_int e]

def twoSp (l : ByteArray) : ByteArray := ⟨#[32, 32]⟩ ++ l
def firstB (L : List ByteArray) : ByteArray := strAt L 0
/-- The lines of one child. -/
def entryL (m : Bool) (key : ByteArray) (leaf : Bool) (L : List ByteArray) : List ByteArray :=
  if m = true then (if leaf = true then [(keyTextB key ++ ⟨#[58, 32]⟩) ++ firstB L] else (keyTextB key ++ ⟨#[58]⟩) :: L.map twoSp)
  else (⟨#[45, 32]⟩ ++ firstB L) :: (L.drop 1).map twoSp
mutual
def linesT : Tr → List ByteArray
  | .mk k f n s keys kids => if kids.isEmpty = true then [scalTB k f n s] else linesK (k == 6) keys 0 kids
def linesK (m : Bool) (keys : List ByteArray) (i : Nat) : List Tr → List ByteArray
  | [] => []
  | t :: ts => entryL m (strAt keys i) t.kids.isEmpty (linesT t) ++ linesK m keys (i + 1) ts
end
theorem lines_leaf {t : Tr} (h : t.kids.length = 0) : linesT t = [scalTB t.kind t.flag t.num t.text] := by
  cases t; simp only [Tr.kids] at h
  simp only [linesT, Tr.kind, Tr.flag, Tr.num, Tr.text]
  rw [if_pos (by rw [List.isEmpty_iff]; exact List.eq_nil_of_length_eq_zero h)]
theorem lines_node {t : Tr} (h : 0 < t.kids.length) : linesT t = linesK (t.kind == 6) t.keys 0 t.kids := by
  cases t; simp only [Tr.kids] at h
  simp only [linesT, Tr.kind, Tr.keys, Tr.kids]
  rw [if_neg]
  intro e
  rw [List.isEmpty_iff] at e
  rw [e] at h; simp at h
def LinesAt (m : Bool) (keys : List ByteArray) (kids : List Tr) (k : Nat) (acc all : List ByteArray) : Prop := acc ++ linesK m keys k (kids.drop k) = all
theorem linesAt_start (m : Bool) (keys : List ByteArray) (kids : List Tr) : LinesAt m keys kids 0 [] (linesK m keys 0 kids) := rfl
theorem linesAt_step {m : Bool} {keys : List ByteArray} {kids : List Tr} {k : Nat} {acc all : List ByteArray} (h : LinesAt m keys kids k acc all) (hk : k < kids.length) :
    LinesAt m keys kids (k + 1) (acc ++ entryL m (strAt keys k) (kidAt kids k).kids.isEmpty (linesT (kidAt kids k))) all := by
  rw [LinesAt, kids_drop hk, linesK] at h
  rw [LinesAt, ← h]; simp only [List.append_assoc]
theorem linesAt_end {m : Bool} {keys : List ByteArray} {kids : List Tr} {k : Nat} {acc all : List ByteArray} (h : LinesAt m keys kids k acc all) (hk : kids.length ≤ k) : acc = all := by
  rw [LinesAt, List.drop_of_length_le hk, linesK, List.append_nil] at h; exact h
theorem linesAt_len {m : Bool} {keys : List ByteArray} {kids : List Tr} {k : Nat} {acc all : List ByteArray} (h : LinesAt m keys kids k acc all) : acc.length ≤ all.length := by
  rw [LinesAt] at h; rw [← h]; simp only [List.length_append]; omega
theorem keyText_len (s : ByteArray) : (keyTextB s).size ≤ 6 * s.size + 2 := by
  have h := qL_len s
  unfold keyTextB
  split
  · omega
  · have e : (qL s).length = (quotedB s).size := by unfold qL; simp
    omega
theorem scal_len {k : Int} {f : Bool} {n : Int} {s : ByteArray} (hs : s.size ≤ 400) (hn : -9223372036854775808 ≤ n ∧ n ≤ 9223372036854775807) : (scalTB k f n s).size ≤ 2402 := by
  have h1 := keyText_len s
  have h2 := itoa_len n hn
  unfold scalTB
  split
  · decide
  split
  · split <;> decide
  split
  · show (Lib.itoa n).toArray.size ≤ 2402
    rw [List.size_toArray]; omega
  split
  · omega
  split <;> decide
theorem entry_len (m : Bool) (key : ByteArray) (leaf : Bool) (L : List ByteArray) : (entryL m key leaf L).length ≤ L.length + 1 ∧ 0 < (entryL m key leaf L).length := by
  unfold entryL
  split
  · split <;> simp
  · simp only [List.length_cons, List.length_map, List.length_drop]; omega
theorem strAt_le {L : List ByteArray} {B : Nat} (h : ∀ l, l ∈ L → l.size ≤ B) (i : Nat) : (strAt L i).size ≤ B := by
  rcases Nat.lt_or_ge i L.length with hi | hi
  · rw [strAt, List.getD_eq_getElem?_getD, List.getElem?_eq_getElem hi]; exact h _ (List.getElem_mem hi)
  · rw [strAt, List.getD_eq_getElem?_getD, List.getElem?_eq_none hi]; exact Nat.zero_le _
theorem entry_size {m : Bool} {key : ByteArray} {leaf : Bool} {L : List ByteArray} {B : Nat} (hk : key.size ≤ 400) (h : ∀ l, l ∈ L → l.size ≤ B) : ∀ l, l ∈ entryL m key leaf L → l.size ≤ B + 2404 := by
  have h1 := keyText_len key
  have h0 := strAt_le h 0
  have ht : ∀ l, l.size ≤ B → (twoSp l).size ≤ B + 2404 := fun l hl => by
    unfold twoSp; rw [ByteArray.size_append]
    have : (⟨#[32, 32]⟩ : ByteArray).size = 2 := rfl
    omega
  intro l hl
  unfold entryL firstB at hl
  split at hl
  · split at hl
    · simp only [List.mem_singleton] at hl; subst hl
      rw [ByteArray.size_append, ByteArray.size_append]
      have : (⟨#[58, 32]⟩ : ByteArray).size = 2 := rfl
      omega
    · simp only [List.mem_cons, List.mem_map] at hl
      rcases hl with rfl | ⟨x, hx, rfl⟩
      · rw [ByteArray.size_append]
        have : (⟨#[58]⟩ : ByteArray).size = 1 := rfl
        omega
      · exact ht x (h x hx)
  · simp only [List.mem_cons, List.mem_map] at hl
    rcases hl with rfl | ⟨x, hx, rfl⟩
    · rw [ByteArray.size_append]
      have : (⟨#[45, 32]⟩ : ByteArray).size = 2 := rfl
      omega
    · exact ht x (h x (List.mem_of_mem_drop hx))
mutual
theorem linesT_len : ∀ t : Tr, shapeB t = true → t.nums → (linesT t).length + 1 ≤ 2 * t.nodes ∧ 0 < (linesT t).length ∧ ∀ l, l ∈ linesT t → l.size ≤ 5000 * t.nodes
  | .mk k f n s keys kids, h, hn => by
    obtain ⟨h1, h2, h3⟩ := shape_parts h
    obtain ⟨a1, a2, a3, a4, a5, a6⟩ := head_kind h1
    simp only [Tr.text, Tr.keys, Tr.kids] at a3 h2 h3
    have hb := nums_bd hn
    simp only [Tr.num] at hb
    have hs := text_size a3
    simp only [Tr.nums] at hn
    rw [linesT]
    by_cases hk : kids.isEmpty = true
    · rw [if_pos hk]
      have := scal_len (k := k) (f := f) hs hb
      simp only [Tr.nodes]
      refine ⟨by simp; omega, by simp, fun l hl => ?_⟩
      simp only [List.mem_singleton] at hl; subst hl; omega
    · rw [if_neg hk]
      obtain ⟨b1, b2, b3⟩ := linesK_len (k == 6) keys (key_size h2) kids 0 h3 hn.2
      simp only [Tr.nodes]
      refine ⟨by omega, ?_, fun l hl => by have := b3 l hl; omega⟩
      cases kids with
      | nil => simp at hk
      | cons t ts =>
        have := entry_len (k == 6) (strAt keys 0) t.kids.isEmpty (linesT t)
        rw [linesK, List.length_append]; omega
theorem linesK_len (m : Bool) (keys : List ByteArray) (hk : ∀ j, (strAt keys j).size ≤ 400) : ∀ (l : List Tr) (i : Nat), shapeL l = true → numsL l → (linesK m keys i l).length ≤ 2 * nodesL l ∧ True ∧ ∀ x, x ∈ linesK m keys i l → x.size ≤ 5000 * nodesL l + 2404
  | [], i, _, _ => by simp [linesK]
  | t :: ts, i, h, hn => by
    rw [shapeL, Bool.and_eq_true] at h
    simp only [numsL] at hn
    obtain ⟨a1, a2, a3⟩ := linesT_len t h.1 hn.1
    obtain ⟨b1, b2, b3⟩ := linesK_len m keys hk ts (i + 1) h.2 hn.2
    have c := entry_len m (strAt keys i) t.kids.isEmpty (linesT t)
    have d := entry_size (m := m) (leaf := t.kids.isEmpty) (hk i) a3
    simp only [linesK, nodesL, List.length_append, List.mem_append]
    refine ⟨by omega, trivial, fun x hx => ?_⟩
    rcases hx with hx | hx
    · have := d x hx; omega
    · have := b3 x hx; omega
end

end Go.Proofs.YtkifacpanipfhaaDoor
namespace Go.Proofs.YtkifacpanipfhaaDoor
open Go.RowKit

def scalR (t : Tr) : Bool := decide (t.kids.length = 0) && treeOkB t
def scalS (t : Tr) : ByteArray := if scalR t = true then scalTB t.kind t.flag t.num t.text else ⟨#[]⟩
def ScalTV (t : Tr) (w : World) (e : Ending) (w' : World) : Prop := e = .returned (.tuple #[.string (scalS t), .bool (scalR t)]) ∧ Below w.heap.size w w'
theorem scalT_no {t : Tr} {w w' : World} (h : scalR t = false) (hb : Below w.heap.size w w') : ScalTV t w (.returned (.tuple #[.string ⟨#[]⟩, .bool false])) w' := ⟨by rw [scalS, h]; rfl, hb⟩
theorem scalT_yes {t : Tr} {w w' : World} {x : ByteArray} (h : scalR t = true) (hx : x = scalTB t.kind t.flag t.num t.text) (hb : Below w.heap.size w w') : ScalTV t w (.returned (.tuple #[.string x, .bool true])) w' := ⟨by rw [scalS, h, hx]; rfl, hb⟩

set_option maxRecDepth 100000 in
set_option maxHeartbeats 4000000 in
theorem sScalarText (t : Tr) (S : Nat → Prop) (vk vs : Value) (w : World) (hn : t.nodes ≤ 2000000) (hnu : t.nums) (ht : TreeIn w S t vk vs) :
    Calls Tryd.prog 92 #[.agg #[.int .i64 t.kind, .bool t.flag, .int .i64 t.num, .string t.text, vk, vs]] w (ScalTV t w) := by
  obtain ⟨hk0, hs0⟩ := treeIn_iff.1 ht
  obtain ⟨a1, m1, rfl⟩ := hk0.len
  obtain ⟨a2, m2, rfl⟩ := hs0.len
  have HB0 := Lib.hid (alloc_below w #[.int .i64 t.kind, .bool t.flag, .int .i64 t.num, .string t.text, .slice a1 t.keys.length m1, .slice a2 t.kids.length m2] 27)
  have HS0 := Lib.hid (Spill.new w t (.slice a1 t.keys.length m1) (.slice a2 t.kids.length m2) 27)
  obtain ⟨p0, p1, p2, p3, p4, p5⟩ := HS0.out.cells
  have HIN := Lib.hid (ht.keep HB0.out)
  have hok := sTreeOk t S _ _ _ hn HIN.out
  by_cases hk : 0 < t.kids.length
  · have H := Lib.hid (show scalR t = false by rw [scalR, decide_eq_false (by omega)]; rfl)
    have z1 : decide ((0 : Int) < (t.kids.length : Int)) = true := decide_eq_true (by omega)
    have z2 : decide (0 < t.kids.length) = true := decide_eq_true hk
    clear hok hnu hn ht hk0 hs0
    go_enter Tryd.func92, Tryd.ntmps92
    go_wp2_with fail
    go_ret2
    exact scalT_no H.out HB0.out
  have z1 : decide ((0 : Int) < (t.kids.length : Int)) = false := decide_eq_false (by omega)
  have z2 : decide (0 < t.kids.length) = false := decide_eq_false hk
  have HR : Hid (scalR t = (decide (t.kids.length = 0) && treeOkB t)) := rfl
  cases hokb : treeOkB t
  · have H := Lib.hid (show scalR t = false by rw [HR.out, hokb]; simp)
    rw [hokb] at hok
    have HOK := Lib.hid hok
    clear hok hnu hn ht hk0 hs0 hokb
    go_enter Tryd.func92, Tryd.ntmps92
    go_wp2_with (go_at_call 25; refine (HOK.out).mono ?_; rintro e w1 ⟨rfl, hb1⟩; have HS1 := Lib.hid (HS0.out.keep hb1); have HB1 := Lib.hid (bnext HB0.out hb1); have HI1 := Lib.hid (HIN.out.keep hb1); obtain ⟨q0, q1, q2, q3, q4, q5⟩ := HS1.out.cells)
    go_ret2
    exact scalT_no H.out HB1.out
  have H := Lib.hid (show scalR t = true by rw [HR.out, hokb, decide_eq_true (by omega)]; rfl)
  have hsh : shapeB t = true := by
    simp only [treeOkB, Bool.and_eq_true] at hokb; exact hokb.2.2
  rw [hokb] at hok
  have HOK := Lib.hid hok
  obtain ⟨k1, k2, k3, -⟩ := head_kind (shape_parts hsh).1
  have hts := text_size k3
  have hnb := nums_bd hnu
  have hsl : t.kind < 4 → (sayB t).length ≤ 100000000 := fun h => by
    rcases (show t.kind = 1 ∨ t.kind = 2 ∨ t.kind = 3 by omega) with e | e | e
    · rw [say_null e]; decide
    · cases hf : t.flag
      · rw [say_false e hf]; decide
      · rw [say_true e hf]; decide
    · rw [say_int e]; have := itoa_len t.num hnb; omega
  have HKD := Lib.hid (show t.kind < 4 → (⟨(sayB t).toArray⟩ : ByteArray) = scalTB t.kind t.flag t.num t.text from fun h => scal_say h k1)
  have HSH := Lib.hid (And.intro hsh (And.intro hnu (And.intro hn hsl)))
  have hkk : t.kind = 1 ∨ t.kind = 2 ∨ t.kind = 3 ∨ t.kind = 4 ∨ t.kind = 5 ∨ t.kind = 6 := by omega
  clear hok hsh hnu hn ht hk0 hs0 hokb hk k1 k2 k3 hsl
  rcases hkk with hk | hk | hk | hk | hk | hk
  · have k1 : (t.kind == 1) = true := kind_eqs t.kind 1 hk 1
    have k2 : (t.kind == 2) = false := kind_eqs t.kind 1 hk 2
    have k3 : (t.kind == 3) = false := kind_eqs t.kind 1 hk 3
    have k4 : (t.kind == 4) = false := kind_eqs t.kind 1 hk 4
    have k5 : (t.kind == 5) = false := kind_eqs t.kind 1 hk 5
    have k6 : (t.kind == 6) = false := kind_eqs t.kind 1 hk 6
    have HV := Lib.hid (scal_null (k := t.kind) (f := t.flag) (n := t.num) (s := t.text) hk)
    clear hk
    go_enter Tryd.func92, Tryd.ntmps92
    go_wp2_with (go_at_call 25; refine (HOK.out).mono ?_; rintro e w1 ⟨rfl, hb1⟩; have HS1 := Lib.hid (HS0.out.keep hb1); have HB1 := Lib.hid (bnext HB0.out hb1); have HI1 := Lib.hid (HIN.out.keep hb1); obtain ⟨q0, q1, q2, q3, q4, q5⟩ := HS1.out.cells)
    go_ret2
    exact scalT_yes H.out HV.out.symm HB1.out
  · have k1 : (t.kind == 1) = false := kind_eqs t.kind 2 hk 1
    have k2 : (t.kind == 2) = true := kind_eqs t.kind 2 hk 2
    have k3 : (t.kind == 3) = false := kind_eqs t.kind 2 hk 3
    have k4 : (t.kind == 4) = false := kind_eqs t.kind 2 hk 4
    have k5 : (t.kind == 5) = false := kind_eqs t.kind 2 hk 5
    have k6 : (t.kind == 6) = false := kind_eqs t.kind 2 hk 6
    rcases Bool.eq_false_or_eq_true t.flag with hf | hf
    all_goals
      have HF := Lib.hid hf
      clear hf
    · have HV := Lib.hid (scal_true (k := t.kind) (f := t.flag) (n := t.num) (s := t.text) hk HF.out)
      clear hk
      go_enter Tryd.func92, Tryd.ntmps92
      go_wp2_with (go_at_call 25; refine (HOK.out).mono ?_; rintro e w1 ⟨rfl, hb1⟩; have HS1 := Lib.hid (HS0.out.keep hb1); have HB1 := Lib.hid (bnext HB0.out hb1); obtain ⟨q0, q1, q2, q3, q4, q5⟩ := HS1.out.cells; rw [HF.out] at q1)
      go_ret2
      exact scalT_yes H.out HV.out.symm HB1.out
    · have HV := Lib.hid (scal_false (k := t.kind) (f := t.flag) (n := t.num) (s := t.text) hk HF.out)
      clear hk
      go_enter Tryd.func92, Tryd.ntmps92
      go_wp2_with (go_at_call 25; refine (HOK.out).mono ?_; rintro e w1 ⟨rfl, hb1⟩; have HS1 := Lib.hid (HS0.out.keep hb1); have HB1 := Lib.hid (bnext HB0.out hb1); obtain ⟨q0, q1, q2, q3, q4, q5⟩ := HS1.out.cells; rw [HF.out] at q1)
      go_ret2
      exact scalT_yes H.out HV.out.symm HB1.out
  · have k1 : (t.kind == 1) = false := kind_eqs t.kind 3 hk 1
    have k2 : (t.kind == 2) = false := kind_eqs t.kind 3 hk 2
    have k3 : (t.kind == 3) = true := kind_eqs t.kind 3 hk 3
    have k4 : (t.kind == 4) = false := kind_eqs t.kind 3 hk 4
    have k5 : (t.kind == 5) = false := kind_eqs t.kind 3 hk 5
    have k6 : (t.kind == 6) = false := kind_eqs t.kind 3 hk 6
    have HV := Lib.hid (scal_int (k := t.kind) (f := t.flag) (n := t.num) (s := t.text) hk)
    clear hk
    go_enter Tryd.func92, Tryd.ntmps92
    go_wp2_with (first | (go_at_call 25; refine (HOK.out).mono ?_; rintro e w1 ⟨rfl, hb1⟩; have HS1 := Lib.hid (HS0.out.keep hb1); have HB1 := Lib.hid (bnext HB0.out hb1); have HI1 := Lib.hid (HIN.out.keep hb1); obtain ⟨q0, q1, q2, q3, q4, q5⟩ := HS1.out.cells) | (go_at_call 111; refine (sDecimal t.num _ hnb.1 hnb.2).mono ?_; rintro e w2 ⟨rfl, hb2⟩))
    go_ret2
    exact scalT_yes H.out HV.out.symm (bnext HB1.out hb2)
  · have k1 : (t.kind == 1) = false := kind_eqs t.kind 4 hk 1
    have k2 : (t.kind == 2) = false := kind_eqs t.kind 4 hk 2
    have k3 : (t.kind == 3) = false := kind_eqs t.kind 4 hk 3
    have k4 : (t.kind == 4) = true := kind_eqs t.kind 4 hk 4
    have k5 : (t.kind == 5) = false := kind_eqs t.kind 4 hk 5
    have k6 : (t.kind == 6) = false := kind_eqs t.kind 4 hk 6
    have HV := Lib.hid (scal_text (k := t.kind) (f := t.flag) (n := t.num) (s := t.text) hk)
    clear hk
    go_enter Tryd.func92, Tryd.ntmps92
    go_wp2_with (first | (go_at_call 25; refine (HOK.out).mono ?_; rintro e w1 ⟨rfl, hb1⟩; have HS1 := Lib.hid (HS0.out.keep hb1); have HB1 := Lib.hid (bnext HB0.out hb1); have HI1 := Lib.hid (HIN.out.keep hb1); obtain ⟨q0, q1, q2, q3, q4, q5⟩ := HS1.out.cells) | (go_at_call 93; refine (sKeyText t.text _ (by omega)).mono ?_; rintro e w2 ⟨rfl, hb2⟩))
    go_ret2
    exact scalT_yes H.out HV.out.symm (bnext HB1.out hb2)
  · have k1 : (t.kind == 1) = false := kind_eqs t.kind 5 hk 1
    have k2 : (t.kind == 2) = false := kind_eqs t.kind 5 hk 2
    have k3 : (t.kind == 3) = false := kind_eqs t.kind 5 hk 3
    have k4 : (t.kind == 4) = false := kind_eqs t.kind 5 hk 4
    have k5 : (t.kind == 5) = true := kind_eqs t.kind 5 hk 5
    have k6 : (t.kind == 6) = false := kind_eqs t.kind 5 hk 6
    have HV := Lib.hid (scal_list (k := t.kind) (f := t.flag) (n := t.num) (s := t.text) hk)
    clear hk
    go_enter Tryd.func92, Tryd.ntmps92
    go_wp2_with (go_at_call 25; refine (HOK.out).mono ?_; rintro e w1 ⟨rfl, hb1⟩; have HS1 := Lib.hid (HS0.out.keep hb1); have HB1 := Lib.hid (bnext HB0.out hb1); have HI1 := Lib.hid (HIN.out.keep hb1); obtain ⟨q0, q1, q2, q3, q4, q5⟩ := HS1.out.cells)
    go_ret2
    exact scalT_yes H.out HV.out.symm HB1.out
  · have k1 : (t.kind == 1) = false := kind_eqs t.kind 6 hk 1
    have k2 : (t.kind == 2) = false := kind_eqs t.kind 6 hk 2
    have k3 : (t.kind == 3) = false := kind_eqs t.kind 6 hk 3
    have k4 : (t.kind == 4) = false := kind_eqs t.kind 6 hk 4
    have k5 : (t.kind == 5) = false := kind_eqs t.kind 6 hk 5
    have k6 : (t.kind == 6) = true := kind_eqs t.kind 6 hk 6
    have HV := Lib.hid (scal_map (k := t.kind) (f := t.flag) (n := t.num) (s := t.text) hk)
    clear hk
    go_enter Tryd.func92, Tryd.ntmps92
    go_wp2_with (go_at_call 25; refine (HOK.out).mono ?_; rintro e w1 ⟨rfl, hb1⟩; have HS1 := Lib.hid (HS0.out.keep hb1); have HB1 := Lib.hid (bnext HB0.out hb1); have HI1 := Lib.hid (HIN.out.keep hb1); obtain ⟨q0, q1, q2, q3, q4, q5⟩ := HS1.out.cells)
    go_ret2
    exact scalT_yes H.out HV.out.symm HB1.out

end Go.Proofs.YtkifacpanipfhaaDoor
namespace Go.Proofs.YtkifacpanipfhaaDoor
open Go.RowKit

def sp2 : ByteArray := ⟨#[32, 32]⟩
/-- Lines, the first behind h, the others behind two blanks. -/
def pre2 (h : ByteArray) : List ByteArray → List ByteArray
  | [] => []
  | x :: r => (h ++ x) :: r.map twoSp
theorem pre2_len (h : ByteArray) : ∀ L : List ByteArray, (pre2 h L).length = L.length
  | [] => rfl
  | x :: r => by simp [pre2]
theorem take_strI (l : List ByteArray) (i : Nat) (h : i < l.length) : l.take (i + 1) = l.take i ++ [strAt l i] := by
  rw [List.take_succ_eq_append_getElem h, strAt, List.getD_eq_getElem?_getD, List.getElem?_eq_getElem h]; rfl
theorem pre2_take (h : ByteArray) : ∀ (L : List ByteArray) (j : Nat), j < L.length → pre2 h (L.take (j + 1)) = pre2 h (L.take j) ++ [(if j = 0 then h else sp2) ++ strAt L j]
  | [], _, h => by simp at h
  | x :: r, 0, _ => by rw [if_pos rfl]; rfl
  | x :: r, j + 1, hj => by
    rw [if_neg (by omega), List.take_succ_cons, List.take_succ_cons, pre2, pre2, take_strI r j (by simpa using hj), List.map_append]
    rfl
theorem entry_list {key : ByteArray} {leaf : Bool} {L : List ByteArray} (h : 0 < L.length) : entryL false key leaf L = pre2 ⟨#[45, 32]⟩ L := by
  cases L with
  | nil => simp at h
  | cons x r => rfl
theorem entry_leaf {key : ByteArray} {L : List ByteArray} : entryL true key true L = [(keyTextB key ++ ⟨#[58, 32]⟩) ++ strAt L 0] := rfl
theorem entry_map {key : ByteArray} {L : List ByteArray} : entryL true key false L = (keyTextB key ++ ⟨#[58]⟩) :: pre2 sp2 L := by
  cases L with
  | nil => rfl
  | cons x r => rfl
theorem depth_kidI : ∀ (l : List Tr) (k : Nat), k < l.length → (kidAt l k).depth ≤ depthL l
  | [], k, h => by simp at h
  | t :: ts, 0, _ => by rw [depthL]; show t.depth ≤ _; omega
  | t :: ts, k + 1, h => by
    have := depth_kidI ts k (by simpa using h)
    rw [depthL]
    have e : kidAt (t :: ts) (k + 1) = kidAt ts k := rfl
    rw [e]; omega
theorem ok_kid {t : Tr} (h : treeOkB t = true) {k : Nat} (hk : k < t.kids.length) : treeOkB (kidAt t.kids k) = true := by
  simp only [treeOkB, Bool.and_eq_true, decide_eq_true_eq] at h ⊢
  have h1 := depth_kidI t.kids k hk
  have h2 := nodes_kid t.kids k hk
  have h3 := depth_eq t
  have h4 := nodes_eq t
  exact ⟨by omega, by omega, shapeL_kid (shape_parts h.2.2).2.2 hk⟩
theorem rowS_of {e c : Nat} {W0 w w2 : World} {v : Value} {n : Nat} {xs : List Value} (h : RowB e c W0 w v n xs) (hb : Below w.heap.size w w2) : RowS e c w.heap.size w2.heap.size W0 w2 v n xs :=
  ⟨h.keep hb, fun b hb' => .inl (h.own.lt b hb').2, Nat.le_refl _⟩
theorem lines_of {w w2 : World} {lv : Value} {L : List ByteArray} (h : RowB 9 1 w w2 lv L.length (L.map Value.string)) : ∃ a cap fp, lv = .slice a L.length cap ∧ GFlat w2 w.heap.size w2.heap.size (.slice a L.length cap) L.length 1 (strF L) fp := by
  obtain ⟨a, cap, fp, rfl, h1, h2, -⟩ := h.sl (strCell L)
  exact ⟨a, cap, fp, rfl, GFlat.new h1 h2⟩
theorem row_fin {lo hi : Nat} {W0 w : World} {v : Value} {acc L : List ByteArray} {h0 : ByteArray} (h : RowS 9 1 lo hi W0 w v (acc.length + L.length) ((acc ++ pre2 h0 (L.take L.length)).map Value.string)) :
    RowB 9 1 W0 w v (acc ++ pre2 h0 L).length ((acc ++ pre2 h0 L).map Value.string) := by
  have := h.row
  rw [List.take_length] at this
  rw [List.length_append, pre2_len]; exact this
theorem row_more {lo hi : Nat} {W0 w : World} {v : Value} {acc L : List ByteArray} {h0 : ByteArray} {j : Nat} (hj : j < L.length) {H : ByteArray} (hH : H = if j = 0 then h0 else sp2)
    (h : RowS 9 1 lo hi W0 w v (acc.length + j + 1) ((acc ++ pre2 h0 (L.take j)).map Value.string ++ [.string (H ++ strAt L j)])) :
    RowS 9 1 lo hi W0 w v (acc.length + (j + 1)) ((acc ++ pre2 h0 (L.take (j + 1))).map Value.string) := by
  rw [pre2_take h0 L j hj, ← hH, ← List.append_assoc, List.map_append]; exact h
theorem kind_two {t : Tr} (h : shapeB t = true) (hk : 0 < t.kids.length) : t.kind = 5 ∨ t.kind = 6 := by
  obtain ⟨h1, h2, -, -, h5, -⟩ := head_kind (shape_parts h).1
  by_cases h6 : t.kind < 5
  · have := h5 h6; omega
  · omega
theorem idt_len {t : Tr} (h : treeOkB t = true) (hn : t.nums) : (linesT t).length ≤ 600 ∧ 0 < (linesT t).length ∧ ∀ i, (strAt (linesT t) i).size ≤ 1500000 := by
  simp only [treeOkB, Bool.and_eq_true, decide_eq_true_eq] at h
  obtain ⟨a, b, c⟩ := linesT_len t h.2.2 hn
  exact ⟨by omega, b, strAt_le fun l hl => by have := c l hl; omega⟩

end Go.Proofs.YtkifacpanipfhaaDoor
namespace Go.Proofs.YtkifacpanipfhaaDoor
open Go.RowKit

def IdtS (N : Nat) : Prop := ∀ (t : Tr) (S : Nat → Prop) (vk vs : Value) (w : World), t.nodes ≤ N → treeOkB t = true → t.nums → TreeIn w S t vk vs →
    Calls Tryd.prog 64 #[.agg #[.int .i64 t.kind, .bool t.flag, .int .i64 t.num, .string t.text, vk, vs]] w (fun e w' => ∃ v, e = .returned v ∧ RowB 9 1 w w' v (linesT t).length ((linesT t).map Value.string))

set_option maxRecDepth 100000 in
set_option maxHeartbeats 8000000 in
theorem sIdt_leaf (t : Tr) (S : Nat → Prop) (vk vs : Value) (w : World) (hk : t.kids.length = 0) (hok : treeOkB t = true) (hnu : t.nums) (ht : TreeIn w S t vk vs) :
    Calls Tryd.prog 64 #[.agg #[.int .i64 t.kind, .bool t.flag, .int .i64 t.num, .string t.text, vk, vs]] w (fun e w' => ∃ v, e = .returned v ∧ RowB 9 1 w w' v (linesT t).length ((linesT t).map Value.string)) := by
  obtain ⟨hk0, hs0⟩ := treeIn_iff.1 ht
  obtain ⟨a1, m1, rfl⟩ := hk0.len
  obtain ⟨a2, m2, rfl⟩ := hs0.len
  have hsh : shapeB t = true := by simp only [treeOkB, Bool.and_eq_true] at hok; exact hok.2.2
  have hnn : t.nodes ≤ 300 := by simp only [treeOkB, Bool.and_eq_true, decide_eq_true_eq] at hok; exact hok.2.1
  have HB0 := Lib.hid (alloc_below w #[.int .i64 t.kind, .bool t.flag, .int .i64 t.num, .string t.text, .slice a1 t.keys.length m1, .slice a2 t.kids.length m2] 27)
  have HS0 := Lib.hid (Spill.new w t (.slice a1 t.keys.length m1) (.slice a2 t.kids.length m2) 27)
  have HIN := Lib.hid (ht.keep HB0.out)
  obtain ⟨p0, p1, p2, p3, p4, p5⟩ := HS0.out.cells
  have H := Lib.hid (lines_leaf hk)
  have HSC := Lib.hid (fun w0 hin => sScalarText t S (.slice a1 t.keys.length m1) (.slice a2 t.kids.length m2) w0 (by omega) hnu hin)
  have hr : scalR t = true := by rw [scalR, hok, decide_eq_true hk]; rfl
  have hs : scalS t = scalTB t.kind t.flag t.num t.text := by rw [scalS, hr]; rfl
  unfold ScalTV at HSC
  rw [hr, hs] at HSC
  generalize scalTB t.kind t.flag t.num t.text = X at HSC H
  have z1 : ((t.kids.length : Int) == 0) = true := by rw [hk]; rfl
  clear hr hs hok hnu hsh hk0 hs0 ht hk
  have hz0 : (w.alloc (.cells #[.int .i64 t.kind, .bool t.flag, .int .i64 t.num, .string t.text, .slice a1 t.keys.length m1, .slice a2 t.kids.length m2] 27)).heap.size = w.heap.size + 1 := World.size_alloc ..
  have HR0 := Lib.hid (show RowB 9 1 (w.alloc (.cells #[.int .i64 t.kind, .bool t.flag, .int .i64 t.num, .string t.text, .slice a1 t.keys.length m1, .slice a2 t.kids.length m2] 27)) ((w.alloc (.cells #[.int .i64 t.kind, .bool t.flag, .int .i64 t.num, .string t.text, .slice a1 t.keys.length m1, .slice a2 t.kids.length m2] 27)).alloc (.cells #[] 9)) (.slice (some ⟨w.heap.size + 1, 0, none⟩) 0 0) 0 [] from by have := RowB.start 9 1 (w.alloc (.cells #[.int .i64 t.kind, .bool t.flag, .int .i64 t.num, .string t.text, .slice a1 t.keys.length m1, .slice a2 t.kids.length m2] 27)) #[] rfl; rw [hz0] at this; exact this)
  clear hz0
  go_enter Tryd.func64, Tryd.ntmps64
  go_wp2_with fail
  refine (HSC.out _ (HIN.out.keep ((Below.refl _ _).alloc (Nat.le_refl _) _))).mono ?_
  rintro e w1 ⟨rfl, hb1⟩
  have HR1 := Lib.hid (HR0.out.keep hb1); clear hb1
  go_wp2_with (at_builtin; refine wpList_row Tryd.elStr (by rfl) _ _ (by rfl) _ _ _ [.string X] (w.alloc (.cells #[.int .i64 t.kind, .bool t.flag, .int .i64 t.num, .string t.text, .slice a1 t.keys.length m1, .slice a2 t.kids.length m2] 27)) _ (by rfl) HR1.out _ 1 1 (by rfl) rfl (by simp [Value.oneCell']) (by rfl) (by omega) ?_; intro v' w' hrow')
  go_ret
  exact ⟨_, rfl, by rw [H.out]; exact hrow'.since HB0.out⟩

set_option maxRecDepth 100000 in
set_option maxHeartbeats 8000000 in
theorem sIdt_list (N : Nat) (hIH : IdtS N) (t : Tr) (S : Nat → Prop) (vk vs : Value) (w : World) (hk : t.kind = 5) (h0 : 0 < t.kids.length) (hN : t.nodes ≤ N + 1) (hok : treeOkB t = true) (hnu : t.nums) (ht : TreeIn w S t vk vs) :
    Calls Tryd.prog 64 #[.agg #[.int .i64 t.kind, .bool t.flag, .int .i64 t.num, .string t.text, vk, vs]] w (fun e w' => ∃ v, e = .returned v ∧ RowB 9 1 w w' v (linesT t).length ((linesT t).map Value.string)) := by
  obtain ⟨hk0, hs0⟩ := treeIn_iff.1 ht
  obtain ⟨a1, m1, rfl⟩ := hk0.len
  obtain ⟨a2, m2, rfl⟩ := hs0.len
  have hsh : shapeB t = true := by simp only [treeOkB, Bool.and_eq_true] at hok; exact hok.2.2
  have hnn : t.nodes ≤ 300 := by simp only [treeOkB, Bool.and_eq_true, decide_eq_true_eq] at hok; exact hok.2.1
  have HB0 := Lib.hid (alloc_below w #[.int .i64 t.kind, .bool t.flag, .int .i64 t.num, .string t.text, .slice a1 t.keys.length m1, .slice a2 t.kids.length m2] 27)
  have HS0 := Lib.hid (Spill.new w t (.slice a1 t.keys.length m1) (.slice a2 t.kids.length m2) 27)
  have HIN := Lib.hid (ht.keep HB0.out)
  have IH := Lib.hid hIH; clear hIH
  have HN := Lib.hid (show nodesL t.kids ≤ N by have := nodes_eq t; omega)
  have hkl2 : t.kids.length ≤ 300 := by have := nodes_eq t; have := len_nodes t.kids; omega
  have hlw := idt_len hok hnu
  have hll : (linesT t).length ≤ 600 := hlw.1
  have HST := Lib.hid (linesAt_start false t.keys t.kids)
  have HE := Lib.hid (show linesT t = linesK false t.keys 0 t.kids by rw [lines_node h0, hk]; rfl)
  rw [HE.out] at hll
  generalize linesK false t.keys 0 t.kids = ALL at HST HE hll
  have HOK := Lib.hid (fun (k : Nat) (h : k < t.kids.length) => ok_kid hok h)
  have HNU := Lib.hid (fun (k : Nat) (h : k < t.kids.length) => nums_kid t.kids k h ((nums_iff t).1 hnu).2)
  have hkey := (shape_parts hsh).2.1
  have HKZ := Lib.hid (fun i => key_size hkey i)
  have HKL := Lib.hid (show t.kind = 6 → t.keys.length = t.kids.length from (head_kind (shape_parts hsh).1).2.2.2.1)
  have HKK := Lib.hid hk
  have z0 : ((t.kids.length : Int) == 0) = false := by rw [beq_eq_false_iff_ne]; omega
  have z5 : (t.kind == 5) = true := kind_eqs t.kind 5 hk 5
  have z6 : (t.kind == 6) = false := kind_eqs t.kind 5 hk 6
  have hz0 : (w.alloc (.cells #[.int .i64 t.kind, .bool t.flag, .int .i64 t.num, .string t.text, .slice a1 t.keys.length m1, .slice a2 t.kids.length m2] 27)).heap.size = w.heap.size + 1 := World.size_alloc ..
  have HR0 := Lib.hid (show RowB 9 1 (w.alloc (.cells #[.int .i64 t.kind, .bool t.flag, .int .i64 t.num, .string t.text, .slice a1 t.keys.length m1, .slice a2 t.kids.length m2] 27)) ((w.alloc (.cells #[.int .i64 t.kind, .bool t.flag, .int .i64 t.num, .string t.text, .slice a1 t.keys.length m1, .slice a2 t.kids.length m2] 27)).alloc (.cells #[] 9)) (.slice (some ⟨w.heap.size + 1, 0, none⟩) 0 0) 0 [] from by have := RowB.start 9 1 (w.alloc (.cells #[.int .i64 t.kind, .bool t.flag, .int .i64 t.num, .string t.text, .slice a1 t.keys.length m1, .slice a2 t.kids.length m2] 27)) #[] rfl; rw [hz0] at this; exact this)
  obtain ⟨p0, p1, p2, p3, p4, p5⟩ := HS0.out.cells
  clear hok hnu hsh hk0 hs0 ht hk hlw hkey hz0 hN
  go_enter Tryd.func64, Tryd.ntmps64
  go_wp2
  clear p0 p1 p2 p3 p4 p5 z0
  generalize hW0 : w.alloc (.cells #[.int .i64 t.kind, .bool t.flag, .int .i64 t.num, .string t.text, .slice a1 t.keys.length m1, .slice a2 t.kids.length m2] 27) = W0 at HB0 HS0 HIN HR0 ⊢
  clear hW0
  go_loopw [3, 6] (fun v i wr => ∃ (k : Nat) (acc : List ByteArray), k ≤ t.kids.length ∧ i = .int .i64 k ∧ Hid (RowB 9 1 W0 wr v acc.length (acc.map Value.string)) ∧ Hid (LinesAt false t.keys t.kids k acc ALL)) (fun _ i _ => t.kids.length - (intOf i).toNat)
  case atStart => exact ⟨0, [], by omega, rfl, HR0, HST⟩
  case round =>
    obtain ⟨k, acc, hk, rfl, HR, HST⟩ := hrel
    obtain ⟨wo, hwo⟩ : ∃ wo : World, wo = wr := ⟨_, rfl⟩
    subst hwo
    have HSP := Lib.hid (HS0.out.keep HR.out.bel)
    obtain ⟨p0, p1, p2, p3, p4, p5⟩ := HSP.out.cells
    by_cases hlt : k < t.kids.length
    rotate_left
    · obtain rfl : k = t.kids.length := by omega
      have H := Lib.hid (linesAt_end HST.out (Nat.le_refl _))
      go_wp2
      go_ret
      exact ⟨_, rfl, by rw [HE.out, ← H.out]; exact HR.out.since HB0.out⟩
    have HIW := Lib.hid (HIN.out.keep HR.out.bel)
    obtain ⟨hk1, hs1⟩ := treeIn_iff.1 HIW.out
    obtain ⟨b, o, vk', vs', rfl, ⟨c0, c1, c2, c3, c4, c5⟩, hin⟩ := hs1.at hlt
    obtain ⟨hk', hs'⟩ := treeIn_iff.1 hin
    obtain ⟨b1, n1, rfl⟩ := hk'.len
    obtain ⟨b2, n2, rfl⟩ := hs'.len
    clear hk' hs'
    have hlb := lt_of_cell c0
    have hstep := linesAt_step HST.out hlt
    have hacc := linesAt_len hstep
    simp only [List.length_append] at hacc
    obtain ⟨hL1, hL2, hL3⟩ := idt_len (HOK.out k hlt) (HNU.out k hlt)
    have hnk := nodes_kid t.kids k hlt
    have HCALL := Lib.hid (fun w0 hin => IH.out (kidAt t.kids k) S (.slice b1 (kidAt t.kids k).keys.length n1) (.slice b2 (kidAt t.kids k).kids.length n2) w0 (by have := HN.out; omega) (HOK.out k hlt) (HNU.out k hlt) hin)
    have HLT := Lib.hid (show 0 < (kidAt t.kids k).kids.length ∨ (kidAt t.kids k).kids.length = 0 by omega)
    have hkk : (kidAt t.kids k).kids.isEmpty = decide ((kidAt t.kids k).kids.length = 0) := by cases (kidAt t.kids k).kids <;> rfl
    rw [entry_list hL2] at hstep hacc
    rw [pre2_len] at hacc
    have HSTEP := Lib.hid hstep; have HL3 := Lib.hid hL3; have HIN2 := Lib.hid hin
    clear hstep hL3 hin hnk hk1 hs1
    go_wp2_with fail
    refine (HCALL.out _ HIN2.out).mono ?_
    rintro e w2 ⟨lv, rfl, hrow2⟩
    have HBC := Lib.hid hrow2.bel
    obtain ⟨a, cap, fp, rfl, hG⟩ := lines_of hrow2
    have HRS := Lib.hid (rowS_of HR.out HBC.out)
    have HG := Lib.hid hG
    clear hG hrow2
    clear c0 c1 c2 c3 c4
    have c5 := bkeep HBC.out c5
    clear p0 p1 p2 p3 p4 p5
    have HSP2 := Lib.hid (HSP.out.keep HBC.out)
    obtain ⟨p0, p1, p2, p3, p4, p5⟩ := HSP2.out.cells
    clear p1 p2 p3
    generalize linesT (kidAt t.kids k) = L at *
    go_wp2_with fail
    go_loopw [3, 8, 9] (fun v hd i wv => ∃ (j : Nat) (H : ByteArray), i = .int .i64 j ∧ hd = .string H ∧ j ≤ L.length ∧ H.size ≤ 2 ∧ Hid (H = if j = 0 then (⟨#[45, 32]⟩ : ByteArray) else sp2) ∧ Hid (RowS 9 1 wo.heap.size w2.heap.size W0 wv v (acc.length + j) ((acc ++ pre2 (⟨#[45, 32]⟩ : ByteArray) (L.take j)).map Value.string)) ∧ Hid (GFlat wv wo.heap.size w2.heap.size (.slice a L.length cap) L.length 1 (strF L) fp)) (fun _ _ i _ => L.length - (intOf i).toNat)
    case atStart => exact ⟨0, ⟨#[45, 32]⟩, rfl, rfl, by omega, by decide, Lib.hid rfl, Lib.hid (by simpa [pre2] using HRS.out), HG⟩
    case round =>
      obtain ⟨j, H, rfl, rfl, hj, hHz, HH, HRS, HG⟩ := hrel
      by_cases hjl : j < L.length
      · obtain ⟨bl, ol, rfl, hcl⟩ := HG.out.own.sl.at (by omega)
        have l0 := hcl j hjl 0 (by omega)
        simp only [Nat.mul_one, Nat.add_zero, strF] at l0
        have hls := HL3.out j
        have hlr := lt_of_cell l0
        clear hcl
        go_wp2_with (at_builtin; refine wpList_rowS Tryd.elStr (by rfl) _ _ (by rfl) _ _ _ [.string (H ++ strAt L j)] W0 _ (by rfl) HRS.out _ 1 1 (by rfl) rfl (by simp [Value.oneCell']) (by rfl) (by omega) ?_; intro v' w' hrow' hg'; have HG' := Lib.hid (GFlat.grown (HRS.out.alloc _) hg' (HG.out.keep ((Below.refl _ _).alloc (Nat.le_refl _) _))))
        go_roundw
        case rel => exact ⟨j + 1, sp2, by go_num, rfl, by omega, by decide, Lib.hid (by rw [if_neg (by omega)]), Lib.hid (row_more hjl HH.out hrow'), HG'⟩
        case measure => simp [intOf] <;> omega
      · obtain rfl : j = L.length := by omega
        go_wp2
        go_roundw
        case rel => exact ⟨k + 1, _, by omega, by go_num, Lib.hid (row_fin HRS.out), HSTEP⟩
        case measure => simp [intOf] <;> omega

set_option maxRecDepth 100000 in
set_option maxHeartbeats 8000000 in
theorem sIdt_map (N : Nat) (hIH : IdtS N) (t : Tr) (S : Nat → Prop) (vk vs : Value) (w : World) (hk : t.kind = 6) (h0 : 0 < t.kids.length) (hN : t.nodes ≤ N + 1) (hok : treeOkB t = true) (hnu : t.nums) (ht : TreeIn w S t vk vs) :
    Calls Tryd.prog 64 #[.agg #[.int .i64 t.kind, .bool t.flag, .int .i64 t.num, .string t.text, vk, vs]] w (fun e w' => ∃ v, e = .returned v ∧ RowB 9 1 w w' v (linesT t).length ((linesT t).map Value.string)) := by
  obtain ⟨hk0, hs0⟩ := treeIn_iff.1 ht
  obtain ⟨a1, m1, rfl⟩ := hk0.len
  obtain ⟨a2, m2, rfl⟩ := hs0.len
  have hsh : shapeB t = true := by simp only [treeOkB, Bool.and_eq_true] at hok; exact hok.2.2
  have hnn : t.nodes ≤ 300 := by simp only [treeOkB, Bool.and_eq_true, decide_eq_true_eq] at hok; exact hok.2.1
  have HB0 := Lib.hid (alloc_below w #[.int .i64 t.kind, .bool t.flag, .int .i64 t.num, .string t.text, .slice a1 t.keys.length m1, .slice a2 t.kids.length m2] 27)
  have HS0 := Lib.hid (Spill.new w t (.slice a1 t.keys.length m1) (.slice a2 t.kids.length m2) 27)
  have HIN := Lib.hid (ht.keep HB0.out)
  have IH := Lib.hid hIH; clear hIH
  have HN := Lib.hid (show nodesL t.kids ≤ N by have := nodes_eq t; omega)
  have hkl2 : t.kids.length ≤ 300 := by have := nodes_eq t; have := len_nodes t.kids; omega
  have hlw := idt_len hok hnu
  have hll : (linesT t).length ≤ 600 := hlw.1
  have HST := Lib.hid (linesAt_start true t.keys t.kids)
  have HE := Lib.hid (show linesT t = linesK true t.keys 0 t.kids by rw [lines_node h0, hk]; rfl)
  rw [HE.out] at hll
  generalize linesK true t.keys 0 t.kids = ALL at HST HE hll
  have HOK := Lib.hid (fun (k : Nat) (h : k < t.kids.length) => ok_kid hok h)
  have HNU := Lib.hid (fun (k : Nat) (h : k < t.kids.length) => nums_kid t.kids k h ((nums_iff t).1 hnu).2)
  have hkey := (shape_parts hsh).2.1
  have HKZ := Lib.hid (fun i => key_size hkey i)
  have HKL := Lib.hid (show t.kind = 6 → t.keys.length = t.kids.length from (head_kind (shape_parts hsh).1).2.2.2.1)
  have HKK := Lib.hid hk
  have z0 : ((t.kids.length : Int) == 0) = false := by rw [beq_eq_false_iff_ne]; omega
  have z5 : (t.kind == 5) = false := kind_eqs t.kind 6 hk 5
  have z6 : (t.kind == 6) = true := kind_eqs t.kind 6 hk 6
  have hz0 : (w.alloc (.cells #[.int .i64 t.kind, .bool t.flag, .int .i64 t.num, .string t.text, .slice a1 t.keys.length m1, .slice a2 t.kids.length m2] 27)).heap.size = w.heap.size + 1 := World.size_alloc ..
  have HR0 := Lib.hid (show RowB 9 1 (w.alloc (.cells #[.int .i64 t.kind, .bool t.flag, .int .i64 t.num, .string t.text, .slice a1 t.keys.length m1, .slice a2 t.kids.length m2] 27)) ((w.alloc (.cells #[.int .i64 t.kind, .bool t.flag, .int .i64 t.num, .string t.text, .slice a1 t.keys.length m1, .slice a2 t.kids.length m2] 27)).alloc (.cells #[] 9)) (.slice (some ⟨w.heap.size + 1, 0, none⟩) 0 0) 0 [] from by have := RowB.start 9 1 (w.alloc (.cells #[.int .i64 t.kind, .bool t.flag, .int .i64 t.num, .string t.text, .slice a1 t.keys.length m1, .slice a2 t.kids.length m2] 27)) #[] rfl; rw [hz0] at this; exact this)
  obtain ⟨p0, p1, p2, p3, p4, p5⟩ := HS0.out.cells
  clear hok hnu hsh hk0 hs0 ht hk hlw hkey hz0 hN
  go_enter Tryd.func64, Tryd.ntmps64
  go_wp2
  clear p0 p1 p2 p3 p4 p5 z0
  generalize hW0 : w.alloc (.cells #[.int .i64 t.kind, .bool t.flag, .int .i64 t.num, .string t.text, .slice a1 t.keys.length m1, .slice a2 t.kids.length m2] 27) = W0 at HB0 HS0 HIN HR0 ⊢
  clear hW0
  go_loopw [3, 6] (fun v i wr => ∃ (k : Nat) (acc : List ByteArray), k ≤ t.kids.length ∧ i = .int .i64 k ∧ Hid (RowB 9 1 W0 wr v acc.length (acc.map Value.string)) ∧ Hid (LinesAt true t.keys t.kids k acc ALL)) (fun _ i _ => t.kids.length - (intOf i).toNat)
  case atStart => exact ⟨0, [], by omega, rfl, HR0, HST⟩
  case round =>
    obtain ⟨k, acc, hk, rfl, HR, HST⟩ := hrel
    obtain ⟨wo, hwo⟩ : ∃ wo : World, wo = wr := ⟨_, rfl⟩
    subst hwo
    have HSP := Lib.hid (HS0.out.keep HR.out.bel)
    obtain ⟨p0, p1, p2, p3, p4, p5⟩ := HSP.out.cells
    by_cases hlt : k < t.kids.length
    rotate_left
    · obtain rfl : k = t.kids.length := by omega
      have H := Lib.hid (linesAt_end HST.out (Nat.le_refl _))
      go_wp2
      go_ret
      exact ⟨_, rfl, by rw [HE.out, ← H.out]; exact HR.out.since HB0.out⟩
    have HIW := Lib.hid (HIN.out.keep HR.out.bel)
    obtain ⟨hk1, hs1⟩ := treeIn_iff.1 HIW.out
    obtain ⟨b, o, vk', vs', rfl, ⟨c0, c1, c2, c3, c4, c5⟩, hin⟩ := hs1.at hlt
    obtain ⟨hk', hs'⟩ := treeIn_iff.1 hin
    obtain ⟨b1, n1, rfl⟩ := hk'.len
    obtain ⟨b2, n2, rfl⟩ := hs'.len
    clear hk' hs'
    have hlb := lt_of_cell c0
    have hstep := linesAt_step HST.out hlt
    have hacc := linesAt_len hstep
    simp only [List.length_append] at hacc
    obtain ⟨hL1, hL2, hL3⟩ := idt_len (HOK.out k hlt) (HNU.out k hlt)
    have hnk := nodes_kid t.kids k hlt
    have HCALL := Lib.hid (fun w0 hin => IH.out (kidAt t.kids k) S (.slice b1 (kidAt t.kids k).keys.length n1) (.slice b2 (kidAt t.kids k).kids.length n2) w0 (by have := HN.out; omega) (HOK.out k hlt) (HNU.out k hlt) hin)
    have HLT := Lib.hid (show 0 < (kidAt t.kids k).kids.length ∨ (kidAt t.kids k).kids.length = 0 by omega)
    have hkk : (kidAt t.kids k).kids.isEmpty = decide ((kidAt t.kids k).kids.length = 0) := by cases (kidAt t.kids k).kids <;> rfl
    have HSTEP := Lib.hid hstep; have HL3 := Lib.hid hL3; have HIN2 := Lib.hid hin
    clear hstep hL3 hin hnk hk1 hs1
    obtain ⟨bk, ok, hbk, hcell⟩ := (treeIn_iff.1 HIW.out).1.at (show k < t.keys.length by have := HKL.out HKK.out; omega)
    subst hbk
    have hkl4 : k < t.keys.length := by have := HKL.out HKK.out; omega
    have hkl3 : (k : Int) < (t.keys.length : Int) := by omega
    have hkl1 : (0 : Int) ≤ (k : Int) := by omega
    have d0 := hcell k hkl4
    clear hcell
    have hld := lt_of_cell d0
    have hksz := HKZ.out k
    have HK := Lib.hid (fun w0 => sKeyText (strAt t.keys k) w0 (by omega))
    have hks2 := keyText_len (strAt t.keys k)
    go_wp2_with fail
    refine (HCALL.out _ HIN2.out).mono ?_
    rintro e w2 ⟨lv, rfl, hrow2⟩
    have HBC := Lib.hid hrow2.bel
    obtain ⟨a, cap, fp, rfl, hG⟩ := lines_of hrow2
    have HRS := Lib.hid (rowS_of HR.out HBC.out)
    have HG := Lib.hid hG
    clear hG hrow2
    clear c0 c1 c2 c3 c4
    have c5 := bkeep HBC.out c5
    have d0 := bkeep HBC.out d0
    clear p0 p1 p2 p3 p4 p5
    have HSP2 := Lib.hid (HSP.out.keep HBC.out)
    obtain ⟨p0, p1, p2, p3, p4, p5⟩ := HSP2.out.cells
    clear p1 p2 p3
    generalize linesT (kidAt t.kids k) = L at *
    cases he : decide ((kidAt t.kids k).kids.length = 0)
    · have z2 : (((kidAt t.kids k).kids.length : Int) == 0) = false := by rw [decide_eq_false_iff_not] at he; rw [beq_eq_false_iff_ne]; omega
      rw [hkk, he, entry_map] at HSTEP hacc
      simp only [List.length_cons, pre2_len] at hacc
      clear he hkk HLT
      generalize keyTextB (strAt t.keys k) = KT at *
      go_wp2_with (first | (go_at_call 93; refine (HK.out _).mono ?_; rintro e w5 ⟨rfl, hb5⟩; have HRS5 := Lib.hid (HRS.out.keep hb5); have HG5 := Lib.hid (HG.out.keep hb5); clear hb5) | (at_builtin; refine wpList_rowS Tryd.elStr (by rfl) _ _ (by rfl) _ _ _ [.string (KT ++ ⟨#[58]⟩)] W0 _ (by rfl) HRS5.out _ 1 1 (by rfl) rfl (by simp [Value.oneCell']) (by rfl) (by omega) ?_; intro v' w' hrow' hg'; have HG' := Lib.hid (GFlat.grown (HRS5.out.alloc _) hg' (HG5.out.keep ((Below.refl _ _).alloc (Nat.le_refl _) _))); have HR' := Lib.hid hrow'; clear hrow' hg'))
      go_loopw [3, 8, 9] (fun v hd i wv => ∃ (j : Nat) (H : ByteArray), i = .int .i64 j ∧ hd = .string H ∧ j ≤ L.length ∧ H.size ≤ 2 ∧ Hid (H = if j = 0 then sp2 else sp2) ∧ Hid (RowS 9 1 wo.heap.size w2.heap.size W0 wv v ((acc ++ [KT ++ ⟨#[58]⟩]).length + j) (((acc ++ [KT ++ ⟨#[58]⟩]) ++ pre2 sp2 (L.take j)).map Value.string)) ∧ Hid (GFlat wv wo.heap.size w2.heap.size (.slice a L.length cap) L.length 1 (strF L) fp)) (fun _ _ i _ => L.length - (intOf i).toNat)
      case atStart => exact ⟨0, sp2, rfl, rfl, by omega, by decide, Lib.hid rfl, Lib.hid (by simpa [pre2] using HR'.out), HG'⟩
      case round =>
        obtain ⟨j, H, rfl, rfl, hj, hHz, HH, HRS, HG⟩ := hrel
        by_cases hjl : j < L.length
        · obtain ⟨bl, ol, rfl, hcl⟩ := HG.out.own.sl.at (by omega)
          have l0 := hcl j hjl 0 (by omega)
          simp only [Nat.mul_one, Nat.add_zero, strF] at l0
          have hls := HL3.out j
          have hlr := lt_of_cell l0
          clear hcl
          go_wp2_with (at_builtin; refine wpList_rowS Tryd.elStr (by rfl) _ _ (by rfl) _ _ _ [.string (H ++ strAt L j)] W0 _ (by rfl) HRS.out _ 1 1 (by rfl) rfl (by simp [Value.oneCell']) (by rfl) (by simp; omega) ?_; intro v' w' hrow' hg'; have HG' := Lib.hid (GFlat.grown (HRS.out.alloc _) hg' (HG.out.keep ((Below.refl _ _).alloc (Nat.le_refl _) _))))
          go_roundw
          case rel => exact ⟨j + 1, sp2, by go_num, rfl, by omega, by decide, Lib.hid (by rw [if_neg (by omega)]), Lib.hid (row_more hjl HH.out hrow'), HG'⟩
          case measure => simp [intOf] <;> omega
        · obtain rfl : j = L.length := by omega
          go_wp2
          go_roundw
          case rel => exact ⟨k + 1, _, by omega, by go_num, Lib.hid (row_fin HRS.out), Lib.hid (by have := HSTEP.out; simpa using this)⟩
          case measure => simp [intOf] <;> omega
    · have z2 : (((kidAt t.kids k).kids.length : Int) == 0) = true := by rw [decide_eq_true_eq] at he; rw [beq_iff_eq]; omega
      rw [hkk, he, entry_leaf] at HSTEP hacc
      simp only [List.length_cons, List.length_nil] at hacc
      clear he hkk HLT
      generalize keyTextB (strAt t.keys k) = KT at *
      obtain ⟨bl, ol, rfl, hcl⟩ := HG.out.own.sl.at (by omega)
      have l0 := hcl 0 hL2 0 (by omega)
      simp only [Nat.zero_mul, Nat.add_zero, strF] at l0
      have hls := HL3.out 0
      have hlr := lt_of_cell l0
      have hl0 : (0 : Int) < (L.length : Int) := by omega
      have ka1 : ¬ 9223372036854775807 < KT.size + 2 := by omega
      have ka2 : ¬ 9223372036854775807 < KT.size + 2 + (strAt L 0).size := by omega
      clear hcl
      go_wp2_with fail
      go_region_law (first
        | (go_simp; go_at_call 93; refine (HK.out _).mono ?_
           rintro e w5 ⟨rfl, hb5⟩
           have HRS5 := Lib.hid ((HRS.out.keep (Below.refl _ _).drew).keep hb5)
           have l5 := bkeep hb5 (show World.cell? _ ⟨bl, ol, none⟩ = some (.string (strAt L 0)) by go_simp)
           clear hb5)
        | (refine step_rowS Tryd.elStr (by rfl) _ _ (by rfl) _ _ _ [.string ((KT ++ ⟨#[58, 32]⟩) ++ strAt L 0)] W0 (by rfl) (HRS5.out.alloc _) _ _ (heap_alloc_new _ _) 1 1 (by rfl) rfl (by simp [Value.oneCell']) (by rfl) (by omega) ?_
           intro v' w' hrow' hg'))
      all_goals
        go_wp2
        go_roundw
        case rel => exact ⟨k + 1, _, by omega, by go_num, Lib.hid (by simpa using hrow'.row), HSTEP⟩
        case measure => simp [intOf] <;> omega

theorem sIdt : ∀ N, IdtS N
  | 0 => fun t S vk vs w h _ _ _ => by have := nodes_pos t; omega
  | N + 1 => fun t S vk vs w h hok hnu ht => by
    have hsh : shapeB t = true := by simp only [treeOkB, Bool.and_eq_true] at hok; exact hok.2.2
    by_cases hk : t.kids.length = 0
    · exact sIdt_leaf t S vk vs w hk hok hnu ht
    rcases kind_two hsh (by omega) with h5 | h6
    · exact sIdt_list N (sIdt N) t S vk vs w h5 (by omega) h hok hnu ht
    · exact sIdt_map N (sIdt N) t S vk vs w h6 (by omega) h hok hnu ht

end Go.Proofs.YtkifacpanipfhaaDoor
namespace Go.Proofs.YtkifacpanipfhaaDoor
open Go.RowKit

def idtL (t : Tr) : List ByteArray := if treeOkB t = true then linesT t else []
def IdtV (t : Tr) (w : World) (e : Ending) (w' : World) : Prop := ∃ v, e = .returned v ∧ RowB 9 1 w w' v (idtL t).length ((idtL t).map Value.string)
theorem idtV_yes {t : Tr} {w w' : World} {v : Value} (h : treeOkB t = true) (hr : RowB 9 1 w w' v (linesT t).length ((linesT t).map Value.string)) : IdtV t w (.returned v) w' := by
  have e : idtL t = linesT t := if_pos h
  exact ⟨v, rfl, by rw [e]; exact hr⟩
theorem idtV_no {t : Tr} {w w' : World} {v : Value} (h : treeOkB t = false) (hr : RowB 9 1 w w' v 0 []) : IdtV t w (.returned v) w' := by
  have e : idtL t = [] := if_neg (by simp [h])
  exact ⟨v, rfl, by rw [e]; exact hr⟩

/-! ### How long the lines are, all together -/
def sumS (L : List ByteArray) : Nat := (L.map ByteArray.size).sum
theorem sumS_app (L M : List ByteArray) : sumS (L ++ M) = sumS L + sumS M := by simp [sumS]
theorem sumS_cons (x : ByteArray) (L : List ByteArray) : sumS (x :: L) = x.size + sumS L := by simp [sumS]
theorem sumS_two : ∀ L : List ByteArray, sumS (L.map twoSp) = sumS L + 2 * L.length
  | [] => rfl
  | x :: L => by
    have h : (twoSp x).size = 2 + x.size := by rw [twoSp, ByteArray.size_append]; rfl
    rw [List.map_cons, sumS_cons, sumS_cons, sumS_two L, List.length_cons, h]; omega
theorem sumS_entry {m : Bool} {key : ByteArray} {leaf : Bool} {L : List ByteArray} (hk : key.size ≤ 400) (hL : 0 < L.length) : sumS (entryL m key leaf L) ≤ sumS L + 2 * L.length + 2404 := by
  have h1 := keyText_len key
  cases L with
  | nil => simp at hL
  | cons x r =>
    have e2 : (⟨#[58, 32]⟩ : ByteArray).size = 2 := rfl
    have e1 : (⟨#[58]⟩ : ByteArray).size = 1 := rfl
    have e3 : (⟨#[45, 32]⟩ : ByteArray).size = 2 := rfl
    unfold entryL
    split
    · split
      · show sumS [(keyTextB key ++ ⟨#[58, 32]⟩) ++ x] ≤ _
        rw [sumS_cons, sumS_cons, ByteArray.size_append, ByteArray.size_append, e2]
        have : sumS [] = 0 := rfl
        omega
      · rw [sumS_cons, sumS_two, ByteArray.size_append, e1]; omega
    · show sumS ((⟨#[45, 32]⟩ ++ x) :: r.map twoSp) ≤ _
      rw [sumS_cons, sumS_two, ByteArray.size_append, e3, sumS_cons, List.length_cons]; omega
mutual
theorem linesT_sum : ∀ t : Tr, shapeB t = true → t.nums → t.nodes ≤ 300 → sumS (linesT t) + 4000 ≤ 7000 * t.nodes
  | .mk k f n s keys kids, h, hn, hN => by
    obtain ⟨h1, h2, h3⟩ := shape_parts h
    obtain ⟨a1, a2, a3, a4, a5, a6⟩ := head_kind h1
    simp only [Tr.text, Tr.keys, Tr.kids] at a3 h2 h3
    have hb := nums_bd hn
    simp only [Tr.num] at hb
    have hs := text_size a3
    simp only [Tr.nums] at hn
    simp only [Tr.nodes] at hN
    rw [linesT]
    by_cases hk : kids.isEmpty = true
    · rw [if_pos hk]
      have := scal_len (k := k) (f := f) hs hb
      rw [sumS_cons]
      have e : sumS [] = 0 := rfl
      simp only [Tr.nodes]; omega
    · rw [if_neg hk]
      have := linesK_sum (k == 6) keys (key_size h2) kids 0 h3 hn.2 (by omega)
      simp only [Tr.nodes]; omega
theorem linesK_sum (m : Bool) (keys : List ByteArray) (hk : ∀ j, (strAt keys j).size ≤ 400) : ∀ (l : List Tr) (i : Nat), shapeL l = true → numsL l → nodesL l ≤ 300 → sumS (linesK m keys i l) ≤ 7000 * nodesL l
  | [], i, _, _, _ => by simp [linesK, sumS]
  | t :: ts, i, h, hn, hN => by
    rw [shapeL, Bool.and_eq_true] at h
    simp only [numsL] at hn
    simp only [nodesL] at hN
    have a := linesT_sum t h.1 hn.1 (by omega)
    obtain ⟨b1, b2, -⟩ := linesT_len t h.1 hn.1
    have c := sumS_entry (m := m) (leaf := t.kids.isEmpty) (hk i) b2
    have d := linesK_sum m keys hk ts (i + 1) h.2 hn.2 (by omega)
    rw [linesK, sumS_app]
    simp only [nodesL]; omega
end
theorem idt_sum {t : Tr} (hn : t.nums) : sumS (idtL t) ≤ 2100000 ∧ (idtL t).length ≤ 600 := by
  unfold idtL
  cases h : treeOkB t
  · rw [if_neg (by simp)]; exact ⟨Nat.zero_le _, Nat.zero_le _⟩
  · rw [if_pos rfl]
    have h1 := h
    simp only [treeOkB, Bool.and_eq_true, decide_eq_true_eq] at h1
    have := linesT_sum t h1.2.2 hn h1.2.1
    exact ⟨by omega, (idt_len h hn).1⟩
/-- The lines as one text. -/
def catL (L : List ByteArray) : List UInt8 := L.flatMap fun l => l.data.toList ++ [10]
theorem catL_snoc (L : List ByteArray) (x : ByteArray) : catL (L ++ [x]) = (catL L ++ x.data.toList) ++ [10] := by simp [catL]
theorem catL_len : ∀ L : List ByteArray, (catL L).length = sumS L + L.length
  | [] => rfl
  | x :: L => by
    have ih := catL_len L
    have e : catL (x :: L) = (x.data.toList ++ [10]) ++ catL L := by simp [catL]
    have e2 : x.data.toList.length = x.size := by simp
    rw [e, List.length_append, List.length_append, ih, sumS_cons, e2]; simp only [List.length_cons, List.length_nil]; omega
theorem sumS_take (L : List ByteArray) (k : Nat) : sumS (L.take k) ≤ sumS L := by
  have : sumS L = sumS (L.take k) + sumS (L.drop k) := by rw [← sumS_app, List.take_append_drop]
  omega
theorem join_cat : ∀ (L : List ByteArray), 0 < L.length → Lib.join (L.map (·.data.toList)) [10] ++ [10] = catL L
  | [], h => by simp at h
  | [x], _ => by simp [Lib.join_one, catL]
  | x :: y :: L, _ => by
    have ih := join_cat (y :: L) (by simp)
    have e : catL (x :: y :: L) = x.data.toList ++ (10 :: catL (y :: L)) := by simp [catL]
    rw [e, ← ih]
    simp only [List.map_cons, Lib.join_cons]
    simp [Lib.joinTail]
def idtB (t : Tr) : ByteArray := if (catL (idtL t)).length ≤ 20000 then ⟨(catL (idtL t)).toArray⟩ else ⟨#[]⟩

set_option maxRecDepth 100000 in
set_option maxHeartbeats 4000000 in
theorem sIndentedLines (t : Tr) (S : Nat → Prop) (vk vs : Value) (w : World) (hn : t.nodes ≤ 2000000) (hnu : t.nums) (ht : TreeIn w S t vk vs) :
    Calls Tryd.prog 32 #[.agg #[.int .i64 t.kind, .bool t.flag, .int .i64 t.num, .string t.text, vk, vs]] w (IdtV t w) := by
  obtain ⟨hk0, hs0⟩ := treeIn_iff.1 ht
  obtain ⟨a1, m1, rfl⟩ := hk0.len
  obtain ⟨a2, m2, rfl⟩ := hs0.len
  have HB0 := Lib.hid (alloc_below w #[.int .i64 t.kind, .bool t.flag, .int .i64 t.num, .string t.text, .slice a1 t.keys.length m1, .slice a2 t.kids.length m2] 27)
  have HS0 := Lib.hid (Spill.new w t (.slice a1 t.keys.length m1) (.slice a2 t.kids.length m2) 27)
  obtain ⟨p0, p1, p2, p3, p4, p5⟩ := HS0.out.cells
  have HIN := Lib.hid (ht.keep HB0.out)
  have hok := sTreeOk t S _ _ _ hn HIN.out
  cases hokb : treeOkB t
  · have H := Lib.hid hokb
    rw [hokb] at hok
    have HOK := Lib.hid hok
    clear hok hnu hn ht hk0 hs0 hokb
    go_enter Tryd.func32, Tryd.ntmps32
    go_wp2_with (go_at_call 25; refine (HOK.out).mono ?_; rintro e w1 ⟨rfl, hb1⟩; have HS1 := Lib.hid (HS0.out.keep hb1); have HB1 := Lib.hid (bnext HB0.out hb1); have HI1 := Lib.hid (HIN.out.keep hb1); obtain ⟨q0, q1, q2, q3, q4, q5⟩ := HS1.out.cells)
    go_ret
    exact idtV_no H.out ((RowB.start 9 1 _ _ rfl).since HB1.out)
  have H := Lib.hid hokb
  have HID := Lib.hid (fun w0 hin => sIdt t.nodes t S (.slice a1 t.keys.length m1) (.slice a2 t.kids.length m2) w0 (Nat.le_refl _) hokb hnu hin)
  rw [hokb] at hok
  have HOK := Lib.hid hok
  clear hok hnu hn ht hk0 hs0 hokb
  go_enter Tryd.func32, Tryd.ntmps32
  go_wp2_with (go_at_call 25; refine (HOK.out).mono ?_; rintro e w1 ⟨rfl, hb1⟩; have HS1 := Lib.hid (HS0.out.keep hb1); have HB1 := Lib.hid (bnext HB0.out hb1); have HI1 := Lib.hid (HIN.out.keep hb1); obtain ⟨q0, q1, q2, q3, q4, q5⟩ := HS1.out.cells)
  refine (HID.out _ HI1.out).mono ?_
  rintro e w2 ⟨v, rfl, hrow⟩
  go_wp2
  go_ret
  exact idtV_yes H.out (hrow.since HB1.out)

end Go.Proofs.YtkifacpanipfhaaDoor
