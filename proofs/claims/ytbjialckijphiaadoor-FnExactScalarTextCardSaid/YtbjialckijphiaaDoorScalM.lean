/- RowC, SpotC, BufG, SayP, SayS, DecI, SayL, IdtP, ScalT, merged. -/
import Derived.Test.YtbjialckijphiaaDoorFlat
import Derived.Test.YtbjialckijphiaaDoorStrS
import Derived.Deep.AppendLies
import Derived.Test.YtbjialckijphiaaDoorBuf
import Derived.Test.YtbjialckijphiaaDoorTreeG
import Derived.Test.YtbjialckijphiaaDoorTreeL
import Derived.Test.YtbjialckijphiaaDoorQuo
import Derived.Test.YtbjialckijphiaaDoorWhoS
import Derived.Test.YtbjialckijphiaaDoorLay
import Derived.Lib.LaidTab
import Derived.Lib.AppendIntMem
import Derived.Test.YtbjialckijphiaaDoorQuoI
import Derived.Test.YtbjialckijphiaaDoorKeyText
import Derived.Test.YtbjialckijphiaaDoorTreeOk
namespace Go.Proofs.YtbjialckijphiaaDoor
open Go.RowKit

theorem row_base {w : World} {base e size : Nat} {v : Value} {n : Nat} {xs : List Value} (h : w.ownsRow base e size v n xs) : ∀ k, v.ownBlock = some k → base ≤ k := by
  intro k hk
  rcases h.2 with ⟨rfl, _⟩ | ⟨g, cap, cur, rfl, hg, _⟩
  · simp [Value.ownBlock] at hk
  · simp [Value.ownBlock] at hk; omega
theorem row_keep {w w' : World} {base e size : Nat} {v : Value} {n : Nat} {xs : List Value} (h : w.ownsRow base e size v n xs) (hb : Below w.heap.size w w') : w'.ownsRow base e size v n xs := by
  obtain ⟨h1, h2⟩ := h
  refine ⟨h1, ?_⟩
  rcases h2 with h2 | ⟨g, cap, cur, hv, hg, hh, r⟩
  · exact .inl h2
  · have : g < w.heap.size := (Array.getElem?_eq_some_iff.1 hh).1
    exact .inr ⟨g, cap, cur, hv, hg, by rw [hb.block g this]; exact hh, r⟩
theorem row_mono {w : World} {B B' e size n : Nat} {v : Value} {xs : List Value} (h : w.ownsRow B e size v n xs) (hB : B' ≤ B) : w.ownsRow B' e size v n xs := by
  refine ⟨h.1, ?_⟩
  rcases h.2 with h0 | ⟨g, cap, cur, hv, hb, rest⟩
  · exact .inl h0
  · exact .inr ⟨g, cap, cur, hv, by omega, rest⟩
/-- The row of a slice's element type. -/
def ElemT (t e : TypeId) (c : Nat) : Prop :=
  ∃ i z, Tryd.prog.underlying t = some (.slice e) ∧ Tryd.prog.info? e = some i ∧ i.zero = some z ∧ i.size = c ∧ i.bytes ≤ 64 ∧ z.cells.size = c ∧ 0 < c
theorem Tryd.elStr : ElemT 22 9 1 := by
  obtain ⟨i0, hi, hz0, hz1, hz2⟩ := info_parts Tryd.infoStr
  exact ⟨i0, _, Tryd.underlying22, hi, hz0, hz1, by omega, rfl, by omega⟩
structure RowB (e c : Nat) (W0 w : World) (v : Value) (n : Nat) (xs : List Value) : Prop where
  own : w.ownsRow W0.heap.size e c v n xs
  bel : Below W0.heap.size W0 w
theorem RowB.keep {e c : Nat} {W0 w w' : World} {v : Value} {n : Nat} {xs : List Value} (h : RowB e c W0 w v n xs) (hb : Below w.heap.size w w') : RowB e c W0 w' v n xs := ⟨row_keep h.own hb, bnext h.bel hb⟩
theorem RowB.alloc {e c : Nat} {W0 w : World} {v : Value} {n : Nat} {xs : List Value} (h : RowB e c W0 w v n xs) (o : Obj) : RowB e c W0 (w.alloc o) v n xs := h.keep ((Below.refl _ _).alloc (Nat.le_refl _) _)
theorem RowB.grown {e c : Nat} {W0 w w' : World} {v v' : Value} {n n' : Nat} {xs xs' : List Value} (h : RowB e c W0 w v n xs) (ho : w'.ownsRow W0.heap.size e c v' n' xs') (hg : w.grownBy w' v.ownBlock) : RowB e c W0 w' v' n' xs' :=
  ⟨ho, h.bel.grown hg h.bel.size (row_base h.own)⟩
theorem RowB.since {e c : Nat} {W W0 w : World} {v : Value} {n : Nat} {xs : List Value} (h : RowB e c W0 w v n xs) (hb : Below W.heap.size W W0) : RowB e c W w v n xs := ⟨row_mono h.own hb.size, bnext hb h.bel⟩
theorem RowB.start (e c : Nat) (w : World) (o : Array Value) (ho : o = #[]) : RowB e c w (w.alloc (.cells o e)) (.slice (some ⟨w.heap.size, 0, none⟩) 0 0) 0 [] := by
  subst ho
  exact ⟨World.ownsRow_lit (base := w.heap.size) (e := e) (size := c) w #[] 0 (Nat.le_refl _) (by unfold maxLen; omega) (by simp), (Below.refl _ _).alloc (Nat.le_refl _) _⟩
theorem RowB.sl {e c : Nat} {W0 w : World} {v : Value} {n : Nat} {xs : List Value} {f : Nat → Nat → Value} (h : RowB e c W0 w v n xs) (hx : ∀ i, i < n → ∀ j, j < c → xs[i * c + j]? = some (f i j)) :
    ∃ a cap fp, v = .slice a n cap ∧ FlatOwn w (.slice a n cap) n c f fp ∧ (∀ x, x ∈ fp → W0.heap.size ≤ x) ∧ SlAt w a n c f := by
  obtain ⟨fp, h1, h2⟩ := FlatOwn.of_owns h.own hx
  obtain ⟨a, cap, rfl⟩ := h1.shape
  exact ⟨a, cap, fp, rfl, h1, h2, h1.sl⟩

theorem wpList_row {t e : TypeId} {c : Nat} (hE : ElemT t e c) {ops : Array Oper} {rest : List Oper} {o : Oper} {a : Act} {Q : Exit → Act → World → Prop} (hgd : o.guard = none) (s x : Operand)
    (ho : o.op = .call { callee := .builtin .append, args := #[s, x], argTypes := #[t, t] })
    (v : Value) (n : Nat) (xs news : List Value) (W0 w : World) (hs : a.eval s = v) (hb : RowB e c W0 w v n xs) (cs : Array Value) (m k : Nat) (hc : cs = news.toArray) (hm : news.length = m * c) (h1 : ∀ u ∈ news, u.oneCell' = true)
    (hx : a.eval x = .slice (some ⟨w.heap.size, 0, none⟩) m k) (hlen : n + m ≤ 1000000000)
    (h : ∀ v' w', RowB e c W0 w' v' (n + m) (xs ++ news) → wpList Tryd.prog ops Q rest (a.put o.dst v') w') : wpList Tryd.prog ops Q (o :: rest) a (w.alloc (.cells cs e)) := by
  subst hc
  obtain ⟨i0, z, ht, hi, hz0, hz1, hz2, hz3, hz4⟩ := hE
  have hb' := hb.alloc (.cells news.toArray e)
  refine wpList_append_own _ hgd s x t ho W0.heap.size e i0 z c i0.bytes ht hi hz0 hz1 rfl hz3 hz4 v n _ hs hb'.own ⟨w.heap.size, 0, none⟩ m k news hx hm ?_ h1 (by unfold maxLen; omega) (Nat.le_trans (Nat.mul_le_mul hlen hz2) (by decide)) hb'.bel.size ?_
  · intro j u hj
    have hj' : j < news.length := (List.getElem?_eq_some_iff.1 hj).1
    rw [addr_add, Nat.zero_add]
    have hr := World.rowIs_alloc w news.toArray e (fun j => news.getD j undef) (fun i hi => by
      simp at hi
      simp [hi])
    rw [hr.cell (by simpa using hj'), List.getD_eq_getElem?_getD, hj]; rfl
  · intro v' w' ho' hg _
    exact h v' w' (hb'.grown ho' hg)
theorem step_rowAt {t e : TypeId} {c : Nat} (hE : ElemT t e c) {ops : Array Oper} {o : Oper} {a : Act} {K : Act → World → Prop} {Q : Exit → Act → World → Prop} {E : Prop} (hgd : o.guard = none) (s x : Operand)
    (ho : o.op = .call { callee := .builtin .append, args := #[s, x], argTypes := #[t, t] })
    (v : Value) (n : Nat) (xs news : List Value) (W0 : World) {w : World} (hs : a.eval s = v) (hb : RowB e c W0 w v n xs) (B : Nat) (cs : Array Value) (hB : w.heap[B]? = some (.cells cs e (0, 0))) (m k : Nat) (hc : cs = news.toArray) (hm : news.length = m * c) (h1 : ∀ u ∈ news, u.oneCell' = true)
    (hx : a.eval x = .slice (some ⟨B, 0, none⟩) m k) (hlen : n + m ≤ 1000000000)
    (h : ∀ v' w', RowB e c W0 w' v' (n + m) (xs ++ news) → K (a.put o.dst v') w') :
    if Region.wanted o (yielded ops a.tmps) = true then Oper.wp Tryd.prog o a w K Q else E := by
  have hw : Region.wanted o (yielded ops a.tmps) = true := by simp [Region.wanted, hgd]
  rw [if_pos hw]
  subst hc
  obtain ⟨i0, z, ht, hi, hz0, hz1, hz2, hz3, hz4⟩ := hE
  refine wp_append_own _ s x t ho W0.heap.size e i0 z c i0.bytes ht hi hz0 hz1 rfl hz3 hz4 v n _ hs hb.own ⟨B, 0, none⟩ m k news hx hm ?_ h1 (by unfold maxLen; omega) (Nat.le_trans (Nat.mul_le_mul hlen hz2) (by decide)) hb.bel.size ?_
  · intro j u hj
    exact World.news_of_block hB j u (by simpa using hj)
  · intro v' w' ho' hg _
    exact h v' w' (hb.grown ho' hg)

theorem strCell (l : List ByteArray) (i : Nat) (h : i < l.length) (j : Nat) (hj : j < 1) : (l.map Value.string)[i * 1 + j]? = some (strF l i j) := by
  obtain rfl : j = 0 := by omega
  simp [strF, strAt, List.getD_eq_getElem?_getD, h]

end Go.Proofs.YtbjialckijphiaaDoor
namespace Go.Proofs.YtbjialckijphiaaDoor
open Go.RowKit

/-- Where the slice lies behind an append: where it lay, or in a new block. -/
def Spot (v v' : Value) (w : World) : Prop := v'.ownBlock = v.ownBlock ∨ ∃ g, v'.ownBlock = some g ∧ w.heap.size ≤ g

theorem run_append_spot {P : Program} (w : World) (base : Nat) (t ty e : TypeId) (i : TypeInfo) (z : Value) (size bytes : Nat) (ht : P.underlying t = some (.slice e)) (hi : P.info? e = some i) (hz : i.zero = some z)
    (hsize : i.size = size) (hby : i.bytes = bytes) (hzs : z.cells.size = size) (hsz : 0 < size)
    (v : Value) (n : Nat) (xs : List Value) (hown : w.ownsRow base e size v n xs)
    (a : Addr) (m c : Nat) (news : List Value) (hl : news.length = m * size) (hnews : ∀ j u, news[j]? = some u → w.cell? (a.add j) = some u) (h1 : ∀ u ∈ news, u.oneCell' = true)
    (h63 : n + m ≤ maxLen) (hbytes : (n + m) * bytes ≤ 140737488355328) (hbase : base ≤ w.heap.size) :
    ∃ v' w', (Builtin.append_ #[t, t] ty #[v, .slice (some a) m c]).run P w = .ok v' w' ∧ w'.ownsRow base e size v' (n + m) (xs ++ news) ∧ w.grownBy w' v.ownBlock ∧ Spot v v' w := by
  obtain ⟨v', w', hr, h2, h3, -⟩ := run_append_own (P := P) w base t ty e i z size bytes ht hi hz hsize hby hzs hsz v n xs hown a m c news hl hnews h1 h63 hbytes hbase
  refine ⟨v', w', hr, h2, h3, ?_⟩
  rcases hown.2 with ⟨rfl, rfl⟩ | ⟨g, cap, cur, rfl, hbg, hg, hnc, hcm, hcs, htake⟩
  · have hx : xs = [] := List.eq_nil_of_length_eq_zero (by simpa using hown.1)
    subst hx
    obtain ⟨v2, w2, hr2, k2, -, -⟩ := run_append_own (P := P) w w.heap.size t ty e i z size bytes ht hi hz hsize hby hzs hsz _ 0 [] (World.ownsRow_nil w w.heap.size e size) a m c news hl hnews h1 h63 hbytes (Nat.le_refl _)
    have := hr.symm.trans hr2
    injection this with e1 e2
    subst e1
    cases hb : v'.ownBlock with
    | none => exact .inl (by rw [hb]; rfl)
    | some g => exact .inr ⟨g, hb, (k2.lt g hb).1⟩
  · subst hsize; subst hby
    by_cases hroom : n + m ≤ cap
    · have hfit : n * i.size + news.length ≤ cur.size := by rw [hl, hcs, ← Nat.add_mul]; exact Nat.mul_le_mul_right _ hroom
      have := hr.symm.trans (run_append_room (P := P) w t ty e i ht hi g n cap cur hg a m c news hl hnews h1 hroom hfit)
      injection this with e1 e2
      subst e1
      exact .inl rfl
    · have holds : ∀ j u, xs[j]? = some u → w.cell? ((⟨g, 0, none⟩ : Addr).add j) = some u := hown.cells (g := g) rfl
      have := hr.symm.trans (run_append_grow (P := P) w t ty e i z ht hi hz ⟨g, 0, none⟩ n cap xs hown.1 holds a m c news hl hnews (by omega) (by unfold maxLen at h63; omega) (growslice_fits (by omega) hbytes))
      injection this with e1 e2
      subst e1
      exact .inr ⟨w.heap.size, rfl, Nat.le_refl _⟩

theorem wpList_append_spot {P : Program} {w : World} {ops : Array Oper} {rest : List Oper} {o : Oper} {a : Act} {Q : Exit → Act → World → Prop} (hgd : o.guard = none) (s x : Operand) (t : TypeId)
    (ho : o.op = .call { callee := .builtin .append, args := #[s, x], argTypes := #[t, t] })
    (base : Nat) (e : TypeId) (i : TypeInfo) (z : Value) (size bytes : Nat) (ht : P.underlying t = some (.slice e)) (hi : P.info? e = some i) (hz : i.zero = some z)
    (hsize : i.size = size) (hby : i.bytes = bytes) (hzs : z.cells.size = size) (hsz : 0 < size)
    (v : Value) (n : Nat) (xs : List Value) (hs : a.eval s = v) (hown : w.ownsRow base e size v n xs)
    (ad : Addr) (m c : Nat) (news : List Value) (hx : a.eval x = .slice (some ad) m c) (hl : news.length = m * size) (hnews : ∀ j u, news[j]? = some u → w.cell? (ad.add j) = some u) (h1 : ∀ u ∈ news, u.oneCell' = true)
    (h63 : n + m ≤ maxLen) (hbytes : (n + m) * bytes ≤ 140737488355328) (hbase : base ≤ w.heap.size)
    (h : ∀ v' w', w'.ownsRow base e size v' (n + m) (xs ++ news) → w.grownBy w' v.ownBlock → Spot v v' w → wpList P ops Q rest (a.put o.dst v') w') : wpList P ops Q (o :: rest) a w := by
  refine wpList_plain hgd fun K hK => ?_
  obtain ⟨v', w', hr, h2, h3, h4⟩ := run_append_spot (P := P) w base t o.type e i z size bytes ht hi hz hsize hby hzs hsz v n xs hown ad m c news hl hnews h1 h63 hbytes hbase
  unfold Oper.wp execOp
  simp only [ho, resolve, invoke, builtin, Sem.run_bind, Sem.run_pure, Result.andThen_ok, List.map_toArray, List.map_cons, List.map_nil, hs, hx, hr]
  exact hK _ _ (h v' w' h2 h3 h4)

theorem wp_append_spot {P : Program} {w : World} {o : Oper} {a : Act} {K : Act → World → Prop} {Q : Exit → Act → World → Prop} (s x : Operand) (t : TypeId)
    (ho : o.op = .call { callee := .builtin .append, args := #[s, x], argTypes := #[t, t] })
    (base : Nat) (e : TypeId) (i : TypeInfo) (z : Value) (size bytes : Nat) (ht : P.underlying t = some (.slice e)) (hi : P.info? e = some i) (hz : i.zero = some z)
    (hsize : i.size = size) (hby : i.bytes = bytes) (hzs : z.cells.size = size) (hsz : 0 < size)
    (v : Value) (n : Nat) (xs : List Value) (hs : a.eval s = v) (hown : w.ownsRow base e size v n xs)
    (ad : Addr) (m c : Nat) (news : List Value) (hx : a.eval x = .slice (some ad) m c) (hl : news.length = m * size) (hnews : ∀ j u, news[j]? = some u → w.cell? (ad.add j) = some u) (h1 : ∀ u ∈ news, u.oneCell' = true)
    (h63 : n + m ≤ maxLen) (hbytes : (n + m) * bytes ≤ 140737488355328) (hbase : base ≤ w.heap.size)
    (h : ∀ v' w', w'.ownsRow base e size v' (n + m) (xs ++ news) → w.grownBy w' v.ownBlock → Spot v v' w → K (a.put o.dst v') w') : o.wp P a w K Q := by
  obtain ⟨v', w', hr, h2, h3, h4⟩ := run_append_spot (P := P) w base t o.type e i z size bytes ht hi hz hsize hby hzs hsz v n xs hown ad m c news hl hnews h1 h63 hbytes hbase
  unfold Oper.wp execOp
  simp only [ho, resolve, invoke, builtin, Sem.run_bind, Sem.run_pure, Result.andThen_ok, List.map_toArray, List.map_cons, List.map_nil, hs, hx, hr]
  exact h v' w' h2 h3 h4

theorem apart_grown {w w' : World} {v : Value} (h : w.grownBy w' v.ownBlock) : Apart v.ownBlock.toList w w' :=
  ⟨h.os, h.tape, h.output, h.size, fun k hk hn => h.block k hk (fun e => hn (by rw [← e]; simp))⟩
/-- A row that grows, apart from what lies between lo and hi: where it began, or behind hi. -/
structure RowS (e c lo hi : Nat) (W0 w : World) (v : Value) (n : Nat) (xs : List Value) : Prop where
  row : RowB e c W0 w v n xs
  sep : ∀ b, v.ownBlock = some b → b < lo ∨ hi ≤ b
  hi : hi ≤ w.heap.size
theorem RowS.keep {e c lo hi : Nat} {W0 w w' : World} {v : Value} {n : Nat} {xs : List Value} (h : RowS e c lo hi W0 w v n xs) (hb : Below w.heap.size w w') : RowS e c lo hi W0 w' v n xs := ⟨h.row.keep hb, h.sep, Nat.le_trans h.hi hb.size⟩
theorem RowS.alloc {e c lo hi : Nat} {W0 w : World} {v : Value} {n : Nat} {xs : List Value} (h : RowS e c lo hi W0 w v n xs) (o : Obj) : RowS e c lo hi W0 (w.alloc o) v n xs := h.keep ((Below.refl _ _).alloc (Nat.le_refl _) _)
theorem RowS.next {e c lo hi : Nat} {W0 w w' : World} {v v' : Value} {n n' : Nat} {xs xs' : List Value} (h : RowS e c lo hi W0 w v n xs) (ho : w'.ownsRow W0.heap.size e c v' n' xs') (hg : w.grownBy w' v.ownBlock) (hs : Spot v v' w) : RowS e c lo hi W0 w' v' n' xs' := by
  refine ⟨h.row.grown ho hg, fun b hb => ?_, Nat.le_trans h.hi hg.size⟩
  rcases hs with hs | ⟨g, hs, hge⟩
  · exact h.sep b (by rw [← hs]; exact hb)
  · rw [hs] at hb
    cases hb
    exact .inr (Nat.le_trans h.hi hge)
theorem GFlat.grown {e c lo hi : Nat} {W0 w w' : World} {v : Value} {n : Nat} {xs : List Value} (h : RowS e c lo hi W0 w v n xs) (hg : w.grownBy w' v.ownBlock) {u : Value} {m c' : Nat} {f : Nat → Nat → Value} {fp : List Nat} (hf : GFlat w lo hi u m c' f fp) : GFlat w' lo hi u m c' f fp :=
  hf.far (apart_grown hg) (fun x hx => h.sep x (by simpa using hx))

theorem wpList_rowS {t e : TypeId} {c lo hi : Nat} (hE : ElemT t e c) {ops : Array Oper} {rest : List Oper} {o : Oper} {a : Act} {Q : Exit → Act → World → Prop} (hgd : o.guard = none) (s x : Operand)
    (ho : o.op = .call { callee := .builtin .append, args := #[s, x], argTypes := #[t, t] })
    (v : Value) (n : Nat) (xs news : List Value) (W0 w : World) (hs : a.eval s = v) (hb : RowS e c lo hi W0 w v n xs) (cs : Array Value) (m k : Nat) (hc : cs = news.toArray) (hm : news.length = m * c) (h1 : ∀ u ∈ news, u.oneCell' = true)
    (hx : a.eval x = .slice (some ⟨w.heap.size, 0, none⟩) m k) (hlen : n + m ≤ 1000000000)
    (h : ∀ v' w', RowS e c lo hi W0 w' v' (n + m) (xs ++ news) → (w.alloc (.cells cs e)).grownBy w' v.ownBlock → wpList Tryd.prog ops Q rest (a.put o.dst v') w') : wpList Tryd.prog ops Q (o :: rest) a (w.alloc (.cells cs e)) := by
  subst hc
  obtain ⟨i0, z, ht, hi, hz0, hz1, hz2, hz3, hz4⟩ := hE
  have hb' := hb.alloc (.cells news.toArray e)
  refine wpList_append_spot hgd s x t ho W0.heap.size e i0 z c i0.bytes ht hi hz0 hz1 rfl hz3 hz4 v n _ hs hb'.row.own ⟨w.heap.size, 0, none⟩ m k news hx hm ?_ h1 (by unfold maxLen; omega) (Nat.le_trans (Nat.mul_le_mul hlen hz2) (by decide)) hb'.row.bel.size ?_
  · intro j u hj
    have hj' : j < news.length := (List.getElem?_eq_some_iff.1 hj).1
    rw [addr_add, Nat.zero_add]
    have hr := World.rowIs_alloc w news.toArray e (fun j => news.getD j undef) (fun i hi => by
      simp at hi
      simp [hi])
    rw [hr.cell (by simpa using hj'), List.getD_eq_getElem?_getD, hj]; rfl
  · intro v' w' ho' hg hsp
    exact h v' w' (hb'.next ho' hg hsp) hg
theorem step_rowS {t e : TypeId} {c lo hi : Nat} (hE : ElemT t e c) {ops : Array Oper} {o : Oper} {a : Act} {K : Act → World → Prop} {Q : Exit → Act → World → Prop} {E : Prop} (hgd : o.guard = none) (s x : Operand)
    (ho : o.op = .call { callee := .builtin .append, args := #[s, x], argTypes := #[t, t] })
    (v : Value) (n : Nat) (xs news : List Value) (W0 : World) {w : World} (hs : a.eval s = v) (hb : RowS e c lo hi W0 w v n xs) (B : Nat) (cs : Array Value) (hB : w.heap[B]? = some (.cells cs e (0, 0))) (m k : Nat) (hc : cs = news.toArray) (hm : news.length = m * c) (h1 : ∀ u ∈ news, u.oneCell' = true)
    (hx : a.eval x = .slice (some ⟨B, 0, none⟩) m k) (hlen : n + m ≤ 1000000000)
    (h : ∀ v' w', RowS e c lo hi W0 w' v' (n + m) (xs ++ news) → w.grownBy w' v.ownBlock → K (a.put o.dst v') w') :
    if Region.wanted o (yielded ops a.tmps) = true then Oper.wp Tryd.prog o a w K Q else E := by
  have hw : Region.wanted o (yielded ops a.tmps) = true := by simp [Region.wanted, hgd]
  rw [if_pos hw]
  subst hc
  obtain ⟨i0, z, ht, hi, hz0, hz1, hz2, hz3, hz4⟩ := hE
  refine wp_append_spot s x t ho W0.heap.size e i0 z c i0.bytes ht hi hz0 hz1 rfl hz3 hz4 v n _ hs hb.row.own ⟨B, 0, none⟩ m k news hx hm ?_ h1 (by unfold maxLen; omega) (Nat.le_trans (Nat.mul_le_mul hlen hz2) (by decide)) hb.row.bel.size ?_
  · intro j u hj
    exact World.news_of_block hB j u (by simpa using hj)
  · intro v' w' ho' hg hsp
    exact h v' w' (hb.next ho' hg hsp) hg

end Go.Proofs.YtbjialckijphiaaDoor
namespace Go.Proofs.YtbjialckijphiaaDoor
open Go.RowKit

structure Gr (w w' : World) (v v' : Value) : Prop where
  hg : w.grownBy w' v.ownBlock
  hs : Spot v v' w
theorem Gr.refl (w : World) (v : Value) : Gr w w v v := ⟨⟨rfl, rfl, rfl, Nat.le_refl _, fun _ _ _ => rfl⟩, .inl rfl⟩
theorem Gr.block {a b : World} {u v : Value} (h : Gr a b u v) {k : Nat} (hk : k < a.heap.size) (hn : some k ≠ u.ownBlock) : b.heap[k]? = a.heap[k]? := h.hg.block k hk hn
theorem Gr.trans {a b c : World} {u v x : Value} (h : Gr a b u v) (k : Gr b c v x) : Gr a c u x := by
  refine ⟨⟨k.hg.os.trans h.hg.os, k.hg.tape.trans h.hg.tape, k.hg.output.trans h.hg.output, Nat.le_trans h.hg.size k.hg.size, fun n hn hne => ?_⟩, ?_⟩
  · refine (k.hg.block n (Nat.lt_of_lt_of_le hn h.hg.size) ?_).trans (h.hg.block n hn hne)
    rcases h.hs with e | ⟨g, e, hge⟩
    · rw [e]; exact hne
    · rw [e]; intro he; cases he; omega
  · rcases k.hs with e | ⟨g, e, hge⟩
    · rcases h.hs with e' | ⟨g', e', hge'⟩
      · exact .inl (e.trans e')
      · exact .inr ⟨g', e.trans e', hge'⟩
    · exact .inr ⟨g, e, Nat.le_trans h.hg.size hge⟩
theorem Gr.keep {a b c : World} {u v : Value} (h : Gr a b u v) (hb : Below b.heap.size b c) : Gr a c u v :=
  ⟨⟨hb.os.trans h.hg.os, hb.tape.trans h.hg.tape, hb.output.trans h.hg.output, Nat.le_trans h.hg.size hb.size, fun n hn hne => (hb.block n (Nat.lt_of_lt_of_le hn h.hg.size)).trans (h.hg.block n hn hne)⟩, h.hs⟩
theorem Gr.pre {a b c : World} {u v : Value} (hb : Below a.heap.size a b) (h : Gr b c u v) : Gr a c u v := by
  refine ⟨⟨h.hg.os.trans hb.os, h.hg.tape.trans hb.tape, h.hg.output.trans hb.output, Nat.le_trans hb.size h.hg.size, fun n hn hne => (h.hg.block n (Nat.lt_of_lt_of_le hn hb.size) hne).trans (hb.block n hn)⟩, ?_⟩
  rcases h.hs with e | ⟨g, e, hge⟩
  · exact .inl e
  · exact .inr ⟨g, e, Nat.le_trans hb.size hge⟩

/-- Bytes that grew: since world a, out of the value u. -/
structure BufG (W0 a : World) (u : Value) (w : World) (v : Value) (l : List UInt8) : Prop where
  buf : Buf W0 w v l
  gr : Gr a w u v
theorem BufG.start {W0 w : World} {v : Value} {l : List UInt8} (h : Buf W0 w v l) : BufG W0 w v w v l := ⟨h, Gr.refl _ _⟩
theorem BufG.keep {W0 a w w' : World} {u v : Value} {l : List UInt8} (h : BufG W0 a u w v l) (hb : Below w.heap.size w w') : BufG W0 a u w' v l := ⟨h.buf.keep hb, h.gr.keep hb⟩
theorem BufG.alloc {W0 a w : World} {u v : Value} {l : List UInt8} (h : BufG W0 a u w v l) (o : Obj) : BufG W0 a u (w.alloc o) v l := h.keep ((Below.refl _ _).alloc (Nat.le_refl _) _)
theorem BufG.trans {W0 a w w' : World} {u v v' : Value} {l l' : List UInt8} (h : BufG W0 a u w v l) (k : BufG W0 w v w' v' l') : BufG W0 a u w' v' l' := ⟨k.buf, h.gr.trans k.gr⟩
theorem BufG.pre {W0 a b w : World} {u v : Value} {l : List UInt8} (hb : Below a.heap.size a b) (h : BufG W0 b u w v l) : BufG W0 a u w v l := ⟨h.buf, Gr.pre hb h.gr⟩
/-- The row's own block is no block that is new since w. -/
theorem Buf.lt {W0 w : World} {v : Value} {l : List UInt8} (h : Buf W0 w v l) {k : Nat} (hk : w.heap.size ≤ k) : some k ≠ v.ownBlock := by
  intro e
  have := (h.own.lt k e.symm).2
  omega

theorem run_append_spot_string {P : Program} (w : World) (base : Nat) (t u ty e : TypeId) (i : TypeInfo) (ht : P.underlying t = some (.slice e)) (hu : P.underlying u = some .string) (hi : P.info? e = some i) (hz : i.zero = some (.int .u8 0))
    (hsize : i.size = 1) (hby : i.bytes = 1)
    (v : Value) (n : Nat) (xs : List Value) (hown : w.ownsRow base e 1 v n xs) (s : ByteArray)
    (h63 : n + s.size ≤ maxLen) (hbytes : n + s.size ≤ 140737488355328) (hbase : base ≤ w.heap.size) :
    ∃ v' w', (Builtin.append_ #[t, u] ty #[v, .string s]).run P w = .ok v' w' ∧ w'.ownsRow base e 1 v' (n + s.size) (xs ++ Lib.strCells s) ∧ w.grownBy w' v.ownBlock ∧ Spot v v' w := by
  obtain ⟨v', w', hr, h2, h3, -⟩ := Lib.run_append_own_string (P := P) w base t u ty e i ht hu hi hz hsize hby v n xs hown s h63 hbytes hbase
  refine ⟨v', w', hr, h2, h3, ?_⟩
  have hxl : xs.length = n := by simpa using hown.1
  rcases hown.2 with ⟨rfl, rfl⟩ | ⟨g, cap, cur, rfl, hbg, hg, hnc, hcm, hcs, htake⟩
  · have hx : xs = [] := List.eq_nil_of_length_eq_zero hxl
    subst hx
    obtain ⟨v2, w2, hr2, k2, -, -⟩ := Lib.run_append_own_string (P := P) w w.heap.size t u ty e i ht hu hi hz hsize hby _ 0 [] (World.ownsRow_nil w w.heap.size e 1) s h63 hbytes (Nat.le_refl _)
    have := hr.symm.trans hr2
    injection this with e1 e2
    subst e1
    cases hb : v'.ownBlock with
    | none => exact .inl (by rw [hb]; rfl)
    | some g => exact .inr ⟨g, hb, (k2.lt g hb).1⟩
  · by_cases hroom : n + s.size ≤ cap
    · have hcs' : cur.size = cap := by simpa using hcs
      have := hr.symm.trans (Lib.run_append_room_string (P := P) w t u ty e i ht hu hi hsize g n cap cur hg s hroom (by omega))
      injection this with e1 e2
      subst e1
      exact .inl rfl
    · have holds : ∀ j x, xs[j]? = some x → w.cell? ((⟨g, 0, none⟩ : Addr).add j) = some x := hown.cells (g := g) rfl
      have := hr.symm.trans (Lib.run_append_grow_string (P := P) w t u ty e i (.int .u8 0) ht hu hi hz ⟨g, 0, none⟩ n cap xs (by rw [hsize]; simpa using hxl) holds s (by omega) (by unfold maxLen at h63; omega) (by rw [hby]; exact growslice_fits (by omega) (by omega)))
      injection this with e1 e2
      subst e1
      exact .inr ⟨w.heap.size, rfl, Nat.le_refl _⟩

/-- 'append(v, text...)'. -/
theorem wpList_bufGS {ops : Array Oper} {rest : List Oper} {o : Oper} {a : Act} {Q : Exit → Act → World → Prop} (hgd : o.guard = none) (s x : Operand)
    (ho : o.op = .call { callee := .builtin .append, args := #[s, x], argTypes := #[44, 9] })
    (v : Value) (l : List UInt8) (W0 wa : World) (u : Value) (w : World) (hs : a.eval s = v) (hb : BufG W0 wa u w v l) (t : ByteArray)
    (hx : a.eval x = .string t) (hlen : l.length + t.size ≤ 1000000000)
    (h : ∀ v' w', BufG W0 wa u w' v' (l ++ t.data.toList) → Gr w w' v v' → wpList Tryd.prog ops Q rest (a.put o.dst v') w') : wpList Tryd.prog ops Q (o :: rest) a w := by
  obtain ⟨i0, hi, hz0, hz1, hz2⟩ := info_parts Tryd.infoU8
  refine wpList_plain hgd fun K hK => ?_
  obtain ⟨v', w', hr, h2, h3, h4⟩ := run_append_spot_string (P := Tryd.prog) w W0.heap.size 44 9 o.type 5 i0 Tryd.underlying44 Tryd.underlying9 hi hz0 hz1 hz2 v l.length _ hb.buf.own t (by unfold maxLen; omega) (by omega) hb.buf.bel.size
  unfold Oper.wp execOp
  simp only [ho, resolve, invoke, builtin, Sem.run_bind, Sem.run_pure, Result.andThen_ok, List.map_toArray, List.map_cons, List.map_nil, hs, hx, hr]
  have hgr : Gr w w' v v' := ⟨h3, h4⟩
  exact hK _ _ (h v' w' ⟨hb.buf.grown (l' := l ++ t.data.toList) (by simpa [strCells_eq] using h2) h3, hb.gr.trans hgr⟩ hgr)

/-- 'append(v, bytes..)': the new bytes lie in the block that the statement has just laid. -/
theorem wpList_bufG {ops : Array Oper} {rest : List Oper} {o : Oper} {a : Act} {Q : Exit → Act → World → Prop} (hgd : o.guard = none) (s x : Operand)
    (ho : o.op = .call { callee := .builtin .append, args := #[s, x], argTypes := #[44, 44] })
    (v : Value) (l news : List UInt8) (W0 wa : World) (u : Value) (w : World) (hs : a.eval s = v) (hb : BufG W0 wa u w v l) (cs : Array Value) (m c : Nat) (hc : cs = (news.map byteV).toArray) (hm : m = news.length)
    (hx : a.eval x = .slice (some ⟨w.heap.size, 0, none⟩) m c) (hlen : l.length + m ≤ 1000000000)
    (h : ∀ v' w', BufG W0 wa u w' v' (l ++ news) → Gr w w' v v' → wpList Tryd.prog ops Q rest (a.put o.dst v') w') : wpList Tryd.prog ops Q (o :: rest) a (w.alloc (.cells cs 5)) := by
  subst hc; subst hm
  obtain ⟨i0, hi, hz0, hz1, hz2⟩ := info_parts Tryd.infoU8
  have hb' := hb.alloc (.cells (news.map byteV).toArray 5)
  refine wpList_append_spot hgd s x 44 ho W0.heap.size 5 i0 (.int .u8 0) 1 1 Tryd.underlying44 hi hz0 hz1 hz2 rfl (by decide) v l.length _ hs hb'.buf.own ⟨w.heap.size, 0, none⟩ news.length c (news.map byteV) hx (by simp) ?_ (fun u hu => byteV_one hu) (by unfold maxLen; omega) (by omega) hb'.buf.bel.size ?_
  · intro j u hj
    have hj' : j < news.length := by have := (List.getElem?_eq_some_iff.1 hj).1; simpa using this
    rw [addr_add, Nat.zero_add]
    have hr := World.rowIs_alloc w (news.map byteV).toArray 5 (fun j => (news.map byteV).getD j undef) (fun i hi => by
      simp at hi
      simp [hi])
    rw [hr.cell (by simpa using hj'), List.getD_eq_getElem?_getD, hj]; rfl
  · intro v' w' ho' hg hsp
    have hgr : Gr (w.alloc (.cells (news.map byteV).toArray 5)) w' v v' := ⟨hg, hsp⟩
    exact h v' w' ⟨hb'.buf.grown (l' := l ++ news) (by simpa using ho') hg, hb'.gr.trans hgr⟩ (Gr.pre ((Below.refl _ _).alloc (Nat.le_refl _) _) hgr)

end Go.Proofs.YtbjialckijphiaaDoor
namespace Go.Proofs.YtbjialckijphiaaDoor
open Go.RowKit

def trueL : List UInt8 := [116, 114, 117, 101]
def falseL : List UInt8 := [102, 97, 108, 115, 101]
def nullL : List UInt8 := [110, 117, 108, 108]
def qL (s : ByteArray) : List UInt8 := (quotedB s).data.toList
def leafL (k : Int) (f : Bool) (n : Int) (s : ByteArray) : List UInt8 :=
  if k = 1 then nullL else if k = 2 then (if f = true then trueL else falseL) else if k = 3 then Lib.itoa n else qL s
def headK (m : Bool) (keys : List ByteArray) (i : Nat) : List UInt8 := (if 0 < i then [44] else []) ++ (if m = true then qL (strAt keys i) ++ [58] else [])
mutual
/-- What a tree is told as. -/
def sayB : Tr → List UInt8
  | .mk k f n s keys kids => if k < 5 then leafL k f n s else (if k = 6 then 123 else 91) :: (sayK (k == 6) keys 0 kids ++ [if k = 6 then 125 else 93])
def sayK (m : Bool) (keys : List ByteArray) (i : Nat) : List Tr → List UInt8
  | [] => []
  | t :: ts => headK m keys i ++ (sayB t ++ sayK m keys (i + 1) ts)
end
theorem say_leaf {t : Tr} (h : t.kind < 5) : sayB t = leafL t.kind t.flag t.num t.text := by
  cases t; simp only [Tr.kind] at h; simp only [sayB, if_pos h, Tr.kind, Tr.flag, Tr.num, Tr.text]
theorem say_list {t : Tr} (h : t.kind = 5) : sayB t = 91 :: (sayK false t.keys 0 t.kids ++ [93]) := by
  cases t; simp only [Tr.kind] at h; subst h; simp only [sayB, Tr.keys, Tr.kids]; rfl
theorem say_map {t : Tr} (h : t.kind = 6) : sayB t = 123 :: (sayK true t.keys 0 t.kids ++ [125]) := by
  cases t; simp only [Tr.kind] at h; subst h; simp only [sayB, Tr.keys, Tr.kids]; rfl
theorem say_null {t : Tr} (h : t.kind = 1) : sayB t = nullL := by rw [say_leaf (by omega), leafL, if_pos h]
theorem say_true {t : Tr} (h : t.kind = 2) (hf : t.flag = true) : sayB t = trueL := by rw [say_leaf (by omega), leafL, if_neg (by omega), if_pos h, if_pos hf]
theorem say_false {t : Tr} (h : t.kind = 2) (hf : t.flag = false) : sayB t = falseL := by rw [say_leaf (by omega), leafL, if_neg (by omega), if_pos h, if_neg (by simp [hf])]
theorem say_int {t : Tr} (h : t.kind = 3) : sayB t = Lib.itoa t.num := by rw [say_leaf (by omega), leafL, if_neg (by omega), if_neg (by omega), if_pos h]
theorem say_text {t : Tr} (h : t.kind = 4) : sayB t = qL t.text := by rw [say_leaf (by omega), leafL, if_neg (by omega), if_neg (by omega), if_neg (by omega)]
theorem kids_drop {l : List Tr} {k : Nat} (h : k < l.length) : l.drop k = kidAt l k :: l.drop (k + 1) := by
  rw [kidAt_mem h]; exact List.drop_eq_getElem_cons h
/-- As far as round k: acc stands, what is still to come is told by the rest. -/
def SayAt (m : Bool) (keys : List ByteArray) (kids : List Tr) (k : Nat) (acc tail all : List UInt8) : Prop := acc ++ (sayK m keys k (kids.drop k) ++ tail) = all
theorem sayAt_start (m : Bool) (keys : List ByteArray) (kids : List Tr) (acc tail : List UInt8) : SayAt m keys kids 0 acc tail (acc ++ (sayK m keys 0 kids ++ tail)) := rfl
theorem sayAt_step {m : Bool} {keys : List ByteArray} {kids : List Tr} {k : Nat} {acc tail all : List UInt8} (h : SayAt m keys kids k acc tail all) (hk : k < kids.length) :
    SayAt m keys kids (k + 1) ((acc ++ headK m keys k) ++ sayB (kidAt kids k)) tail all := by
  rw [SayAt, kids_drop hk, sayK] at h
  rw [SayAt, ← h]; simp only [List.append_assoc]
theorem sayAt_end {m : Bool} {keys : List ByteArray} {kids : List Tr} {k : Nat} {acc tail all : List UInt8} (h : SayAt m keys kids k acc tail all) (hk : kids.length ≤ k) : acc ++ tail = all := by
  rw [SayAt, List.drop_of_length_le hk, sayK, List.nil_append] at h; exact h
theorem sayAt_len {m : Bool} {keys : List ByteArray} {kids : List Tr} {k : Nat} {acc tail all : List UInt8} (h : SayAt m keys kids k acc tail all) : acc.length + tail.length ≤ all.length := by
  rw [SayAt] at h; rw [← h]; simp only [List.length_append]; omega
theorem qL_len (s : ByteArray) : (qL s).length ≤ 6 * s.size + 2 := by
  unfold qL quotedB
  split
  · have := escTo_len s s.size
    simp only [List.length_append, List.length_singleton]; omega
  · simp
theorem itoa_len (n : Int) (h : -9223372036854775808 ≤ n ∧ n ≤ 9223372036854775807) : (Lib.itoa n).length ≤ 21 := by
  have hd : ∀ u : Nat, u < 18446744073709551616 → (Lib.decDigits u).length ≤ 20 := fun u hu => by
    have := DecRel.size (M := u) (m := 0) (t := ⟨(Lib.decDigits u).toArray⟩) (Or.inl ⟨rfl, by simp⟩) hu
    have e : (⟨(Lib.decDigits u).toArray⟩ : ByteArray).size = (Lib.decDigits u).length := by show (List.toArray _).size = _; rw [List.size_toArray]
    omega
  unfold Lib.itoa
  split
  · have := hd n.natAbs (by omega)
    simp only [List.length_cons]; omega
  · have := hd n.natAbs (by omega)
    first | omega | (have := hd n.toNat (by omega); omega)
theorem text_size {s : ByteArray} (h : textOkB s = true) : s.size ≤ 400 := by
  simp only [textOkB, Bool.and_eq_true, decide_eq_true_eq] at h; exact h.1
theorem key_size {l : List ByteArray} (h : keysOkB l = true) (i : Nat) : (strAt l i).size ≤ 400 := by
  rcases Nat.lt_or_ge i l.length with hi | hi
  · rw [keysOkB, List.all_eq_true] at h
    have := h i (List.mem_range.2 hi)
    rw [keyOkAt, Bool.and_eq_true] at this
    exact text_size this.1
  · rw [strAt, List.getD_eq_getElem?_getD, List.getElem?_eq_none hi]; exact Nat.zero_le _
theorem head_kind {t : Tr} (h : headB t = true) : 1 ≤ t.kind ∧ t.kind ≤ 6 ∧ textOkB t.text = true ∧ (t.kind = 6 → t.keys.length = t.kids.length) ∧ (t.kind < 5 → t.kids.length = 0) ∧ (t.kind ≠ 6 → t.keys.length = 0) := by
  simp only [headB, betweenB, Bool.and_eq_true, decide_eq_true_eq, Bool.not_eq_true', Bool.and_eq_false_iff, beq_eq_false_iff_ne, bne_eq_false_iff_eq, decide_eq_false_iff_not, ne_eq] at h
  obtain ⟨⟨h1, h2⟩, -, -, -, h6, h7, h8, h9⟩ := h
  refine ⟨h1, h2, h8, fun e => ?_, fun e => ?_, fun e => ?_⟩
  · rcases h9 with h9 | h9
    · exact absurd e h9
    · exact h9
  · rcases h7 with h7 | h7
    · omega
    · omega
  · rcases h6 with h6 | h6
    · omega
    · exact absurd h6 e
theorem shape_parts {t : Tr} (h : shapeB t = true) : headB t = true ∧ keysOkB t.keys = true ∧ shapeL t.kids = true := by
  rw [shape_eq, Bool.and_eq_true, Bool.and_eq_true] at h; exact h
theorem shapeL_kid : ∀ {l : List Tr} {k : Nat}, shapeL l = true → k < l.length → shapeB (kidAt l k) = true
  | [], k, _, h => by simp at h
  | t :: ts, 0, h, _ => by rw [shapeL, Bool.and_eq_true] at h; exact h.1
  | t :: ts, k + 1, h, hk => by rw [shapeL, Bool.and_eq_true] at h; exact shapeL_kid (l := ts) (k := k) h.2 (by simpa using hk)
theorem headK_len (m : Bool) {keys : List ByteArray} (hk : ∀ j, (strAt keys j).size ≤ 400) (i : Nat) : (headK m keys i).length ≤ 2404 := by
  have h1 := qL_len (strAt keys i)
  have h2 := hk i
  unfold headK
  rw [List.length_append]
  have a : (if 0 < i then [44] else ([] : List UInt8)).length ≤ 1 := by split <;> simp
  have b : (if m = true then qL (strAt keys i) ++ [58] else []).length ≤ 2403 := by
    split
    · rw [List.length_append]; simp only [List.length_singleton]; omega
    · simp
  omega
mutual
theorem sayB_len : ∀ t : Tr, shapeB t = true → t.nums → (sayB t).length + 2500 ≤ 5000 * t.nodes
  | .mk k f n s keys kids, h, hn => by
    obtain ⟨h1, h2, h3⟩ := shape_parts h
    obtain ⟨a1, a2, a3, a4, a5, a6⟩ := head_kind h1
    simp only [Tr.kind, Tr.text, Tr.keys, Tr.kids] at a1 a2 a3 a4 a5 a6 h2 h3
    have hb := nums_bd hn
    simp only [Tr.num] at hb
    have hs := text_size a3
    simp only [Tr.nums] at hn
    have hq := qL_len s
    have hi := itoa_len n hb
    by_cases hk : k < 5
    · rw [sayB, if_pos hk]
      have : (leafL k f n s).length ≤ 2402 := by
        unfold leafL
        split
        · decide
        split
        · split <;> decide
        split
        · omega
        · omega
      simp only [Tr.nodes]; omega
    · rw [sayB, if_neg hk]
      have := sayK_len (k == 6) keys (key_size h2) kids 0 h3 hn.2
      simp only [Tr.nodes, List.length_cons, List.length_append, List.length_nil]; omega
theorem sayK_len (m : Bool) (keys : List ByteArray) (hk : ∀ j, (strAt keys j).size ≤ 400) : ∀ (l : List Tr) (i : Nat), shapeL l = true → numsL l → (sayK m keys i l).length ≤ 5000 * nodesL l
  | [], i, _, _ => by simp [sayK]
  | t :: ts, i, h, hn => by
    rw [shapeL, Bool.and_eq_true] at h
    simp only [numsL] at hn
    have a := sayB_len t h.1 hn.1
    have b := sayK_len m keys hk ts (i + 1) h.2 hn.2
    have c := headK_len m hk i
    simp only [sayK, nodesL, List.length_append]; omega
end

end Go.Proofs.YtbjialckijphiaaDoor
namespace Go.Proofs.YtbjialckijphiaaDoor
open Go.RowKit

theorem Gr.ne {a b : World} {u v : Value} (h : Gr a b u v) {k : Nat} (hk : k < a.heap.size) (hn : some k ≠ u.ownBlock) : some k ≠ v.ownBlock := by
  rcases h.hs with e | ⟨g, e, hge⟩
  · rw [e]; exact hn
  · rw [e]; intro he; cases he; omega
/-- A box that the bytes do not lie in. -/
def BoxS (w : World) (b : Nat) (t : Tr) (vk vs : Value) (u : Value) : Prop := Spill w b t vk vs ∧ some b ≠ u.ownBlock
theorem BoxS.gr {a b : World} {k : Nat} {t : Tr} {vk vs u v : Value} (h : BoxS a k t vk vs u) (g : Gr a b u v) : BoxS b k t vk vs v := ⟨h.1.of_block (g.block h.1.lt h.2), g.ne h.1.lt h.2⟩
theorem BoxS.keep {a b : World} {k : Nat} {t : Tr} {vk vs u : Value} (h : BoxS a k t vk vs u) (g : Below a.heap.size a b) : BoxS b k t vk vs u := ⟨h.1.keep g, h.2⟩
theorem say_start5 {t : Tr} (h : t.kind = 5) (l : List UInt8) : SayAt false t.keys t.kids 0 (l ++ [91]) [93] (l ++ sayB t) := by
  have := sayAt_start false t.keys t.kids (l ++ [91]) [93]
  rw [say_list h]; simpa using this
theorem say_start6 {t : Tr} (h : t.kind = 6) (l : List UInt8) : SayAt true t.keys t.kids 0 (l ++ [123]) [125] (l ++ sayB t) := by
  have := sayAt_start true t.keys t.kids (l ++ [123]) [125]
  rw [say_map h]; simpa using this
theorem head_f0 {keys : List ByteArray} {k : Nat} (h : ¬ 0 < k) : headK false keys k = [] := by simp [headK, h]
theorem head_f {keys : List ByteArray} {k : Nat} (h : 0 < k) : headK false keys k = [44] := by simp [headK, h]
theorem head_t0 {keys : List ByteArray} {k : Nat} (h : ¬ 0 < k) : headK true keys k = (quotedB (strAt keys k)).data.toList ++ [58] := by simp [headK, qL, h]
theorem head_t {keys : List ByteArray} {k : Nat} (h : 0 < k) : headK true keys k = [44] ++ ((quotedB (strAt keys k)).data.toList ++ [58]) := by simp [headK, qL, h]
theorem kind_eqs (k : Int) (c : Int) (h : k = c) (d : Int) : (k == d) = decide (c = d) := by subst h; exact Bool.eq_iff_iff.2 (by simp)

def SayS (N : Nat) : Prop := ∀ (t : Tr) (S : Nat → Prop) (vk vs : Value) (W0 w : World) (v : Value) (l : List UInt8), t.nodes ≤ N → t.nodes ≤ 2000000 → shapeB t = true → t.nums → TreeIn W0 S t vk vs → Buf W0 w v l → l.length + (sayB t).length ≤ 100000000 →
    Calls Tryd.prog 27 #[.agg #[.int .i64 t.kind, .bool t.flag, .int .i64 t.num, .string t.text, vk, vs], v] w fun e w' => ∃ v', e = .returned v' ∧ BufG W0 w v w' v' (l ++ sayB t)

set_option maxRecDepth 100000 in
set_option maxHeartbeats 4000000 in
theorem sSay_1  (t : Tr) (hk : t.kind = 1) (S : Nat → Prop) (vk vs : Value) (W0 w : World) (v : Value) (l : List UInt8) (hnn : t.nodes ≤ 2000000) (hsh : shapeB t = true) (hnu : t.nums) (ht : TreeIn W0 S t vk vs) (hb : Buf W0 w v l) (hlen : l.length + (sayB t).length ≤ 100000000) :
    Calls Tryd.prog 27 #[.agg #[.int .i64 t.kind, .bool t.flag, .int .i64 t.num, .string t.text, vk, vs], v] w fun e w' => ∃ v', e = .returned v' ∧ BufG W0 w v w' v' (l ++ sayB t) := by
    obtain ⟨hk0, hs0⟩ := treeIn_iff.1 ht
    obtain ⟨a1, m1, rfl⟩ := hk0.len
    obtain ⟨a2, m2, rfl⟩ := hs0.len
    obtain ⟨hd, hky, hkd⟩ := shape_parts hsh
    obtain ⟨k1, k2, k3, k4, k5, k6⟩ := head_kind hd
    have hts := text_size k3
    have hks := key_size hky
    have hnb := nums_bd hnu
    have HKS := Lib.hid (And.intro hk0 hs0)
    have HSH := Lib.hid hkd
    have HNU := Lib.hid ((nums_iff t).1 hnu).2
    have hnl := len_nodes t.kids
    have HBX := Lib.hid (show BoxS (w.alloc (.cells #[.int .i64 t.kind, .bool t.flag, .int .i64 t.num, .string t.text, .slice a1 t.keys.length m1, .slice a2 t.kids.length m2] 30)) w.heap.size t (.slice a1 t.keys.length m1) (.slice a2 t.kids.length m2) v from ⟨Spill.new w t (.slice a1 t.keys.length m1) (.slice a2 t.kids.length m2) 30, hb.lt (Nat.le_refl _)⟩)
    have HB := Lib.hid ((BufG.start hb).alloc (.cells #[.int .i64 t.kind, .bool t.flag, .int .i64 t.num, .string t.text, .slice a1 t.keys.length m1, .slice a2 t.kids.length m2] 30))
    have hkl2 : t.kids.length ≤ 2000000 := by have := nodes_eq t; omega
    have HNN := Lib.hid (show nodesL t.kids ≤ 2000000 by have := nodes_eq t; omega)
    have HKEYS := Lib.hid hks
    have K4 := Lib.hid k4
    clear hnn hnl hsh hnu ht hb hky hkd hk0 hs0 hd k3 hks k4 k5 k6 k1 k2
    obtain ⟨p0, p1, p2, p3, p4, p5⟩ := HBX.out.1.cells
    · have q1 : (t.kind == 1) = true := kind_eqs t.kind 1 hk 1
      have q2 : (t.kind == 2) = false := kind_eqs t.kind 1 hk 2
      have q3 : (t.kind == 3) = false := kind_eqs t.kind 1 hk 3
      have q4 : (t.kind == 4) = false := kind_eqs t.kind 1 hk 4
      have q5 : (t.kind == 5) = false := kind_eqs t.kind 1 hk 5
      have q6 : (t.kind == 6) = false := kind_eqs t.kind 1 hk 6
      have HL := Lib.hid (say_null hk)
      clear hk
      go_enter Tryd.func27, Tryd.ntmps27
      go_wp2_with (at_builtin; refine wpList_bufGS (by rfl) _ _ (by rfl) _ _ W0 w v _ (by rfl) HB.out _ (by rfl) (by show l.length + 4 ≤ _; omega) ?_; intro v2 w2 hb2 hg2)
      go_ret
      exact ⟨_, rfl, by rw [HL.out]; exact hb2⟩
set_option maxRecDepth 100000 in
set_option maxHeartbeats 4000000 in
theorem sSay_2  (t : Tr) (hk : t.kind = 2) (S : Nat → Prop) (vk vs : Value) (W0 w : World) (v : Value) (l : List UInt8) (hnn : t.nodes ≤ 2000000) (hsh : shapeB t = true) (hnu : t.nums) (ht : TreeIn W0 S t vk vs) (hb : Buf W0 w v l) (hlen : l.length + (sayB t).length ≤ 100000000) :
    Calls Tryd.prog 27 #[.agg #[.int .i64 t.kind, .bool t.flag, .int .i64 t.num, .string t.text, vk, vs], v] w fun e w' => ∃ v', e = .returned v' ∧ BufG W0 w v w' v' (l ++ sayB t) := by
    obtain ⟨hk0, hs0⟩ := treeIn_iff.1 ht
    obtain ⟨a1, m1, rfl⟩ := hk0.len
    obtain ⟨a2, m2, rfl⟩ := hs0.len
    obtain ⟨hd, hky, hkd⟩ := shape_parts hsh
    obtain ⟨k1, k2, k3, k4, k5, k6⟩ := head_kind hd
    have hts := text_size k3
    have hks := key_size hky
    have hnb := nums_bd hnu
    have HKS := Lib.hid (And.intro hk0 hs0)
    have HSH := Lib.hid hkd
    have HNU := Lib.hid ((nums_iff t).1 hnu).2
    have hnl := len_nodes t.kids
    have HBX := Lib.hid (show BoxS (w.alloc (.cells #[.int .i64 t.kind, .bool t.flag, .int .i64 t.num, .string t.text, .slice a1 t.keys.length m1, .slice a2 t.kids.length m2] 30)) w.heap.size t (.slice a1 t.keys.length m1) (.slice a2 t.kids.length m2) v from ⟨Spill.new w t (.slice a1 t.keys.length m1) (.slice a2 t.kids.length m2) 30, hb.lt (Nat.le_refl _)⟩)
    have HB := Lib.hid ((BufG.start hb).alloc (.cells #[.int .i64 t.kind, .bool t.flag, .int .i64 t.num, .string t.text, .slice a1 t.keys.length m1, .slice a2 t.kids.length m2] 30))
    have hkl2 : t.kids.length ≤ 2000000 := by have := nodes_eq t; omega
    have HNN := Lib.hid (show nodesL t.kids ≤ 2000000 by have := nodes_eq t; omega)
    have HKEYS := Lib.hid hks
    have K4 := Lib.hid k4
    clear hnn hnl hsh hnu ht hb hky hkd hk0 hs0 hd k3 hks k4 k5 k6 k1 k2
    obtain ⟨p0, p1, p2, p3, p4, p5⟩ := HBX.out.1.cells
    · have q1 : (t.kind == 1) = false := kind_eqs t.kind 2 hk 1
      have q2 : (t.kind == 2) = true := kind_eqs t.kind 2 hk 2
      have q3 : (t.kind == 3) = false := kind_eqs t.kind 2 hk 3
      have q4 : (t.kind == 4) = false := kind_eqs t.kind 2 hk 4
      have q5 : (t.kind == 5) = false := kind_eqs t.kind 2 hk 5
      have q6 : (t.kind == 6) = false := kind_eqs t.kind 2 hk 6
      rcases Bool.eq_false_or_eq_true t.flag with hf | hf
      · have HL := Lib.hid (say_true hk hf)
        clear hk
        simp only [hf] at HB p0 p1 p2 p3 p4 p5
        go_enter Tryd.func27, Tryd.ntmps27
        go_wp2_with (at_builtin; refine wpList_bufGS (by rfl) _ _ (by rfl) _ _ W0 w v _ (by rfl) HB.out _ (by rfl) (by show l.length + 4 ≤ _; omega) ?_; intro v2 w2 hb2 hg2)
        go_ret
        exact ⟨_, rfl, by rw [HL.out]; exact hb2⟩
      · have HL := Lib.hid (say_false hk hf)
        clear hk
        simp only [hf] at HB p0 p1 p2 p3 p4 p5
        go_enter Tryd.func27, Tryd.ntmps27
        go_wp2_with (at_builtin; refine wpList_bufGS (by rfl) _ _ (by rfl) _ _ W0 w v _ (by rfl) HB.out _ (by rfl) (by show l.length + 5 ≤ _; omega) ?_; intro v2 w2 hb2 hg2)
        go_ret
        exact ⟨_, rfl, by rw [HL.out]; exact hb2⟩
set_option maxRecDepth 100000 in
set_option maxHeartbeats 4000000 in
theorem sSay_3  (t : Tr) (hk : t.kind = 3) (S : Nat → Prop) (vk vs : Value) (W0 w : World) (v : Value) (l : List UInt8) (hnn : t.nodes ≤ 2000000) (hsh : shapeB t = true) (hnu : t.nums) (ht : TreeIn W0 S t vk vs) (hb : Buf W0 w v l) (hlen : l.length + (sayB t).length ≤ 100000000) :
    Calls Tryd.prog 27 #[.agg #[.int .i64 t.kind, .bool t.flag, .int .i64 t.num, .string t.text, vk, vs], v] w fun e w' => ∃ v', e = .returned v' ∧ BufG W0 w v w' v' (l ++ sayB t) := by
    obtain ⟨hk0, hs0⟩ := treeIn_iff.1 ht
    obtain ⟨a1, m1, rfl⟩ := hk0.len
    obtain ⟨a2, m2, rfl⟩ := hs0.len
    obtain ⟨hd, hky, hkd⟩ := shape_parts hsh
    obtain ⟨k1, k2, k3, k4, k5, k6⟩ := head_kind hd
    have hts := text_size k3
    have hks := key_size hky
    have hnb := nums_bd hnu
    have HKS := Lib.hid (And.intro hk0 hs0)
    have HSH := Lib.hid hkd
    have HNU := Lib.hid ((nums_iff t).1 hnu).2
    have hnl := len_nodes t.kids
    have HBX := Lib.hid (show BoxS (w.alloc (.cells #[.int .i64 t.kind, .bool t.flag, .int .i64 t.num, .string t.text, .slice a1 t.keys.length m1, .slice a2 t.kids.length m2] 30)) w.heap.size t (.slice a1 t.keys.length m1) (.slice a2 t.kids.length m2) v from ⟨Spill.new w t (.slice a1 t.keys.length m1) (.slice a2 t.kids.length m2) 30, hb.lt (Nat.le_refl _)⟩)
    have HB := Lib.hid ((BufG.start hb).alloc (.cells #[.int .i64 t.kind, .bool t.flag, .int .i64 t.num, .string t.text, .slice a1 t.keys.length m1, .slice a2 t.kids.length m2] 30))
    have hkl2 : t.kids.length ≤ 2000000 := by have := nodes_eq t; omega
    have HNN := Lib.hid (show nodesL t.kids ≤ 2000000 by have := nodes_eq t; omega)
    have HKEYS := Lib.hid hks
    have K4 := Lib.hid k4
    clear hnn hnl hsh hnu ht hb hky hkd hk0 hs0 hd k3 hks k4 k5 k6 k1 k2
    obtain ⟨p0, p1, p2, p3, p4, p5⟩ := HBX.out.1.cells
    · have q1 : (t.kind == 1) = false := kind_eqs t.kind 3 hk 1
      have q2 : (t.kind == 2) = false := kind_eqs t.kind 3 hk 2
      have q3 : (t.kind == 3) = true := kind_eqs t.kind 3 hk 3
      have q4 : (t.kind == 4) = false := kind_eqs t.kind 3 hk 4
      have q5 : (t.kind == 5) = false := kind_eqs t.kind 3 hk 5
      have q6 : (t.kind == 6) = false := kind_eqs t.kind 3 hk 6
      have HL := Lib.hid (say_int hk)
      clear hk
      obtain ⟨D, hD⟩ : ∃ D : ByteArray, D = ⟨(Lib.itoa t.num).toArray⟩ := ⟨_, rfl⟩
      have hDs : l.length + D.size ≤ 100000000 := by
        rw [hD]; show l.length + (Lib.itoa t.num).toArray.size ≤ _
        rw [List.size_toArray, ← HL.out]; exact hlen
      have HDL := Lib.hid (show D.data.toList = sayB t by rw [hD, HL.out])
      have HD := Lib.hid (fun w0 => sDecimal t.num w0 hnb.1 hnb.2)
      rw [← hD] at HD
      clear hD
      go_enter Tryd.func27, Tryd.ntmps27
      go_wp2_with (first | (go_at_call 29; refine (HD.out _).mono ?_; rintro e w1 ⟨rfl, hb1⟩; have HB1 := Lib.hid (HB.out.keep hb1)) | (at_builtin; refine wpList_bufGS (by rfl) _ _ (by rfl) _ _ W0 w v _ (by rfl) HB1.out _ (by rfl) (by omega) ?_; intro v2 w2 hb2 hg2))
      go_ret
      exact ⟨_, rfl, by rw [← HDL.out]; exact hb2⟩
set_option maxRecDepth 100000 in
set_option maxHeartbeats 4000000 in
theorem sSay_4  (t : Tr) (hk : t.kind = 4) (S : Nat → Prop) (vk vs : Value) (W0 w : World) (v : Value) (l : List UInt8) (hnn : t.nodes ≤ 2000000) (hsh : shapeB t = true) (hnu : t.nums) (ht : TreeIn W0 S t vk vs) (hb : Buf W0 w v l) (hlen : l.length + (sayB t).length ≤ 100000000) :
    Calls Tryd.prog 27 #[.agg #[.int .i64 t.kind, .bool t.flag, .int .i64 t.num, .string t.text, vk, vs], v] w fun e w' => ∃ v', e = .returned v' ∧ BufG W0 w v w' v' (l ++ sayB t) := by
    obtain ⟨hk0, hs0⟩ := treeIn_iff.1 ht
    obtain ⟨a1, m1, rfl⟩ := hk0.len
    obtain ⟨a2, m2, rfl⟩ := hs0.len
    obtain ⟨hd, hky, hkd⟩ := shape_parts hsh
    obtain ⟨k1, k2, k3, k4, k5, k6⟩ := head_kind hd
    have hts := text_size k3
    have hks := key_size hky
    have hnb := nums_bd hnu
    have HKS := Lib.hid (And.intro hk0 hs0)
    have HSH := Lib.hid hkd
    have HNU := Lib.hid ((nums_iff t).1 hnu).2
    have hnl := len_nodes t.kids
    have HBX := Lib.hid (show BoxS (w.alloc (.cells #[.int .i64 t.kind, .bool t.flag, .int .i64 t.num, .string t.text, .slice a1 t.keys.length m1, .slice a2 t.kids.length m2] 30)) w.heap.size t (.slice a1 t.keys.length m1) (.slice a2 t.kids.length m2) v from ⟨Spill.new w t (.slice a1 t.keys.length m1) (.slice a2 t.kids.length m2) 30, hb.lt (Nat.le_refl _)⟩)
    have HB := Lib.hid ((BufG.start hb).alloc (.cells #[.int .i64 t.kind, .bool t.flag, .int .i64 t.num, .string t.text, .slice a1 t.keys.length m1, .slice a2 t.kids.length m2] 30))
    have hkl2 : t.kids.length ≤ 2000000 := by have := nodes_eq t; omega
    have HNN := Lib.hid (show nodesL t.kids ≤ 2000000 by have := nodes_eq t; omega)
    have HKEYS := Lib.hid hks
    have K4 := Lib.hid k4
    clear hnn hnl hsh hnu ht hb hky hkd hk0 hs0 hd k3 hks k4 k5 k6 k1 k2
    obtain ⟨p0, p1, p2, p3, p4, p5⟩ := HBX.out.1.cells
    · have q1 : (t.kind == 1) = false := kind_eqs t.kind 4 hk 1
      have q2 : (t.kind == 2) = false := kind_eqs t.kind 4 hk 2
      have q3 : (t.kind == 3) = false := kind_eqs t.kind 4 hk 3
      have q4 : (t.kind == 4) = true := kind_eqs t.kind 4 hk 4
      have q5 : (t.kind == 5) = false := kind_eqs t.kind 4 hk 5
      have q6 : (t.kind == 6) = false := kind_eqs t.kind 4 hk 6
      have HL := Lib.hid (say_text hk)
      clear hk
      have HD := Lib.hid (fun w0 => sQuoted t.text w0 (by omega))
      have hDs : l.length + (quotedB t.text).size ≤ 100000000 := by
        have h1 : (qL t.text).length = (quotedB t.text).size := by unfold qL; simp
        rw [← h1, ← HL.out]; exact hlen
      have HDL := Lib.hid (show (quotedB t.text).data.toList = sayB t by rw [HL.out]; rfl)
      generalize quotedB t.text = D at HD hDs HDL
      go_enter Tryd.func27, Tryd.ntmps27
      go_wp2_with (first | (go_at_call 36; refine (HD.out _).mono ?_; rintro e w1 ⟨rfl, hb1⟩; have HB1 := Lib.hid (HB.out.keep hb1)) | (at_builtin; refine wpList_bufGS (by rfl) _ _ (by rfl) _ _ W0 w v _ (by rfl) HB1.out _ (by rfl) (by omega) ?_; intro v2 w2 hb2 hg2))
      go_ret
      exact ⟨_, rfl, by rw [← HDL.out]; exact hb2⟩
set_option maxRecDepth 100000 in
set_option maxHeartbeats 4000000 in
theorem sSay_5 (N : Nat) (hIH : SayS N) (t : Tr) (hk : t.kind = 5) (S : Nat → Prop) (vk vs : Value) (W0 w : World) (v : Value) (l : List UInt8) (h : t.nodes ≤ N + 1) (hnn : t.nodes ≤ 2000000) (hsh : shapeB t = true) (hnu : t.nums) (ht : TreeIn W0 S t vk vs) (hb : Buf W0 w v l) (hlen : l.length + (sayB t).length ≤ 100000000) :
    Calls Tryd.prog 27 #[.agg #[.int .i64 t.kind, .bool t.flag, .int .i64 t.num, .string t.text, vk, vs], v] w fun e w' => ∃ v', e = .returned v' ∧ BufG W0 w v w' v' (l ++ sayB t) := by
    have IH := Lib.hid hIH; clear hIH
    obtain ⟨hk0, hs0⟩ := treeIn_iff.1 ht
    obtain ⟨a1, m1, rfl⟩ := hk0.len
    obtain ⟨a2, m2, rfl⟩ := hs0.len
    obtain ⟨hd, hky, hkd⟩ := shape_parts hsh
    obtain ⟨k1, k2, k3, k4, k5, k6⟩ := head_kind hd
    have hts := text_size k3
    have hks := key_size hky
    have hnb := nums_bd hnu
    have HKS := Lib.hid (And.intro hk0 hs0)
    have HSH := Lib.hid hkd
    have HNU := Lib.hid ((nums_iff t).1 hnu).2
    have HN := Lib.hid (show nodesL t.kids ≤ N by have := nodes_eq t; omega)
    have hnl := len_nodes t.kids
    have HBX := Lib.hid (show BoxS (w.alloc (.cells #[.int .i64 t.kind, .bool t.flag, .int .i64 t.num, .string t.text, .slice a1 t.keys.length m1, .slice a2 t.kids.length m2] 30)) w.heap.size t (.slice a1 t.keys.length m1) (.slice a2 t.kids.length m2) v from ⟨Spill.new w t (.slice a1 t.keys.length m1) (.slice a2 t.kids.length m2) 30, hb.lt (Nat.le_refl _)⟩)
    have HB := Lib.hid ((BufG.start hb).alloc (.cells #[.int .i64 t.kind, .bool t.flag, .int .i64 t.num, .string t.text, .slice a1 t.keys.length m1, .slice a2 t.kids.length m2] 30))
    have hkl2 : t.kids.length ≤ 2000000 := by have := nodes_eq t; omega
    have HNN := Lib.hid (show nodesL t.kids ≤ 2000000 by have := nodes_eq t; omega)
    have HKEYS := Lib.hid hks
    have K4 := Lib.hid k4
    clear hnn hnl hsh hnu ht hb hky hkd hk0 hs0 h hd k3 hks k4 k5 k6 k1 k2
    obtain ⟨p0, p1, p2, p3, p4, p5⟩ := HBX.out.1.cells
    · have q1 : (t.kind == 1) = false := kind_eqs t.kind 5 hk 1
      have q2 : (t.kind == 2) = false := kind_eqs t.kind 5 hk 2
      have q3 : (t.kind == 3) = false := kind_eqs t.kind 5 hk 3
      have q4 : (t.kind == 4) = false := kind_eqs t.kind 5 hk 4
      have q5 : (t.kind == 5) = true := kind_eqs t.kind 5 hk 5
      have q6 : (t.kind == 6) = false := kind_eqs t.kind 5 hk 6
      have HST := Lib.hid (say_start5 hk l)
      clear hk
      go_enter Tryd.func27, Tryd.ntmps27
      go_wp2_with (at_builtin; refine wpList_bufG (by rfl) _ _ (by rfl) _ _ [91] W0 w v _ (by rfl) HB.out _ 1 1 (by rfl) rfl (by first | rfl | (rw [World.size_alloc]; rfl)) (by first | omega | (simp; omega)) ?_; intro v2 w2 hb2 hg2)
      have HBX2 := Lib.hid (HBX.out.keep (Below.refl _ _)); have HBX3 := Lib.hid (HBX2.out.gr hg2); have HB2 := Lib.hid hb2
      clear hb2 hg2 HBX2 HBX HB p0 p1 p2 p3 p4 p5
      go_loopw [1, 5] (fun u i wr => ∃ (k : Nat) (acc : List UInt8), k ≤ t.kids.length ∧ i = .int .i64 k ∧ Hid (BufG W0 w v wr u acc) ∧ Hid (BoxS wr w.heap.size t (.slice a1 t.keys.length m1) (.slice a2 t.kids.length m2) u) ∧ Hid (SayAt false t.keys t.kids k acc [93] (l ++ sayB t))) (fun _ i _ => t.kids.length - (intOf i).toNat)
      case atStart => exact ⟨0, l ++ [91], by omega, rfl, HB2, HBX3, HST⟩
      case round =>
        obtain ⟨k, acc, hk, rfl, HB, HBX, HS⟩ := hrel
        obtain ⟨p0, p1, p2, p3, p4, p5⟩ := HBX.out.1.cells
        clear p1 p2 p3
        by_cases hlt : k < t.kids.length
        · have hLE := sayAt_len HS.out
          have hstep := sayAt_step HS.out hlt
          have hL := sayAt_len hstep
          simp only [List.length_append, List.length_cons, List.length_nil] at hLE hL
          obtain ⟨b, o, vk', vs', rfl, ⟨c0, c1, c2, c3, c4, c5⟩, hin⟩ := HKS.out.2.at hlt
          obtain ⟨hk', hs'⟩ := treeIn_iff.1 hin
          obtain ⟨b1, n1, rfl⟩ := hk'.len
          obtain ⟨b2, n2, rfl⟩ := hs'.len
          clear hk' hs'
          have c00 := c0; have c10 := c1; have c20 := c2; have c30 := c3; have c40 := c4; have c50 := c5
          have c0 := bkeep HB.out.buf.bel c0; have c1 := bkeep HB.out.buf.bel c1; have c2 := bkeep HB.out.buf.bel c2; have c3 := bkeep HB.out.buf.bel c3; have c4 := bkeep HB.out.buf.bel c4; have c5 := bkeep HB.out.buf.bel c5
          have h1 := nodes_kid t.kids k hlt
          have HIN := Lib.hid hin; clear hin
          have HKN := Lib.hid (show (kidAt t.kids k).nodes ≤ N by have := HN.out; omega)
          have HKM := Lib.hid (show (kidAt t.kids k).nodes ≤ 2000000 by have := HNN.out; omega)
          have HK1 := Lib.hid (shapeL_kid HSH.out hlt)
          have HK2 := Lib.hid (nums_kid t.kids k hlt HNU.out)
          clear h1
          by_cases hk0 : 0 < k
          rotate_left
          · have z1 : decide ((0 : Int) < (k : Int)) = false := decide_eq_false (by omega)
            have z2 : decide (0 < k) = false := decide_eq_false hk0
            rw [head_f0 hk0] at hstep hL
            simp only [List.length_nil, List.append_nil] at hstep hL
            have HSTEP := Lib.hid hstep; clear hstep hk0
            go_wp2_with (go_at_call 27; refine (IH.out (kidAt t.kids k) S _ _ W0 _ _ _ HKN.out HKM.out HK1.out HK2.out HIN.out HB.out.buf (by first | omega | (simp; omega))).mono ?_; rintro e w9 ⟨v9, rfl, hb9⟩)
            go_roundw
            case rel => exact ⟨k + 1, _, by omega, by go_num, Lib.hid (HB.out.trans hb9), Lib.hid (HBX.out.gr hb9.gr), HSTEP⟩
            case measure => simp [intOf]; omega
          · rw [head_f hk0] at hstep hL
            simp only [List.length_singleton] at hL
            have HSTEP := Lib.hid hstep; clear hstep
            have z1 : decide ((0 : Int) < (k : Int)) = true := decide_eq_true (by omega)
            have z2 : decide (0 < k) = true := decide_eq_true hk0
            go_wp2_with (first | (at_builtin; refine wpList_bufG (by rfl) _ _ (by rfl) _ _ [44] W0 w v _ (by rfl) HB.out _ 1 1 (by rfl) rfl (by first | rfl | (rw [World.size_alloc]; rfl)) (by first | omega | (simp; omega)) ?_; intro v3 w3 hb3 hg3; have HBXn := Lib.hid (HBX.out.gr hg3); have HB3 := Lib.hid hb3; have c0 := bkeep HB3.out.buf.bel c00; have c1 := bkeep HB3.out.buf.bel c10; have c2 := bkeep HB3.out.buf.bel c20; have c3 := bkeep HB3.out.buf.bel c30; have c4 := bkeep HB3.out.buf.bel c40; have c5 := bkeep HB3.out.buf.bel c50; clear hg3 hb3; clear p0 p4 p5; obtain ⟨p0, p1, p2, p3, p4, p5⟩ := HBXn.out.1.cells; clear p1 p2 p3) | (go_at_call 27; refine (IH.out (kidAt t.kids k) S _ _ W0 _ _ _ HKN.out HKM.out HK1.out HK2.out HIN.out HB3.out.buf (by first | omega | (simp; omega))).mono ?_; rintro e w9 ⟨v9, rfl, hb9⟩))
            go_roundw
            case rel => exact ⟨k + 1, _, by omega, by go_num, Lib.hid (HB3.out.trans hb9), Lib.hid (HBXn.out.gr hb9.gr), HSTEP⟩
            case measure => simp [intOf]; omega
        · obtain rfl : k = t.kids.length := by omega
          have hLE := sayAt_len HS.out
          simp only [List.length_append, List.length_singleton] at hLE
          have HE := Lib.hid (sayAt_end HS.out (Nat.le_refl _))
          go_wp2_with (at_builtin; refine wpList_bufG (by rfl) _ _ (by rfl) _ _ [93] W0 w v _ (by rfl) HB.out _ 1 1 (by rfl) rfl (by first | rfl | (rw [World.size_alloc]; rfl)) (by first | omega | (simp; omega)) ?_; intro v4 w4 hb4 hg4)
          go_ret
          exact ⟨_, rfl, by rw [← HE.out]; exact hb4⟩
set_option maxRecDepth 100000 in
set_option maxHeartbeats 4000000 in
theorem sSay_6 (N : Nat) (hIH : SayS N) (t : Tr) (hk : t.kind = 6) (S : Nat → Prop) (vk vs : Value) (W0 w : World) (v : Value) (l : List UInt8) (h : t.nodes ≤ N + 1) (hnn : t.nodes ≤ 2000000) (hsh : shapeB t = true) (hnu : t.nums) (ht : TreeIn W0 S t vk vs) (hb : Buf W0 w v l) (hlen : l.length + (sayB t).length ≤ 100000000) :
    Calls Tryd.prog 27 #[.agg #[.int .i64 t.kind, .bool t.flag, .int .i64 t.num, .string t.text, vk, vs], v] w fun e w' => ∃ v', e = .returned v' ∧ BufG W0 w v w' v' (l ++ sayB t) := by
    have IH := Lib.hid hIH; clear hIH
    obtain ⟨hk0, hs0⟩ := treeIn_iff.1 ht
    obtain ⟨a1, m1, rfl⟩ := hk0.len
    obtain ⟨a2, m2, rfl⟩ := hs0.len
    obtain ⟨hd, hky, hkd⟩ := shape_parts hsh
    obtain ⟨k1, k2, k3, k4, k5, k6⟩ := head_kind hd
    have hts := text_size k3
    have hks := key_size hky
    have hnb := nums_bd hnu
    have HKS := Lib.hid (And.intro hk0 hs0)
    have HSH := Lib.hid hkd
    have HNU := Lib.hid ((nums_iff t).1 hnu).2
    have HN := Lib.hid (show nodesL t.kids ≤ N by have := nodes_eq t; omega)
    have hnl := len_nodes t.kids
    have HBX := Lib.hid (show BoxS (w.alloc (.cells #[.int .i64 t.kind, .bool t.flag, .int .i64 t.num, .string t.text, .slice a1 t.keys.length m1, .slice a2 t.kids.length m2] 30)) w.heap.size t (.slice a1 t.keys.length m1) (.slice a2 t.kids.length m2) v from ⟨Spill.new w t (.slice a1 t.keys.length m1) (.slice a2 t.kids.length m2) 30, hb.lt (Nat.le_refl _)⟩)
    have HB := Lib.hid ((BufG.start hb).alloc (.cells #[.int .i64 t.kind, .bool t.flag, .int .i64 t.num, .string t.text, .slice a1 t.keys.length m1, .slice a2 t.kids.length m2] 30))
    have hkl2 : t.kids.length ≤ 2000000 := by have := nodes_eq t; omega
    have HNN := Lib.hid (show nodesL t.kids ≤ 2000000 by have := nodes_eq t; omega)
    have HKEYS := Lib.hid hks
    have K4 := Lib.hid k4
    clear hnn hnl hsh hnu ht hb hky hkd hk0 hs0 h hd k3 hks k4 k5 k6 k1 k2
    obtain ⟨p0, p1, p2, p3, p4, p5⟩ := HBX.out.1.cells
    · have q1 : (t.kind == 1) = false := kind_eqs t.kind 6 hk 1
      have q2 : (t.kind == 2) = false := kind_eqs t.kind 6 hk 2
      have q3 : (t.kind == 3) = false := kind_eqs t.kind 6 hk 3
      have q4 : (t.kind == 4) = false := kind_eqs t.kind 6 hk 4
      have q5 : (t.kind == 5) = false := kind_eqs t.kind 6 hk 5
      have q6 : (t.kind == 6) = true := kind_eqs t.kind 6 hk 6
      have HST := Lib.hid (say_start6 hk l)
      have HKEQ := Lib.hid (K4.out hk)
      clear hk
      go_enter Tryd.func27, Tryd.ntmps27
      go_wp2_with (at_builtin; refine wpList_bufG (by rfl) _ _ (by rfl) _ _ [123] W0 w v _ (by rfl) HB.out _ 1 1 (by rfl) rfl (by first | rfl | (rw [World.size_alloc]; rfl)) (by first | omega | (simp; omega)) ?_; intro v2 w2 hb2 hg2)
      have HBX2 := Lib.hid (HBX.out.keep (Below.refl _ _)); have HBX3 := Lib.hid (HBX2.out.gr hg2); have HB2 := Lib.hid hb2
      clear hb2 hg2 HBX2 HBX HB p0 p1 p2 p3 p4 p5
      go_loopw [1, 6] (fun u i wr => ∃ (k : Nat) (acc : List UInt8), k ≤ t.kids.length ∧ i = .int .i64 k ∧ Hid (BufG W0 w v wr u acc) ∧ Hid (BoxS wr w.heap.size t (.slice a1 t.keys.length m1) (.slice a2 t.kids.length m2) u) ∧ Hid (SayAt true t.keys t.kids k acc [125] (l ++ sayB t))) (fun _ i _ => t.kids.length - (intOf i).toNat)
      case atStart => exact ⟨0, l ++ [123], by omega, rfl, HB2, HBX3, HST⟩
      case round =>
        obtain ⟨k, acc, hk, rfl, HB, HBX, HS⟩ := hrel
        obtain ⟨p0, p1, p2, p3, p4, p5⟩ := HBX.out.1.cells
        clear p1 p2 p3
        by_cases hlt : k < t.kids.length
        · have hLE := sayAt_len HS.out
          have hstep := sayAt_step HS.out hlt
          have hL := sayAt_len hstep
          simp only [List.length_append, List.length_cons, List.length_nil] at hLE hL
          obtain ⟨b, o, vk', vs', rfl, ⟨c0, c1, c2, c3, c4, c5⟩, hin⟩ := HKS.out.2.at hlt
          obtain ⟨hk', hs'⟩ := treeIn_iff.1 hin
          obtain ⟨b1, n1, rfl⟩ := hk'.len
          obtain ⟨b2, n2, rfl⟩ := hs'.len
          clear hk' hs'
          have c00 := c0; have c10 := c1; have c20 := c2; have c30 := c3; have c40 := c4; have c50 := c5
          have c0 := bkeep HB.out.buf.bel c0; have c1 := bkeep HB.out.buf.bel c1; have c2 := bkeep HB.out.buf.bel c2; have c3 := bkeep HB.out.buf.bel c3; have c4 := bkeep HB.out.buf.bel c4; have c5 := bkeep HB.out.buf.bel c5
          have h1 := nodes_kid t.kids k hlt
          have HIN := Lib.hid hin; clear hin
          have HKN := Lib.hid (show (kidAt t.kids k).nodes ≤ N by have := HN.out; omega)
          have HKM := Lib.hid (show (kidAt t.kids k).nodes ≤ 2000000 by have := HNN.out; omega)
          have HK1 := Lib.hid (shapeL_kid HSH.out hlt)
          have HK2 := Lib.hid (nums_kid t.kids k hlt HNU.out)
          clear h1
          obtain ⟨bk, ok, rfl, hcell⟩ := HKS.out.1.at (show k < t.keys.length by have := HKEQ.out; omega)
          have hkl4 : k < t.keys.length := by have := HKEQ.out; omega
          have hkl3 : (k : Int) < (t.keys.length : Int) := by omega
          have d0 := hcell k hkl4
          have d00 := bkeep HB.out.buf.bel d0
          clear hcell
          have hksz := HKEYS.out k
          have HQ := Lib.hid (fun w0 => sQuoted (strAt t.keys k) w0 (by omega))
          by_cases hk0 : 0 < k
          rotate_left
          · have z1 : decide ((0 : Int) < (k : Int)) = false := decide_eq_false (by omega)
            have z2 : decide (0 < k) = false := decide_eq_false hk0
            rw [head_t0 hk0] at hstep hL
            simp only [List.length_append, List.length_singleton] at hL
            have HSTEP := Lib.hid hstep; clear hstep hk0
            have HA := HB; have HBXa := HBX
            have hqs : (quotedB (strAt t.keys k)).data.toList.length = (quotedB (strAt t.keys k)).size := by simp
            generalize quotedB (strAt t.keys k) = Q at HQ hqs hL HSTEP
            go_wp2_with (first | (go_at_call 36; refine (HQ.out _).mono ?_; rintro e w5 ⟨rfl, hb5⟩; have HBXb := Lib.hid (HBXa.out.keep hb5); have HA5 := Lib.hid (HA.out.keep hb5); clear hb5) | (at_builtin; refine wpList_bufGS (by rfl) _ _ (by rfl) _ _ W0 w v _ (by rfl) HA5.out _ (by rfl) (by first | omega | (simp; omega)) ?_; intro v6 w6 hb6 hg6; have HBXc := Lib.hid (HBXb.out.gr hg6); have HA6 := Lib.hid hb6; clear hg6 hb6) | (at_builtin; refine wpList_bufG (by rfl) _ _ (by rfl) _ _ [58] W0 w v _ (by rfl) HA6.out _ 1 1 (by rfl) rfl (by first | rfl | (rw [World.size_alloc]; rfl)) (by first | omega | (simp; omega)) ?_; intro v7 w7 hb7 hg7; have HBXn := Lib.hid (HBXc.out.gr hg7); have HB7 := Lib.hid hb7; clear hg7 hb7; have c0 := bkeep HB7.out.buf.bel c00; have c1 := bkeep HB7.out.buf.bel c10; have c2 := bkeep HB7.out.buf.bel c20; have c3 := bkeep HB7.out.buf.bel c30; have c4 := bkeep HB7.out.buf.bel c40; have c5 := bkeep HB7.out.buf.bel c50; clear p0 p4 p5; obtain ⟨p0, p1, p2, p3, p4, p5⟩ := HBXn.out.1.cells; clear p1 p2 p3) | (go_at_call 27; refine (IH.out (kidAt t.kids k) S _ _ W0 _ _ _ HKN.out HKM.out HK1.out HK2.out HIN.out HB7.out.buf (by first | omega | (simp; omega))).mono ?_; rintro e w9 ⟨v9, rfl, hb9⟩))
            go_roundw
            case rel => exact ⟨k + 1, _, by omega, by go_num, Lib.hid (HB7.out.trans hb9), Lib.hid (HBXn.out.gr hb9.gr), Lib.hid (by have := HSTEP.out; simpa using this)⟩
            case measure => simp [intOf]; omega
          · rw [head_t hk0] at hstep hL
            simp only [List.length_append, List.length_singleton] at hL
            have HSTEP := Lib.hid hstep; clear hstep
            have z1 : decide ((0 : Int) < (k : Int)) = true := decide_eq_true (by omega)
            have z2 : decide (0 < k) = true := decide_eq_true hk0
            have hqs : (quotedB (strAt t.keys k)).data.toList.length = (quotedB (strAt t.keys k)).size := by simp
            generalize quotedB (strAt t.keys k) = Q at HQ hqs hL HSTEP
            go_wp2_with (first | (at_builtin; refine wpList_bufG (by rfl) _ _ (by rfl) _ _ [44] W0 w v _ (by rfl) HB.out _ 1 1 (by rfl) rfl (by first | rfl | (rw [World.size_alloc]; rfl)) (by first | omega | (simp; omega)) ?_; intro v3 w3 hb3 hg3; have HBXa := Lib.hid (HBX.out.gr hg3); have HA := Lib.hid hb3; have d1 := bkeep HA.out.buf.bel d0; clear hg3 hb3; clear p0 p4 p5; obtain ⟨p0, p1, p2, p3, p4, p5⟩ := HBXa.out.1.cells; clear p1 p2 p3) | (go_at_call 36; refine (HQ.out _).mono ?_; rintro e w5 ⟨rfl, hb5⟩; have HBXb := Lib.hid (HBXa.out.keep hb5); have HA5 := Lib.hid (HA.out.keep hb5); clear hb5) | (at_builtin; refine wpList_bufGS (by rfl) _ _ (by rfl) _ _ W0 w v _ (by rfl) HA5.out _ (by rfl) (by first | omega | (simp; omega)) ?_; intro v6 w6 hb6 hg6; have HBXc := Lib.hid (HBXb.out.gr hg6); have HA6 := Lib.hid hb6; clear hg6 hb6) | (at_builtin; refine wpList_bufG (by rfl) _ _ (by rfl) _ _ [58] W0 w v _ (by rfl) HA6.out _ 1 1 (by rfl) rfl (by first | rfl | (rw [World.size_alloc]; rfl)) (by first | omega | (simp; omega)) ?_; intro v7 w7 hb7 hg7; have HBXn := Lib.hid (HBXc.out.gr hg7); have HB7 := Lib.hid hb7; clear hg7 hb7; have c0 := bkeep HB7.out.buf.bel c00; have c1 := bkeep HB7.out.buf.bel c10; have c2 := bkeep HB7.out.buf.bel c20; have c3 := bkeep HB7.out.buf.bel c30; have c4 := bkeep HB7.out.buf.bel c40; have c5 := bkeep HB7.out.buf.bel c50; clear p0 p4 p5; obtain ⟨p0, p1, p2, p3, p4, p5⟩ := HBXn.out.1.cells; clear p1 p2 p3) | (go_at_call 27; refine (IH.out (kidAt t.kids k) S _ _ W0 _ _ _ HKN.out HKM.out HK1.out HK2.out HIN.out HB7.out.buf (by first | omega | (simp; omega))).mono ?_; rintro e w9 ⟨v9, rfl, hb9⟩))
            go_roundw
            case rel => exact ⟨k + 1, _, by omega, by go_num, Lib.hid (HB7.out.trans hb9), Lib.hid (HBXn.out.gr hb9.gr), Lib.hid (by have := HSTEP.out; simpa using this)⟩
            case measure => simp [intOf]; omega
        · obtain rfl : k = t.kids.length := by omega
          have hLE := sayAt_len HS.out
          simp only [List.length_append, List.length_singleton] at hLE
          have HE := Lib.hid (sayAt_end HS.out (Nat.le_refl _))
          go_wp2_with (at_builtin; refine wpList_bufG (by rfl) _ _ (by rfl) _ _ [125] W0 w v _ (by rfl) HB.out _ 1 1 (by rfl) rfl (by first | rfl | (rw [World.size_alloc]; rfl)) (by first | omega | (simp; omega)) ?_; intro v4 w4 hb4 hg4)
          go_ret
          exact ⟨_, rfl, by rw [← HE.out]; exact hb4⟩
theorem sSay : ∀ N, SayS N
  | 0 => fun t S vk vs W0 w v l h _ _ _ _ _ _ => by have := nodes_pos t; omega
  | N + 1 => fun t S vk vs W0 w v l h hnn hsh hnu ht hb hlen => by
    obtain ⟨k1, k2, -⟩ := head_kind (shape_parts hsh).1
    have hkk : t.kind = 1 ∨ t.kind = 2 ∨ t.kind = 3 ∨ t.kind = 4 ∨ t.kind = 5 ∨ t.kind = 6 := by omega
    rcases hkk with hk | hk | hk | hk | hk | hk
    · exact sSay_1 t hk S vk vs W0 w v l hnn hsh hnu ht hb hlen
    · exact sSay_2 t hk S vk vs W0 w v l hnn hsh hnu ht hb hlen
    · exact sSay_3 t hk S vk vs W0 w v l hnn hsh hnu ht hb hlen
    · exact sSay_4 t hk S vk vs W0 w v l hnn hsh hnu ht hb hlen
    · exact sSay_5 N (sSay N) t hk S vk vs W0 w v l h hnn hsh hnu ht hb hlen
    · exact sSay_6 N (sSay N) t hk S vk vs W0 w v l h hnn hsh hnu ht hb hlen

end Go.Proofs.YtbjialckijphiaaDoor
namespace Go.Proofs.YtbjialckijphiaaDoor
open Go.RowKit

/-- The table of strconv lies where the library reads it. -/
def Pows (w : World) : Prop := Lib.TabIs Tryd.prog w "internal/strconv.uint64pow10" .u64 Lib.pow10Tab
theorem pows_keep {w w' : World} (h : Pows w) (hb : Below w.heap.size w w') : Pows w' := Lib.tabBelow_of_tabIs h w' hb
theorem pows_eq : (Rows.laid_internal_strconv_uint64pow10 : DataW Unit) = Lib.tabData .u64 Lib.pow10Tab := by kernel_rfl
theorem pows_of {W : World} (h : Lib.VarReads Tryd.prog W "internal/strconv.uint64pow10" Rows.laid_internal_strconv_uint64pow10) : Pows W := by
  rw [pows_eq] at h
  obtain ⟨g, t, cs, fuel, p, hg, ht, hv, hd⟩ := h
  have hg2 : Tryd.prog.globalNamed "internal/strconv.uint64pow10" = some 3 := by kernel_rfl
  have ht2 : (Tryd.prog.globals[3]?).map (·.type) = some 77 := by kernel_rfl
  obtain rfl := Option.some.inj (hg2.symm.trans hg)
  obtain rfl := Option.some.inj (ht2.symm.trans ht)
  unfold Pows Lib.TabIs
  rw [hv, ← Lib.cells_of_tab Tryd.underlying77 Tryd.underlying69 (by kernel_rfl) (by kernel_rfl) hd]
theorem iDecimal (n : Int) (w : World) (h1 : -9223372036854775808 ≤ n) (h2 : n ≤ 9223372036854775807) (hP : Pows w) : Calls Tryd.prog 38 #[.int .i64 n] w fun e w' => e = .returned (.string ⟨(Lib.itoa n).toArray⟩) ∧ Below w.heap.size w w' := by
  have c : Calls Tryd.prog 48 #[.int .i64 n] w fun e w' => e = .returned (.string ⟨(Lib.itoa n).toArray⟩) ∧ Below w.heap.size w w' :=
    (Tryd.strconv_Itoa n h1 h2 w hP).mono fun e w' ⟨h1, k, os, h2⟩ => ⟨h1, by rw [h2]; exact Lib.below_grow _ _ (Nat.le_refl _) _ _⟩
  have HC := Lib.hid c; clear c hP
  go_enter Tryd.func38, Tryd.ntmps38
  go_wp2_with (go_at_call 48; refine HC.out.mono ?_; rintro e w1 ⟨rfl, hb1⟩)
  go_ret
  exact ⟨rfl, hb1⟩

theorem appBoolTIn {W0 wa w : World} {u v : Value} {l : List UInt8} (hb : BufG W0 wa u w v l) (hl : l.length ≤ 100000000) : Calls Tryd.prog 47 #[v, .bool true] w fun e w' => ∃ v', e = .returned v' ∧ BufG W0 wa u w' v' (l ++ trueL) := by
  have HB := Lib.hid hb; clear hb
  go_enter Tryd.func47, Tryd.ntmps47
  go_wp2_with (at_builtin; refine wpList_bufGS (by rfl) _ _ (by rfl) _ _ W0 wa u _ (by rfl) HB.out _ (by rfl) (by show l.length + 4 ≤ _; omega) ?_; intro v2 w2 hb2 hg2)
  go_ret
  exact ⟨_, rfl, hb2⟩
theorem appBoolT {W0 wa w : World} {u v : Value} {l : List UInt8} (hb : BufG W0 wa u w v l) (hl : l.length ≤ 100000000) : Calls Tryd.prog 37 #[v, .bool true] w fun e w' => ∃ v', e = .returned v' ∧ BufG W0 wa u w' v' (l ++ trueL) := by
  have HB := Lib.hid (appBoolTIn hb hl); clear hb
  go_enter Tryd.func37, Tryd.ntmps37
  go_wp2_with (go_at_call 47; refine HB.out.mono ?_; rintro e w2 ⟨v2, rfl, hb2⟩)
  go_ret
  exact ⟨_, rfl, hb2⟩

theorem appBoolFIn {W0 wa w : World} {u v : Value} {l : List UInt8} (hb : BufG W0 wa u w v l) (hl : l.length ≤ 100000000) : Calls Tryd.prog 47 #[v, .bool false] w fun e w' => ∃ v', e = .returned v' ∧ BufG W0 wa u w' v' (l ++ falseL) := by
  have HB := Lib.hid hb; clear hb
  go_enter Tryd.func47, Tryd.ntmps47
  go_wp2_with (at_builtin; refine wpList_bufGS (by rfl) _ _ (by rfl) _ _ W0 wa u _ (by rfl) HB.out _ (by rfl) (by show l.length + 5 ≤ _; omega) ?_; intro v2 w2 hb2 hg2)
  go_ret
  exact ⟨_, rfl, hb2⟩
theorem appBoolF {W0 wa w : World} {u v : Value} {l : List UInt8} (hb : BufG W0 wa u w v l) (hl : l.length ≤ 100000000) : Calls Tryd.prog 37 #[v, .bool false] w fun e w' => ∃ v', e = .returned v' ∧ BufG W0 wa u w' v' (l ++ falseL) := by
  have HB := Lib.hid (appBoolFIn hb hl); clear hb
  go_enter Tryd.func37, Tryd.ntmps37
  go_wp2_with (go_at_call 47; refine HB.out.mono ?_; rintro e w2 ⟨v2, rfl, hb2⟩)
  go_ret
  exact ⟨_, rfl, hb2⟩

end Go.Proofs.YtbjialckijphiaaDoor
namespace Go.Proofs.YtbjialckijphiaaDoor
open Go.RowKit

def SayI (N : Nat) : Prop := ∀ (t : Tr) (S : Nat → Prop) (vk vs : Value) (W0 w : World) (v : Value) (l : List UInt8), t.nodes ≤ N → t.nodes ≤ 2000000 → shapeB t = true → t.nums → TreeIn W0 S t vk vs → Buf W0 w v l → l.length + (sayB t).length ≤ 100000000 → Tabs W0 → Pows W0 →
    Calls Tryd.prog 28 #[v, .agg #[.int .i64 t.kind, .bool t.flag, .int .i64 t.num, .string t.text, vk, vs]] w fun e w' => ∃ v', e = .returned v' ∧ BufG W0 w v w' v' (l ++ sayB t)

set_option maxRecDepth 100000 in
set_option maxHeartbeats 4000000 in
theorem iSay_1  (t : Tr) (hk : t.kind = 1) (S : Nat → Prop) (vk vs : Value) (W0 w : World) (v : Value) (l : List UInt8) (hnn : t.nodes ≤ 2000000) (hsh : shapeB t = true) (hnu : t.nums) (ht : TreeIn W0 S t vk vs) (hb : Buf W0 w v l) (hlen : l.length + (sayB t).length ≤ 100000000) (hTab : Tabs W0) (hPow : Pows W0) :
    Calls Tryd.prog 28 #[v, .agg #[.int .i64 t.kind, .bool t.flag, .int .i64 t.num, .string t.text, vk, vs]] w fun e w' => ∃ v', e = .returned v' ∧ BufG W0 w v w' v' (l ++ sayB t) := by
    obtain ⟨hk0, hs0⟩ := treeIn_iff.1 ht
    obtain ⟨a1, m1, rfl⟩ := hk0.len
    obtain ⟨a2, m2, rfl⟩ := hs0.len
    obtain ⟨hd, hky, hkd⟩ := shape_parts hsh
    obtain ⟨k1, k2, k3, k4, k5, k6⟩ := head_kind hd
    have hts := text_size k3
    have hks := key_size hky
    have hnb := nums_bd hnu
    have HKS := Lib.hid (And.intro hk0 hs0)
    have HSH := Lib.hid hkd
    have HNU := Lib.hid ((nums_iff t).1 hnu).2
    have hnl := len_nodes t.kids
    have HBX := Lib.hid (show BoxS (w.alloc (.cells #[.int .i64 t.kind, .bool t.flag, .int .i64 t.num, .string t.text, .slice a1 t.keys.length m1, .slice a2 t.kids.length m2] 30)) w.heap.size t (.slice a1 t.keys.length m1) (.slice a2 t.kids.length m2) v from ⟨Spill.new w t (.slice a1 t.keys.length m1) (.slice a2 t.kids.length m2) 30, hb.lt (Nat.le_refl _)⟩)
    have HB := Lib.hid ((BufG.start hb).alloc (.cells #[.int .i64 t.kind, .bool t.flag, .int .i64 t.num, .string t.text, .slice a1 t.keys.length m1, .slice a2 t.kids.length m2] 30))
    have hkl2 : t.kids.length ≤ 2000000 := by have := nodes_eq t; omega
    have HNN := Lib.hid (show nodesL t.kids ≤ 2000000 by have := nodes_eq t; omega)
    have HKEYS := Lib.hid hks
    have HTP := Lib.hid (And.intro hTab hPow); clear hTab hPow
    have K4 := Lib.hid k4
    clear hnn hnl hsh hnu ht hb hky hkd hk0 hs0 hd k3 hks k4 k5 k6 k1 k2
    obtain ⟨p0, p1, p2, p3, p4, p5⟩ := HBX.out.1.cells
    · have q1 : (t.kind == 1) = true := kind_eqs t.kind 1 hk 1
      have q2 : (t.kind == 2) = false := kind_eqs t.kind 1 hk 2
      have q3 : (t.kind == 3) = false := kind_eqs t.kind 1 hk 3
      have q4 : (t.kind == 4) = false := kind_eqs t.kind 1 hk 4
      have q5 : (t.kind == 5) = false := kind_eqs t.kind 1 hk 5
      have q6 : (t.kind == 6) = false := kind_eqs t.kind 1 hk 6
      have HL := Lib.hid (say_null hk)
      clear hk
      go_enter Tryd.func28, Tryd.ntmps28
      go_wp2_with (at_builtin; refine wpList_bufGS (by rfl) _ _ (by rfl) _ _ W0 w v _ (by rfl) HB.out _ (by rfl) (by show l.length + 4 ≤ _; omega) ?_; intro v2 w2 hb2 hg2)
      go_ret
      exact ⟨_, rfl, by rw [HL.out]; exact hb2⟩
set_option maxRecDepth 100000 in
set_option maxHeartbeats 4000000 in
theorem iSay_2  (t : Tr) (hk : t.kind = 2) (S : Nat → Prop) (vk vs : Value) (W0 w : World) (v : Value) (l : List UInt8) (hnn : t.nodes ≤ 2000000) (hsh : shapeB t = true) (hnu : t.nums) (ht : TreeIn W0 S t vk vs) (hb : Buf W0 w v l) (hlen : l.length + (sayB t).length ≤ 100000000) (hTab : Tabs W0) (hPow : Pows W0) :
    Calls Tryd.prog 28 #[v, .agg #[.int .i64 t.kind, .bool t.flag, .int .i64 t.num, .string t.text, vk, vs]] w fun e w' => ∃ v', e = .returned v' ∧ BufG W0 w v w' v' (l ++ sayB t) := by
    obtain ⟨hk0, hs0⟩ := treeIn_iff.1 ht
    obtain ⟨a1, m1, rfl⟩ := hk0.len
    obtain ⟨a2, m2, rfl⟩ := hs0.len
    obtain ⟨hd, hky, hkd⟩ := shape_parts hsh
    obtain ⟨k1, k2, k3, k4, k5, k6⟩ := head_kind hd
    have hts := text_size k3
    have hks := key_size hky
    have hnb := nums_bd hnu
    have HKS := Lib.hid (And.intro hk0 hs0)
    have HSH := Lib.hid hkd
    have HNU := Lib.hid ((nums_iff t).1 hnu).2
    have hnl := len_nodes t.kids
    have HBX := Lib.hid (show BoxS (w.alloc (.cells #[.int .i64 t.kind, .bool t.flag, .int .i64 t.num, .string t.text, .slice a1 t.keys.length m1, .slice a2 t.kids.length m2] 30)) w.heap.size t (.slice a1 t.keys.length m1) (.slice a2 t.kids.length m2) v from ⟨Spill.new w t (.slice a1 t.keys.length m1) (.slice a2 t.kids.length m2) 30, hb.lt (Nat.le_refl _)⟩)
    have HB := Lib.hid ((BufG.start hb).alloc (.cells #[.int .i64 t.kind, .bool t.flag, .int .i64 t.num, .string t.text, .slice a1 t.keys.length m1, .slice a2 t.kids.length m2] 30))
    have hkl2 : t.kids.length ≤ 2000000 := by have := nodes_eq t; omega
    have HNN := Lib.hid (show nodesL t.kids ≤ 2000000 by have := nodes_eq t; omega)
    have HKEYS := Lib.hid hks
    have HTP := Lib.hid (And.intro hTab hPow); clear hTab hPow
    have K4 := Lib.hid k4
    clear hnn hnl hsh hnu ht hb hky hkd hk0 hs0 hd k3 hks k4 k5 k6 k1 k2
    obtain ⟨p0, p1, p2, p3, p4, p5⟩ := HBX.out.1.cells
    · have q1 : (t.kind == 1) = false := kind_eqs t.kind 2 hk 1
      have q2 : (t.kind == 2) = true := kind_eqs t.kind 2 hk 2
      have q3 : (t.kind == 3) = false := kind_eqs t.kind 2 hk 3
      have q4 : (t.kind == 4) = false := kind_eqs t.kind 2 hk 4
      have q5 : (t.kind == 5) = false := kind_eqs t.kind 2 hk 5
      have q6 : (t.kind == 6) = false := kind_eqs t.kind 2 hk 6
      rcases Bool.eq_false_or_eq_true t.flag with hf | hf
      · have HL := Lib.hid (say_true hk hf)
        clear hk
        simp only [hf] at HB p0 p1 p2 p3 p4 p5
        go_enter Tryd.func28, Tryd.ntmps28
        go_wp2_with (go_at_call 37; refine (appBoolT HB.out (by omega)).mono ?_; rintro e w2 ⟨v2, rfl, hb2⟩)
        go_ret
        exact ⟨_, rfl, by rw [HL.out]; exact hb2⟩
      · have HL := Lib.hid (say_false hk hf)
        clear hk
        simp only [hf] at HB p0 p1 p2 p3 p4 p5
        go_enter Tryd.func28, Tryd.ntmps28
        go_wp2_with (go_at_call 37; refine (appBoolF HB.out (by omega)).mono ?_; rintro e w2 ⟨v2, rfl, hb2⟩)
        go_ret
        exact ⟨_, rfl, by rw [HL.out]; exact hb2⟩
set_option maxRecDepth 100000 in
set_option maxHeartbeats 4000000 in
theorem iSay_3  (t : Tr) (hk : t.kind = 3) (S : Nat → Prop) (vk vs : Value) (W0 w : World) (v : Value) (l : List UInt8) (hnn : t.nodes ≤ 2000000) (hsh : shapeB t = true) (hnu : t.nums) (ht : TreeIn W0 S t vk vs) (hb : Buf W0 w v l) (hlen : l.length + (sayB t).length ≤ 100000000) (hTab : Tabs W0) (hPow : Pows W0) :
    Calls Tryd.prog 28 #[v, .agg #[.int .i64 t.kind, .bool t.flag, .int .i64 t.num, .string t.text, vk, vs]] w fun e w' => ∃ v', e = .returned v' ∧ BufG W0 w v w' v' (l ++ sayB t) := by
    obtain ⟨hk0, hs0⟩ := treeIn_iff.1 ht
    obtain ⟨a1, m1, rfl⟩ := hk0.len
    obtain ⟨a2, m2, rfl⟩ := hs0.len
    obtain ⟨hd, hky, hkd⟩ := shape_parts hsh
    obtain ⟨k1, k2, k3, k4, k5, k6⟩ := head_kind hd
    have hts := text_size k3
    have hks := key_size hky
    have hnb := nums_bd hnu
    have HKS := Lib.hid (And.intro hk0 hs0)
    have HSH := Lib.hid hkd
    have HNU := Lib.hid ((nums_iff t).1 hnu).2
    have hnl := len_nodes t.kids
    have HBX := Lib.hid (show BoxS (w.alloc (.cells #[.int .i64 t.kind, .bool t.flag, .int .i64 t.num, .string t.text, .slice a1 t.keys.length m1, .slice a2 t.kids.length m2] 30)) w.heap.size t (.slice a1 t.keys.length m1) (.slice a2 t.kids.length m2) v from ⟨Spill.new w t (.slice a1 t.keys.length m1) (.slice a2 t.kids.length m2) 30, hb.lt (Nat.le_refl _)⟩)
    have HB := Lib.hid ((BufG.start hb).alloc (.cells #[.int .i64 t.kind, .bool t.flag, .int .i64 t.num, .string t.text, .slice a1 t.keys.length m1, .slice a2 t.kids.length m2] 30))
    have hkl2 : t.kids.length ≤ 2000000 := by have := nodes_eq t; omega
    have HNN := Lib.hid (show nodesL t.kids ≤ 2000000 by have := nodes_eq t; omega)
    have HKEYS := Lib.hid hks
    have HTP := Lib.hid (And.intro hTab hPow); clear hTab hPow
    have K4 := Lib.hid k4
    clear hnn hnl hsh hnu ht hb hky hkd hk0 hs0 hd k3 hks k4 k5 k6 k1 k2
    obtain ⟨p0, p1, p2, p3, p4, p5⟩ := HBX.out.1.cells
    · have q1 : (t.kind == 1) = false := kind_eqs t.kind 3 hk 1
      have q2 : (t.kind == 2) = false := kind_eqs t.kind 3 hk 2
      have q3 : (t.kind == 3) = true := kind_eqs t.kind 3 hk 3
      have q4 : (t.kind == 4) = false := kind_eqs t.kind 3 hk 4
      have q5 : (t.kind == 5) = false := kind_eqs t.kind 3 hk 5
      have q6 : (t.kind == 6) = false := kind_eqs t.kind 3 hk 6
      have HL := Lib.hid (say_int hk)
      clear hk
      obtain ⟨D, hD⟩ : ∃ D : ByteArray, D = ⟨(Lib.itoa t.num).toArray⟩ := ⟨_, rfl⟩
      have hDs : l.length + D.size ≤ 100000000 := by
        rw [hD]; show l.length + (Lib.itoa t.num).toArray.size ≤ _
        rw [List.size_toArray, ← HL.out]; exact hlen
      have HDL := Lib.hid (show D.data.toList = sayB t by rw [hD, HL.out])
      have HD := Lib.hid (fun w0 hP => iDecimal t.num w0 hnb.1 hnb.2 hP)
      rw [← hD] at HD
      clear hD
      go_enter Tryd.func28, Tryd.ntmps28
      go_wp2_with (first | (go_at_call 38; refine (HD.out _ (pows_keep HTP.out.2 HB.out.buf.bel)).mono ?_; rintro e w1 ⟨rfl, hb1⟩; have HB1 := Lib.hid (HB.out.keep hb1)) | (at_builtin; refine wpList_bufGS (by rfl) _ _ (by rfl) _ _ W0 w v _ (by rfl) HB1.out _ (by rfl) (by omega) ?_; intro v2 w2 hb2 hg2))
      go_ret
      exact ⟨_, rfl, by rw [← HDL.out]; exact hb2⟩
set_option maxRecDepth 100000 in
set_option maxHeartbeats 4000000 in
theorem iSay_4  (t : Tr) (hk : t.kind = 4) (S : Nat → Prop) (vk vs : Value) (W0 w : World) (v : Value) (l : List UInt8) (hnn : t.nodes ≤ 2000000) (hsh : shapeB t = true) (hnu : t.nums) (ht : TreeIn W0 S t vk vs) (hb : Buf W0 w v l) (hlen : l.length + (sayB t).length ≤ 100000000) (hTab : Tabs W0) (hPow : Pows W0) :
    Calls Tryd.prog 28 #[v, .agg #[.int .i64 t.kind, .bool t.flag, .int .i64 t.num, .string t.text, vk, vs]] w fun e w' => ∃ v', e = .returned v' ∧ BufG W0 w v w' v' (l ++ sayB t) := by
    obtain ⟨hk0, hs0⟩ := treeIn_iff.1 ht
    obtain ⟨a1, m1, rfl⟩ := hk0.len
    obtain ⟨a2, m2, rfl⟩ := hs0.len
    obtain ⟨hd, hky, hkd⟩ := shape_parts hsh
    obtain ⟨k1, k2, k3, k4, k5, k6⟩ := head_kind hd
    have hts := text_size k3
    have hks := key_size hky
    have hnb := nums_bd hnu
    have HKS := Lib.hid (And.intro hk0 hs0)
    have HSH := Lib.hid hkd
    have HNU := Lib.hid ((nums_iff t).1 hnu).2
    have hnl := len_nodes t.kids
    have HBX := Lib.hid (show BoxS (w.alloc (.cells #[.int .i64 t.kind, .bool t.flag, .int .i64 t.num, .string t.text, .slice a1 t.keys.length m1, .slice a2 t.kids.length m2] 30)) w.heap.size t (.slice a1 t.keys.length m1) (.slice a2 t.kids.length m2) v from ⟨Spill.new w t (.slice a1 t.keys.length m1) (.slice a2 t.kids.length m2) 30, hb.lt (Nat.le_refl _)⟩)
    have HB := Lib.hid ((BufG.start hb).alloc (.cells #[.int .i64 t.kind, .bool t.flag, .int .i64 t.num, .string t.text, .slice a1 t.keys.length m1, .slice a2 t.kids.length m2] 30))
    have hkl2 : t.kids.length ≤ 2000000 := by have := nodes_eq t; omega
    have HNN := Lib.hid (show nodesL t.kids ≤ 2000000 by have := nodes_eq t; omega)
    have HKEYS := Lib.hid hks
    have HTP := Lib.hid (And.intro hTab hPow); clear hTab hPow
    have K4 := Lib.hid k4
    clear hnn hnl hsh hnu ht hb hky hkd hk0 hs0 hd k3 hks k4 k5 k6 k1 k2
    obtain ⟨p0, p1, p2, p3, p4, p5⟩ := HBX.out.1.cells
    · have q1 : (t.kind == 1) = false := kind_eqs t.kind 4 hk 1
      have q2 : (t.kind == 2) = false := kind_eqs t.kind 4 hk 2
      have q3 : (t.kind == 3) = false := kind_eqs t.kind 4 hk 3
      have q4 : (t.kind == 4) = true := kind_eqs t.kind 4 hk 4
      have q5 : (t.kind == 5) = false := kind_eqs t.kind 4 hk 5
      have q6 : (t.kind == 6) = false := kind_eqs t.kind 4 hk 6
      have HL := Lib.hid (say_text hk)
      clear hk
      have HD := Lib.hid (fun w0 hT => iQuoted t.text w0 (by omega) hT)
      have hDs : l.length + (quotedB t.text).size ≤ 100000000 := by
        have h1 : (qL t.text).length = (quotedB t.text).size := by unfold qL; simp
        rw [← h1, ← HL.out]; exact hlen
      have HDL := Lib.hid (show (quotedB t.text).data.toList = sayB t by rw [HL.out]; rfl)
      generalize quotedB t.text = D at HD hDs HDL
      go_enter Tryd.func28, Tryd.ntmps28
      go_wp2_with (first | (go_at_call 39; refine (HD.out _ (tabs_keep HTP.out.1 HB.out.buf.bel)).mono ?_; rintro e w1 ⟨rfl, hb1⟩; have HB1 := Lib.hid (HB.out.keep hb1)) | (at_builtin; refine wpList_bufGS (by rfl) _ _ (by rfl) _ _ W0 w v _ (by rfl) HB1.out _ (by rfl) (by omega) ?_; intro v2 w2 hb2 hg2))
      go_ret
      exact ⟨_, rfl, by rw [← HDL.out]; exact hb2⟩

end Go.Proofs.YtbjialckijphiaaDoor
namespace Go.Proofs.YtbjialckijphiaaDoor
open Go.RowKit

def bytesB (l : List UInt8) : ByteArray := ⟨l.toArray⟩
def scalTB (k : Int) (f : Bool) (n : Int) (s : ByteArray) : ByteArray :=
  if k = 1 then ⟨#[110, 117, 108, 108]⟩ else if k = 2 then (if f = true then ⟨#[116, 114, 117, 101]⟩ else ⟨#[102, 97, 108, 115, 101]⟩) else if k = 3 then ⟨(Lib.itoa n).toArray⟩ else if k = 4 then keyTextB s
  else if k = 5 then ⟨#[91, 93]⟩ else ⟨#[123, 125]⟩
theorem scal_null {k : Int} {f : Bool} {n : Int} {s : ByteArray} (h : k = 1) : scalTB k f n s = ⟨#[110, 117, 108, 108]⟩ := by rw [scalTB, if_pos h]
theorem scal_true {k : Int} {f : Bool} {n : Int} {s : ByteArray} (h : k = 2) (hf : f = true) : scalTB k f n s = ⟨#[116, 114, 117, 101]⟩ := by rw [scalTB, if_neg (by omega), if_pos h, if_pos hf]
theorem scal_false {k : Int} {f : Bool} {n : Int} {s : ByteArray} (h : k = 2) (hf : f = false) : scalTB k f n s = ⟨#[102, 97, 108, 115, 101]⟩ := by rw [scalTB, if_neg (by omega), if_pos h, if_neg (by simp [hf])]
theorem scal_int {k : Int} {f : Bool} {n : Int} {s : ByteArray} (h : k = 3) : scalTB k f n s = ⟨(Lib.itoa n).toArray⟩ := by rw [scalTB, if_neg (by omega), if_neg (by omega), if_pos h]
theorem scal_text {k : Int} {f : Bool} {n : Int} {s : ByteArray} (h : k = 4) : scalTB k f n s = keyTextB s := by rw [scalTB, if_neg (by omega), if_neg (by omega), if_neg (by omega), if_pos h]
theorem scal_list {k : Int} {f : Bool} {n : Int} {s : ByteArray} (h : k = 5) : scalTB k f n s = ⟨#[91, 93]⟩ := by rw [scalTB, if_neg (by omega), if_neg (by omega), if_neg (by omega), if_neg (by omega), if_pos h]
theorem scal_map {k : Int} {f : Bool} {n : Int} {s : ByteArray} (h : k = 6) : scalTB k f n s = ⟨#[123, 125]⟩ := by rw [scalTB, if_neg (by omega), if_neg (by omega), if_neg (by omega), if_neg (by omega), if_neg (by omega)]
/-- What the braced text of such a tree is. -/
theorem scal_say {t : Tr} (h : t.kind < 4) (h1 : 1 ≤ t.kind) : (⟨(sayB t).toArray⟩ : ByteArray) = scalTB t.kind t.flag t.num t.text := by
  rcases (show t.kind = 1 ∨ t.kind = 2 ∨ t.kind = 3 by omega) with e | e | e
  · rw [say_null e, scal_null e]; rfl
  · cases hf : t.flag
    · rw [say_false e hf, scal_false e rfl]; rfl
    · rw [say_true e hf, scal_true e rfl]; rfl
  · rw [say_int e, scal_int e]

def twoSp (l : ByteArray) : ByteArray := ⟨#[32, 32]⟩ ++ l
def firstB (L : List ByteArray) : ByteArray := strAt L 0
/-- The lines of one child. -/
def entryL (m : Bool) (key : ByteArray) (leaf : Bool) (L : List ByteArray) : List ByteArray :=
  if m = true then (if leaf = true then [(keyTextB key ++ ⟨#[58, 32]⟩) ++ firstB L] else (keyTextB key ++ ⟨#[58]⟩) :: L.map twoSp)
  else (⟨#[45, 32]⟩ ++ firstB L) :: (L.drop 1).map twoSp
mutual
def linesT : Tr → List ByteArray
  | .mk k f n s keys kids => if kids.isEmpty = true then [scalTB k f n s] else linesK (k == 6) keys 0 kids
def linesK (m : Bool) (keys : List ByteArray) (i : Nat) : List Tr → List ByteArray
  | [] => []
  | t :: ts => entryL m (strAt keys i) t.kids.isEmpty (linesT t) ++ linesK m keys (i + 1) ts
end
theorem lines_leaf {t : Tr} (h : t.kids.length = 0) : linesT t = [scalTB t.kind t.flag t.num t.text] := by
  cases t; simp only [Tr.kids] at h
  simp only [linesT, Tr.kind, Tr.flag, Tr.num, Tr.text]
  rw [if_pos (by rw [List.isEmpty_iff]; exact List.eq_nil_of_length_eq_zero h)]
theorem lines_node {t : Tr} (h : 0 < t.kids.length) : linesT t = linesK (t.kind == 6) t.keys 0 t.kids := by
  cases t; simp only [Tr.kids] at h
  simp only [linesT, Tr.kind, Tr.keys, Tr.kids]
  rw [if_neg]
  intro e
  rw [List.isEmpty_iff] at e
  rw [e] at h; simp at h
def LinesAt (m : Bool) (keys : List ByteArray) (kids : List Tr) (k : Nat) (acc all : List ByteArray) : Prop := acc ++ linesK m keys k (kids.drop k) = all
theorem linesAt_start (m : Bool) (keys : List ByteArray) (kids : List Tr) : LinesAt m keys kids 0 [] (linesK m keys 0 kids) := rfl
theorem linesAt_step {m : Bool} {keys : List ByteArray} {kids : List Tr} {k : Nat} {acc all : List ByteArray} (h : LinesAt m keys kids k acc all) (hk : k < kids.length) :
    LinesAt m keys kids (k + 1) (acc ++ entryL m (strAt keys k) (kidAt kids k).kids.isEmpty (linesT (kidAt kids k))) all := by
  rw [LinesAt, kids_drop hk, linesK] at h
  rw [LinesAt, ← h]; simp only [List.append_assoc]
theorem linesAt_end {m : Bool} {keys : List ByteArray} {kids : List Tr} {k : Nat} {acc all : List ByteArray} (h : LinesAt m keys kids k acc all) (hk : kids.length ≤ k) : acc = all := by
  rw [LinesAt, List.drop_of_length_le hk, linesK, List.append_nil] at h; exact h
theorem linesAt_len {m : Bool} {keys : List ByteArray} {kids : List Tr} {k : Nat} {acc all : List ByteArray} (h : LinesAt m keys kids k acc all) : acc.length ≤ all.length := by
  rw [LinesAt] at h; rw [← h]; simp only [List.length_append]; omega
theorem keyText_len (s : ByteArray) : (keyTextB s).size ≤ 6 * s.size + 2 := by
  have h := qL_len s
  unfold keyTextB
  split
  · omega
  · have e : (qL s).length = (quotedB s).size := by unfold qL; simp
    omega
theorem scal_len {k : Int} {f : Bool} {n : Int} {s : ByteArray} (hs : s.size ≤ 400) (hn : -9223372036854775808 ≤ n ∧ n ≤ 9223372036854775807) : (scalTB k f n s).size ≤ 2402 := by
  have h1 := keyText_len s
  have h2 := itoa_len n hn
  unfold scalTB
  split
  · decide
  split
  · split <;> decide
  split
  · show (Lib.itoa n).toArray.size ≤ 2402
    rw [List.size_toArray]; omega
  split
  · omega
  split <;> decide
theorem entry_len (m : Bool) (key : ByteArray) (leaf : Bool) (L : List ByteArray) : (entryL m key leaf L).length ≤ L.length + 1 ∧ 0 < (entryL m key leaf L).length := by
  unfold entryL
  split
  · split <;> simp
  · simp only [List.length_cons, List.length_map, List.length_drop]; omega
theorem strAt_le {L : List ByteArray} {B : Nat} (h : ∀ l, l ∈ L → l.size ≤ B) (i : Nat) : (strAt L i).size ≤ B := by
  rcases Nat.lt_or_ge i L.length with hi | hi
  · rw [strAt, List.getD_eq_getElem?_getD, List.getElem?_eq_getElem hi]; exact h _ (List.getElem_mem hi)
  · rw [strAt, List.getD_eq_getElem?_getD, List.getElem?_eq_none hi]; exact Nat.zero_le _
theorem entry_size {m : Bool} {key : ByteArray} {leaf : Bool} {L : List ByteArray} {B : Nat} (hk : key.size ≤ 400) (h : ∀ l, l ∈ L → l.size ≤ B) : ∀ l, l ∈ entryL m key leaf L → l.size ≤ B + 2404 := by
  have h1 := keyText_len key
  have h0 := strAt_le h 0
  have ht : ∀ l, l.size ≤ B → (twoSp l).size ≤ B + 2404 := fun l hl => by
    unfold twoSp; rw [ByteArray.size_append]
    have : (⟨#[32, 32]⟩ : ByteArray).size = 2 := rfl
    omega
  intro l hl
  unfold entryL firstB at hl
  split at hl
  · split at hl
    · simp only [List.mem_singleton] at hl; subst hl
      rw [ByteArray.size_append, ByteArray.size_append]
      have : (⟨#[58, 32]⟩ : ByteArray).size = 2 := rfl
      omega
    · simp only [List.mem_cons, List.mem_map] at hl
      rcases hl with rfl | ⟨x, hx, rfl⟩
      · rw [ByteArray.size_append]
        have : (⟨#[58]⟩ : ByteArray).size = 1 := rfl
        omega
      · exact ht x (h x hx)
  · simp only [List.mem_cons, List.mem_map] at hl
    rcases hl with rfl | ⟨x, hx, rfl⟩
    · rw [ByteArray.size_append]
      have : (⟨#[45, 32]⟩ : ByteArray).size = 2 := rfl
      omega
    · exact ht x (h x (List.mem_of_mem_drop hx))
mutual
theorem linesT_len : ∀ t : Tr, shapeB t = true → t.nums → (linesT t).length + 1 ≤ 2 * t.nodes ∧ 0 < (linesT t).length ∧ ∀ l, l ∈ linesT t → l.size ≤ 5000 * t.nodes
  | .mk k f n s keys kids, h, hn => by
    obtain ⟨h1, h2, h3⟩ := shape_parts h
    obtain ⟨a1, a2, a3, a4, a5, a6⟩ := head_kind h1
    simp only [Tr.text, Tr.keys, Tr.kids] at a3 h2 h3
    have hb := nums_bd hn
    simp only [Tr.num] at hb
    have hs := text_size a3
    simp only [Tr.nums] at hn
    rw [linesT]
    by_cases hk : kids.isEmpty = true
    · rw [if_pos hk]
      have := scal_len (k := k) (f := f) hs hb
      simp only [Tr.nodes]
      refine ⟨by simp; omega, by simp, fun l hl => ?_⟩
      simp only [List.mem_singleton] at hl; subst hl; omega
    · rw [if_neg hk]
      obtain ⟨b1, b2, b3⟩ := linesK_len (k == 6) keys (key_size h2) kids 0 h3 hn.2
      simp only [Tr.nodes]
      refine ⟨by omega, ?_, fun l hl => by have := b3 l hl; omega⟩
      cases kids with
      | nil => simp at hk
      | cons t ts =>
        have := entry_len (k == 6) (strAt keys 0) t.kids.isEmpty (linesT t)
        rw [linesK, List.length_append]; omega
theorem linesK_len (m : Bool) (keys : List ByteArray) (hk : ∀ j, (strAt keys j).size ≤ 400) : ∀ (l : List Tr) (i : Nat), shapeL l = true → numsL l → (linesK m keys i l).length ≤ 2 * nodesL l ∧ True ∧ ∀ x, x ∈ linesK m keys i l → x.size ≤ 5000 * nodesL l + 2404
  | [], i, _, _ => by simp [linesK]
  | t :: ts, i, h, hn => by
    rw [shapeL, Bool.and_eq_true] at h
    simp only [numsL] at hn
    obtain ⟨a1, a2, a3⟩ := linesT_len t h.1 hn.1
    obtain ⟨b1, b2, b3⟩ := linesK_len m keys hk ts (i + 1) h.2 hn.2
    have c := entry_len m (strAt keys i) t.kids.isEmpty (linesT t)
    have d := entry_size (m := m) (leaf := t.kids.isEmpty) (hk i) a3
    simp only [linesK, nodesL, List.length_append, List.mem_append]
    refine ⟨by omega, trivial, fun x hx => ?_⟩
    rcases hx with hx | hx
    · have := d x hx; omega
    · have := b3 x hx; omega
end

end Go.Proofs.YtbjialckijphiaaDoor
namespace Go.Proofs.YtbjialckijphiaaDoor
open Go.RowKit

def scalR (t : Tr) : Bool := decide (t.kids.length = 0) && treeOkB t
def scalS (t : Tr) : ByteArray := if scalR t = true then scalTB t.kind t.flag t.num t.text else ⟨#[]⟩
def ScalTV (t : Tr) (w : World) (e : Ending) (w' : World) : Prop := e = .returned (.tuple #[.string (scalS t), .bool (scalR t)]) ∧ Below w.heap.size w w'
theorem scalT_no {t : Tr} {w w' : World} (h : scalR t = false) (hb : Below w.heap.size w w') : ScalTV t w (.returned (.tuple #[.string ⟨#[]⟩, .bool false])) w' := ⟨by rw [scalS, h]; rfl, hb⟩
theorem scalT_yes {t : Tr} {w w' : World} {x : ByteArray} (h : scalR t = true) (hx : x = scalTB t.kind t.flag t.num t.text) (hb : Below w.heap.size w w') : ScalTV t w (.returned (.tuple #[.string x, .bool true])) w' := ⟨by rw [scalS, h, hx]; rfl, hb⟩

set_option maxRecDepth 100000 in
set_option maxHeartbeats 4000000 in
theorem sScalarText (t : Tr) (S : Nat → Prop) (vk vs : Value) (w : World) (hn : t.nodes ≤ 2000000) (hnu : t.nums) (ht : TreeIn w S t vk vs) :
    Calls Tryd.prog 13 #[.agg #[.int .i64 t.kind, .bool t.flag, .int .i64 t.num, .string t.text, vk, vs]] w (ScalTV t w) := by
  obtain ⟨hk0, hs0⟩ := treeIn_iff.1 ht
  obtain ⟨a1, m1, rfl⟩ := hk0.len
  obtain ⟨a2, m2, rfl⟩ := hs0.len
  have HB0 := Lib.hid (alloc_below w #[.int .i64 t.kind, .bool t.flag, .int .i64 t.num, .string t.text, .slice a1 t.keys.length m1, .slice a2 t.kids.length m2] 30)
  have HS0 := Lib.hid (Spill.new w t (.slice a1 t.keys.length m1) (.slice a2 t.kids.length m2) 30)
  obtain ⟨p0, p1, p2, p3, p4, p5⟩ := HS0.out.cells
  have HIN := Lib.hid (ht.keep HB0.out)
  have hok := sTreeOk t S _ _ _ hn HIN.out
  by_cases hk : 0 < t.kids.length
  · have H := Lib.hid (show scalR t = false by rw [scalR, decide_eq_false (by omega)]; rfl)
    have z1 : decide ((0 : Int) < (t.kids.length : Int)) = true := decide_eq_true (by omega)
    have z2 : decide (0 < t.kids.length) = true := decide_eq_true hk
    clear hok hnu hn ht hk0 hs0
    go_enter Tryd.func13, Tryd.ntmps13
    go_wp2_with fail
    go_ret2
    exact scalT_no H.out HB0.out
  have z1 : decide ((0 : Int) < (t.kids.length : Int)) = false := decide_eq_false (by omega)
  have z2 : decide (0 < t.kids.length) = false := decide_eq_false hk
  have HR : Hid (scalR t = (decide (t.kids.length = 0) && treeOkB t)) := rfl
  cases hokb : treeOkB t
  · have H := Lib.hid (show scalR t = false by rw [HR.out, hokb]; simp)
    rw [hokb] at hok
    have HOK := Lib.hid hok
    clear hok hnu hn ht hk0 hs0 hokb
    go_enter Tryd.func13, Tryd.ntmps13
    go_wp2_with (go_at_call 7; refine (HOK.out).mono ?_; rintro e w1 ⟨rfl, hb1⟩; have HS1 := Lib.hid (HS0.out.keep hb1); have HB1 := Lib.hid (bnext HB0.out hb1); have HI1 := Lib.hid (HIN.out.keep hb1); obtain ⟨q0, q1, q2, q3, q4, q5⟩ := HS1.out.cells)
    go_ret2
    exact scalT_no H.out HB1.out
  have H := Lib.hid (show scalR t = true by rw [HR.out, hokb, decide_eq_true (by omega)]; rfl)
  have hsh : shapeB t = true := by
    simp only [treeOkB, Bool.and_eq_true] at hokb; exact hokb.2.2
  rw [hokb] at hok
  have HOK := Lib.hid hok
  obtain ⟨k1, k2, k3, -⟩ := head_kind (shape_parts hsh).1
  have hts := text_size k3
  have hnb := nums_bd hnu
  have hsl : t.kind < 4 → (sayB t).length ≤ 100000000 := fun h => by
    rcases (show t.kind = 1 ∨ t.kind = 2 ∨ t.kind = 3 by omega) with e | e | e
    · rw [say_null e]; decide
    · cases hf : t.flag
      · rw [say_false e hf]; decide
      · rw [say_true e hf]; decide
    · rw [say_int e]; have := itoa_len t.num hnb; omega
  have HKD := Lib.hid (show t.kind < 4 → (⟨(sayB t).toArray⟩ : ByteArray) = scalTB t.kind t.flag t.num t.text from fun h => scal_say h k1)
  have HSH := Lib.hid (And.intro hsh (And.intro hnu (And.intro hn hsl)))
  have hkk : t.kind = 1 ∨ t.kind = 2 ∨ t.kind = 3 ∨ t.kind = 4 ∨ t.kind = 5 ∨ t.kind = 6 := by omega
  clear hok hsh hnu hn ht hk0 hs0 hokb hk k1 k2 k3 hsl
  rcases hkk with hk | hk | hk | hk | hk | hk
  · have k1 : (t.kind == 1) = true := kind_eqs t.kind 1 hk 1
    have k2 : (t.kind == 2) = false := kind_eqs t.kind 1 hk 2
    have k3 : (t.kind == 3) = false := kind_eqs t.kind 1 hk 3
    have k4 : (t.kind == 4) = false := kind_eqs t.kind 1 hk 4
    have k5 : (t.kind == 5) = false := kind_eqs t.kind 1 hk 5
    have k6 : (t.kind == 6) = false := kind_eqs t.kind 1 hk 6
    have HV := Lib.hid (scal_null (k := t.kind) (f := t.flag) (n := t.num) (s := t.text) hk)
    clear hk
    go_enter Tryd.func13, Tryd.ntmps13
    go_wp2_with (go_at_call 7; refine (HOK.out).mono ?_; rintro e w1 ⟨rfl, hb1⟩; have HS1 := Lib.hid (HS0.out.keep hb1); have HB1 := Lib.hid (bnext HB0.out hb1); have HI1 := Lib.hid (HIN.out.keep hb1); obtain ⟨q0, q1, q2, q3, q4, q5⟩ := HS1.out.cells)
    go_ret2
    exact scalT_yes H.out HV.out.symm HB1.out
  · have k1 : (t.kind == 1) = false := kind_eqs t.kind 2 hk 1
    have k2 : (t.kind == 2) = true := kind_eqs t.kind 2 hk 2
    have k3 : (t.kind == 3) = false := kind_eqs t.kind 2 hk 3
    have k4 : (t.kind == 4) = false := kind_eqs t.kind 2 hk 4
    have k5 : (t.kind == 5) = false := kind_eqs t.kind 2 hk 5
    have k6 : (t.kind == 6) = false := kind_eqs t.kind 2 hk 6
    rcases Bool.eq_false_or_eq_true t.flag with hf | hf
    all_goals
      have HF := Lib.hid hf
      clear hf
    · have HV := Lib.hid (scal_true (k := t.kind) (f := t.flag) (n := t.num) (s := t.text) hk HF.out)
      clear hk
      go_enter Tryd.func13, Tryd.ntmps13
      go_wp2_with (go_at_call 7; refine (HOK.out).mono ?_; rintro e w1 ⟨rfl, hb1⟩; have HS1 := Lib.hid (HS0.out.keep hb1); have HB1 := Lib.hid (bnext HB0.out hb1); obtain ⟨q0, q1, q2, q3, q4, q5⟩ := HS1.out.cells; rw [HF.out] at q1)
      go_ret2
      exact scalT_yes H.out HV.out.symm HB1.out
    · have HV := Lib.hid (scal_false (k := t.kind) (f := t.flag) (n := t.num) (s := t.text) hk HF.out)
      clear hk
      go_enter Tryd.func13, Tryd.ntmps13
      go_wp2_with (go_at_call 7; refine (HOK.out).mono ?_; rintro e w1 ⟨rfl, hb1⟩; have HS1 := Lib.hid (HS0.out.keep hb1); have HB1 := Lib.hid (bnext HB0.out hb1); obtain ⟨q0, q1, q2, q3, q4, q5⟩ := HS1.out.cells; rw [HF.out] at q1)
      go_ret2
      exact scalT_yes H.out HV.out.symm HB1.out
  · have k1 : (t.kind == 1) = false := kind_eqs t.kind 3 hk 1
    have k2 : (t.kind == 2) = false := kind_eqs t.kind 3 hk 2
    have k3 : (t.kind == 3) = true := kind_eqs t.kind 3 hk 3
    have k4 : (t.kind == 4) = false := kind_eqs t.kind 3 hk 4
    have k5 : (t.kind == 5) = false := kind_eqs t.kind 3 hk 5
    have k6 : (t.kind == 6) = false := kind_eqs t.kind 3 hk 6
    have HV := Lib.hid (scal_int (k := t.kind) (f := t.flag) (n := t.num) (s := t.text) hk)
    clear hk
    go_enter Tryd.func13, Tryd.ntmps13
    go_wp2_with (first | (go_at_call 7; refine (HOK.out).mono ?_; rintro e w1 ⟨rfl, hb1⟩; have HS1 := Lib.hid (HS0.out.keep hb1); have HB1 := Lib.hid (bnext HB0.out hb1); have HI1 := Lib.hid (HIN.out.keep hb1); obtain ⟨q0, q1, q2, q3, q4, q5⟩ := HS1.out.cells) | (go_at_call 29; refine (sDecimal t.num _ hnb.1 hnb.2).mono ?_; rintro e w2 ⟨rfl, hb2⟩))
    go_ret2
    exact scalT_yes H.out HV.out.symm (bnext HB1.out hb2)
  · have k1 : (t.kind == 1) = false := kind_eqs t.kind 4 hk 1
    have k2 : (t.kind == 2) = false := kind_eqs t.kind 4 hk 2
    have k3 : (t.kind == 3) = false := kind_eqs t.kind 4 hk 3
    have k4 : (t.kind == 4) = true := kind_eqs t.kind 4 hk 4
    have k5 : (t.kind == 5) = false := kind_eqs t.kind 4 hk 5
    have k6 : (t.kind == 6) = false := kind_eqs t.kind 4 hk 6
    have HV := Lib.hid (scal_text (k := t.kind) (f := t.flag) (n := t.num) (s := t.text) hk)
    clear hk
    go_enter Tryd.func13, Tryd.ntmps13
    go_wp2_with (first | (go_at_call 7; refine (HOK.out).mono ?_; rintro e w1 ⟨rfl, hb1⟩; have HS1 := Lib.hid (HS0.out.keep hb1); have HB1 := Lib.hid (bnext HB0.out hb1); have HI1 := Lib.hid (HIN.out.keep hb1); obtain ⟨q0, q1, q2, q3, q4, q5⟩ := HS1.out.cells) | (go_at_call 30; refine (sKeyText t.text _ (by omega)).mono ?_; rintro e w2 ⟨rfl, hb2⟩))
    go_ret2
    exact scalT_yes H.out HV.out.symm (bnext HB1.out hb2)
  · have k1 : (t.kind == 1) = false := kind_eqs t.kind 5 hk 1
    have k2 : (t.kind == 2) = false := kind_eqs t.kind 5 hk 2
    have k3 : (t.kind == 3) = false := kind_eqs t.kind 5 hk 3
    have k4 : (t.kind == 4) = false := kind_eqs t.kind 5 hk 4
    have k5 : (t.kind == 5) = true := kind_eqs t.kind 5 hk 5
    have k6 : (t.kind == 6) = false := kind_eqs t.kind 5 hk 6
    have HV := Lib.hid (scal_list (k := t.kind) (f := t.flag) (n := t.num) (s := t.text) hk)
    clear hk
    go_enter Tryd.func13, Tryd.ntmps13
    go_wp2_with (go_at_call 7; refine (HOK.out).mono ?_; rintro e w1 ⟨rfl, hb1⟩; have HS1 := Lib.hid (HS0.out.keep hb1); have HB1 := Lib.hid (bnext HB0.out hb1); have HI1 := Lib.hid (HIN.out.keep hb1); obtain ⟨q0, q1, q2, q3, q4, q5⟩ := HS1.out.cells)
    go_ret2
    exact scalT_yes H.out HV.out.symm HB1.out
  · have k1 : (t.kind == 1) = false := kind_eqs t.kind 6 hk 1
    have k2 : (t.kind == 2) = false := kind_eqs t.kind 6 hk 2
    have k3 : (t.kind == 3) = false := kind_eqs t.kind 6 hk 3
    have k4 : (t.kind == 4) = false := kind_eqs t.kind 6 hk 4
    have k5 : (t.kind == 5) = false := kind_eqs t.kind 6 hk 5
    have k6 : (t.kind == 6) = true := kind_eqs t.kind 6 hk 6
    have HV := Lib.hid (scal_map (k := t.kind) (f := t.flag) (n := t.num) (s := t.text) hk)
    clear hk
    go_enter Tryd.func13, Tryd.ntmps13
    go_wp2_with (go_at_call 7; refine (HOK.out).mono ?_; rintro e w1 ⟨rfl, hb1⟩; have HS1 := Lib.hid (HS0.out.keep hb1); have HB1 := Lib.hid (bnext HB0.out hb1); have HI1 := Lib.hid (HIN.out.keep hb1); obtain ⟨q0, q1, q2, q3, q4, q5⟩ := HS1.out.cells)
    go_ret2
    exact scalT_yes H.out HV.out.symm HB1.out

set_option maxRecDepth 100000 in
set_option maxHeartbeats 4000000 in
theorem iScalarText (t : Tr) (S : Nat → Prop) (vk vs : Value) (w : World) (hn : t.nodes ≤ 2000000) (hnu : t.nums) (ht : TreeIn w S t vk vs) (hT : Tabs w) (hP : Pows w) :
    Calls Tryd.prog 14 #[.agg #[.int .i64 t.kind, .bool t.flag, .int .i64 t.num, .string t.text, vk, vs]] w (ScalTV t w) := by
  have HT := Lib.hid (And.intro hT hP); clear hT hP
  obtain ⟨hk0, hs0⟩ := treeIn_iff.1 ht
  obtain ⟨a1, m1, rfl⟩ := hk0.len
  obtain ⟨a2, m2, rfl⟩ := hs0.len
  have HB0 := Lib.hid (alloc_below w #[.int .i64 t.kind, .bool t.flag, .int .i64 t.num, .string t.text, .slice a1 t.keys.length m1, .slice a2 t.kids.length m2] 30)
  have HS0 := Lib.hid (Spill.new w t (.slice a1 t.keys.length m1) (.slice a2 t.kids.length m2) 30)
  obtain ⟨p0, p1, p2, p3, p4, p5⟩ := HS0.out.cells
  have HIN := Lib.hid (ht.keep HB0.out)
  have hok := iTreeOk t S _ _ _ hn HIN.out (tabs_keep HT.out.1 HB0.out)
  by_cases hk : 0 < t.kids.length
  · have H := Lib.hid (show scalR t = false by rw [scalR, decide_eq_false (by omega)]; rfl)
    have z1 : decide ((0 : Int) < (t.kids.length : Int)) = true := decide_eq_true (by omega)
    have z2 : decide (0 < t.kids.length) = true := decide_eq_true hk
    clear hok hnu hn ht hk0 hs0
    go_enter Tryd.func14, Tryd.ntmps14
    go_wp2_with fail
    go_ret2
    exact scalT_no H.out HB0.out
  have z1 : decide ((0 : Int) < (t.kids.length : Int)) = false := decide_eq_false (by omega)
  have z2 : decide (0 < t.kids.length) = false := decide_eq_false hk
  have HR : Hid (scalR t = (decide (t.kids.length = 0) && treeOkB t)) := rfl
  cases hokb : treeOkB t
  · have H := Lib.hid (show scalR t = false by rw [HR.out, hokb]; simp)
    rw [hokb] at hok
    have HOK := Lib.hid hok
    clear hok hnu hn ht hk0 hs0 hokb
    go_enter Tryd.func14, Tryd.ntmps14
    go_wp2_with (go_at_call 9; refine (HOK.out).mono ?_; rintro e w1 ⟨rfl, hb1⟩; have HS1 := Lib.hid (HS0.out.keep hb1); have HB1 := Lib.hid (bnext HB0.out hb1); have HI1 := Lib.hid (HIN.out.keep hb1); obtain ⟨q0, q1, q2, q3, q4, q5⟩ := HS1.out.cells)
    go_ret2
    exact scalT_no H.out HB1.out
  have H := Lib.hid (show scalR t = true by rw [HR.out, hokb, decide_eq_true (by omega)]; rfl)
  have hsh : shapeB t = true := by
    simp only [treeOkB, Bool.and_eq_true] at hokb; exact hokb.2.2
  rw [hokb] at hok
  have HOK := Lib.hid hok
  obtain ⟨k1, k2, k3, -⟩ := head_kind (shape_parts hsh).1
  have hts := text_size k3
  have hnb := nums_bd hnu
  have hsl : t.kind < 4 → (sayB t).length ≤ 100000000 := fun h => by
    rcases (show t.kind = 1 ∨ t.kind = 2 ∨ t.kind = 3 by omega) with e | e | e
    · rw [say_null e]; decide
    · cases hf : t.flag
      · rw [say_false e hf]; decide
      · rw [say_true e hf]; decide
    · rw [say_int e]; have := itoa_len t.num hnb; omega
  have HKD := Lib.hid (show t.kind < 4 → (⟨(sayB t).toArray⟩ : ByteArray) = scalTB t.kind t.flag t.num t.text from fun h => scal_say h k1)
  have HSH := Lib.hid (And.intro hsh (And.intro hnu (And.intro hn hsl)))
  have hkk : t.kind = 1 ∨ t.kind = 2 ∨ t.kind = 3 ∨ t.kind = 4 ∨ t.kind = 5 ∨ t.kind = 6 := by omega
  clear hok hsh hnu hn ht hk0 hs0 hokb hk k1 k2 k3 hsl
  rcases hkk with hk | hk | hk | hk | hk | hk
  · have k1 : (t.kind == 1) = true := kind_eqs t.kind 1 hk 1
    have k2 : (t.kind == 2) = false := kind_eqs t.kind 1 hk 2
    have k3 : (t.kind == 3) = false := kind_eqs t.kind 1 hk 3
    have k4 : (t.kind == 4) = false := kind_eqs t.kind 1 hk 4
    have k5 : (t.kind == 5) = false := kind_eqs t.kind 1 hk 5
    have k6 : (t.kind == 6) = false := kind_eqs t.kind 1 hk 6
    have HV := Lib.hid (HKD.out (by omega))
    have HSY := Lib.hid (fun w0 (hb : Below w.heap.size w w0) (hi : TreeIn w0 S t (.slice a1 t.keys.length m1) (.slice a2 t.kids.length m2)) => iSay_1 t hk S _ _ w0 w0 _ [] HSH.out.2.2.1 HSH.out.1 HSH.out.2.1 hi (Buf.nil w0) (by have := HSH.out.2.2.2 (by omega); simpa using this) (tabs_keep HT.out.1 hb) (pows_keep HT.out.2 hb))
    clear hk
    go_enter Tryd.func14, Tryd.ntmps14
    go_wp2_with (first | (go_at_call 9; refine (HOK.out).mono ?_; rintro e w1 ⟨rfl, hb1⟩; have HS1 := Lib.hid (HS0.out.keep hb1); have HB1 := Lib.hid (bnext HB0.out hb1); have HI1 := Lib.hid (HIN.out.keep hb1); obtain ⟨q0, q1, q2, q3, q4, q5⟩ := HS1.out.cells) | (go_at_call 28; refine (HSY.out _ HB1.out HI1.out).mono ?_; rintro e w2 ⟨v2, rfl, hb2⟩; have hcv := hb2.buf.text; have hbel := hb2.buf.bel; rw [List.nil_append] at hcv))
    go_ret2
    exact scalT_yes H.out HV.out (bnext HB1.out hbel)
  · have k1 : (t.kind == 1) = false := kind_eqs t.kind 2 hk 1
    have k2 : (t.kind == 2) = true := kind_eqs t.kind 2 hk 2
    have k3 : (t.kind == 3) = false := kind_eqs t.kind 2 hk 3
    have k4 : (t.kind == 4) = false := kind_eqs t.kind 2 hk 4
    have k5 : (t.kind == 5) = false := kind_eqs t.kind 2 hk 5
    have k6 : (t.kind == 6) = false := kind_eqs t.kind 2 hk 6
    have HV := Lib.hid (HKD.out (by omega))
    have HSY := Lib.hid (fun w0 (hb : Below w.heap.size w w0) (hi : TreeIn w0 S t (.slice a1 t.keys.length m1) (.slice a2 t.kids.length m2)) => iSay_2 t hk S _ _ w0 w0 _ [] HSH.out.2.2.1 HSH.out.1 HSH.out.2.1 hi (Buf.nil w0) (by have := HSH.out.2.2.2 (by omega); simpa using this) (tabs_keep HT.out.1 hb) (pows_keep HT.out.2 hb))
    clear hk
    go_enter Tryd.func14, Tryd.ntmps14
    go_wp2_with (first | (go_at_call 9; refine (HOK.out).mono ?_; rintro e w1 ⟨rfl, hb1⟩; have HS1 := Lib.hid (HS0.out.keep hb1); have HB1 := Lib.hid (bnext HB0.out hb1); have HI1 := Lib.hid (HIN.out.keep hb1); obtain ⟨q0, q1, q2, q3, q4, q5⟩ := HS1.out.cells) | (go_at_call 28; refine (HSY.out _ HB1.out HI1.out).mono ?_; rintro e w2 ⟨v2, rfl, hb2⟩; have hcv := hb2.buf.text; have hbel := hb2.buf.bel; rw [List.nil_append] at hcv))
    go_ret2
    exact scalT_yes H.out HV.out (bnext HB1.out hbel)
  · have k1 : (t.kind == 1) = false := kind_eqs t.kind 3 hk 1
    have k2 : (t.kind == 2) = false := kind_eqs t.kind 3 hk 2
    have k3 : (t.kind == 3) = true := kind_eqs t.kind 3 hk 3
    have k4 : (t.kind == 4) = false := kind_eqs t.kind 3 hk 4
    have k5 : (t.kind == 5) = false := kind_eqs t.kind 3 hk 5
    have k6 : (t.kind == 6) = false := kind_eqs t.kind 3 hk 6
    have HV := Lib.hid (HKD.out (by omega))
    have HSY := Lib.hid (fun w0 (hb : Below w.heap.size w w0) (hi : TreeIn w0 S t (.slice a1 t.keys.length m1) (.slice a2 t.kids.length m2)) => iSay_3 t hk S _ _ w0 w0 _ [] HSH.out.2.2.1 HSH.out.1 HSH.out.2.1 hi (Buf.nil w0) (by have := HSH.out.2.2.2 (by omega); simpa using this) (tabs_keep HT.out.1 hb) (pows_keep HT.out.2 hb))
    clear hk
    go_enter Tryd.func14, Tryd.ntmps14
    go_wp2_with (first | (go_at_call 9; refine (HOK.out).mono ?_; rintro e w1 ⟨rfl, hb1⟩; have HS1 := Lib.hid (HS0.out.keep hb1); have HB1 := Lib.hid (bnext HB0.out hb1); have HI1 := Lib.hid (HIN.out.keep hb1); obtain ⟨q0, q1, q2, q3, q4, q5⟩ := HS1.out.cells) | (go_at_call 28; refine (HSY.out _ HB1.out HI1.out).mono ?_; rintro e w2 ⟨v2, rfl, hb2⟩; have hcv := hb2.buf.text; have hbel := hb2.buf.bel; rw [List.nil_append] at hcv))
    go_ret2
    exact scalT_yes H.out HV.out (bnext HB1.out hbel)
  · have k1 : (t.kind == 1) = false := kind_eqs t.kind 4 hk 1
    have k2 : (t.kind == 2) = false := kind_eqs t.kind 4 hk 2
    have k3 : (t.kind == 3) = false := kind_eqs t.kind 4 hk 3
    have k4 : (t.kind == 4) = true := kind_eqs t.kind 4 hk 4
    have k5 : (t.kind == 5) = false := kind_eqs t.kind 4 hk 5
    have k6 : (t.kind == 6) = false := kind_eqs t.kind 4 hk 6
    have HV := Lib.hid (scal_text (k := t.kind) (f := t.flag) (n := t.num) (s := t.text) hk)
    clear hk
    go_enter Tryd.func14, Tryd.ntmps14
    go_wp2_with (first | (go_at_call 9; refine (HOK.out).mono ?_; rintro e w1 ⟨rfl, hb1⟩; have HS1 := Lib.hid (HS0.out.keep hb1); have HB1 := Lib.hid (bnext HB0.out hb1); have HI1 := Lib.hid (HIN.out.keep hb1); obtain ⟨q0, q1, q2, q3, q4, q5⟩ := HS1.out.cells) | (go_at_call 31; refine (iKeyText t.text _ (by omega) (tabs_keep HT.out.1 HB1.out)).mono ?_; rintro e w2 ⟨rfl, hb2⟩))
    go_ret2
    exact scalT_yes H.out HV.out.symm (bnext HB1.out hb2)
  · have k1 : (t.kind == 1) = false := kind_eqs t.kind 5 hk 1
    have k2 : (t.kind == 2) = false := kind_eqs t.kind 5 hk 2
    have k3 : (t.kind == 3) = false := kind_eqs t.kind 5 hk 3
    have k4 : (t.kind == 4) = false := kind_eqs t.kind 5 hk 4
    have k5 : (t.kind == 5) = true := kind_eqs t.kind 5 hk 5
    have k6 : (t.kind == 6) = false := kind_eqs t.kind 5 hk 6
    have HV := Lib.hid (scal_list (k := t.kind) (f := t.flag) (n := t.num) (s := t.text) hk)
    clear hk
    go_enter Tryd.func14, Tryd.ntmps14
    go_wp2_with (go_at_call 9; refine (HOK.out).mono ?_; rintro e w1 ⟨rfl, hb1⟩; have HS1 := Lib.hid (HS0.out.keep hb1); have HB1 := Lib.hid (bnext HB0.out hb1); have HI1 := Lib.hid (HIN.out.keep hb1); obtain ⟨q0, q1, q2, q3, q4, q5⟩ := HS1.out.cells)
    go_ret2
    exact scalT_yes H.out HV.out.symm HB1.out
  · have k1 : (t.kind == 1) = false := kind_eqs t.kind 6 hk 1
    have k2 : (t.kind == 2) = false := kind_eqs t.kind 6 hk 2
    have k3 : (t.kind == 3) = false := kind_eqs t.kind 6 hk 3
    have k4 : (t.kind == 4) = false := kind_eqs t.kind 6 hk 4
    have k5 : (t.kind == 5) = false := kind_eqs t.kind 6 hk 5
    have k6 : (t.kind == 6) = true := kind_eqs t.kind 6 hk 6
    have HV := Lib.hid (scal_map (k := t.kind) (f := t.flag) (n := t.num) (s := t.text) hk)
    clear hk
    go_enter Tryd.func14, Tryd.ntmps14
    go_wp2_with (go_at_call 9; refine (HOK.out).mono ?_; rintro e w1 ⟨rfl, hb1⟩; have HS1 := Lib.hid (HS0.out.keep hb1); have HB1 := Lib.hid (bnext HB0.out hb1); have HI1 := Lib.hid (HIN.out.keep hb1); obtain ⟨q0, q1, q2, q3, q4, q5⟩ := HS1.out.cells)
    go_ret2
    exact scalT_yes H.out HV.out.symm HB1.out

set_option maxRecDepth 100000 in
set_option maxHeartbeats 4000000 in
theorem lawScalarText {H : Type} {enc : TypeId × Value → H} {W : World} {base : Nat} {v : Value} {d : DataW H} {p : List MemPlace} (hval : Value.okWide Tryd.prog W .any base 25 v)
    (h : DataW.Trod enc Tryd.prog W 0 (fun _ => true) true 25 v d p) (_h1 : Lib.VarReads Tryd.prog W "math/bits.deBruijn32tab" Rows.laid_math_bits_deBruijn32tab) (_h2 : Lib.VarReads Tryd.prog W "math/bits.deBruijn64tab" Rows.laid_math_bits_deBruijn64tab) (hp : Lib.VarReads Tryd.prog W "internal/strconv.uint64pow10" Rows.laid_internal_strconv_uint64pow10) (ha : Lib.VarReads Tryd.prog W "unicode/utf8.acceptRanges" Rows.laid_unicode_utf8_acceptRanges) (hf : Lib.VarReads Tryd.prog W "unicode/utf8.first" Rows.laid_unicode_utf8_first) :
    Calls Tryd.prog 5 #[v] W fun e w' => e = .returned (.bool true) ∧ Below W.heap.size W w' := by
  have HTV := Lib.hid (And.intro (tabs_of ha hf) (pows_of hp)); clear ha hf hp
  obtain ⟨t, vk, vs, rfl, ht, hfit, hnum⟩ := openTreeN hval h
  clear h hval
  obtain ⟨hk, hs⟩ := treeIn_iff.1 ht
  obtain ⟨a1, m1, rfl⟩ := hk.len
  obtain ⟨a2, m2, rfl⟩ := hs.len
  clear hk hs
  by_cases hs : (1048576 : Int) < (t.wt : Nat)
  · have hy := lessZ_neg hs
    go_enter Tryd.func5, Tryd.ntmps5
    go_wp2_with fail
    refine (szTree_any t _ _ _ _ _ hfit (ht.keep (alloc_below _ _ _)) (by omega) (by omega)).mono ?_; rintro e w1 ⟨rfl, hb1⟩
    go_wp2
    go_ret
    exact ⟨rfl, bnext (alloc_below _ _ _) hb1⟩
  have hy := lessZ_pos hs
  have hz : (0 : Int) ≤ 1048576 - (t.wt : Nat) := by omega
  have HW := Lib.hid (show t.wt ≤ 1048576 by omega)
  have HN := Lib.hid (show t.nodes ≤ 2000000 by have := nodes_wt t; omega)
  have HNU := Lib.hid hnum; clear hnum
  go_enter Tryd.func5, Tryd.ntmps5
  go_wp2_with fail
  refine (szTree_any t _ _ _ _ _ hfit (ht.keep (alloc_below _ _ _)) (by omega) (by omega)).mono ?_; rintro e w1 ⟨rfl, hb1⟩
  have hs1 := (Spill.new W t (.slice a1 t.keys.length m1) (.slice a2 t.kids.length m2) _).keep hb1
  have hbw1 := bnext (alloc_below _ _ _) hb1
  have HB1 := Lib.hid hb1; clear hb1
  obtain ⟨p0, p1, p2, p3, p4, p5⟩ := hs1.cells
  go_wp2_with fail
  clear p0 p1 p2 p3 p4 p5
  refine (toTree_any t _ _ _ _ HW.out (ht.keep hbw1)).mono ?_; rintro e w2 ⟨⟨k2, s2, f2, rfl, ho2, -, -⟩, hb2⟩
  have hT2 := TreeOwn.toIn (S := Any) _ _ _ _ ho2 (fun _ _ => trivial)
  obtain ⟨c1, n1, rfl⟩ := (treeIn_iff.1 hT2).1.len
  obtain ⟨c2, n2, rfl⟩ := (treeIn_iff.1 hT2).2.len
  have hs2 := hs1.keep hb2
  have hbw2 := bnext hbw1 hb2
  clear ho2
  go_wp2_with fail
  refine (sScalarText t _ _ _ _ HN.out HNU.out hT2).mono ?_; rintro e w3 ⟨rfl, hb3⟩
  have hs3 := hs2.keep hb3
  have hbw3 := bnext hbw2 hb3
  obtain ⟨p0, p1, p2, p3, p4, p5⟩ := hs3.cells
  go_wp2_with fail
  clear p0 p1 p2 p3 p4 p5
  refine (toTree_any t _ _ _ _ HW.out (ht.keep hbw3)).mono ?_; rintro e w4 ⟨⟨k4, s4, f4, rfl, ho4, -, -⟩, hb4⟩
  have hT4 := TreeOwn.toIn (S := Any) _ _ _ _ ho4 (fun _ _ => trivial)
  obtain ⟨c3, n3, rfl⟩ := (treeIn_iff.1 hT4).1.len
  obtain ⟨c4, n4, rfl⟩ := (treeIn_iff.1 hT4).2.len
  have hs4 := hs3.keep hb4
  have hbw4 := bnext hbw3 hb4
  have hbx4 := bnext hbw4 (alloc_below w4 #[.int .i64 t.kind, .bool t.flag, .int .i64 t.num, .string t.text, .slice c3 t.keys.length n3, .slice c4 t.kids.length n4] 30)
  clear ho4
  go_wp2_with fail
  refine (iScalarText t _ _ _ _ HN.out HNU.out (hT4.keep (alloc_below _ _ _)) (tabs_keep HTV.out.1 hbx4) (pows_keep HTV.out.2 hbx4)).mono ?_; rintro e w5 ⟨rfl, hb5⟩
  have hx5 := (Spill.new w4 t (.slice c3 t.keys.length n3) (.slice c4 t.kids.length n4) _).keep hb5
  have hs5 := (hs4.keep (alloc_below w4 _ _)).keep hb5
  have hbx5 := bnext (alloc_below w4 _ _) hb5
  have hbw5 := bnext hbw4 hbx5
  have HB5 := Lib.hid hb5; clear hb5
  obtain ⟨p0, p1, p2, p3, p4, p5⟩ := hs5.cells
  obtain ⟨q0, q1, q2, q3, q4, q5⟩ := hx5.cells
  have e1 := beq_self_eq_true (scalS t).toList
  have e3 : ((scalS t).toList != (scalS t).toList) = false := by simp [bne]
  have e2 : (scalR t != scalR t) = false := by simp
  go_wp2_with fail
  have hd5 : Below w5.heap.size w5 w5.drew := (Below.refl _ _).drew
  have hx5d := Lib.hid (hx5.keep hd5)
  go_region_with (first
    | (go_at_call 8; refine (toTree_any t _ _ _ _ HW.out (ht.keep hbw5.drew)).mono ?_; rintro e w6 ⟨⟨k6, s6, f6, rfl, ho6, -, -⟩, hb6⟩; have hT6 := TreeOwn.toIn (S := Any) _ _ _ _ ho6 (fun _ _ => trivial); obtain ⟨c5, n5, rfl⟩ := (treeIn_iff.1 hT6).1.len; obtain ⟨c6, n6, rfl⟩ := (treeIn_iff.1 hT6).2.len; clear ho6; obtain ⟨r0, r1, r2, r3, r4, r5⟩ := (hx5d.out.keep hb6).cells)
    | (go_at_call 10; refine (eqTree_any t _ _ _ _ _ _ _ HW.out ((hT4.keep hbx5.drew).keep hb6) hT6).mono ?_; rintro e w7 ⟨rfl, hb7⟩))
  all_goals (go_wp2; go_ret; exact ⟨rfl, bnext (bnext hbw5.drew hb6) hb7⟩)

end Go.Proofs.YtbjialckijphiaaDoor
