/- Appends of a call's own rows, with the block where the row lies behind them. -/
import Derived.Test.YtomhbbchflblpaaDoorRowB
namespace Go.Proofs.YtomhbbchflblpaaDoor
open Go.RowKit

/-- Where the slice lies behind an append: where it lay, or in a new block. -/
def Spot (v v' : Value) (w : World) : Prop := v'.ownBlock = v.ownBlock ∨ ∃ g, v'.ownBlock = some g ∧ w.heap.size ≤ g

theorem run_append_spot {P : Program} (w : World) (base : Nat) (t ty e : TypeId) (i : TypeInfo) (z : Value) (size bytes : Nat) (ht : P.underlying t = some (.slice e)) (hi : P.info? e = some i) (hz : i.zero = some z)
    (hsize : i.size = size) (hby : i.bytes = bytes) (hzs : z.cells.size = size) (hsz : 0 < size)
    (v : Value) (n : Nat) (xs : List Value) (hown : w.ownsRow base e size v n xs)
    (a : Addr) (m c : Nat) (news : List Value) (hl : news.length = m * size) (hnews : ∀ j u, news[j]? = some u → w.cell? (a.add j) = some u) (h1 : ∀ u ∈ news, u.oneCell' = true)
    (h63 : n + m ≤ maxLen) (hbytes : (n + m) * bytes ≤ 140737488355328) (hbase : base ≤ w.heap.size) :
    ∃ v' w', (Builtin.append_ #[t, t] ty #[v, .slice (some a) m c]).run P w = .ok v' w' ∧ w'.ownsRow base e size v' (n + m) (xs ++ news) ∧ w.grownBy w' v.ownBlock ∧ Spot v v' w := by
  obtain ⟨v', w', hr, h2, h3, -⟩ := run_append_own (P := P) w base t ty e i z size bytes ht hi hz hsize hby hzs hsz v n xs hown a m c news hl hnews h1 h63 hbytes hbase
  refine ⟨v', w', hr, h2, h3, ?_⟩
  rcases hown.2 with ⟨rfl, rfl⟩ | ⟨g, cap, cur, rfl, hbg, hg, hnc, hcm, hcs, htake⟩
  · have hx : xs = [] := List.eq_nil_of_length_eq_zero (by simpa using hown.1)
    subst hx
    obtain ⟨v2, w2, hr2, k2, -, -⟩ := run_append_own (P := P) w w.heap.size t ty e i z size bytes ht hi hz hsize hby hzs hsz _ 0 [] (World.ownsRow_nil w w.heap.size e size) a m c news hl hnews h1 h63 hbytes (Nat.le_refl _)
    have := hr.symm.trans hr2
    injection this with e1 e2
    subst e1
    cases hb : v'.ownBlock with
    | none => exact .inl (by rw [hb]; rfl)
    | some g => exact .inr ⟨g, hb, (k2.lt g hb).1⟩
  · subst hsize; subst hby
    by_cases hroom : n + m ≤ cap
    · have hfit : n * i.size + news.length ≤ cur.size := by rw [hl, hcs, ← Nat.add_mul]; exact Nat.mul_le_mul_right _ hroom
      have := hr.symm.trans (run_append_room (P := P) w t ty e i ht hi g n cap cur hg a m c news hl hnews h1 hroom hfit)
      injection this with e1 e2
      subst e1
      exact .inl rfl
    · have holds : ∀ j u, xs[j]? = some u → w.cell? ((⟨g, 0, none⟩ : Addr).add j) = some u := hown.cells (g := g) rfl
      have := hr.symm.trans (run_append_grow (P := P) w t ty e i z ht hi hz ⟨g, 0, none⟩ n cap xs hown.1 holds a m c news hl hnews (by omega) (by unfold maxLen at h63; omega) (growslice_fits (by omega) hbytes))
      injection this with e1 e2
      subst e1
      exact .inr ⟨w.heap.size, rfl, Nat.le_refl _⟩

theorem wpList_append_spot {P : Program} {w : World} {ops : Array Oper} {rest : List Oper} {o : Oper} {a : Act} {Q : Exit → Act → World → Prop} (hgd : o.guard = none) (s x : Operand) (t : TypeId)
    (ho : o.op = .call { callee := .builtin .append, args := #[s, x], argTypes := #[t, t] })
    (base : Nat) (e : TypeId) (i : TypeInfo) (z : Value) (size bytes : Nat) (ht : P.underlying t = some (.slice e)) (hi : P.info? e = some i) (hz : i.zero = some z)
    (hsize : i.size = size) (hby : i.bytes = bytes) (hzs : z.cells.size = size) (hsz : 0 < size)
    (v : Value) (n : Nat) (xs : List Value) (hs : a.eval s = v) (hown : w.ownsRow base e size v n xs)
    (ad : Addr) (m c : Nat) (news : List Value) (hx : a.eval x = .slice (some ad) m c) (hl : news.length = m * size) (hnews : ∀ j u, news[j]? = some u → w.cell? (ad.add j) = some u) (h1 : ∀ u ∈ news, u.oneCell' = true)
    (h63 : n + m ≤ maxLen) (hbytes : (n + m) * bytes ≤ 140737488355328) (hbase : base ≤ w.heap.size)
    (h : ∀ v' w', w'.ownsRow base e size v' (n + m) (xs ++ news) → w.grownBy w' v.ownBlock → Spot v v' w → wpList P ops Q rest (a.put o.dst v') w') : wpList P ops Q (o :: rest) a w := by
  refine wpList_plain hgd fun K hK => ?_
  obtain ⟨v', w', hr, h2, h3, h4⟩ := run_append_spot (P := P) w base t o.type e i z size bytes ht hi hz hsize hby hzs hsz v n xs hown ad m c news hl hnews h1 h63 hbytes hbase
  unfold Oper.wp execOp
  simp only [ho, resolve, invoke, builtin, Sem.run_bind, Sem.run_pure, Result.andThen_ok, List.map_toArray, List.map_cons, List.map_nil, hs, hx, hr]
  exact hK _ _ (h v' w' h2 h3 h4)

theorem wp_append_spot {P : Program} {w : World} {o : Oper} {a : Act} {K : Act → World → Prop} {Q : Exit → Act → World → Prop} (s x : Operand) (t : TypeId)
    (ho : o.op = .call { callee := .builtin .append, args := #[s, x], argTypes := #[t, t] })
    (base : Nat) (e : TypeId) (i : TypeInfo) (z : Value) (size bytes : Nat) (ht : P.underlying t = some (.slice e)) (hi : P.info? e = some i) (hz : i.zero = some z)
    (hsize : i.size = size) (hby : i.bytes = bytes) (hzs : z.cells.size = size) (hsz : 0 < size)
    (v : Value) (n : Nat) (xs : List Value) (hs : a.eval s = v) (hown : w.ownsRow base e size v n xs)
    (ad : Addr) (m c : Nat) (news : List Value) (hx : a.eval x = .slice (some ad) m c) (hl : news.length = m * size) (hnews : ∀ j u, news[j]? = some u → w.cell? (ad.add j) = some u) (h1 : ∀ u ∈ news, u.oneCell' = true)
    (h63 : n + m ≤ maxLen) (hbytes : (n + m) * bytes ≤ 140737488355328) (hbase : base ≤ w.heap.size)
    (h : ∀ v' w', w'.ownsRow base e size v' (n + m) (xs ++ news) → w.grownBy w' v.ownBlock → Spot v v' w → K (a.put o.dst v') w') : o.wp P a w K Q := by
  obtain ⟨v', w', hr, h2, h3, h4⟩ := run_append_spot (P := P) w base t o.type e i z size bytes ht hi hz hsize hby hzs hsz v n xs hown ad m c news hl hnews h1 h63 hbytes hbase
  unfold Oper.wp execOp
  simp only [ho, resolve, invoke, builtin, Sem.run_bind, Sem.run_pure, Result.andThen_ok, List.map_toArray, List.map_cons, List.map_nil, hs, hx, hr]
  exact h v' w' h2 h3 h4

theorem apart_grown {w w' : World} {v : Value} (h : w.grownBy w' v.ownBlock) : Apart v.ownBlock.toList w w' :=
  ⟨h.os, h.tape, h.output, h.size, fun k hk hn => h.block k hk (fun e => hn (by rw [← e]; simp))⟩
/-- A row that grows, apart from what lies between lo and hi: where it began, or behind hi. -/
structure RowS (e c lo hi : Nat) (W0 w : World) (v : Value) (n : Nat) (xs : List Value) : Prop where
  row : RowB e c W0 w v n xs
  sep : ∀ b, v.ownBlock = some b → b < lo ∨ hi ≤ b
  hi : hi ≤ w.heap.size
theorem RowS.keep {e c lo hi : Nat} {W0 w w' : World} {v : Value} {n : Nat} {xs : List Value} (h : RowS e c lo hi W0 w v n xs) (hb : Below w.heap.size w w') : RowS e c lo hi W0 w' v n xs := ⟨h.row.keep hb, h.sep, Nat.le_trans h.hi hb.size⟩
theorem RowS.alloc {e c lo hi : Nat} {W0 w : World} {v : Value} {n : Nat} {xs : List Value} (h : RowS e c lo hi W0 w v n xs) (o : Obj) : RowS e c lo hi W0 (w.alloc o) v n xs := h.keep ((Below.refl _ _).alloc (Nat.le_refl _) _)
theorem RowS.next {e c lo hi : Nat} {W0 w w' : World} {v v' : Value} {n n' : Nat} {xs xs' : List Value} (h : RowS e c lo hi W0 w v n xs) (ho : w'.ownsRow W0.heap.size e c v' n' xs') (hg : w.grownBy w' v.ownBlock) (hs : Spot v v' w) : RowS e c lo hi W0 w' v' n' xs' := by
  refine ⟨h.row.grown ho hg, fun b hb => ?_, Nat.le_trans h.hi hg.size⟩
  rcases hs with hs | ⟨g, hs, hge⟩
  · exact h.sep b (by rw [← hs]; exact hb)
  · rw [hs] at hb
    cases hb
    exact .inr (Nat.le_trans h.hi hge)
theorem GFlat.grown {e c lo hi : Nat} {W0 w w' : World} {v : Value} {n : Nat} {xs : List Value} (h : RowS e c lo hi W0 w v n xs) (hg : w.grownBy w' v.ownBlock) {u : Value} {m c' : Nat} {f : Nat → Nat → Value} {fp : List Nat} (hf : GFlat w lo hi u m c' f fp) : GFlat w' lo hi u m c' f fp :=
  hf.far (apart_grown hg) (fun x hx => h.sep x (by simpa using hx))

theorem wpList_rowS {t e : TypeId} {c lo hi : Nat} (hE : ElemT t e c) {ops : Array Oper} {rest : List Oper} {o : Oper} {a : Act} {Q : Exit → Act → World → Prop} (hgd : o.guard = none) (s x : Operand)
    (ho : o.op = .call { callee := .builtin .append, args := #[s, x], argTypes := #[t, t] })
    (v : Value) (n : Nat) (xs news : List Value) (W0 w : World) (hs : a.eval s = v) (hb : RowS e c lo hi W0 w v n xs) (cs : Array Value) (m k : Nat) (hc : cs = news.toArray) (hm : news.length = m * c) (h1 : ∀ u ∈ news, u.oneCell' = true)
    (hx : a.eval x = .slice (some ⟨w.heap.size, 0, none⟩) m k) (hlen : n + m ≤ 1000000000)
    (h : ∀ v' w', RowS e c lo hi W0 w' v' (n + m) (xs ++ news) → (w.alloc (.cells cs e)).grownBy w' v.ownBlock → wpList Tryd.prog ops Q rest (a.put o.dst v') w') : wpList Tryd.prog ops Q (o :: rest) a (w.alloc (.cells cs e)) := by
  subst hc
  obtain ⟨i0, z, ht, hi, hz0, hz1, hz2, hz3, hz4⟩ := hE
  have hb' := hb.alloc (.cells news.toArray e)
  refine wpList_append_spot hgd s x t ho W0.heap.size e i0 z c i0.bytes ht hi hz0 hz1 rfl hz3 hz4 v n _ hs hb'.row.own ⟨w.heap.size, 0, none⟩ m k news hx hm ?_ h1 (by unfold maxLen; omega) (Nat.le_trans (Nat.mul_le_mul hlen hz2) (by decide)) hb'.row.bel.size ?_
  · intro j u hj
    have hj' : j < news.length := (List.getElem?_eq_some_iff.1 hj).1
    rw [addr_add, Nat.zero_add]
    have hr := World.rowIs_alloc w news.toArray e (fun j => news.getD j undef) (fun i hi => by
      simp at hi
      simp [hi])
    rw [hr.cell (by simpa using hj'), List.getD_eq_getElem?_getD, hj]; rfl
  · intro v' w' ho' hg hsp
    exact h v' w' (hb'.next ho' hg hsp) hg
theorem step_rowS {t e : TypeId} {c lo hi : Nat} (hE : ElemT t e c) {ops : Array Oper} {o : Oper} {a : Act} {K : Act → World → Prop} {Q : Exit → Act → World → Prop} {E : Prop} (hgd : o.guard = none) (s x : Operand)
    (ho : o.op = .call { callee := .builtin .append, args := #[s, x], argTypes := #[t, t] })
    (v : Value) (n : Nat) (xs news : List Value) (W0 : World) {w : World} (hs : a.eval s = v) (hb : RowS e c lo hi W0 w v n xs) (B : Nat) (cs : Array Value) (hB : w.heap[B]? = some (.cells cs e (0, 0))) (m k : Nat) (hc : cs = news.toArray) (hm : news.length = m * c) (h1 : ∀ u ∈ news, u.oneCell' = true)
    (hx : a.eval x = .slice (some ⟨B, 0, none⟩) m k) (hlen : n + m ≤ 1000000000)
    (h : ∀ v' w', RowS e c lo hi W0 w' v' (n + m) (xs ++ news) → w.grownBy w' v.ownBlock → K (a.put o.dst v') w') :
    if Region.wanted o (yielded ops a.tmps) = true then Oper.wp Tryd.prog o a w K Q else E := by
  have hw : Region.wanted o (yielded ops a.tmps) = true := by simp [Region.wanted, hgd]
  rw [if_pos hw]
  subst hc
  obtain ⟨i0, z, ht, hi, hz0, hz1, hz2, hz3, hz4⟩ := hE
  refine wp_append_spot s x t ho W0.heap.size e i0 z c i0.bytes ht hi hz0 hz1 rfl hz3 hz4 v n _ hs hb.row.own ⟨B, 0, none⟩ m k news hx hm ?_ h1 (by unfold maxLen; omega) (Nat.le_trans (Nat.mul_le_mul hlen hz2) (by decide)) hb.row.bel.size ?_
  · intro j u hj
    exact World.news_of_block hB j u (by simpa using hj)
  · intro v' w' ho' hg hsp
    exact h v' w' (hb.next ho' hg hsp) hg

end Go.Proofs.YtomhbbchflblpaaDoor
