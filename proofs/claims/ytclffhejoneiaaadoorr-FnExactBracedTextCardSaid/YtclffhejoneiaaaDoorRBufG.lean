/- Appends to bytes that a call owns, with what else stays: all blocks but the row's own. -/
import Derived.Test.YtclffhejoneiaaaDoorRBuf
import Derived.Test.YtclffhejoneiaaaDoorRSpotC
namespace Go.Proofs.YtclffhejoneiaaaDoorR
open Go.RowKit

structure Gr (w w' : World) (v v' : Value) : Prop where
  hg : w.grownBy w' v.ownBlock
  hs : Spot v v' w
theorem Gr.refl (w : World) (v : Value) : Gr w w v v := ⟨⟨rfl, rfl, rfl, Nat.le_refl _, fun _ _ _ => rfl⟩, .inl rfl⟩
theorem Gr.block {a b : World} {u v : Value} (h : Gr a b u v) {k : Nat} (hk : k < a.heap.size) (hn : some k ≠ u.ownBlock) : b.heap[k]? = a.heap[k]? := h.hg.block k hk hn
theorem Gr.trans {a b c : World} {u v x : Value} (h : Gr a b u v) (k : Gr b c v x) : Gr a c u x := by
  refine ⟨⟨k.hg.os.trans h.hg.os, k.hg.tape.trans h.hg.tape, k.hg.output.trans h.hg.output, Nat.le_trans h.hg.size k.hg.size, fun n hn hne => ?_⟩, ?_⟩
  · refine (k.hg.block n (Nat.lt_of_lt_of_le hn h.hg.size) ?_).trans (h.hg.block n hn hne)
    rcases h.hs with e | ⟨g, e, hge⟩
    · rw [e]; exact hne
    · rw [e]; intro he; cases he; omega
  · rcases k.hs with e | ⟨g, e, hge⟩
    · rcases h.hs with e' | ⟨g', e', hge'⟩
      · exact .inl (e.trans e')
      · exact .inr ⟨g', e.trans e', hge'⟩
    · exact .inr ⟨g, e, Nat.le_trans h.hg.size hge⟩
theorem Gr.keep {a b c : World} {u v : Value} (h : Gr a b u v) (hb : Below b.heap.size b c) : Gr a c u v :=
  ⟨⟨hb.os.trans h.hg.os, hb.tape.trans h.hg.tape, hb.output.trans h.hg.output, Nat.le_trans h.hg.size hb.size, fun n hn hne => (hb.block n (Nat.lt_of_lt_of_le hn h.hg.size)).trans (h.hg.block n hn hne)⟩, h.hs⟩
theorem Gr.pre {a b c : World} {u v : Value} (hb : Below a.heap.size a b) (h : Gr b c u v) : Gr a c u v := by
  refine ⟨⟨h.hg.os.trans hb.os, h.hg.tape.trans hb.tape, h.hg.output.trans hb.output, Nat.le_trans hb.size h.hg.size, fun n hn hne => (h.hg.block n (Nat.lt_of_lt_of_le hn hb.size) hne).trans (hb.block n hn)⟩, ?_⟩
  rcases h.hs with e | ⟨g, e, hge⟩
  · exact .inl e
  · exact .inr ⟨g, e, Nat.le_trans hb.size hge⟩

/-- Bytes that grew: since world a, out of the value u. -/
structure BufG (W0 a : World) (u : Value) (w : World) (v : Value) (l : List UInt8) : Prop where
  buf : Buf W0 w v l
  gr : Gr a w u v
theorem BufG.start {W0 w : World} {v : Value} {l : List UInt8} (h : Buf W0 w v l) : BufG W0 w v w v l := ⟨h, Gr.refl _ _⟩
theorem BufG.keep {W0 a w w' : World} {u v : Value} {l : List UInt8} (h : BufG W0 a u w v l) (hb : Below w.heap.size w w') : BufG W0 a u w' v l := ⟨h.buf.keep hb, h.gr.keep hb⟩
theorem BufG.alloc {W0 a w : World} {u v : Value} {l : List UInt8} (h : BufG W0 a u w v l) (o : Obj) : BufG W0 a u (w.alloc o) v l := h.keep ((Below.refl _ _).alloc (Nat.le_refl _) _)
theorem BufG.trans {W0 a w w' : World} {u v v' : Value} {l l' : List UInt8} (h : BufG W0 a u w v l) (k : BufG W0 w v w' v' l') : BufG W0 a u w' v' l' := ⟨k.buf, h.gr.trans k.gr⟩
theorem BufG.pre {W0 a b w : World} {u v : Value} {l : List UInt8} (hb : Below a.heap.size a b) (h : BufG W0 b u w v l) : BufG W0 a u w v l := ⟨h.buf, Gr.pre hb h.gr⟩
/-- The row's own block is no block that is new since w. -/
theorem Buf.lt {W0 w : World} {v : Value} {l : List UInt8} (h : Buf W0 w v l) {k : Nat} (hk : w.heap.size ≤ k) : some k ≠ v.ownBlock := by
  intro e
  have := (h.own.lt k e.symm).2
  omega

theorem run_append_spot_string {P : Program} (w : World) (base : Nat) (t u ty e : TypeId) (i : TypeInfo) (ht : P.underlying t = some (.slice e)) (hu : P.underlying u = some .string) (hi : P.info? e = some i) (hz : i.zero = some (.int .u8 0))
    (hsize : i.size = 1) (hby : i.bytes = 1)
    (v : Value) (n : Nat) (xs : List Value) (hown : w.ownsRow base e 1 v n xs) (s : ByteArray)
    (h63 : n + s.size ≤ maxLen) (hbytes : n + s.size ≤ 140737488355328) (hbase : base ≤ w.heap.size) :
    ∃ v' w', (Builtin.append_ #[t, u] ty #[v, .string s]).run P w = .ok v' w' ∧ w'.ownsRow base e 1 v' (n + s.size) (xs ++ Lib.strCells s) ∧ w.grownBy w' v.ownBlock ∧ Spot v v' w := by
  obtain ⟨v', w', hr, h2, h3, -⟩ := Lib.run_append_own_string (P := P) w base t u ty e i ht hu hi hz hsize hby v n xs hown s h63 hbytes hbase
  refine ⟨v', w', hr, h2, h3, ?_⟩
  have hxl : xs.length = n := by simpa using hown.1
  rcases hown.2 with ⟨rfl, rfl⟩ | ⟨g, cap, cur, rfl, hbg, hg, hnc, hcm, hcs, htake⟩
  · have hx : xs = [] := List.eq_nil_of_length_eq_zero hxl
    subst hx
    obtain ⟨v2, w2, hr2, k2, -, -⟩ := Lib.run_append_own_string (P := P) w w.heap.size t u ty e i ht hu hi hz hsize hby _ 0 [] (World.ownsRow_nil w w.heap.size e 1) s h63 hbytes (Nat.le_refl _)
    have := hr.symm.trans hr2
    injection this with e1 e2
    subst e1
    cases hb : v'.ownBlock with
    | none => exact .inl (by rw [hb]; rfl)
    | some g => exact .inr ⟨g, hb, (k2.lt g hb).1⟩
  · by_cases hroom : n + s.size ≤ cap
    · have hcs' : cur.size = cap := by simpa using hcs
      have := hr.symm.trans (Lib.run_append_room_string (P := P) w t u ty e i ht hu hi hsize g n cap cur hg s hroom (by omega))
      injection this with e1 e2
      subst e1
      exact .inl rfl
    · have holds : ∀ j x, xs[j]? = some x → w.cell? ((⟨g, 0, none⟩ : Addr).add j) = some x := hown.cells (g := g) rfl
      have := hr.symm.trans (Lib.run_append_grow_string (P := P) w t u ty e i (.int .u8 0) ht hu hi hz ⟨g, 0, none⟩ n cap xs (by rw [hsize]; simpa using hxl) holds s (by omega) (by unfold maxLen at h63; omega) (by rw [hby]; exact growslice_fits (by omega) (by omega)))
      injection this with e1 e2
      subst e1
      exact .inr ⟨w.heap.size, rfl, Nat.le_refl _⟩

/-- 'append(v, text...)'. -/
theorem wpList_bufGS {ops : Array Oper} {rest : List Oper} {o : Oper} {a : Act} {Q : Exit → Act → World → Prop} (hgd : o.guard = none) (s x : Operand)
    (ho : o.op = .call { callee := .builtin .append, args := #[s, x], argTypes := #[82, 9] })
    (v : Value) (l : List UInt8) (W0 wa : World) (u : Value) (w : World) (hs : a.eval s = v) (hb : BufG W0 wa u w v l) (t : ByteArray)
    (hx : a.eval x = .string t) (hlen : l.length + t.size ≤ 1000000000)
    (h : ∀ v' w', BufG W0 wa u w' v' (l ++ t.data.toList) → Gr w w' v v' → wpList Tryd.prog ops Q rest (a.put o.dst v') w') : wpList Tryd.prog ops Q (o :: rest) a w := by
  obtain ⟨i0, hi, hz0, hz1, hz2⟩ := info_parts Tryd.infoU8
  refine wpList_plain hgd fun K hK => ?_
  obtain ⟨v', w', hr, h2, h3, h4⟩ := run_append_spot_string (P := Tryd.prog) w W0.heap.size 82 9 o.type 5 i0 Tryd.underlying82 Tryd.underlying9 hi hz0 hz1 hz2 v l.length _ hb.buf.own t (by unfold maxLen; omega) (by omega) hb.buf.bel.size
  unfold Oper.wp execOp
  simp only [ho, resolve, invoke, builtin, Sem.run_bind, Sem.run_pure, Result.andThen_ok, List.map_toArray, List.map_cons, List.map_nil, hs, hx, hr]
  have hgr : Gr w w' v v' := ⟨h3, h4⟩
  exact hK _ _ (h v' w' ⟨hb.buf.grown (l' := l ++ t.data.toList) (by simpa [strCells_eq] using h2) h3, hb.gr.trans hgr⟩ hgr)

/-- 'append(v, bytes..)': the new bytes lie in the block that the statement has just laid. -/
theorem wpList_bufG {ops : Array Oper} {rest : List Oper} {o : Oper} {a : Act} {Q : Exit → Act → World → Prop} (hgd : o.guard = none) (s x : Operand)
    (ho : o.op = .call { callee := .builtin .append, args := #[s, x], argTypes := #[82, 82] })
    (v : Value) (l news : List UInt8) (W0 wa : World) (u : Value) (w : World) (hs : a.eval s = v) (hb : BufG W0 wa u w v l) (cs : Array Value) (m c : Nat) (hc : cs = (news.map byteV).toArray) (hm : m = news.length)
    (hx : a.eval x = .slice (some ⟨w.heap.size, 0, none⟩) m c) (hlen : l.length + m ≤ 1000000000)
    (h : ∀ v' w', BufG W0 wa u w' v' (l ++ news) → Gr w w' v v' → wpList Tryd.prog ops Q rest (a.put o.dst v') w') : wpList Tryd.prog ops Q (o :: rest) a (w.alloc (.cells cs 5)) := by
  subst hc; subst hm
  obtain ⟨i0, hi, hz0, hz1, hz2⟩ := info_parts Tryd.infoU8
  have hb' := hb.alloc (.cells (news.map byteV).toArray 5)
  refine wpList_append_spot hgd s x 82 ho W0.heap.size 5 i0 (.int .u8 0) 1 1 Tryd.underlying82 hi hz0 hz1 hz2 rfl (by decide) v l.length _ hs hb'.buf.own ⟨w.heap.size, 0, none⟩ news.length c (news.map byteV) hx (by simp) ?_ (fun u hu => byteV_one hu) (by unfold maxLen; omega) (by omega) hb'.buf.bel.size ?_
  · intro j u hj
    have hj' : j < news.length := by have := (List.getElem?_eq_some_iff.1 hj).1; simpa using this
    rw [addr_add, Nat.zero_add]
    have hr := World.rowIs_alloc w (news.map byteV).toArray 5 (fun j => (news.map byteV).getD j undef) (fun i hi => by
      simp at hi
      simp [hi])
    rw [hr.cell (by simpa using hj'), List.getD_eq_getElem?_getD, hj]; rfl
  · intro v' w' ho' hg hsp
    have hgr : Gr (w.alloc (.cells (news.map byteV).toArray 5)) w' v v' := ⟨hg, hsp⟩
    exact h v' w' ⟨hb'.buf.grown (l' := l ++ news) (by simpa using ho') hg, hb'.gr.trans hgr⟩ (Gr.pre ((Below.refl _ _).alloc (Nat.le_refl _) _) hgr)

end Go.Proofs.YtclffhejoneiaaaDoorR
