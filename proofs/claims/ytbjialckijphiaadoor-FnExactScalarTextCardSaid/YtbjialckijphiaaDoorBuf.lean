/- A buffer of bytes that a call owns: appends to it, and its text. -/
import Derived.Test.YtbjialckijphiaaDoorRunesI
import Derived.Lib.AppendStr
import Derived.Deep.AppendLies
namespace Go.Proofs.YtbjialckijphiaaDoor
open Go.RowKit

def byteV (b : UInt8) : Value := .int .u8 b.toNat
theorem byteV_one {u : Value} {l : List UInt8} (h : u ∈ l.map byteV) : u.oneCell' = true := by
  simp only [List.mem_map] at h
  obtain ⟨b, _, rfl⟩ := h
  rfl
theorem strCells_eq (s : ByteArray) : Lib.strCells s = s.data.toList.map byteV := rfl

/-- v is a slice of the bytes l in a block of the call's own, made since W0; what was there in W0 is as it was. -/
structure Buf (W0 w : World) (v : Value) (l : List UInt8) : Prop where
  own : w.ownsRow W0.heap.size 5 1 v l.length (l.map byteV)
  bel : Below W0.heap.size W0 w

theorem Buf.keep {W0 w w' : World} {v : Value} {l : List UInt8} (h : Buf W0 w v l) (hb : Below w.heap.size w w') : Buf W0 w' v l :=
  ⟨ownsRow_keep h.own hb, bnext h.bel hb⟩
theorem Buf.alloc {W0 w : World} {v : Value} {l : List UInt8} (h : Buf W0 w v l) (o : Obj) : Buf W0 (w.alloc o) v l :=
  h.keep ((Below.refl _ _).alloc (Nat.le_refl _) _)
theorem Buf.grown {W0 w w' : World} {v v' : Value} {l l' : List UInt8} (h : Buf W0 w v l) (ho : w'.ownsRow W0.heap.size 5 1 v' l'.length (l'.map byteV)) (hg : w.grownBy w' v.ownBlock) : Buf W0 w' v' l' :=
  ⟨ho, h.bel.grown hg h.bel.size (own_base h.own)⟩
/-- Bytes that a statement has just laid. -/
theorem Buf.lit (W : World) (l : List UInt8) (cs : Array Value) (n : Nat) (hc : cs = (l.map byteV).toArray) (hn : n = l.length) (hm : n ≤ 1000000) : Buf W (W.alloc (.cells cs 5)) (.slice (some ⟨W.heap.size, 0, none⟩) n n) l := by
  subst hc; subst hn
  refine ⟨?_, (Below.refl _ _).alloc (Nat.le_refl _) _⟩
  have := World.ownsRow_lit (base := W.heap.size) (e := 5) (size := 1) W (l.map byteV).toArray l.length (Nat.le_refl _) (by unfold maxLen; omega) (by simp)
  simpa using this
theorem Buf.nil (W : World) : Buf W W (.slice none 0 0) [] := ⟨World.ownsRow_nil W W.heap.size 5 1, Below.refl _ _⟩
theorem Buf.since {W W0 w : World} {v : Value} {l : List UInt8} (h : Buf W0 w v l) (hb : Below W.heap.size W W0) : Buf W w v l :=
  ⟨own_mono h.own hb.size, bnext hb h.bel⟩

theorem Tryd.infoU8 : (Tryd.prog.info? 5).map (fun i => (i.zero, i.size, i.bytes)) = some (some (.int .u8 0), 1, 1) := by kernel_rfl

/-- 'append(v, bytes..)': the new bytes lie in the block that the statement has just laid. -/
theorem wpList_buf {ops : Array Oper} {rest : List Oper} {o : Oper} {a : Act} {Q : Exit → Act → World → Prop} (hgd : o.guard = none) (s x : Operand)
    (ho : o.op = .call { callee := .builtin .append, args := #[s, x], argTypes := #[44, 44] })
    (v : Value) (l news : List UInt8) (W0 w : World) (hs : a.eval s = v) (hb : Buf W0 w v l) (cs : Array Value) (m c : Nat) (hc : cs = (news.map byteV).toArray) (hm : m = news.length)
    (hx : a.eval x = .slice (some ⟨w.heap.size, 0, none⟩) m c) (hlen : l.length + m ≤ 1000000000)
    (h : ∀ v' w', Buf W0 w' v' (l ++ news) → wpList Tryd.prog ops Q rest (a.put o.dst v') w') : wpList Tryd.prog ops Q (o :: rest) a (w.alloc (.cells cs 5)) := by
  subst hc; subst hm
  obtain ⟨i0, hi, hz0, hz1, hz2⟩ := info_parts Tryd.infoU8
  have hb' := hb.alloc (.cells (news.map byteV).toArray 5)
  refine wpList_append_own _ hgd s x 44 ho W0.heap.size 5 i0 (.int .u8 0) 1 1 Tryd.underlying44 hi hz0 hz1 hz2 rfl (by decide) v l.length _ hs hb'.own ⟨w.heap.size, 0, none⟩ news.length c (news.map byteV) hx (by simp) ?_ (fun u hu => byteV_one hu) (by unfold maxLen; omega) (by omega) hb'.bel.size ?_
  · intro j u hj
    have hj' : j < news.length := by have := (List.getElem?_eq_some_iff.1 hj).1; simpa using this
    rw [addr_add, Nat.zero_add]
    have hr := World.rowIs_alloc w (news.map byteV).toArray 5 (fun j => (news.map byteV).getD j undef) (fun i hi => by
      simp at hi
      simp [hi])
    rw [hr.cell (by simpa using hj'), List.getD_eq_getElem?_getD, hj]; rfl
  · intro v' w' ho' hg _
    refine h v' w' (hb'.grown (l' := l ++ news) ?_ hg)
    simpa using ho'

/-- The same in whatever world: the new bytes lie in a block that is known whole. -/
theorem wp_bufAt {o : Oper} {a : Act} {K : Act → World → Prop} {Q : Exit → Act → World → Prop} (s x : Operand)
    (ho : o.op = .call { callee := .builtin .append, args := #[s, x], argTypes := #[44, 44] })
    (v : Value) (l news : List UInt8) (W0 : World) {w : World} (hs : a.eval s = v) (hb : Buf W0 w v l) (B : Nat) (cs : Array Value) (hB : w.heap[B]? = some (.cells cs 5 (0, 0))) (m c : Nat) (hc : cs = (news.map byteV).toArray) (hm : m = news.length)
    (hx : a.eval x = .slice (some ⟨B, 0, none⟩) m c) (hlen : l.length + m ≤ 1000000000)
    (h : ∀ v' w', Buf W0 w' v' (l ++ news) → K (a.put o.dst v') w') : o.wp Tryd.prog a w K Q := by
  subst hc; subst hm
  obtain ⟨i0, hi, hz0, hz1, hz2⟩ := info_parts Tryd.infoU8
  refine wp_append_own _ s x 44 ho W0.heap.size 5 i0 (.int .u8 0) 1 1 Tryd.underlying44 hi hz0 hz1 hz2 rfl (by decide) v l.length _ hs hb.own ⟨B, 0, none⟩ news.length c (news.map byteV) hx (by simp) ?_ (fun u hu => byteV_one hu) (by unfold maxLen; omega) (by omega) hb.bel.size ?_
  · intro j u hj
    exact World.news_of_block hB j u (by simpa using hj)
  · intro v' w' ho' hg _
    refine h v' w' (hb.grown (l' := l ++ news) ?_ hg)
    simpa using ho'
/-- At a step of a region that draws its order. -/
theorem step_bufAt {ops : Array Oper} {o : Oper} {a : Act} {K : Act → World → Prop} {Q : Exit → Act → World → Prop} {E : Prop} (hgd : o.guard = none) (s x : Operand)
    (ho : o.op = .call { callee := .builtin .append, args := #[s, x], argTypes := #[44, 44] })
    (v : Value) (l news : List UInt8) (W0 : World) {w : World} (hs : a.eval s = v) (hb : Buf W0 w v l) (B : Nat) (cs : Array Value) (hB : w.heap[B]? = some (.cells cs 5 (0, 0))) (m c : Nat) (hc : cs = (news.map byteV).toArray) (hm : m = news.length)
    (hx : a.eval x = .slice (some ⟨B, 0, none⟩) m c) (hlen : l.length + m ≤ 1000000000)
    (h : ∀ v' w', Buf W0 w' v' (l ++ news) → K (a.put o.dst v') w') :
    if Region.wanted o (yielded ops a.tmps) = true then Oper.wp Tryd.prog o a w K Q else E := by
  have hw : Region.wanted o (yielded ops a.tmps) = true := by simp [Region.wanted, hgd]
  rw [if_pos hw]
  exact wp_bufAt s x ho v l news W0 hs hb B cs hB m c hc hm hx hlen h

/-- 'append(v, text...)'. -/
theorem wpList_bufS {ops : Array Oper} {rest : List Oper} {o : Oper} {a : Act} {Q : Exit → Act → World → Prop} (hgd : o.guard = none) (s x : Operand)
    (ho : o.op = .call { callee := .builtin .append, args := #[s, x], argTypes := #[44, 9] })
    (v : Value) (l : List UInt8) (W0 w : World) (hs : a.eval s = v) (hb : Buf W0 w v l) (t : ByteArray)
    (hx : a.eval x = .string t) (hlen : l.length + t.size ≤ 1000000000)
    (h : ∀ v' w', Buf W0 w' v' (l ++ t.data.toList) → wpList Tryd.prog ops Q rest (a.put o.dst v') w') : wpList Tryd.prog ops Q (o :: rest) a w := by
  obtain ⟨i0, hi, hz0, hz1, hz2⟩ := info_parts Tryd.infoU8
  refine Lib.wpList_append_own_string w hgd s x 44 9 ho W0.heap.size 5 i0 Tryd.underlying44 Tryd.underlying9 hi hz0 hz1 hz2 v l.length _ hs hb.own t hx (by unfold maxLen; omega) (by omega) hb.bel.size ?_
  intro v' w' ho' hg _
  refine h v' w' (hb.grown (l' := l ++ t.data.toList) ?_ hg)
  simpa [strCells_eq] using ho'

theorem byte_back (l : List UInt8) : (l.map byteV) = (l.map fun b => (b.toNat : Int)).map (Value.int .u8) := by simp [byteV]
/-- 'string(v)'. -/
theorem Buf.text {W0 w : World} {v : Value} {l : List UInt8} (h : Buf W0 w v l) : (convert 44 9 v).run Tryd.prog w = .ok (.string ⟨l.toArray⟩) w := by
  rcases h.own.2 with ⟨rfl, hl⟩ | ⟨g, cap, cur, rfl, hbg, hg, hnc, hcm, hcs, htake⟩
  · have : l = [] := List.eq_nil_of_length_eq_zero hl
    subst this
    rw [run_convert_bytes_string _ _ _ _ _ _ _ Tryd.underlying44 Tryd.underlying5 Tryd.underlying9]
    rfl
  · rw [run_convert_bytes_string _ _ _ _ _ _ _ Tryd.underlying44 Tryd.underlying5 Tryd.underlying9]
    have hl := run_loadCells_list (P := Tryd.prog) w ⟨g, 0, none⟩ (l.map byteV) (fun j v hj => h.own.cells (g := g) rfl j v hj)
    rw [List.length_map, byte_back] at hl
    rw [run_bytesToString _ _ l.length cap _ hl, fold_push]
    have he0 : ByteArray.empty.data = #[] := rfl
    rw [he0]
    congr 2
    simp
    have hf : ((fun n : Int => UInt8.ofNat n.toNat) ∘ fun b : UInt8 => (b.toNat : Int)) = id := by funext b; simp
    rw [hf, List.map_id]

end Go.Proofs.YtbjialckijphiaaDoor
