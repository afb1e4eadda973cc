/- RunesI, Buf, Flat, FlatInt, RunesL, merged. -/
import Derived.Test.YtkifacpanipfhaaDoorUtf8I
import Derived.Lib.OthersKept
import Derived.WalkSmall
import Derived.Lib.AppendStr
import Derived.Deep.AppendLies
import Derived.Test.YtkifacpanipfhaaDoorMarkA
import Derived.StillTailTactics
namespace Go.Proofs.YtkifacpanipfhaaDoor
open Go.RowKit

theorem own_iter {w : World} {B e size n : Nat} {v : Value} {xs : List Value} {k : Nat} {s : ByteArray} {pos : Nat} (h : w.ownsRow B e size v n xs) (hk : w.heap[k]? = some (.stringIter s pos)) (pos' : Nat) : (w.iterAt k s pos').ownsRow B e size v n xs := by
  refine ⟨h.1, ?_⟩
  rcases h.2 with h0 | ⟨g, cap, cur, hv, hb, hg, rest⟩
  · exact .inl h0
  · refine .inr ⟨g, cap, cur, hv, hb, ?_, rest⟩
    rw [Lib.iterAt_other _ _ _ _ _ (fun e => by subst e; rw [hk] at hg; cases hg)]
    exact hg
theorem own_not_iter {w : World} {B e size n : Nat} {v : Value} {xs : List Value} {k : Nat} {s : ByteArray} {pos : Nat} (h : w.ownsRow B e size v n xs) (hk : w.heap[k]? = some (.stringIter s pos)) : some k ≠ v.ownBlock := by
  rcases h.2 with ⟨rfl, _⟩ | ⟨g, cap, cur, rfl, hb, hg, rest⟩
  · simp [Value.ownBlock]
  · intro e
    simp only [Value.ownBlock, Option.some.injEq] at e
    subst e
    rw [hk] at hg
    cases hg

theorem own_mono {w : World} {B B' e size n : Nat} {v : Value} {xs : List Value} (h : w.ownsRow B e size v n xs) (hB : B' ≤ B) : w.ownsRow B' e size v n xs := by
  refine ⟨h.1, ?_⟩
  rcases h.2 with h0 | ⟨g, cap, cur, hv, hb, rest⟩
  · exact .inl h0
  · exact .inr ⟨g, cap, cur, hv, by omega, rest⟩

end Go.Proofs.YtkifacpanipfhaaDoor
namespace Go.Proofs.YtkifacpanipfhaaDoor
open Go.RowKit

def byteV (b : UInt8) : Value := .int .u8 b.toNat
theorem byteV_one {u : Value} {l : List UInt8} (h : u ∈ l.map byteV) : u.oneCell' = true := by
  simp only [List.mem_map] at h
  obtain ⟨b, _, rfl⟩ := h
  rfl
theorem strCells_eq (s : ByteArray) : Lib.strCells s = s.data.toList.map byteV := rfl

/-- v is a slice of the bytes l in a block of the call's own, made since W0; what was there in W0 is as it was. -/
structure Buf (W0 w : World) (v : Value) (l : List UInt8) : Prop where
  own : w.ownsRow W0.heap.size 5 1 v l.length (l.map byteV)
  bel : Below W0.heap.size W0 w

theorem Buf.keep {W0 w w' : World} {v : Value} {l : List UInt8} (h : Buf W0 w v l) (hb : Below w.heap.size w w') : Buf W0 w' v l :=
  ⟨ownsRow_keep h.own hb, bnext h.bel hb⟩
theorem Buf.alloc {W0 w : World} {v : Value} {l : List UInt8} (h : Buf W0 w v l) (o : Obj) : Buf W0 (w.alloc o) v l :=
  h.keep ((Below.refl _ _).alloc (Nat.le_refl _) _)
theorem Buf.grown {W0 w w' : World} {v v' : Value} {l l' : List UInt8} (h : Buf W0 w v l) (ho : w'.ownsRow W0.heap.size 5 1 v' l'.length (l'.map byteV)) (hg : w.grownBy w' v.ownBlock) : Buf W0 w' v' l' :=
  ⟨ho, h.bel.grown hg h.bel.size (own_base h.own)⟩
/-- Bytes that a statement has just laid. -/
theorem Buf.lit (W : World) (l : List UInt8) (cs : Array Value) (n : Nat) (hc : cs = (l.map byteV).toArray) (hn : n = l.length) (hm : n ≤ 1000000) : Buf W (W.alloc (.cells cs 5)) (.slice (some ⟨W.heap.size, 0, none⟩) n n) l := by
  subst hc; subst hn
  refine ⟨?_, (Below.refl _ _).alloc (Nat.le_refl _) _⟩
  have := World.ownsRow_lit (base := W.heap.size) (e := 5) (size := 1) W (l.map byteV).toArray l.length (Nat.le_refl _) (by unfold maxLen; omega) (by simp)
  simpa using this
theorem Buf.nil (W : World) : Buf W W (.slice none 0 0) [] := ⟨World.ownsRow_nil W W.heap.size 5 1, Below.refl _ _⟩
theorem Buf.since {W W0 w : World} {v : Value} {l : List UInt8} (h : Buf W0 w v l) (hb : Below W.heap.size W W0) : Buf W w v l :=
  ⟨own_mono h.own hb.size, bnext hb h.bel⟩

theorem Tryd.infoU8 : (Tryd.prog.info? 5).map (fun i => (i.zero, i.size, i.bytes)) = some (some (.int .u8 0), 1, 1) := by kernel_rfl

/-- 'append(v, bytes..)': the new bytes lie in the block that the statement has just laid. -/
theorem wpList_buf {ops : Array Oper} {rest : List Oper} {o : Oper} {a : Act} {Q : Exit → Act → World → Prop} (hgd : o.guard = none) (s x : Operand)
    (ho : o.op = .call { callee := .builtin .append, args := #[s, x], argTypes := #[22, 22] })
    (v : Value) (l news : List UInt8) (W0 w : World) (hs : a.eval s = v) (hb : Buf W0 w v l) (cs : Array Value) (m c : Nat) (hc : cs = (news.map byteV).toArray) (hm : m = news.length)
    (hx : a.eval x = .slice (some ⟨w.heap.size, 0, none⟩) m c) (hlen : l.length + m ≤ 1000000000)
    (h : ∀ v' w', Buf W0 w' v' (l ++ news) → wpList Tryd.prog ops Q rest (a.put o.dst v') w') : wpList Tryd.prog ops Q (o :: rest) a (w.alloc (.cells cs 5)) := by
  subst hc; subst hm
  obtain ⟨i0, hi, hz0, hz1, hz2⟩ := info_parts Tryd.infoU8
  have hb' := hb.alloc (.cells (news.map byteV).toArray 5)
  refine wpList_append_own _ hgd s x 22 ho W0.heap.size 5 i0 (.int .u8 0) 1 1 Tryd.underlying22 hi hz0 hz1 hz2 rfl (by decide) v l.length _ hs hb'.own ⟨w.heap.size, 0, none⟩ news.length c (news.map byteV) hx (by simp) ?_ (fun u hu => byteV_one hu) (by unfold maxLen; omega) (by omega) hb'.bel.size ?_
  · intro j u hj
    have hj' : j < news.length := by have := (List.getElem?_eq_some_iff.1 hj).1; simpa using this
    rw [addr_add, Nat.zero_add]
    have hr := World.rowIs_alloc w (news.map byteV).toArray 5 (fun j => (news.map byteV).getD j undef) (fun i hi => by
      simp at hi
      simp [hi])
    rw [hr.cell (by simpa using hj'), List.getD_eq_getElem?_getD, hj]; rfl
  · intro v' w' ho' hg _
    refine h v' w' (hb'.grown (l' := l ++ news) ?_ hg)
    simpa using ho'

/-- The same in whatever world: the new bytes lie in a block that is known whole. -/
theorem wp_bufAt {o : Oper} {a : Act} {K : Act → World → Prop} {Q : Exit → Act → World → Prop} (s x : Operand)
    (ho : o.op = .call { callee := .builtin .append, args := #[s, x], argTypes := #[22, 22] })
    (v : Value) (l news : List UInt8) (W0 : World) {w : World} (hs : a.eval s = v) (hb : Buf W0 w v l) (B : Nat) (cs : Array Value) (hB : w.heap[B]? = some (.cells cs 5 (0, 0))) (m c : Nat) (hc : cs = (news.map byteV).toArray) (hm : m = news.length)
    (hx : a.eval x = .slice (some ⟨B, 0, none⟩) m c) (hlen : l.length + m ≤ 1000000000)
    (h : ∀ v' w', Buf W0 w' v' (l ++ news) → K (a.put o.dst v') w') : o.wp Tryd.prog a w K Q := by
  subst hc; subst hm
  obtain ⟨i0, hi, hz0, hz1, hz2⟩ := info_parts Tryd.infoU8
  refine wp_append_own _ s x 22 ho W0.heap.size 5 i0 (.int .u8 0) 1 1 Tryd.underlying22 hi hz0 hz1 hz2 rfl (by decide) v l.length _ hs hb.own ⟨B, 0, none⟩ news.length c (news.map byteV) hx (by simp) ?_ (fun u hu => byteV_one hu) (by unfold maxLen; omega) (by omega) hb.bel.size ?_
  · intro j u hj
    exact World.news_of_block hB j u (by simpa using hj)
  · intro v' w' ho' hg _
    refine h v' w' (hb.grown (l' := l ++ news) ?_ hg)
    simpa using ho'
/-- At a step of a region that draws its order. -/
theorem step_bufAt {ops : Array Oper} {o : Oper} {a : Act} {K : Act → World → Prop} {Q : Exit → Act → World → Prop} {E : Prop} (hgd : o.guard = none) (s x : Operand)
    (ho : o.op = .call { callee := .builtin .append, args := #[s, x], argTypes := #[22, 22] })
    (v : Value) (l news : List UInt8) (W0 : World) {w : World} (hs : a.eval s = v) (hb : Buf W0 w v l) (B : Nat) (cs : Array Value) (hB : w.heap[B]? = some (.cells cs 5 (0, 0))) (m c : Nat) (hc : cs = (news.map byteV).toArray) (hm : m = news.length)
    (hx : a.eval x = .slice (some ⟨B, 0, none⟩) m c) (hlen : l.length + m ≤ 1000000000)
    (h : ∀ v' w', Buf W0 w' v' (l ++ news) → K (a.put o.dst v') w') :
    if Region.wanted o (yielded ops a.tmps) = true then Oper.wp Tryd.prog o a w K Q else E := by
  have hw : Region.wanted o (yielded ops a.tmps) = true := by simp [Region.wanted, hgd]
  rw [if_pos hw]
  exact wp_bufAt s x ho v l news W0 hs hb B cs hB m c hc hm hx hlen h

/-- 'append(v, text...)'. -/
theorem wpList_bufS {ops : Array Oper} {rest : List Oper} {o : Oper} {a : Act} {Q : Exit → Act → World → Prop} (hgd : o.guard = none) (s x : Operand)
    (ho : o.op = .call { callee := .builtin .append, args := #[s, x], argTypes := #[22, 9] })
    (v : Value) (l : List UInt8) (W0 w : World) (hs : a.eval s = v) (hb : Buf W0 w v l) (t : ByteArray)
    (hx : a.eval x = .string t) (hlen : l.length + t.size ≤ 1000000000)
    (h : ∀ v' w', Buf W0 w' v' (l ++ t.data.toList) → wpList Tryd.prog ops Q rest (a.put o.dst v') w') : wpList Tryd.prog ops Q (o :: rest) a w := by
  obtain ⟨i0, hi, hz0, hz1, hz2⟩ := info_parts Tryd.infoU8
  refine Lib.wpList_append_own_string w hgd s x 22 9 ho W0.heap.size 5 i0 Tryd.underlying22 Tryd.underlying9 hi hz0 hz1 hz2 v l.length _ hs hb.own t hx (by unfold maxLen; omega) (by omega) hb.bel.size ?_
  intro v' w' ho' hg _
  refine h v' w' (hb.grown (l' := l ++ t.data.toList) ?_ hg)
  simpa [strCells_eq] using ho'

theorem byte_back (l : List UInt8) : (l.map byteV) = (l.map fun b => (b.toNat : Int)).map (Value.int .u8) := by simp [byteV]
/-- 'string(v)'. -/
theorem Buf.text {W0 w : World} {v : Value} {l : List UInt8} (h : Buf W0 w v l) : (convert 22 9 v).run Tryd.prog w = .ok (.string ⟨l.toArray⟩) w := by
  rcases h.own.2 with ⟨rfl, hl⟩ | ⟨g, cap, cur, rfl, hbg, hg, hnc, hcm, hcs, htake⟩
  · have : l = [] := List.eq_nil_of_length_eq_zero hl
    subst this
    rw [run_convert_bytes_string _ _ _ _ _ _ _ Tryd.underlying22 Tryd.underlying5 Tryd.underlying9]
    rfl
  · rw [run_convert_bytes_string _ _ _ _ _ _ _ Tryd.underlying22 Tryd.underlying5 Tryd.underlying9]
    have hl := run_loadCells_list (P := Tryd.prog) w ⟨g, 0, none⟩ (l.map byteV) (fun j v hj => h.own.cells (g := g) rfl j v hj)
    rw [List.length_map, byte_back] at hl
    rw [run_bytesToString _ _ l.length cap _ hl, fold_push]
    have he0 : ByteArray.empty.data = #[] := rfl
    rw [he0]
    congr 2
    simp
    have hf : ((fun n : Int => UInt8.ofNat n.toNat) ∘ fun b : UInt8 => (b.toNat : Int)) = id := by funext b; simp
    rw [hf, List.map_id]

end Go.Proofs.YtkifacpanipfhaaDoor
namespace Go.Proofs.YtkifacpanipfhaaDoor
open Go.RowKit

def FlatOwn (w : World) (v : Value) (n c : Nat) (f : Nat → Nat → Value) (fp : List Nat) : Prop :=
  (n = 0 ∧ fp = [] ∧ ∃ a cap, v = .slice a 0 cap) ∨
  ∃ g cap e N F, v = .slice (some ⟨g, 0, none⟩) n cap ∧ fp = [g] ∧ w.rowIs g e N F ∧ n * c ≤ N ∧ ∀ i, i < n → ∀ j, j < c → F (i * c + j) = f i j
theorem FlatOwn.same {w w' : World} {v : Value} {n c : Nat} {f : Nat → Nat → Value} {fp : List Nat} (h : FlatOwn w v n c f fp) (hs : ∀ b, b ∈ fp → b < w.heap.size → w'.heap[b]? = w.heap[b]?) : FlatOwn w' v n c f fp := by
  rcases h with h | ⟨g, cap, e, N, F, h1, rfl, h3, h4⟩
  · exact .inl h
  · exact .inr ⟨g, cap, e, N, F, h1, rfl, h3.of_block (hs g (by simp) h3.lt), h4⟩
theorem FlatOwn.keep {w w' : World} {v : Value} {n c : Nat} {f : Nat → Nat → Value} {fp : List Nat} (h : FlatOwn w v n c f fp) (hb : Below w.heap.size w w') : FlatOwn w' v n c f fp := h.same fun b _ hl => hb.block b hl
theorem FlatOwn.far {w w' : World} {v : Value} {n c : Nat} {f : Nat → Nat → Value} {fp L : List Nat} (h : FlatOwn w v n c f fp) (ha : Apart L w w') (hd : ∀ x, x ∈ fp → x ∉ L) : FlatOwn w' v n c f fp := h.same fun b hb hl => ha.block b hl (hd b hb)
theorem FlatOwn.lt {w : World} {v : Value} {n c : Nat} {f : Nat → Nat → Value} {fp : List Nat} (h : FlatOwn w v n c f fp) : ∀ b, b ∈ fp → b < w.heap.size := by
  rcases h with ⟨_, rfl, _⟩ | ⟨g, cap, e, N, F, h1, rfl, h3, h4⟩
  · intro b hb; simp at hb
  · intro b hb; simp at hb; subst hb; exact h3.lt
theorem FlatOwn.nd {w : World} {v : Value} {n c : Nat} {f : Nat → Nat → Value} {fp : List Nat} (h : FlatOwn w v n c f fp) : fp.Nodup := by
  rcases h with ⟨_, rfl, _⟩ | ⟨g, cap, e, N, F, h1, rfl, h3, h4⟩ <;> simp
theorem FlatOwn.shape {w : World} {v : Value} {n c : Nat} {f : Nat → Nat → Value} {fp : List Nat} (h : FlatOwn w v n c f fp) : ∃ a cap, v = .slice a n cap := by
  rcases h with ⟨rfl, _, a, cap, rfl⟩ | ⟨g, cap, e, N, F, rfl, _⟩
  · exact ⟨a, cap, rfl⟩
  · exact ⟨_, cap, rfl⟩
theorem FlatOwn.congr {w : World} {v : Value} {n c : Nat} {f f' : Nat → Nat → Value} {fp : List Nat} (h : FlatOwn w v n c f fp) (he : ∀ i, i < n → ∀ j, j < c → f i j = f' i j) : FlatOwn w v n c f' fp := by
  rcases h with h | ⟨g, cap, e, N, F, h1, h2, h3, h4, h5⟩
  · exact .inl h
  · exact .inr ⟨g, cap, e, N, F, h1, h2, h3, h4, fun i hi j hj => by rw [h5 i hi j hj, he i hi j hj]⟩
theorem FlatOwn.sl {w : World} {a : Option Addr} {cap n c : Nat} {f : Nat → Nat → Value} {fp : List Nat} (h : FlatOwn w (.slice a n cap) n c f fp) : SlAt w a n c f := by
  rcases h with ⟨rfl, _⟩ | ⟨g, cap', e, N, F, h1, rfl, h3, h4, h5⟩
  · exact .inl rfl
  · simp only [Value.slice.injEq] at h1
    obtain ⟨rfl, _, _⟩ := h1
    exact SlAt.of_row h3 h4 h5
/-- A row that has grown by append. -/
theorem FlatOwn.of_owns {w : World} {B e n c : Nat} {v : Value} {xs : List Value} {f : Nat → Nat → Value} (h : w.ownsRow B e c v n xs) (hx : ∀ i, i < n → ∀ j, j < c → xs[i * c + j]? = some (f i j)) :
    ∃ fp, FlatOwn w v n c f fp ∧ ∀ b, b ∈ fp → B ≤ b := by
  rcases h.2 with ⟨rfl, hl⟩ | ⟨g, cap, cur, rfl, hbg, hg, hnc, hcm, hcs, htake⟩
  · exact ⟨[], .inl ⟨hl, rfl, none, 0, rfl⟩, fun b hb => by simp at hb⟩
  · obtain ⟨F, hrow, hn, hm, hb, hF⟩ := rowIs_of_owns h
    refine ⟨[g], .inr ⟨g, cap, e, cap * c, F, rfl, rfl, hrow, Nat.mul_le_mul_right _ hn, fun i hi j hj => ?_⟩, fun b hb => by simp at hb; omega⟩
    have h1 : i * c + j < n * c := by
      have : (i + 1) * c ≤ n * c := Nat.mul_le_mul_right c hi
      rw [Nat.add_mul] at this; omega
    have h2 := (hF _ h1).symm.trans (hx i hi j hj)
    simpa using h2

/-- A flat row at v, its block from lo on and below hi. -/
structure GFlat (w : World) (lo hi : Nat) (v : Value) (n c : Nat) (f : Nat → Nat → Value) (fp : List Nat) : Prop where
  own : FlatOwn w v n c f fp
  fb : ∀ x, x ∈ fp → lo ≤ x ∧ x < hi
theorem GFlat.keep {w w' : World} {lo hi : Nat} {v : Value} {n c : Nat} {f : Nat → Nat → Value} {fp : List Nat} (h : GFlat w lo hi v n c f fp) (hb : Below w.heap.size w w') : GFlat w' lo hi v n c f fp := ⟨h.own.keep hb, h.fb⟩
theorem GFlat.far {w w' : World} {lo hi : Nat} {v : Value} {n c : Nat} {f : Nat → Nat → Value} {fp L : List Nat} (h : GFlat w lo hi v n c f fp) (ha : Apart L w w') (hd : ∀ x, x ∈ L → x < lo ∨ hi ≤ x) : GFlat w' lo hi v n c f fp :=
  ⟨h.own.far ha fun x hx hy => by have := hd _ hy; have := h.fb x hx; omega, h.fb⟩
theorem GFlat.new {w : World} {B : Nat} {v : Value} {n c : Nat} {f : Nat → Nat → Value} {fp : List Nat} (h : FlatOwn w v n c f fp) (hge : ∀ x, x ∈ fp → B ≤ x) : GFlat w B w.heap.size v n c f fp := ⟨h, fun x hx => ⟨hge x hx, h.lt x hx⟩⟩

end Go.Proofs.YtkifacpanipfhaaDoor
namespace Go.Proofs.YtkifacpanipfhaaDoor
open Go.RowKit

def markInt (k i m : Nat) : Value := if m = 0 then .int .i64 ((k + 1 * i + 0 : Nat) : Int) else undef
def partInt (k j : Nat) (f : Nat → Nat → Value) (i m : Nat) : Value := if i < j then markInt k i m else f i m
theorem markInt_0 (k i : Nat) : markInt k i 0 = .int .i64 ((k + 1 * i + 0 : Nat) : Int) := rfl

end Go.Proofs.YtkifacpanipfhaaDoor
namespace Go.Proofs.YtkifacpanipfhaaDoor
open Go.RowKit

def runF (l : List Nat) (i _j : Nat) : Value := .int .i64 ((l.getD i 0 : Nat) : Int)
theorem rgo_len (s : ByteArray) : ∀ f k acc L, rgo s f k acc = some L → acc.length ≤ k → k ≤ s.size → L.length ≤ s.size
  | 0, _, _, _, h, _, _ => by cases h
  | f + 1, k, acc, L, h, h1, h2 => by
    rw [rgo] at h
    by_cases hk : s.size ≤ k
    · rw [if_pos hk] at h; cases h; omega
    · rw [if_neg hk] at h
      split at h
      · cases h
      · have := Lib.decode_width_pos s k (by omega)
        have := width_le s k (by omega)
        exact rgo_len s f _ _ L h (by simp; omega) (by omega)
theorem runes_len (s : ByteArray) : ((runesO s).getD []).length ≤ s.size := by
  cases h : runesO s with
  | none => simp
  | some L => exact rgo_len s _ 0 [] L h (by simp) (by omega)

def RunesF (s : ByteArray) (w : World) (e : Ending) (w' : World) : Prop := ∃ a cap fp, e = .returned (.tuple #[.slice a ((runesO s).getD []).length cap, .bool (runesO s).isSome]) ∧ GFlat w' w.heap.size w'.heap.size (.slice a ((runesO s).getD []).length cap) ((runesO s).getD []).length 1 (runF ((runesO s).getD [])) fp
theorem runesF_of {s : ByteArray} {w w' : World} {e : Ending} (h : RunesPost s w.heap.size e w') : RunesF s w e w' := by
  obtain ⟨v, l, rfl, ho, rfl⟩ := h
  obtain ⟨fp, h1, h2⟩ := FlatOwn.of_owns (f := runF ((runesO s).getD [])) (c := 1) ho (fun i hi j hj => by
    obtain rfl : j = 0 := by omega
    simp [ints, runF, hi])
  obtain ⟨a, cap, rfl⟩ := h1.shape
  exact ⟨a, cap, fp, rfl, .new h1 h2⟩

end Go.Proofs.YtkifacpanipfhaaDoor
