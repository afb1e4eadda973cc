/- Grow, Copy, CopyS, merged. -/
import Derived.Test.YtomhbbchflblpaaGreatDoorTreeT
import Derived.Test.YtomhbbchflblpaaGreatDoorTreeS
import Derived.Deep.RegionHeld3
import Derived.Deep.AppendLies
import Derived.Deep.RegionLaw
namespace Go.Proofs.YtomhbbchflblpaaGreatDoor
open Go.RowKit

/-- Where the slice lies behind an append: where it lay, or in a new block. -/
def SpotK (v v' : Value) (w : World) : Prop := v'.ownBlock = v.ownBlock ∨ ∃ g, v'.ownBlock = some g ∧ w.heap.size ≤ g

theorem run_append_spotK {P : Program} (w : World) (base : Nat) (t ty e : TypeId) (i : TypeInfo) (z : Value) (size bytes : Nat) (ht : P.underlying t = some (.slice e)) (hi : P.info? e = some i) (hz : i.zero = some z)
    (hsize : i.size = size) (hby : i.bytes = bytes) (hzs : z.cells.size = size) (hsz : 0 < size)
    (v : Value) (n : Nat) (xs : List Value) (hown : w.ownsRow base e size v n xs)
    (a : Addr) (m c : Nat) (news : List Value) (hl : news.length = m * size) (hnews : ∀ j u, news[j]? = some u → w.cell? (a.add j) = some u) (h1 : ∀ u ∈ news, u.oneCell' = true)
    (h63 : n + m ≤ maxLen) (hbytes : (n + m) * bytes ≤ 140737488355328) (hbase : base ≤ w.heap.size) :
    ∃ v' w', (Builtin.append_ #[t, t] ty #[v, .slice (some a) m c]).run P w = .ok v' w' ∧ w'.ownsRow base e size v' (n + m) (xs ++ news) ∧ w.grownBy w' v.ownBlock ∧ SpotK v v' w := by
  obtain ⟨v', w', hr, h2, h3, -⟩ := run_append_own (P := P) w base t ty e i z size bytes ht hi hz hsize hby hzs hsz v n xs hown a m c news hl hnews h1 h63 hbytes hbase
  refine ⟨v', w', hr, h2, h3, ?_⟩
  rcases hown.2 with ⟨rfl, rfl⟩ | ⟨g, cap, cur, rfl, hbg, hg, hnc, hcm, hcs, htake⟩
  · have hx : xs = [] := List.eq_nil_of_length_eq_zero (by simpa using hown.1)
    subst hx
    obtain ⟨v2, w2, hr2, k2, -, -⟩ := run_append_own (P := P) w w.heap.size t ty e i z size bytes ht hi hz hsize hby hzs hsz _ 0 [] (World.ownsRow_nil w w.heap.size e size) a m c news hl hnews h1 h63 hbytes (Nat.le_refl _)
    have := hr.symm.trans hr2
    injection this with e1 e2
    subst e1
    cases hb : v'.ownBlock with
    | none => exact .inl (by rw [hb]; rfl)
    | some g => exact .inr ⟨g, hb, (k2.lt g hb).1⟩
  · subst hsize; subst hby
    by_cases hroom : n + m ≤ cap
    · have hfit : n * i.size + news.length ≤ cur.size := by rw [hl, hcs, ← Nat.add_mul]; exact Nat.mul_le_mul_right _ hroom
      have := hr.symm.trans (run_append_room (P := P) w t ty e i ht hi g n cap cur hg a m c news hl hnews h1 hroom hfit)
      injection this with e1 e2
      subst e1
      exact .inl rfl
    · have holds : ∀ j u, xs[j]? = some u → w.cell? ((⟨g, 0, none⟩ : Addr).add j) = some u := hown.cells (g := g) rfl
      have := hr.symm.trans (run_append_grow (P := P) w t ty e i z ht hi hz ⟨g, 0, none⟩ n cap xs hown.1 holds a m c news hl hnews (by omega) (by unfold maxLen at h63; omega) (growslice_fits (by omega) hbytes))
      injection this with e1 e2
      subst e1
      exact .inr ⟨w.heap.size, rfl, Nat.le_refl _⟩

theorem wpList_append_spotK {P : Program} {w : World} {ops : Array Oper} {rest : List Oper} {o : Oper} {a : Act} {Q : Exit → Act → World → Prop} (hgd : o.guard = none) (s x : Operand) (t : TypeId)
    (ho : o.op = .call { callee := .builtin .append, args := #[s, x], argTypes := #[t, t] })
    (base : Nat) (e : TypeId) (i : TypeInfo) (z : Value) (size bytes : Nat) (ht : P.underlying t = some (.slice e)) (hi : P.info? e = some i) (hz : i.zero = some z)
    (hsize : i.size = size) (hby : i.bytes = bytes) (hzs : z.cells.size = size) (hsz : 0 < size)
    (v : Value) (n : Nat) (xs : List Value) (hs : a.eval s = v) (hown : w.ownsRow base e size v n xs)
    (ad : Addr) (m c : Nat) (news : List Value) (hx : a.eval x = .slice (some ad) m c) (hl : news.length = m * size) (hnews : ∀ j u, news[j]? = some u → w.cell? (ad.add j) = some u) (h1 : ∀ u ∈ news, u.oneCell' = true)
    (h63 : n + m ≤ maxLen) (hbytes : (n + m) * bytes ≤ 140737488355328) (hbase : base ≤ w.heap.size)
    (h : ∀ v' w', w'.ownsRow base e size v' (n + m) (xs ++ news) → w.grownBy w' v.ownBlock → SpotK v v' w → wpList P ops Q rest (a.put o.dst v') w') : wpList P ops Q (o :: rest) a w := by
  refine wpList_plain hgd fun K hK => ?_
  obtain ⟨v', w', hr, h2, h3, h4⟩ := run_append_spotK (P := P) w base t o.type e i z size bytes ht hi hz hsize hby hzs hsz v n xs hown ad m c news hl hnews h1 h63 hbytes hbase
  unfold Oper.wp execOp
  simp only [ho, resolve, invoke, builtin, Sem.run_bind, Sem.run_pure, Result.andThen_ok, List.map_toArray, List.map_cons, List.map_nil, hs, hx, hr]
  exact hK _ _ (h v' w' h2 h3 h4)

/-- A slice of trees that grows in the call: its cells, the blocks of what it holds. -/
def KidsGrow (w : World) (B : Nat) (e : TypeId) (v : Value) (l : List Tr) (ff : List Nat) : Prop :=
  ∃ xs, w.ownsRow B e 6 v l.length xs ∧ KidsRow w (fun i => xs.getD i undef) l 0 ff ∧ ff.Nodup ∧ ∀ b, b ∈ ff → B ≤ b ∧ v.ownBlock ≠ some b

theorem KidsGrow.nil (w : World) (B : Nat) (e : TypeId) : KidsGrow w B e (.slice none 0 0) [] [] :=
  ⟨[], World.ownsRow_nil w B e 6, by simp only [KidsRow], List.nodup_nil, fun b hb => by simp at hb⟩

theorem KidsGrow.keep {w w' : World} {B : Nat} {e : TypeId} {v : Value} {l : List Tr} {ff : List Nat} (h : KidsGrow w B e v l ff) (hb : Below w.heap.size w w') : KidsGrow w' B e v l ff := by
  obtain ⟨xs, h1, h2, h3, h4⟩ := h
  refine ⟨xs, ⟨h1.1, ?_⟩, KidsRow.same _ _ 0 ff h2 fun b _ hl => hb.block b hl, h3, h4⟩
  rcases h1.2 with h | ⟨g, cap, cur, rfl, hbg, hg, rest⟩
  · exact .inl h
  · exact .inr ⟨g, cap, cur, rfl, hbg, by rw [hb.block g (Array.getElem?_eq_some_iff.1 hg).1]; exact hg, rest⟩

def six (t : Tr) (vk vs : Value) : List Value := [.int .i64 t.kind, .bool t.flag, .int .i64 t.num, .string t.text, vk, vs]
theorem six_len (t : Tr) (vk vs : Value) : (six t vk vs).length = 1 * 6 := rfl
theorem six_one {t : Tr} {a a' : Option Addr} {n n' c c' : Nat} : ∀ u ∈ six t (.slice a n c) (.slice a' n' c'), u.oneCell' = true := by
  intro u hu
  simp only [six, List.mem_cons, List.mem_nil_iff, or_false] at hu
  rcases hu with rfl | rfl | rfl | rfl | rfl | rfl <;> rfl

theorem KidsGrow.step {w w' : World} {B : Nat} {e : TypeId} {v v' : Value} {l : List Tr} {ff fp : List Nat} {t : Tr} {vk vs : Value} {xs : List Value}
    (ho : w.ownsRow B e 6 v l.length xs) (hr : KidsRow w (fun i => xs.getD i undef) l 0 ff) (hnd : ff.Nodup) (hff : ∀ b, b ∈ ff → B ≤ b ∧ v.ownBlock ≠ some b)
    (ht : TreeOwn w t vk vs fp) (hfn : fp.Nodup) (hfp : ∀ b, b ∈ fp → B ≤ b ∧ v.ownBlock ≠ some b ∧ b ∉ ff)
    (ho' : w'.ownsRow B e 6 v' (l.length + 1) (xs ++ six t vk vs)) (hg : w.grownBy w' v.ownBlock) (hs : SpotK v v' w) : KidsGrow w' B e v' (l ++ [t]) (ff ++ fp) := by
  have hlt : ∀ b, b ∈ ff ++ fp → b < w.heap.size := fun b hb => by
    rw [List.mem_append] at hb
    rcases hb with hb | hb
    · exact KidsRow.lt _ _ 0 ff hr b hb
    · exact TreeOwn.lt _ _ _ _ ht b hb
  have hne : ∀ b, b ∈ ff ++ fp → v.ownBlock ≠ some b := fun b hb => by
    rw [List.mem_append] at hb
    rcases hb with hb | hb
    · exact (hff b hb).2
    · exact (hfp b hb).2.1
  have hsame : ∀ b, b ∈ ff ++ fp → w'.heap[b]? = w.heap[b]? := fun b hb => hg.block b (hlt b hb) fun e => hne b hb e.symm
  refine ⟨xs ++ six t vk vs, by rw [List.length_append]; exact ho', ?_, ?_, fun b hb => ⟨?_, ?_⟩⟩
  · have hx : xs.length = l.length * 6 := ho.1
    refine KidsRow.snoc _ t vk vs fp l 0 ff ?_ ?_ ?_
    · refine KidsRow.congr (fun i => xs.getD i undef) _ _ 0 ff (KidsRow.same _ _ 0 ff hr fun b hb _ => hsame b (by simp [hb])) fun j hj => ?_
      simp only [List.getD_eq_getElem?_getD]
      rw [List.getElem?_append_left (by omega)]
    · rw [Nat.zero_add, ← hx]
      simp only [List.getD_eq_getElem?_getD]
      refine ⟨?_, ?_, ?_, ?_, ?_, ?_⟩
      · rw [List.getElem?_append_right (by omega), Nat.sub_self]; rfl
      · rw [List.getElem?_append_right (by omega), show xs.length + 1 - xs.length = 1 by omega]; rfl
      · rw [List.getElem?_append_right (by omega), show xs.length + 2 - xs.length = 2 by omega]; rfl
      · rw [List.getElem?_append_right (by omega), show xs.length + 3 - xs.length = 3 by omega]; rfl
      · rw [List.getElem?_append_right (by omega), show xs.length + 4 - xs.length = 4 by omega]; rfl
      · rw [List.getElem?_append_right (by omega), show xs.length + 5 - xs.length = 5 by omega]; rfl
    · exact TreeOwn.same _ _ _ _ ht fun b hb _ => hsame b (by simp [hb])
  · rw [List.nodup_append]
    exact ⟨hnd, hfn, fun x hx y hy hxy => (hfp y hy).2.2 (hxy ▸ hx)⟩
  · rw [List.mem_append] at hb
    rcases hb with hb | hb
    · exact (hff b hb).1
    · exact (hfp b hb).1
  · intro hv
    rcases hs with hs | ⟨g, hs, hge⟩
    · rw [hs] at hv; exact hne b hb hv
    · rw [hs] at hv
      injection hv with hv
      have := hlt b hb
      omega

theorem KidsGrow.own {w : World} {B : Nat} {e : TypeId} {v : Value} {l : List Tr} {ff : List Nat} (h : KidsGrow w B e v l ff) : ∃ fs, KidsOwn w v l fs ∧ fs.Nodup ∧ ∀ b, b ∈ fs → B ≤ b := by
  obtain ⟨xs, h1, h2, h3, h4⟩ := h
  rcases h1.2 with ⟨rfl, hl⟩ | ⟨g, cap, cur, rfl, hbg, hg, hnc, hcm, hcs, htake⟩
  · have : l = [] := List.eq_nil_of_length_eq_zero hl
    subst this
    exact ⟨[], .inl ⟨rfl, rfl, none, 0, rfl⟩, List.nodup_nil, fun b hb => by simp at hb⟩
  · obtain ⟨F, hrow, hn, hm, hb, hF⟩ := rowIs_of_owns h1
    refine ⟨g :: ff, .inr ⟨g, cap, e, cap * 6, F, ff, rfl, rfl, hrow, by omega, ?_⟩, ?_, fun b hb => ?_⟩
    · refine KidsRow.congr _ _ _ 0 ff h2 fun j hj => ?_
      simp only [List.getD_eq_getElem?_getD]
      rw [hF j (by omega)]; rfl
    · rw [List.nodup_cons]
      exact ⟨fun hgf => (h4 g hgf).2 rfl, h3⟩
    · rw [List.mem_cons] at hb
      rcases hb with rfl | hb
      · exact hbg
      · exact (h4 b hb).1

end Go.Proofs.YtomhbbchflblpaaGreatDoor
namespace Go.Proofs.YtomhbbchflblpaaGreatDoor
open Go.RowKit

theorem run_append_zero {P : Program} (w : World) (base : Nat) (t ty e : TypeId) (i : TypeInfo) (size : Nat) (ht : P.underlying t = some (.slice e)) (hi : P.info? e = some i)
    (v : Value) (n : Nat) (xs : List Value) (hown : w.ownsRow base e size v n xs) (ad : Option Addr) (c : Nat) :
    (Builtin.append_ #[t, t] ty #[v, .slice ad 0 c]).run P w = .ok v w := by
  rcases hown.2 with ⟨rfl, rfl⟩ | ⟨g, cap, cur, rfl, _, _, hnc, _⟩ <;> cases ad
  · simp [Builtin.append_, run_underlying ht, sizeOf, typeInfo, hi, Builtin.lenOf, Builtin.firstCells]
  · simp [Builtin.append_, run_underlying ht, sizeOf, typeInfo, hi, Builtin.lenOf, Builtin.firstCells, loadCells, loadCellsFrom]
  · simp [Builtin.append_, run_underlying ht, sizeOf, typeInfo, hi, Builtin.lenOf, Builtin.firstCells, hnc, storeCells]
  · simp [Builtin.append_, run_underlying ht, sizeOf, typeInfo, hi, Builtin.lenOf, Builtin.firstCells, hnc, storeCells, loadCells, loadCellsFrom]

theorem grown_refl (w : World) (row : Option Nat) : w.grownBy w row := ⟨rfl, rfl, rfl, Nat.le_refl _, fun _ _ _ => rfl⟩

/-- Appending a slice that lies somewhere, of no element too. -/
theorem wpList_append_in {P : Program} {w : World} {ops : Array Oper} {rest : List Oper} {o : Oper} {a : Act} {Q : Exit → Act → World → Prop} (hgd : o.guard = none) (s x : Operand) (t : TypeId)
    (ho : o.op = .call { callee := .builtin .append, args := #[s, x], argTypes := #[t, t] })
    (base : Nat) (e : TypeId) (i : TypeInfo) (z : Value) (size bytes : Nat) (ht : P.underlying t = some (.slice e)) (hi : P.info? e = some i) (hz : i.zero = some z)
    (hsize : i.size = size) (hby : i.bytes = bytes) (hzs : z.cells.size = size) (hsz : 0 < size)
    (v : Value) (n : Nat) (xs : List Value) (hs : a.eval s = v) (hown : w.ownsRow base e size v n xs)
    (ad : Option Addr) (m c : Nat) (news : List Value) (hx : a.eval x = .slice ad m c) (hl : news.length = m * size)
    (hsrc : m = 0 ∨ ∃ b o, ad = some ⟨b, o, none⟩ ∧ ∀ j u, news[j]? = some u → w.cell? ⟨b, o + j, none⟩ = some u) (h1 : ∀ u ∈ news, u.oneCell' = true)
    (h63 : n + m ≤ maxLen) (hbytes : (n + m) * bytes ≤ 140737488355328) (hbase : base ≤ w.heap.size)
    (h : ∀ v' w', w'.ownsRow base e size v' (n + m) (xs ++ news) → w.grownBy w' v.ownBlock → SpotK v v' w → wpList P ops Q rest (a.put o.dst v') w') : wpList P ops Q (o :: rest) a w := by
  rcases hsrc with rfl | ⟨b, o', rfl, hc⟩
  · refine wpList_plain hgd fun K hK => ?_
    have hn : news = [] := List.eq_nil_of_length_eq_zero (by simpa using hl)
    subst hn
    have hr := run_append_zero (P := P) w base t o.type e i size ht hi v n xs hown ad c
    unfold Oper.wp execOp
    simp only [ho, resolve, invoke, builtin, Sem.run_bind, Sem.run_pure, Result.andThen_ok, List.map_toArray, List.map_cons, List.map_nil, hs, hx, hr]
    exact hK _ _ (h v w (by simpa using hown) (grown_refl w _) (.inl rfl))
  · exact wpList_append_spotK hgd s x t ho base e i z size bytes ht hi hz hsize hby hzs hsz v n xs hs hown _ m c news hx hl (fun j u hj => by rw [addr_add]; exact hc j u hj) h1 h63 hbytes hbase h

/-- A row of strings that a call owns. -/
theorem strOwn_of_row {w : World} {B : Nat} {v : Value} {l : List ByteArray} (h : w.ownsRow B 9 1 v l.length (l.map Value.string)) :
    ∃ fp, StrOwn w v l fp ∧ fp.Nodup ∧ ∀ b, b ∈ fp → B ≤ b := by
  rcases h.2 with ⟨rfl, hl⟩ | ⟨g, cap, cur, rfl, hbg, hg, hnc, hcm, hcs, htake⟩
  · have : l = [] := List.eq_nil_of_length_eq_zero hl
    subst this
    exact ⟨[], .inl ⟨rfl, rfl, none, 0, rfl, rfl, rfl⟩, List.nodup_nil, fun b hb => by simp at hb⟩
  · obtain ⟨F, hrow, hn, hm, hb, hF⟩ := rowIs_of_owns h
    refine ⟨[g], .inr ⟨g, cap, _, cap * 1, F, rfl, rfl, hrow, ⟨by omega, by omega, rfl, by omega⟩, fun i hi => ?_⟩, by simp, fun b hb => by simp at hb; omega⟩
    have h2 := hF i (by omega)
    rw [List.getElem?_map, List.getElem?_eq_getElem hi] at h2
    simp only [Option.map_some, Option.some.injEq] at h2
    rw [← h2, strAt, List.getD_eq_getElem?_getD, List.getElem?_eq_getElem hi]; rfl

theorem strs_src {w : World} {S : Nat → Prop} {a : Option Addr} {l : List ByteArray} {cap : Nat} (h : StrsIn w S (.slice a l.length cap) l) :
    l.length = 0 ∨ ∃ b o, a = some ⟨b, o, none⟩ ∧ ∀ (j : Nat) (u : Value), (l.map Value.string)[j]? = some u → w.cell? ⟨b, o + j, none⟩ = some u := by
  obtain ⟨a', cap', e, h⟩ := h
  simp only [Value.slice.injEq] at e
  obtain ⟨rfl, _, _⟩ := e
  rcases h with h | ⟨b, o, rfl, _, hk⟩
  · left; rw [h]; rfl
  · refine .inr ⟨b, o, rfl, fun j u hj => ?_⟩
    rw [List.getElem?_map] at hj
    by_cases hl : j < l.length
    · rw [List.getElem?_eq_getElem hl] at hj
      simp only [Option.map_some, Option.some.injEq] at hj
      rw [hk j hl, ← hj, strAt, List.getD_eq_getElem?_getD, List.getElem?_eq_getElem hl]; rfl
    · rw [List.getElem?_eq_none (by omega)] at hj; simp at hj
theorem strs_one (l : List ByteArray) : ∀ u ∈ l.map Value.string, u.oneCell' = true := by
  intro u hu
  simp only [List.mem_map] at hu
  obtain ⟨s, -, rfl⟩ := hu; rfl

theorem six_src (w : World) (t : Tr) (vk vs : Value) (e : TypeId) : ∀ (j : Nat) (u : Value), (six t vk vs)[j]? = some u →
    (w.alloc (.cells #[.int .i64 t.kind, .bool t.flag, .int .i64 t.num, .string t.text, vk, vs] e)).cell? ((⟨w.heap.size, 0, none⟩ : Addr).add j) = some u := by
  intro j u hu
  obtain ⟨h0, h1, h2, h3, h4, h5⟩ := (Spill.new w t vk vs e).cells
  rw [addr_add, Nat.zero_add]
  simp only [six] at hu
  match j, hu with
  | 0, hu => rw [h0]; simpa using hu
  | 1, hu => rw [h1]; simpa using hu
  | 2, hu => rw [h2]; simpa using hu
  | 3, hu => rw [h3]; simpa using hu
  | 4, hu => rw [h4]; simpa using hu
  | 5, hu => rw [h5]; simpa using hu
  | j + 6, hu => simp at hu

end Go.Proofs.YtomhbbchflblpaaGreatDoor
namespace Go.Proofs.YtomhbbchflblpaaGreatDoor
open Go.RowKit

/-- What stands in the copy's loop: k children are copied. -/
def LInv (w : World) (t : Tr) (vk vs wk : Value) (B : Nat) (fk : List Nat) (k : Nat) (ad : Option Addr) (cap : Nat) (wr : World) : Prop :=
  (∃ ff, KidsGrow wr B 28 (.slice ad k cap) (t.kids.take k) ff) ∧ Spill wr (w.heap.size + 1 + 1) t wk (.slice ad k cap) ∧ Spill wr w.heap.size t vk vs ∧
  wr.rowIs (w.heap.size + 1) 28 6 (lit6 (.int .i64 0) (.bool false) (.int .i64 0) (.string ⟨#[]⟩) (.slice none 0 0) (.slice none 0 0)) ∧ StrOwn wr wk t.keys fk ∧ Below w.heap.size w wr ∧ B ≤ wr.heap.size

theorem KidsGrow.above {w w' : World} {B : Nat} {e : TypeId} {v : Value} {l : List Tr} {ff : List Nat} (h : KidsGrow w B e v l ff) (hs : ∀ b, B ≤ b → b < w.heap.size → w'.heap[b]? = w.heap[b]?) : KidsGrow w' B e v l ff := by
  obtain ⟨xs, h1, h2, h3, h4⟩ := h
  refine ⟨xs, ⟨h1.1, ?_⟩, KidsRow.same _ _ 0 ff h2 fun b hb hl => hs b (h4 b hb).1 hl, h3, h4⟩
  rcases h1.2 with h | ⟨g, cap, cur, rfl, hbg, hg, rest⟩
  · exact .inl h
  · exact .inr ⟨g, cap, cur, rfl, hbg, by rw [hs g hbg (Array.getElem?_eq_some_iff.1 hg).1]; exact hg, rest⟩

theorem LInv.step {w wr w2 w3 : World} {t : Tr} {vk vs wk : Value} {B : Nat} {fk ff fp : List Nat} {k : Nat} {ad : Option Addr} {cap cap3 gg : Nat} {kk ks : Value} {xs : List Value}
    (HI : LInv w t vk vs wk B fk k ad cap wr) (hlt : k < t.kids.length) (hB0 : w.heap.size + 1 + 1 < B) (hfk : ∀ b, b ∈ fk → w.heap.size + 1 + 1 < b ∧ b < B) (hkp : Below wr.heap.size wr w2)
    (ho : w2.ownsRow B 28 6 (.slice ad k cap) k xs) (hr : KidsRow w2 (fun i => xs.getD i undef) (t.kids.take k) 0 ff) (hnd : ff.Nodup) (hff : ∀ b, b ∈ ff → B ≤ b ∧ (Value.slice ad k cap).ownBlock ≠ some b)
    (ht : TreeOwn w2 (kidAt t.kids k) kk ks fp) (hfn : fp.Nodup) (hfp : ∀ b, b ∈ fp → B ≤ b ∧ (Value.slice ad k cap).ownBlock ≠ some b ∧ b ∉ ff) (hlen : (t.kids.take k).length = k)
    (hown : w3.ownsRow B 28 6 (.slice (some ⟨gg, 0, none⟩) (k + 1) cap3) (k + 1) (xs ++ six (kidAt t.kids k) kk ks)) (hgrow : w2.grownBy w3 (Value.slice ad k cap).ownBlock)
    (hat : (Value.slice ad k cap).ownBlock = some gg ∨ gg = w2.heap.size) :
    LInv w t vk vs wk B fk (k + 1) (some ⟨gg, 0, none⟩) cap3 (w3.setCell ⟨w.heap.size + 1 + 1, 5, none⟩ (.slice (some ⟨gg, 0, none⟩) (k + 1) cap3)) := by
  obtain ⟨⟨_, _⟩, hO, hL, hR, hso, hbel, hB⟩ := HI
  have hrow : ∀ b, b < B → some b ≠ (Value.slice ad k cap).ownBlock := fun b hb e => by have := (ho.lt _ e.symm).1; omega
  have hsp : SpotK (.slice ad k cap) (.slice (some ⟨gg, 0, none⟩) (k + 1) cap3) w2 := by
    rcases hat with h | h
    · exact .inl (by rw [h]; rfl)
    · exact .inr ⟨gg, rfl, by rw [h]; exact Nat.le_refl _⟩
  have hz2 := hkp.size
  have hz3 := hgrow.size
  have hO2 := hO.keep hkp
  have hL2 := hL.keep hkp
  have hR2 := rowIs_keep hR hkp
  have hs2 := hso.keep hkp
  refine ⟨⟨ff ++ fp, ?_⟩, ?_, ?_, ?_, ?_, ?_, ?_⟩
  · rw [kids_take_succ _ k hlt]
    refine KidsGrow.above (KidsGrow.step (by rw [hlen]; exact ho) hr hnd hff ht hfn hfp (by rw [hlen]; exact hown) hgrow hsp) fun b hb _ => Below.heap_setCell _ _ _ _ (show b ≠ w.heap.size + 1 + 1 by omega)
  · exact (hO2.of_block (hgrow.block _ hO2.lt (hrow _ (by omega)))).set5 _
  · exact (hL2.of_block (hgrow.block _ hL2.lt (hrow _ (by omega)))).other (show w.heap.size ≠ w.heap.size + 1 + 1 by omega) _
  · exact (hR2.of_block (hgrow.block _ hR2.lt (hrow _ (by omega)))).setOther (show w.heap.size + 1 ≠ w.heap.size + 1 + 1 by omega) _
  · refine (hs2.same fun b hb hl => ?_)
    have := hfk b hb
    rw [Below.heap_setCell _ _ _ _ (show b ≠ w.heap.size + 1 + 1 by omega), hgrow.block b hl (hrow b (by omega))]
  · have h1 := (bnext hbel hkp).grown hgrow (by have := hbel.size; omega) (fun q hq => by have := (ho.lt q hq).1; omega)
    exact h1.setCell (show w.heap.size ≤ w.heap.size + 1 + 1 by omega) _
  · simp [World.setCell]; omega

def LCopyT (N : Nat) : Prop := ∀ (t : Tr) (S : Nat → Prop) (vk vs : Value) (w : World), t.nodes ≤ N → t.wt ≤ 1048576 → TreeIn w S t vk vs →
    Calls Tryz.prog 93 #[.agg #[.int .i64 t.kind, .bool t.flag, .int .i64 t.num, .string t.text, vk, vs]] w fun e w' => TreeNew w.heap.size t e w' ∧ Below w.heap.size w w'

set_option maxRecDepth 100000 in
set_option maxHeartbeats 4000000 in
theorem lcopyT : ∀ N, LCopyT N
  | 0 => fun t S vk vs w h _ _ => by have := nodes_pos t; omega
  | N + 1 => fun t S vk vs w h hw ht => by
    have HIH := Lib.hid (lcopyT N)
    obtain ⟨i0, hi, hz0, hz1, hz2⟩ := info_parts Tryz.infoStr
    obtain ⟨i1, hi1, hy0, hy1, hy2⟩ := info_parts Tryz.infoTree
    have hne := nodes_eq t
    have HK := Lib.hid (show nodesL t.kids ≤ N by omega)
    have hwt := wt_eq t
    have hs1 : t.keys.length ≤ 1048576 := by have := strWt_eq t.keys; omega
    have hs2 : t.kids.length ≤ 1048576 := by omega
    have HW := Lib.hid (show t.kids.length + wtL t.kids ≤ 1048576 by omega)
    clear hne hwt
    obtain ⟨hk, hs⟩ := treeIn_iff.1 ht
    obtain ⟨a1, m1, rfl⟩ := hk.len
    obtain ⟨a2, m2, rfl⟩ := hs.len
    clear ht
    have hb4 : Below w.heap.size w ((((w.alloc (.cells #[.int .i64 t.kind, .bool t.flag, .int .i64 t.num, .string t.text, .slice a1 t.keys.length m1, .slice a2 t.kids.length m2] 28)).alloc (.cells #[.int .i64 0, .bool false, .int .i64 0, .string ⟨#[]⟩, .slice none 0 0, .slice none 0 0] 28)).alloc (.cells #[.int .i64 t.kind, .bool t.flag, .int .i64 t.num, .string t.text, .slice a1 t.keys.length m1, .slice a2 t.kids.length m2] 28)).alloc (.cells #[] 9)) := by repeat (first | exact Below.refl _ _ | (refine Below.alloc ?_ (by first | omega | (simp; done) | (simp; omega)) _) | (refine Below.setCell ?_ (by first | omega | (simp; done) | (simp; omega)) _) | (refine Below.drew ?_) | (refine below_drewN ?_ _))
    have hsrc := strs_src (hk.keep hb4)
    have hown0 : ((((w.alloc (.cells #[.int .i64 t.kind, .bool t.flag, .int .i64 t.num, .string t.text, .slice a1 t.keys.length m1, .slice a2 t.kids.length m2] 28)).alloc (.cells #[.int .i64 0, .bool false, .int .i64 0, .string ⟨#[]⟩, .slice none 0 0, .slice none 0 0] 28)).alloc (.cells #[.int .i64 t.kind, .bool t.flag, .int .i64 t.num, .string t.text, .slice a1 t.keys.length m1, .slice a2 t.kids.length m2] 28)).alloc (.cells #[] 9)).ownsRow (w.heap.size + 1 + 1 + 1) 9 1 (.slice (some ⟨w.heap.size + 1 + 1 + 1, 0, none⟩) 0 0) 0 [] := by
      have := World.ownsRow_made (base := w.heap.size + 1 + 1 + 1) (e := 9) (size := 1) (((w.alloc (.cells #[.int .i64 t.kind, .bool t.flag, .int .i64 t.num, .string t.text, .slice a1 t.keys.length m1, .slice a2 t.kids.length m2] 28)).alloc (.cells #[.int .i64 0, .bool false, .int .i64 0, .string ⟨#[]⟩, .slice none 0 0, .slice none 0 0] 28)).alloc (.cells #[.int .i64 t.kind, .bool t.flag, .int .i64 t.num, .string t.text, .slice a1 t.keys.length m1, .slice a2 t.kids.length m2] 28)) #[] 0 (by simp) (by unfold maxLen; omega) rfl
      simpa using this
    have rowL := (((World.rowIs_alloc w #[.int .i64 t.kind, .bool t.flag, .int .i64 t.num, .string t.text, .slice a1 t.keys.length m1, .slice a2 t.kids.length m2] 28 (lit6 (.int .i64 t.kind) (.bool t.flag) (.int .i64 t.num) (.string t.text) (.slice a1 t.keys.length m1) (.slice a2 t.kids.length m2)) (lit6_get _ _ _ _ _ _)).alloc (.cells #[.int .i64 0, .bool false, .int .i64 0, .string ⟨#[]⟩, .slice none 0 0, .slice none 0 0] 28)).alloc (.cells #[.int .i64 t.kind, .bool t.flag, .int .i64 t.num, .string t.text, .slice a1 t.keys.length m1, .slice a2 t.kids.length m2] 28)).alloc (.cells #[] 9)
    have rowR := ((World.rowIs_alloc (w.alloc (.cells #[.int .i64 t.kind, .bool t.flag, .int .i64 t.num, .string t.text, .slice a1 t.keys.length m1, .slice a2 t.kids.length m2] 28)) #[.int .i64 0, .bool false, .int .i64 0, .string ⟨#[]⟩, .slice none 0 0, .slice none 0 0] 28 (lit6 (.int .i64 0) (.bool false) (.int .i64 0) (.string ⟨#[]⟩) (.slice none 0 0) (.slice none 0 0)) (lit6_get _ _ _ _ _ _)).alloc (.cells #[.int .i64 t.kind, .bool t.flag, .int .i64 t.num, .string t.text, .slice a1 t.keys.length m1, .slice a2 t.kids.length m2] 28)).alloc (.cells #[] 9)
    have rowO := (World.rowIs_alloc ((w.alloc (.cells #[.int .i64 t.kind, .bool t.flag, .int .i64 t.num, .string t.text, .slice a1 t.keys.length m1, .slice a2 t.kids.length m2] 28)).alloc (.cells #[.int .i64 0, .bool false, .int .i64 0, .string ⟨#[]⟩, .slice none 0 0, .slice none 0 0] 28)) #[.int .i64 t.kind, .bool t.flag, .int .i64 t.num, .string t.text, .slice a1 t.keys.length m1, .slice a2 t.kids.length m2] 28 (lit6 (.int .i64 t.kind) (.bool t.flag) (.int .i64 t.num) (.string t.text) (.slice a1 t.keys.length m1) (.slice a2 t.kids.length m2)) (lit6_get _ _ _ _ _ _)).alloc (.cells #[] 9)
    simp only [World.size_alloc] at rowR rowO
    have HROW := Lib.hid (And.intro rowL (And.intro rowR rowO))
    clear rowL rowR rowO
    go_enter Tryz.func93, Tryz.ntmps93
    go_wp2_with (at_builtin; refine wpList_append_in rfl (.tmp 6) (.tmp 8) 25 rfl (w.heap.size + 1 + 1 + 1) 9 i0 (.string ⟨#[]⟩) 1 16 Tryz.underlying25 hi hz0 hz1 hz2 rfl (by decide) (.slice (some ⟨w.heap.size + 1 + 1 + 1, 0, none⟩) 0 0) 0 [] rfl hown0 a1 t.keys.length m1 (t.keys.map Value.string) rfl (by simp) hsrc (strs_one _) (by unfold maxLen; omega) (by omega) (by simp) ?_; intro v1 w1 hown1 hgrow1 _; simp only [Nat.zero_add, List.nil_append] at hown1; obtain ⟨fk, hso, hnd1, hge1⟩ := strOwn_of_row hown1; obtain ⟨c1, c2, rfl⟩ := str_shape hso; clear hown1; obtain ⟨rowL, rowR, rowO⟩ := HROW.out; have rowL1 := rowL.of_block (hgrow1.block _ rowL.lt (by simp only [Value.ownBlock, ne_eq, Option.some.injEq]; omega)); have rowR1 := rowR.of_block (hgrow1.block _ rowR.lt (by simp only [Value.ownBlock, ne_eq, Option.some.injEq]; omega)); have rowO1 := rowO.of_block (hgrow1.block _ rowO.lt (by simp only [Value.ownBlock, ne_eq, Option.some.injEq]; omega)); have l4 : w1.cell? ⟨w.heap.size + 1 + 1, 4, none⟩ = some (.slice a1 t.keys.length m1) := rowO1.cell (i := 4) (by simp); have l5 : w1.cell? ⟨w.heap.size + 1 + 1, 5, none⟩ = some (.slice a2 t.kids.length m2) := rowO1.cell (i := 5) (by simp); have lf4 := rowO1.frozen 4; have lf5 := rowO1.frozen 5; have HROW1 := Lib.hid (And.intro rowL1 (And.intro rowR1 rowO1)); have hzz1 := hgrow1.size; simp at hzz1; have hlt3 : w.heap.size + 1 + 1 < w1.heap.size := (by omega); clear rowL rowR rowO rowL1 rowR1 rowO1)
    clear l4 l5 lf4 lf5 hown0 hsrc
    obtain ⟨rowL1, rowR1, rowO1⟩ := HROW1.out
    have hbw1 : Below w.heap.size w w1 := hb4.grown hgrow1 (by simp; omega) (fun k hk => by simp [Value.ownBlock] at hk; omega)
    have hst : LInv w t (.slice a1 t.keys.length m1) (.slice a2 t.kids.length m2) (.slice c1 t.keys.length c2) w1.heap.size fk 0 (some ⟨w1.heap.size, 0, none⟩) 0 (((w1.setCell ⟨w.heap.size + 1 + 1, 4, none⟩ (.slice c1 t.keys.length c2)).setCell ⟨w.heap.size + 1 + 1, 5, none⟩ (.slice (some ⟨w1.heap.size, 0, none⟩) 0 0)).alloc (.cells #[] 28)) := by
      refine ⟨⟨[], [], ?_, by simp only [List.take_zero, KidsRow], List.nodup_nil, fun b hb => by simp at hb⟩, ⟨_, _, ((rowO1.set 4 _).set 5 _).alloc _, rfl, rfl, rfl, rfl, rfl, rfl⟩, ⟨_, _, ((rowL1.setOther (a := ⟨w.heap.size + 1 + 1, 4, none⟩) (by simp; omega) _).setOther (a := ⟨w.heap.size + 1 + 1, 5, none⟩) (by simp; omega) _).alloc _, rfl, rfl, rfl, rfl, rfl, rfl⟩,
        ((rowR1.setOther (a := ⟨w.heap.size + 1 + 1, 4, none⟩) (by simp) _).setOther (a := ⟨w.heap.size + 1 + 1, 5, none⟩) (by simp) _).alloc _, ?_, ?_, by simp⟩
      · have := World.ownsRow_made (base := w1.heap.size) (e := 28) (size := 6) ((w1.setCell ⟨w.heap.size + 1 + 1, 4, none⟩ (.slice c1 t.keys.length c2)).setCell ⟨w.heap.size + 1 + 1, 5, none⟩ (.slice (some ⟨w1.heap.size, 0, none⟩) 0 0)) #[] 0 (by simp) (by unfold maxLen; omega) rfl
        simpa using this
      · refine (hso.same fun b hb _ => ?_).keep (alloc_below _ _ _)
        have := hge1 b hb
        rw [Below.heap_setCell _ _ _ _ (show b ≠ w.heap.size + 1 + 1 by omega), Below.heap_setCell _ _ _ _ (show b ≠ w.heap.size + 1 + 1 by omega)]
      · have h1 := (hbw1.setCell (p := ⟨w.heap.size + 1 + 1, 4, none⟩) (show w.heap.size ≤ w.heap.size + 1 + 1 by omega) (.slice c1 t.keys.length c2)).setCell (p := ⟨w.heap.size + 1 + 1, 5, none⟩) (show w.heap.size ≤ w.heap.size + 1 + 1 by omega) (.slice (some ⟨w1.heap.size, 0, none⟩) 0 0)
        exact bnext h1 (alloc_below _ _ _)
    have HND := Lib.hid hnd1
    have HST := Lib.hid hst
    have HFK := Lib.hid (show ∀ b, b ∈ fk → w.heap.size + 1 + 1 < b ∧ b < w1.heap.size from fun b hb => ⟨by have := hge1 b hb; omega, hso.lt b hb⟩)
    clear hst rowL1 rowR1 rowO1 HROW1 HROW hgrow1 hbw1 hso hb4
    go_loopw [4] (fun s4 wr => ∃ (k : Nat) (ad : Option Addr) (cap : Nat), k ≤ t.kids.length ∧ s4 = .int .i64 k ∧ Hid (LInv w t (.slice a1 t.keys.length m1) (.slice a2 t.kids.length m2) (.slice c1 t.keys.length c2) w1.heap.size fk k ad cap wr)) (fun s4 _ => t.kids.length - (intOf s4).toNat)
    case atStart => exact ⟨0, some ⟨w1.heap.size, 0, none⟩, 0, by omega, rfl, HST.out⟩
    case round =>
      obtain ⟨k, ad, cap, hk, rfl, HI⟩ := hrel
      by_cases hlt : k < t.kids.length
      · obtain ⟨⟨ff, hg⟩, hO, hL, hR, hso, hbel, hB1⟩ := HI.out
        obtain ⟨b, o, vk, vs, rfl, ⟨c0, c1', c2', c3, c4, c5⟩, hin⟩ := (hs.keep hbel).at hlt
        obtain ⟨hk1, hs1'⟩ := treeIn_iff.1 hin
        obtain ⟨a3, n3, rfl⟩ := hk1.len
        obtain ⟨a4, n4, rfl⟩ := hs1'.len
        clear hk1 hs1' hs
        have hnk := nodes_kid t.kids k hlt
        have hwk := wt_kid t.kids k hlt
        have hz := hbel.size
        have hlb := lt_of_cell c0
        have q5 := hO.cells.2.2.2.2.2
        have p5 := hL.cells.2.2.2.2.2
        have HH := Lib.hid (And.intro hg (And.intro hO (And.intro hL (And.intro hR (And.intro hso hbel)))))
        clear hg hO hL hR hso hbel
        go_wp2_with fail
        go_region_law (first
          | (go_simp; go_at_call 93; refine (HIH.out (kidAt t.kids k) S _ _ _ (by have := HK.out; omega) (by have := HW.out; omega) (hin.keep (by repeat (first | exact Below.refl _ _ | (refine Below.alloc ?_ (by first | omega | (simp; done) | (simp; omega)) _) | (refine Below.setCell ?_ (by first | omega | (simp; done) | (simp; omega)) _) | (refine Below.drew ?_) | (refine below_drewN ?_ _))))).mono ?_
             rintro e w2 ⟨⟨k2, s2, fp, rfl, hto, hnd, hge⟩, hb2⟩
             obtain ⟨fk2, fs2, hfe, hso2, hko2⟩ := treeOwn_iff.1 hto
             obtain ⟨a5, n5, rfl⟩ := str_shape hso2
             obtain ⟨a6, n6, rfl⟩ := kids_shape hko2
             clear hfe hso2 hko2
             obtain ⟨hg, hO, hL, hR, hso, hbel⟩ := HH.out
             have hal := alloc_below w2 #[.int .i64 (kidAt t.kids k).kind, .bool (kidAt t.kids k).flag, .int .i64 (kidAt t.kids k).num, .string (kidAt t.kids k).text, .slice a5 (kidAt t.kids k).keys.length n5, .slice a6 (kidAt t.kids k).kids.length n6] 28
             have hbw2 : Below wr.heap.size wr w2 := bnext (by repeat (first | exact Below.refl _ _ | (refine Below.alloc ?_ (by first | omega | (simp; done) | (simp; omega)) _) | (refine Below.setCell ?_ (by first | omega | (simp; done) | (simp; omega)) _) | (refine Below.drew ?_) | (refine below_drewN ?_ _))) hb2
             have hg3 := hg.keep (bnext hbw2 hal)
             have hzw := hbw2.size
             obtain ⟨xs0, ho0, hr0, -, -⟩ := hg
             obtain ⟨xs, ho, hr, hndf, hff⟩ := hg3
             have hlen : (t.kids.take k).length = k := by simp; omega
             rw [hlen] at ho ho0
             have hto3 := hto.keep hal
             have hfp : ∀ b, b ∈ fp → w1.heap.size ≤ b ∧ (Value.slice ad k cap).ownBlock ≠ some b ∧ b ∉ ff := fun b hb' => by
               have h1 := hge b hb'
               simp at h1
               have h0 := hB1
               refine ⟨by omega, fun h => ?_, fun h => ?_⟩
               · have := (ho0.lt b h).2; omega
               · have := KidsRow.lt _ _ 0 ff hr0 b h; omega
             have HST3 := Lib.hid (And.intro hr (And.intro hndf (And.intro hff (And.intro hto3 (And.intro hnd (And.intro hfp hlen))))))
             have hO3 := hO.keep (bnext hbw2 hal)
             have HKP := Lib.hid (bnext hbw2 hal)
             have q5 : w2.cell? ⟨w.heap.size + 1 + 1, 5, none⟩ = some (.slice ad k cap) := (hO.keep hbw2).cells.2.2.2.2.2
             have hb3l := (hO.keep hbw2).lt
             have hbs : w1.heap.size ≤ (w2.alloc (.cells #[.int .i64 (kidAt t.kids k).kind, .bool (kidAt t.kids k).flag, .int .i64 (kidAt t.kids k).num, .string (kidAt t.kids k).text, .slice a5 (kidAt t.kids k).keys.length n5, .slice a6 (kidAt t.kids k).kids.length n6] 28)).heap.size := by have h0 := hB1; simp; omega
             clear hr0 ho0 hr hndf hff hto3 hnd hfp hge hto hlen hb2 hO hL hR hso hbel hal hbw2)
          | (refine step_append_lies _ (by rfl) (.tmp 21) (.tmp 28) 26 (by rfl) w1.heap.size 28 i1 _ 6 88 Tryz.underlying26 hi1 hy0 hy1 hy2 rfl (by decide) (.slice ad k cap) k xs (by rfl) ho ⟨w2.heap.size, 0, none⟩ 1 1 (six (kidAt t.kids k) (.slice a5 (kidAt t.kids k).keys.length n5) (.slice a6 (kidAt t.kids k).kids.length n6)) (by rfl) (by rfl) (six_src _ _ _ _ _) six_one (by decide) (by unfold maxLen; omega) (by omega) hbs _ rfl ?_
             intro gg cap3 w3 hown3 hgrow3 hat3 hlt3'
             have hbk := hgrow3.block _ hO3.lt (fun e => by have := (ho.lt _ e.symm).1; omega)
             have q5 := (hO3.of_block hbk).cells.2.2.2.2.2
             have qf5 := (hO3.of_block hbk).frozen 5))
        all_goals
          go_wp2
          go_roundw
          case rel =>
            obtain ⟨hr, hndf, hff, hto3, hnd, hfp, hlen⟩ := HST3.out
            exact ⟨k + 1, some ⟨gg, 0, none⟩, cap3, by omega, by go_num, LInv.step HI.out hlt (by omega) HFK.out HKP.out ho hr hndf hff hto3 hnd hfp hlen hown3 hgrow3 hat3⟩
          case measure => simp [intOf]; omega
      · obtain rfl : k = t.kids.length := by omega
        obtain ⟨⟨ff, hg⟩, hO, hL, hR, hso, hbel, hB1⟩ := HI.out
        have p5 := hL.cells.2.2.2.2.2
        obtain ⟨l0, l1, l2, l3, l4, l5⟩ := hO.cells
        have r0 : wr.cell? ⟨w.heap.size + 1, 0, none⟩ = some (.int .i64 0) := hR.cell (by omega)
        have r1 : wr.cell? ⟨w.heap.size + 1, 1, none⟩ = some (.bool false) := hR.cell (by omega)
        have r2 : wr.cell? ⟨w.heap.size + 1, 2, none⟩ = some (.int .i64 0) := hR.cell (by omega)
        have r3 : wr.cell? ⟨w.heap.size + 1, 3, none⟩ = some (.string ⟨#[]⟩) := hR.cell (by omega)
        have r4 : wr.cell? ⟨w.heap.size + 1, 4, none⟩ = some (.slice none 0 0) := hR.cell (by omega)
        have r5 : wr.cell? ⟨w.heap.size + 1, 5, none⟩ = some (.slice none 0 0) := hR.cell (by omega)
        have rf0 := hR.frozen 0
        have rf1 := hR.frozen 1
        have rf2 := hR.frozen 2
        have rf3 := hR.frozen 3
        have rf4 := hR.frozen 4
        have rf5 := hR.frozen 5
        have HE := Lib.hid (And.intro hg (And.intro hso (And.intro hbel hB1)))
        clear hg hO hL hR hso hbel hB1
        go_wp2
        refine bodyPost_ret (v := .agg #[.int .i64 t.kind, .bool t.flag, .int .i64 t.num, .string t.text, .slice c1 t.keys.length c2, .slice ad t.kids.length cap]) (by simp [results, Tryz.results93, go_sem, r0, r1, r2, r3, r4, r5]) rfl ?_
        obtain ⟨hg, hso, hbel, hB1⟩ := HE.out
        rw [List.take_length] at hg
        have hfin : ∀ (b : Nat), b ≠ w.heap.size + 1 → ∀ (v0 v1 v2 v3 v4 v5 : Value), ((((((wr.setCell ⟨w.heap.size + 1, 0, none⟩ v0).setCell ⟨w.heap.size + 1, 1, none⟩ v1).setCell ⟨w.heap.size + 1, 2, none⟩ v2).setCell ⟨w.heap.size + 1, 3, none⟩ v3).setCell ⟨w.heap.size + 1, 4, none⟩ v4).setCell ⟨w.heap.size + 1, 5, none⟩ v5).heap[b]? = wr.heap[b]? := fun b h1 v0 v1 v2 v3 v4 v5 => by
          rw [Below.heap_setCell _ _ _ _ h1, Below.heap_setCell _ _ _ _ h1, Below.heap_setCell _ _ _ _ h1, Below.heap_setCell _ _ _ _ h1, Below.heap_setCell _ _ _ _ h1, Below.heap_setCell _ _ _ _ h1]
        obtain ⟨fs, hko, hfn, hfb⟩ := hg.own
        have hB0 : w.heap.size + 1 + 1 < w1.heap.size := hlt3
        refine ⟨⟨_, _, fk ++ fs, rfl, treeOwn_iff.2 ⟨fk, fs, rfl, ?_, ?_⟩, ?_, ?_⟩, ?_⟩
        · exact hso.same fun b hb _ => hfin b (by have := (HFK.out b hb).1; omega) _ _ _ _ _ _
        · exact hko.same fun b hb _ => hfin b (by have := hfb b hb; omega) _ _ _ _ _ _
        · rw [List.nodup_append]
          exact ⟨HND.out, hfn, fun x hx y hy hxy => by have := (HFK.out x hx).2; have := hfb y hy; omega⟩
        · intro b hb
          rw [List.mem_append] at hb
          rcases hb with hb | hb
          · have := (HFK.out b hb).1; omega
          · have := hfb b hb; omega
        · exact (((((hbel.setCell (p := ⟨w.heap.size + 1, 0, none⟩) (show w.heap.size ≤ w.heap.size + 1 by omega) _).setCell (p := ⟨w.heap.size + 1, 1, none⟩) (show w.heap.size ≤ w.heap.size + 1 by omega) _).setCell (p := ⟨w.heap.size + 1, 2, none⟩) (show w.heap.size ≤ w.heap.size + 1 by omega) _).setCell (p := ⟨w.heap.size + 1, 3, none⟩) (show w.heap.size ≤ w.heap.size + 1 by omega) _).setCell (p := ⟨w.heap.size + 1, 4, none⟩) (show w.heap.size ≤ w.heap.size + 1 by omega) _).setCell (p := ⟨w.heap.size + 1, 5, none⟩) (show w.heap.size ≤ w.heap.size + 1 by omega) _

end Go.Proofs.YtomhbbchflblpaaGreatDoor
