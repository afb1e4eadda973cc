/- Appending to a slice of the call's own, with the block where it lies; slices of trees that grow. -/
import Derived.Test.YtkfkdljahgdfjaaTreeT
namespace Go.Proofs.Ytkfkdljahgdfjaa
open Go.RowKit

/-- Where the slice lies behind an append: where it lay, or in a new block. -/
def Spot (v v' : Value) (w : World) : Prop := v'.ownBlock = v.ownBlock ∨ ∃ g, v'.ownBlock = some g ∧ w.heap.size ≤ g

theorem run_append_spot {P : Program} (w : World) (base : Nat) (t ty e : TypeId) (i : TypeInfo) (z : Value) (size bytes : Nat) (ht : P.underlying t = some (.slice e)) (hi : P.info? e = some i) (hz : i.zero = some z)
    (hsize : i.size = size) (hby : i.bytes = bytes) (hzs : z.cells.size = size) (hsz : 0 < size)
    (v : Value) (n : Nat) (xs : List Value) (hown : w.ownsRow base e size v n xs)
    (a : Addr) (m c : Nat) (news : List Value) (hl : news.length = m * size) (hnews : ∀ j u, news[j]? = some u → w.cell? (a.add j) = some u) (h1 : ∀ u ∈ news, u.oneCell' = true)
    (h63 : n + m ≤ maxLen) (hbytes : (n + m) * bytes ≤ 140737488355328) (hbase : base ≤ w.heap.size) :
    ∃ v' w', (Builtin.append_ #[t, t] ty #[v, .slice (some a) m c]).run P w = .ok v' w' ∧ w'.ownsRow base e size v' (n + m) (xs ++ news) ∧ w.grownBy w' v.ownBlock ∧ Spot v v' w := by
  obtain ⟨v', w', hr, h2, h3, -⟩ := run_append_own (P := P) w base t ty e i z size bytes ht hi hz hsize hby hzs hsz v n xs hown a m c news hl hnews h1 h63 hbytes hbase
  refine ⟨v', w', hr, h2, h3, ?_⟩
  rcases hown.2 with ⟨rfl, rfl⟩ | ⟨g, cap, cur, rfl, hbg, hg, hnc, hcm, hcs, htake⟩
  · have hx : xs = [] := List.eq_nil_of_length_eq_zero (by simpa using hown.1)
    subst hx
    obtain ⟨v2, w2, hr2, k2, -, -⟩ := run_append_own (P := P) w w.heap.size t ty e i z size bytes ht hi hz hsize hby hzs hsz _ 0 [] (World.ownsRow_nil w w.heap.size e size) a m c news hl hnews h1 h63 hbytes (Nat.le_refl _)
    have := hr.symm.trans hr2
    injection this with e1 e2
    subst e1
    cases hb : v'.ownBlock with
    | none => exact .inl (by rw [hb]; rfl)
    | some g => exact .inr ⟨g, hb, (k2.lt g hb).1⟩
  · subst hsize; subst hby
    by_cases hroom : n + m ≤ cap
    · have hfit : n * i.size + news.length ≤ cur.size := by rw [hl, hcs, ← Nat.add_mul]; exact Nat.mul_le_mul_right _ hroom
      have := hr.symm.trans (run_append_room (P := P) w t ty e i ht hi g n cap cur hg a m c news hl hnews h1 hroom hfit)
      injection this with e1 e2
      subst e1
      exact .inl rfl
    · have holds : ∀ j u, xs[j]? = some u → w.cell? ((⟨g, 0, none⟩ : Addr).add j) = some u := hown.cells (g := g) rfl
      have := hr.symm.trans (run_append_grow (P := P) w t ty e i z ht hi hz ⟨g, 0, none⟩ n cap xs hown.1 holds a m c news hl hnews (by omega) (by unfold maxLen at h63; omega) (growslice_fits (by omega) hbytes))
      injection this with e1 e2
      subst e1
      exact .inr ⟨w.heap.size, rfl, Nat.le_refl _⟩

theorem wpList_append_spot {P : Program} {w : World} {ops : Array Oper} {rest : List Oper} {o : Oper} {a : Act} {Q : Exit → Act → World → Prop} (hgd : o.guard = none) (s x : Operand) (t : TypeId)
    (ho : o.op = .call { callee := .builtin .append, args := #[s, x], argTypes := #[t, t] })
    (base : Nat) (e : TypeId) (i : TypeInfo) (z : Value) (size bytes : Nat) (ht : P.underlying t = some (.slice e)) (hi : P.info? e = some i) (hz : i.zero = some z)
    (hsize : i.size = size) (hby : i.bytes = bytes) (hzs : z.cells.size = size) (hsz : 0 < size)
    (v : Value) (n : Nat) (xs : List Value) (hs : a.eval s = v) (hown : w.ownsRow base e size v n xs)
    (ad : Addr) (m c : Nat) (news : List Value) (hx : a.eval x = .slice (some ad) m c) (hl : news.length = m * size) (hnews : ∀ j u, news[j]? = some u → w.cell? (ad.add j) = some u) (h1 : ∀ u ∈ news, u.oneCell' = true)
    (h63 : n + m ≤ maxLen) (hbytes : (n + m) * bytes ≤ 140737488355328) (hbase : base ≤ w.heap.size)
    (h : ∀ v' w', w'.ownsRow base e size v' (n + m) (xs ++ news) → w.grownBy w' v.ownBlock → Spot v v' w → wpList P ops Q rest (a.put o.dst v') w') : wpList P ops Q (o :: rest) a w := by
  refine wpList_plain hgd fun K hK => ?_
  obtain ⟨v', w', hr, h2, h3, h4⟩ := run_append_spot (P := P) w base t o.type e i z size bytes ht hi hz hsize hby hzs hsz v n xs hown ad m c news hl hnews h1 h63 hbytes hbase
  unfold Oper.wp execOp
  simp only [ho, resolve, invoke, builtin, Sem.run_bind, Sem.run_pure, Result.andThen_ok, List.map_toArray, List.map_cons, List.map_nil, hs, hx, hr]
  exact hK _ _ (h v' w' h2 h3 h4)

/-- A slice of trees that grows in the call: its cells, the blocks of what it holds. -/
def KidsGrow (w : World) (B : Nat) (e : TypeId) (v : Value) (l : List Tr) (ff : List Nat) : Prop :=
  ∃ xs, w.ownsRow B e 6 v l.length xs ∧ KidsRow w (fun i => xs.getD i undef) l 0 ff ∧ ff.Nodup ∧ ∀ b, b ∈ ff → B ≤ b ∧ v.ownBlock ≠ some b

theorem KidsGrow.nil (w : World) (B : Nat) (e : TypeId) : KidsGrow w B e (.slice none 0 0) [] [] :=
  ⟨[], World.ownsRow_nil w B e 6, by simp only [KidsRow], List.nodup_nil, fun b hb => by simp at hb⟩

theorem KidsGrow.keep {w w' : World} {B : Nat} {e : TypeId} {v : Value} {l : List Tr} {ff : List Nat} (h : KidsGrow w B e v l ff) (hb : Below w.heap.size w w') : KidsGrow w' B e v l ff := by
  obtain ⟨xs, h1, h2, h3, h4⟩ := h
  refine ⟨xs, ⟨h1.1, ?_⟩, KidsRow.same _ _ 0 ff h2 fun b _ hl => hb.block b hl, h3, h4⟩
  rcases h1.2 with h | ⟨g, cap, cur, rfl, hbg, hg, rest⟩
  · exact .inl h
  · exact .inr ⟨g, cap, cur, rfl, hbg, by rw [hb.block g (Array.getElem?_eq_some_iff.1 hg).1]; exact hg, rest⟩

def six (t : Tr) (vk vs : Value) : List Value := [.int .i64 t.kind, .bool t.flag, .int .i64 t.num, .string t.text, vk, vs]
theorem six_len (t : Tr) (vk vs : Value) : (six t vk vs).length = 1 * 6 := rfl
theorem six_one {t : Tr} {a a' : Option Addr} {n n' c c' : Nat} : ∀ u ∈ six t (.slice a n c) (.slice a' n' c'), u.oneCell' = true := by
  intro u hu
  simp only [six, List.mem_cons, List.mem_nil_iff, or_false] at hu
  rcases hu with rfl | rfl | rfl | rfl | rfl | rfl <;> rfl

theorem KidsGrow.step {w w' : World} {B : Nat} {e : TypeId} {v v' : Value} {l : List Tr} {ff fp : List Nat} {t : Tr} {vk vs : Value} {xs : List Value}
    (ho : w.ownsRow B e 6 v l.length xs) (hr : KidsRow w (fun i => xs.getD i undef) l 0 ff) (hnd : ff.Nodup) (hff : ∀ b, b ∈ ff → B ≤ b ∧ v.ownBlock ≠ some b)
    (ht : TreeOwn w t vk vs fp) (hfn : fp.Nodup) (hfp : ∀ b, b ∈ fp → B ≤ b ∧ v.ownBlock ≠ some b ∧ b ∉ ff)
    (ho' : w'.ownsRow B e 6 v' (l.length + 1) (xs ++ six t vk vs)) (hg : w.grownBy w' v.ownBlock) (hs : Spot v v' w) : KidsGrow w' B e v' (l ++ [t]) (ff ++ fp) := by
  have hlt : ∀ b, b ∈ ff ++ fp → b < w.heap.size := fun b hb => by
    rw [List.mem_append] at hb
    rcases hb with hb | hb
    · exact KidsRow.lt _ _ 0 ff hr b hb
    · exact TreeOwn.lt _ _ _ _ ht b hb
  have hne : ∀ b, b ∈ ff ++ fp → v.ownBlock ≠ some b := fun b hb => by
    rw [List.mem_append] at hb
    rcases hb with hb | hb
    · exact (hff b hb).2
    · exact (hfp b hb).2.1
  have hsame : ∀ b, b ∈ ff ++ fp → w'.heap[b]? = w.heap[b]? := fun b hb => hg.block b (hlt b hb) fun e => hne b hb e.symm
  refine ⟨xs ++ six t vk vs, by rw [List.length_append]; exact ho', ?_, ?_, fun b hb => ⟨?_, ?_⟩⟩
  · have hx : xs.length = l.length * 6 := ho.1
    refine KidsRow.snoc _ t vk vs fp l 0 ff ?_ ?_ ?_
    · refine KidsRow.congr (fun i => xs.getD i undef) _ _ 0 ff (KidsRow.same _ _ 0 ff hr fun b hb _ => hsame b (by simp [hb])) fun j hj => ?_
      simp only [List.getD_eq_getElem?_getD]
      rw [List.getElem?_append_left (by omega)]
    · rw [Nat.zero_add, ← hx]
      simp only [List.getD_eq_getElem?_getD]
      refine ⟨?_, ?_, ?_, ?_, ?_, ?_⟩
      · rw [List.getElem?_append_right (by omega), Nat.sub_self]; rfl
      · rw [List.getElem?_append_right (by omega), show xs.length + 1 - xs.length = 1 by omega]; rfl
      · rw [List.getElem?_append_right (by omega), show xs.length + 2 - xs.length = 2 by omega]; rfl
      · rw [List.getElem?_append_right (by omega), show xs.length + 3 - xs.length = 3 by omega]; rfl
      · rw [List.getElem?_append_right (by omega), show xs.length + 4 - xs.length = 4 by omega]; rfl
      · rw [List.getElem?_append_right (by omega), show xs.length + 5 - xs.length = 5 by omega]; rfl
    · exact TreeOwn.same _ _ _ _ ht fun b hb _ => hsame b (by simp [hb])
  · rw [List.nodup_append]
    exact ⟨hnd, hfn, fun x hx y hy hxy => (hfp y hy).2.2 (hxy ▸ hx)⟩
  · rw [List.mem_append] at hb
    rcases hb with hb | hb
    · exact (hff b hb).1
    · exact (hfp b hb).1
  · intro hv
    rcases hs with hs | ⟨g, hs, hge⟩
    · rw [hs] at hv; exact hne b hb hv
    · rw [hs] at hv
      injection hv with hv
      have := hlt b hb
      omega

theorem KidsGrow.own {w : World} {B : Nat} {e : TypeId} {v : Value} {l : List Tr} {ff : List Nat} (h : KidsGrow w B e v l ff) : ∃ fs, KidsOwn w v l fs ∧ fs.Nodup ∧ ∀ b, b ∈ fs → B ≤ b := by
  obtain ⟨xs, h1, h2, h3, h4⟩ := h
  rcases h1.2 with ⟨rfl, hl⟩ | ⟨g, cap, cur, rfl, hbg, hg, hnc, hcm, hcs, htake⟩
  · have : l = [] := List.eq_nil_of_length_eq_zero hl
    subst this
    exact ⟨[], .inl ⟨rfl, rfl, none, 0, rfl⟩, List.nodup_nil, fun b hb => by simp at hb⟩
  · obtain ⟨F, hrow, hn, hm, hb, hF⟩ := rowIs_of_owns h1
    refine ⟨g :: ff, .inr ⟨g, cap, e, cap * 6, F, ff, rfl, rfl, hrow, by omega, ?_⟩, ?_, fun b hb => ?_⟩
    · refine KidsRow.congr _ _ _ 0 ff h2 fun j hj => ?_
      simp only [List.getD_eq_getElem?_getD]
      rw [hF j (by omega)]; rfl
    · rw [List.nodup_cons]
      exact ⟨fun hgf => (h4 g hgf).2 rfl, h3⟩
    · rw [List.mem_cons] at hb
      rcases hb with rfl | hb
      · exact hbg
      · exact (h4 b hb).1

end Go.Proofs.Ytkfkdljahgdfjaa
