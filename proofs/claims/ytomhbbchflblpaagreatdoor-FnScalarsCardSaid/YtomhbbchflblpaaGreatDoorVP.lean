/- AnyW, AnyT, DrS, merged. -/
import Derived.Test.YtomhbbchflblpaaGreatDoorVO
import Derived.Test.YtomhbbchflblpaaGreatDoorVN
namespace Go.Proofs.YtomhbbchflblpaaGreatDoor
open Go.RowKit

/-- A tree of bounded greatness. -/
def AnyT (t : Tr) : Prop := t.wt ≤ 10000 ∧ t.nodes ≤ 1100 ∧ t.nums
def AnyP (g : Nat) (W0 : World) (e : Ending) (w' : World) : Prop :=
  ∃ t vk vs fp, AnyT t ∧ e = .returned (.agg #[.int .i64 t.kind, .bool t.flag, .int .i64 t.num, .string t.text, vk, vs]) ∧ TreeOwn w' t vk vs fp ∧ fp.Nodup ∧ (∀ b, b ∈ fp → W0.heap.size ≤ b) ∧ Cur w' g ∧ Apart [g] W0 w'
theorem nums_same {t u : Tr} (hn : u.num = t.num) (hk : u.kids = t.kids) (h : t.nums) : u.nums := by
  rw [nums_iff, hn, hk]; exact (nums_iff t).1 h
/-- The tree in its local B, with all that it owns. -/
structure AD (W0 : World) (g B : Nat) (w : World) (t : Tr) (vk vs : Value) (fp : List Nat) (k : Nat) : Prop where
  dt : DT W0 g w
  sp : Spill w B t vk vs
  own : TreeOwn w t vk vs fp
  nd : fp.Nodup
  ge : ∀ b, b ∈ fp → W0.heap.size < b ∧ b ≠ B
  lt : W0.heap.size < B
  wt : t.wt ≤ 4000 + k
  nodes : t.nodes ≤ 100 + k
  nums : t.nums
theorem AD.go {W0 w w' : World} {g B : Nat} {t : Tr} {vk vs : Value} {fp : List Nat} {k : Nat} (h : AD W0 g B w t vk vs fp k) (hc : Cur w' g) (ha : Apart [g] w w') : AD W0 g B w' t vk vs fp k := by
  have h1 := h.dt.hg
  have h2 := h.lt
  exact ⟨h.dt.go hc ha, h.sp.of_block (ha.block _ h.sp.lt (by simp; omega)), TreeOwn.same _ _ _ _ h.own fun b hb hl => ha.block b hl (by have := h.ge b hb; simp; omega), h.nd, h.ge, h.lt, h.wt, h.nodes, h.nums⟩
theorem AD.keep {W0 w w' : World} {g B : Nat} {t : Tr} {vk vs : Value} {fp : List Nat} {k : Nat} (h : AD W0 g B w t vk vs fp k) (hb : Below w.heap.size w w') : AD W0 g B w' t vk vs fp k :=
  h.go (h.dt.cur.keep hb) (Apart.of_below hb _)
theorem AD.new {W0 w : World} {g : Nat} {t : Tr} {vk vs : Value} {fp : List Nat} (h : DT W0 g w) (ho : TreeOwn w t vk vs fp) (hn : fp.Nodup) (hge : ∀ b, b ∈ fp → W0.heap.size < b) (hd : Drn 3 t) :
    AD W0 g w.heap.size (w.alloc (.cells #[.int .i64 t.kind, .bool t.flag, .int .i64 t.num, .string t.text, vk, vs] 28)) t vk vs fp 0 := by
  have hw := drn_wt3' (Nat.le_refl _) hd
  exact ⟨h.keep (alloc_below _ _ _), Spill.new w t vk vs _, ho.keep (alloc_below _ _ _), hn, fun b hb => ⟨hge b hb, by have := TreeOwn.lt _ _ _ _ ho b hb; omega⟩, h.size, hw.1, hw.2, hd.sm.nums⟩
theorem DT.retA {W0 w : World} {g : Nat} {t : Tr} {vk vs : Value} {fp : List Nat} (h : DT W0 g w) (hd : AnyT t) (ho : TreeOwn w t vk vs fp) (hn : fp.Nodup) (hb : ∀ b, b ∈ fp → W0.heap.size < b) (v0 v1 v2 v3 v4 v5 : Value) :
    AnyP g W0 (.returned (.agg #[.int .i64 t.kind, .bool t.flag, .int .i64 t.num, .string t.text, vk, vs])) (put6w w W0.heap.size v0 v1 v2 v3 v4 v5) := by
  have hw : Below W0.heap.size w (put6w w W0.heap.size v0 v1 v2 v3 v4 v5) := put6w_below (Below.refl _ _) _ (Nat.le_refl _) _ _ _ _ _ _
  exact ⟨t, vk, vs, fp, hd, rfl, TreeOwn.same _ _ _ _ ho fun x hx _ => put6w_heap _ _ _ _ _ _ _ _ _ (by have := hb x hx; omega), hn, fun b hb' => by have := hb b hb'; omega,
    h.cur.same fun k hk _ => put6w_heap _ _ _ _ _ _ _ _ _ (by have := h.hg; omega), h.ap.above hw (Nat.le_refl _)⟩
theorem AD.ret {W0 w : World} {g B : Nat} {t : Tr} {vk vs : Value} {fp : List Nat} {k : Nat} (h : AD W0 g B w t vk vs fp k) (hk : k ≤ 900) (v0 v1 v2 v3 v4 v5 : Value) :
    AnyP g W0 (.returned (.agg #[.int .i64 t.kind, .bool t.flag, .int .i64 t.num, .string t.text, vk, vs])) (put6w w W0.heap.size v0 v1 v2 v3 v4 v5) :=
  h.dt.retA ⟨by have := h.wt; omega, by have := h.nodes; omega, h.nums⟩ h.own h.nd (fun b hb => (h.ge b hb).1) _ _ _ _ _ _

/-! ### A field is set -/
theorem below_set {W0 w : World} {B j : Nat} (h : W0.heap.size < B) (v : Value) : Below (W0.heap.size + 1) w (w.setCell ⟨B, j, none⟩ v) := (Below.refl _ _).setCell (by show W0.heap.size + 1 ≤ B; omega) v
theorem own_set {w : World} {B j : Nat} {t t' : Tr} {vk vs : Value} {fp : List Nat} (h : TreeOwn w t vk vs fp) (hk : t'.keys = t.keys) (hs : t'.kids = t.kids) (hB : ∀ b, b ∈ fp → b ≠ B) (v : Value) : TreeOwn (w.setCell ⟨B, j, none⟩ v) t' vk vs fp := by
  have h1 := TreeOwn.same _ _ _ _ h (w' := w.setCell ⟨B, j, none⟩ v) fun x hx _ => Below.heap_setCell _ _ _ _ (hB x hx)
  obtain ⟨fk, fs, e, h2, h3⟩ := treeOwn_iff.1 h1
  exact treeOwn_iff.2 ⟨fk, fs, e, by rw [hk]; exact h2, by rw [hs]; exact h3⟩
theorem Spill.set0 {w : World} {b : Nat} {t : Tr} {vk vs : Value} (h : Spill w b t vk vs) (y : Int) : Spill (w.setCell ⟨b, 0, none⟩ (.int .i64 y)) b (.mk y t.flag t.num t.text t.keys t.kids) vk vs := by
  obtain ⟨e, F, hr, h0, h1, h2, h3, h4, h5⟩ := h
  exact ⟨e, _, hr.set 0 _, by simp [Tr.kind], by simpa [Tr.flag] using h1, by simpa [Tr.num] using h2, by simpa [Tr.text] using h3, by simpa using h4, by simpa using h5⟩
theorem Spill.set3 {w : World} {b : Nat} {t : Tr} {vk vs : Value} (h : Spill w b t vk vs) (s : ByteArray) : Spill (w.setCell ⟨b, 3, none⟩ (.string s)) b (.mk t.kind t.flag t.num s t.keys t.kids) vk vs := by
  obtain ⟨e, F, hr, h0, h1, h2, h3, h4, h5⟩ := h
  exact ⟨e, _, hr.set 3 _, by simpa [Tr.kind] using h0, by simpa [Tr.flag] using h1, by simpa [Tr.num] using h2, by simp [Tr.text], by simpa using h4, by simpa using h5⟩
theorem AD.setKind {W0 w : World} {g B : Nat} {t : Tr} {vk vs : Value} {fp : List Nat} {k : Nat} (h : AD W0 g B w t vk vs fp k) (y : Int) : AD W0 g B (w.setCell ⟨B, 0, none⟩ (.int .i64 y)) (.mk y t.flag t.num t.text t.keys t.kids) vk vs fp k := by
  refine ⟨h.dt.above (below_set h.lt _) (Nat.lt_succ_self _), h.sp.set0 y, own_set (t' := .mk y t.flag t.num t.text t.keys t.kids) h.own rfl rfl (fun b hb => (h.ge b hb).2) _, h.nd, h.ge, h.lt, ?_, ?_, nums_same (t := t) rfl rfl h.nums⟩
  · have := h.wt; have := wt_eq t; have := wt_eq (.mk y t.flag t.num t.text t.keys t.kids); simp only [Tr.text, Tr.keys, Tr.kids] at *; omega
  · have := h.nodes; have := nodes_eq t; have := nodes_eq (.mk y t.flag t.num t.text t.keys t.kids); simp only [Tr.kids] at *; omega
theorem AD.setText {W0 w : World} {g B : Nat} {t : Tr} {vk vs : Value} {fp : List Nat} {k : Nat} (h : AD W0 g B w t vk vs fp k) (s : ByteArray) (hs : s.size ≤ 401) : AD W0 g B (w.setCell ⟨B, 3, none⟩ (.string s)) (.mk t.kind t.flag t.num s t.keys t.kids) vk vs fp (k + 401) := by
  refine ⟨h.dt.above (below_set h.lt _) (Nat.lt_succ_self _), h.sp.set3 s, own_set (t' := .mk t.kind t.flag t.num s t.keys t.kids) h.own rfl rfl (fun b hb => (h.ge b hb).2) _, h.nd, h.ge, h.lt, ?_, ?_, nums_same (t := t) rfl rfl h.nums⟩
  · have := h.wt; have := wt_eq t; have := wt_eq (.mk t.kind t.flag t.num s t.keys t.kids); simp only [Tr.text, Tr.keys, Tr.kids] at *; omega
  · have := h.nodes; have := nodes_eq t; have := nodes_eq (.mk t.kind t.flag t.num s t.keys t.kids); simp only [Tr.kids] at *; omega

/-! ### A key is appended -/
theorem row_of_own {w : World} {base : Nat} {v : Value} {l : List ByteArray} {fp : List Nat} (h : StrOwn w v l fp) (hb : ∀ b, b ∈ fp → base ≤ b) :
    w.ownsRow base 9 1 v l.length (l.map Value.string) ∧ ∀ b, v.ownBlock = some b → b ∈ fp := by
  rcases h with ⟨rfl, rfl, a, c, rfl, rfl, rfl⟩ | ⟨g, cap, e, N, F, rfl, rfl, ⟨cur, h1, h2, h3⟩, ⟨h4, rfl, rfl, h5⟩, h6⟩
  · exact ⟨⟨by simp, .inl ⟨rfl, rfl⟩⟩, fun b hb => by simp [Value.ownBlock] at hb⟩
  · refine ⟨⟨by simp, .inr ⟨g, N, cur, rfl, hb g (by simp), h1, h4, h5, by omega, ?_⟩⟩, fun b hb => by simp [Value.ownBlock] at hb; simp [hb]⟩
    apply List.ext_getElem?
    intro i
    by_cases hi : i < l.length
    · rw [List.getElem?_take_of_lt (by omega), List.getElem?_map, List.getElem?_eq_getElem hi]
      have h7 := h3 i (by omega)
      rw [h6 i hi] at h7
      rw [Array.getElem?_toList, h7, strAt, List.getD_eq_getElem?_getD, List.getElem?_eq_getElem hi]; rfl
    · rw [List.getElem?_eq_none (by simp; omega), List.getElem?_eq_none (by simp; omega)]
theorem keys_wt (t : Tr) (key : ByteArray) : strWt (t.keys ++ [key]) = strWt t.keys + (key.size + 1) := by
  simp [strWt]; omega
theorem AD.addKey {W0 w w2 : World} {g B : Nat} {t : Tr} {vk vk' vs : Value} {fp : List Nat} {k : Nat} {key : ByteArray} (h : AD W0 g B w t vk vs fp k) (hkey : key.size ≤ 20)
    (ho : w2.ownsRow (W0.heap.size + 1) 9 1 vk' (t.keys.length + 1) (t.keys.map Value.string ++ [.string key])) (hg : w.grownBy w2 vk.ownBlock) (hs : SpotK vk vk' w) :
    ∃ fp', AD W0 g B (w2.setCell ⟨B, 4, none⟩ vk') (.mk t.kind t.flag t.num t.text (t.keys ++ [key]) t.kids) vk' vs fp' (k + 21) := by
  obtain ⟨fk, fs, rfl, hsk, hks⟩ := treeOwn_iff.1 h.own
  obtain ⟨hrow, hmem⟩ := row_of_own hsk (base := W0.heap.size + 1) (fun b hb => (h.ge b (by simp [hb])).1)
  obtain ⟨hnk, hns, hdis⟩ := List.nodup_append.1 h.nd
  have hsame : ∀ b, b < w.heap.size → some b ≠ vk.ownBlock → w2.heap[b]? = w.heap[b]? := hg.block
  have hcell : ∀ b, b ≠ B → (w2.setCell ⟨B, 4, none⟩ vk').heap[b]? = w2.heap[b]? := fun b hb => Below.heap_setCell _ _ _ _ hb
  have hvk : ∀ b, vk.ownBlock = some b → W0.heap.size < b ∧ b ≠ B := fun b hb => h.ge b (by simp [hmem b hb])
  have ho' : w2.ownsRow (W0.heap.size + 1) 9 1 vk' (t.keys ++ [key]).length ((t.keys ++ [key]).map Value.string) := by rw [List.length_append, List.map_append]; exact ho
  have hvk' : ∀ b, vk'.ownBlock = some b → W0.heap.size < b ∧ b ≠ B ∧ b ∉ fs := by
    intro b hb
    rcases hs with e | ⟨q, e, hq⟩
    · rw [e] at hb
      exact ⟨(hvk b hb).1, (hvk b hb).2, fun hx => hdis b (hmem b hb) b hx rfl⟩
    · rw [e] at hb; cases hb
      have hl := h.sp.lt
      have := h.dt.size
      refine ⟨by omega, by omega, fun hx => ?_⟩
      have := TreeOwn.lt _ _ _ _ h.own b (by simp [hx])
      omega
  have ho2 : (w2.setCell ⟨B, 4, none⟩ vk').ownsRow (W0.heap.size + 1) 9 1 vk' (t.keys ++ [key]).length ((t.keys ++ [key]).map Value.string) := row_same ho' fun b hb _ => hcell b (hvk' b hb).2.1
  obtain ⟨fk', g1, g2, g3⟩ := strOwn2 ho2
  have hlt := h.lt
  have hsl := h.sp.lt
  have hbel : Below (W0.heap.size + 1) w w2 := (Below.refl _ _).grown hg (by have := h.dt.size; omega) (fun q hq => by have := (hvk q hq).1; omega)
  refine ⟨fk' ++ fs, ?_, ?_, ?_, ?_, ?_, h.lt, ?_, ?_, nums_same (t := t) rfl rfl h.nums⟩
  · exact h.dt.above (hbel.trans (below_set hlt _)) (Nat.lt_succ_self _)
  · have h1 := (h.sp.of_block (hsame B hsl fun e => (hvk B e.symm).2 rfl)).set4 vk'
    obtain ⟨e, F, hr, h0, h2, h3, h4, h5, h6⟩ := h1
    exact ⟨e, F, hr, h0, h2, h3, h4, h5, h6⟩
  · refine treeOwn_iff.2 ⟨fk', fs, rfl, g1, ?_⟩
    refine hks.same fun b hb hl => ?_
    rw [hcell b (h.ge b (by simp [hb])).2, hsame b hl fun e => hdis b (hmem b e.symm) b hb rfl]
  · rw [List.nodup_append]
    exact ⟨g2, hns, fun x hx y hy hxy => (hvk' x (g3 x hx).2).2.2 (hxy ▸ hy)⟩
  · intro b hb
    rw [List.mem_append] at hb
    rcases hb with hb | hb
    · have := hvk' b (g3 b hb).2; exact ⟨this.1, this.2.1⟩
    · exact h.ge b (by simp [hb])
  · have := h.wt; have := wt_eq t; have := wt_eq (.mk t.kind t.flag t.num t.text (t.keys ++ [key]) t.kids); have := keys_wt t key; simp only [Tr.text, Tr.keys, Tr.kids] at *; omega
  · have := h.nodes; have := nodes_eq t; have := nodes_eq (.mk t.kind t.flag t.num t.text (t.keys ++ [key]) t.kids); simp only [Tr.kids] at *; omega
/-- A key is appended inside a region that draws its order. -/
theorem step_keyA {ops : Array Oper} {o : Oper} {a : Act} {C : Act → World → Prop} {Q : Exit → Act → World → Prop} {E : Prop} (hgd : o.guard = none) (s x : Operand)
    (ho : o.op = .call { callee := .builtin .append, args := #[s, x], argTypes := #[25, 25] }) {W0 we w : World} {g B : Nat} {t : Tr} {vk vs : Value} {fp : List Nat} {k : Nat} (he : AD W0 g B we t vk vs fp k) (key : ByteArray) (hkey : key.size ≤ 20)
    (hs : a.eval s = vk) (Bk : Nat) (hx : a.eval x = .slice (some ⟨Bk, 0, none⟩) 1 1) (hk9 : k ≤ 900) (hb : Below we.heap.size we w) (hB : w.heap[Bk]? = some (.cells #[.string key] 9 (0, 0)))
    (hk : ∀ gg cap fp' w', w'.cell? ⟨B, 4, none⟩ = some vk → w'.frozen? ⟨B, 4, none⟩ = false → AD W0 g B (w'.setCell ⟨B, 4, none⟩ (.slice (some ⟨gg, 0, none⟩) (t.keys.length + 1) cap)) (.mk t.kind t.flag t.num t.text (t.keys ++ [key]) t.kids) (.slice (some ⟨gg, 0, none⟩) (t.keys.length + 1) cap) vs fp' (k + 21) → C (a.put o.dst (.slice (some ⟨gg, 0, none⟩) (t.keys.length + 1) cap)) w') :
    if Region.wanted o (yielded ops a.tmps) = true then Oper.wp Tryz.prog o a w C Q else E := by
  obtain ⟨i0, hi, hz0, hz1, hz2⟩ := info_parts Tryz.infoStr
  have hp := he.keep hb
  obtain ⟨fk, fs, hfe, hsk, hks⟩ := treeOwn_iff.1 hp.own
  obtain ⟨hrow, hmem⟩ := row_of_own hsk (base := W0.heap.size + 1) (fun b hb => (hp.ge b (by simp [hfe, hb])).1)
  have hkl : t.keys.length ≤ 1000000 := by have := he.wt; have := wt_eq t; have e : strWt t.keys = t.keys.length + sizes t.keys := strWt_eq t.keys; omega
  refine step_append_lies _ hgd s x 25 ho (W0.heap.size + 1) 9 i0 (.string ⟨#[]⟩) 1 16 Tryz.underlying25 hi hz0 hz1 hz2 rfl (by decide) vk t.keys.length (t.keys.map Value.string) hs hrow ⟨Bk, 0, none⟩ 1 1 [.string key] hx rfl (fun j u hu => World.news_of_block hB j u hu) (by simp [Value.oneCell']) (by decide) (by unfold maxLen; omega) (by omega) (by have := hp.dt.size; omega) _ rfl ?_
  intro gg cap w' hown hg hat _
  have hne : ∀ b, vk.ownBlock = some b → b ≠ B := fun b hb => (hp.ge b (by simp [hfe, hmem b hb])).2
  have hbk := hg.block _ hp.sp.lt (fun e => hne B e.symm rfl)
  obtain ⟨fp', had⟩ := hp.addKey hkey hown hg (spotK_of hat)
  refine hk gg cap fp' w' ?_ ?_ had
  · exact (hp.sp.of_block hbk).cells.2.2.2.2.1
  · exact (hp.sp.of_block hbk).frozen 4

end Go.Proofs.YtomhbbchflblpaaGreatDoor
namespace Go.Proofs.YtomhbbchflblpaaGreatDoor
open Go.RowKit

def keysA : List ByteArray := [⟨#[97]⟩, ⟨#[255]⟩]
theorem keysA_ok (i : Nat) (h : i < 2) : (keysA.getD i ⟨#[]⟩).size ≤ 20 := by
  rcases (show i = 0 ∨ i = 1 by omega) with rfl | rfl <;> decide
theorem texts_ok (s u : ByteArray) (hs : s.size = 400) (hu : u.size = 401) (i : Nat) (h : i < 4) : (([⟨#[97]⟩, ⟨#[255]⟩, s, u] : List ByteArray).getD i ⟨#[]⟩).size ≤ 401 := by
  rcases (show i = 0 ∨ i = 1 ∨ i = 2 ∨ i = 3 by omega) with rfl | rfl | rfl | rfl
  · show (⟨#[97]⟩ : ByteArray).size ≤ 401; decide
  · show (⟨#[255]⟩ : ByteArray).size ≤ 401; decide
  · show s.size ≤ 401; omega
  · show u.size ≤ 401; omega
theorem one_in {w : World} {t : Tr} {vk vs : Value} (h : TreeIn w Any t vk vs) : KidsIn (w.alloc (.cells #[.int .i64 t.kind, .bool t.flag, .int .i64 t.num, .string t.text, vk, vs] 28)) Any (.slice (some ⟨w.heap.size, 0, none⟩) ([t] : List Tr).length 1) [t] := by
  have hr := World.rowIs_alloc w #[.int .i64 t.kind, .bool t.flag, .int .i64 t.num, .string t.text, vk, vs] 28 (fun j => (#[.int .i64 t.kind, .bool t.flag, .int .i64 t.num, .string t.text, vk, vs] : Array Value).getD j undef) (fun i hi => by
    rw [Array.getD_eq_getD_getElem?, Array.getElem?_eq_getElem hi]; rfl)
  have hk := h.keep (alloc_below w #[.int .i64 t.kind, .bool t.flag, .int .i64 t.num, .string t.text, vk, vs] 28)
  refine ⟨some ⟨w.heap.size, 0, none⟩, 1, rfl, .inr ⟨w.heap.size, 0, rfl, trivial, ?_⟩⟩
  simp only [KidsAt, and_true]
  exact ⟨vk, vs, ⟨hr.cell (i := 0) (by simp), hr.cell (i := 1) (by simp), hr.cell (i := 2) (by simp), hr.cell (i := 3) (by simp), hr.cell (i := 4) (by simp), hr.cell (i := 5) (by simp)⟩, hk⟩
theorem AD.wrap {W0 w w' : World} {g B : Nat} {t : Tr} {vk vs uk us : Value} {fp fu : List Nat} {k : Nat} (h : AD W0 g B w t vk vs fp k) (hb : Below w.heap.size w w') (ho : TreeOwn w' (listTr [t]) uk us fu) (hn : fu.Nodup) (hge : ∀ b, b ∈ fu → w.heap.size ≤ b) :
    AD W0 g B (put6w w' B (.int .i64 (listTr [t]).kind) (.bool (listTr [t]).flag) (.int .i64 (listTr [t]).num) (.string (listTr [t]).text) uk us) (listTr [t]) uk us fu (k + 1) := by
  have hB := h.sp.lt
  have hl := h.lt
  have hp : Below B w' (put6w w' B (.int .i64 (listTr [t]).kind) (.bool (listTr [t]).flag) (.int .i64 (listTr [t]).num) (.string (listTr [t]).text) uk us) := put6w_below (Below.refl _ _) _ (Nat.le_refl _) _ _ _ _ _ _
  refine ⟨(h.dt.keep hb).above hp h.lt, (h.sp.keep hb).put6, TreeOwn.same _ _ _ _ ho fun x hx _ => put6w_heap _ _ _ _ _ _ _ _ _ (by have := hge x hx; omega), hn, fun b hb' => by have := hge b hb'; omega, h.lt, ?_, ?_, (nums_iff _).2 ⟨show (Lit.int .i64 0).wf = true by decide, h.nums, trivial⟩⟩
  · have := h.wt; rw [listTr_wt]; simp only [List.length_cons, List.length_nil, wtL]; omega
  · have := h.nodes; have := nodes_eq (listTr [t]); simp only [listTr, Tr.kids, nodesL] at *; omega
theorem ints_any {l : List Tr} (hl : l.length ≤ 300) (h : ∀ i, i < l.length → Drn 0 (kidAt l i)) : AnyT (listTr l) ∧ l.length + wtL l ≤ 1048576 := by
  have a := sumL wtL Tr.wt rfl (fun _ _ => rfl) 20 l (fun i hi => by have := drn_wt 0 _ (h i hi); rw [wtD] at this; exact this)
  have b := sumL nodesL Tr.nodes rfl (fun _ _ => rfl) 1 l (fun i hi => by have := drn_nodes 0 _ (h i hi); rw [nodesD] at this; exact this)
  have c := nodes_eq (listTr l)
  refine ⟨⟨?_, ?_, (sm_list fun i hi => (h i hi).sm).nums⟩, ?_⟩
  · rw [listTr_wt]; omega
  · rw [c]; show 1 + nodesL l ≤ 1100; omega
  · omega

set_option maxRecDepth 100000 in
set_option maxHeartbeats 16000000 in
theorem l08Any_any (g : Nat) (w : World) (hC : Cur w g) : Calls Tryz.prog 33 #[.pointer (some ⟨g, 0, none⟩)] w (AnyP g w) := by
  have HT := Lib.hid (show ∀ (g : Nat) (w : World), Cur w g → Calls Tryz.prog 22 #[.pointer (some ⟨g, 0, none⟩), .int .i64 4] w (TrP g 3 w) from fun g w hC => by
    have := tree_any 3 (by omega) g w hC
    simpa using this)
  have H0 := Lib.hid (DT.start hC)
  clear hC
  go_enter Tryz.func33, Tryz.ntmps33
  go_wp2_with fail
  refine (HT.out g _ H0.out.cur).mono ?_
  rintro e w1 ⟨t, vk, vs, fp, hd, rfl, hto, hnd, hge, hc1, ha1⟩
  obtain ⟨fk9, fs9, hfe9, hso9, hko9⟩ := treeOwn_iff.1 hto
  obtain ⟨a1, m1, rfl⟩ := str_shape hso9
  obtain ⟨b1, c1, rfl⟩ := kids_shape hko9
  clear hfe9 hso9 hko9
  have H1 := Lib.hid (AD.new (H0.out.go hc1 ha1) hto hnd (fun b hb => by have := hge b hb; simp at this; omega) hd)
  clear hd hto hnd hge hc1 ha1 H0 HT
  go_wp2_with fail
  refine (l01Below_any g 14 _ (by omega) (by omega) H1.out.dt.cur).mono ?_
  rintro e w2 ⟨x, hx0, hx1, rfl, hc2, ha2⟩
  have H2 := Lib.hid (H1.out.go hc2 ha2); clear hc2 ha2 H1
  have hlt := H2.out.lt
  have hlB := H2.out.sp.lt
  by_cases h0 : x = 0
  · subst h0
    go_wp2_with fail
    refine (l01Below_any g 8 _ (by omega) (by omega) H2.out.dt.cur).mono ?_
    rintro e w3 ⟨y, hy0, hy1, rfl, hc3, ha3⟩
    have H3 := Lib.hid (H2.out.go hc3 ha3); clear hc3 ha3 H2
    have f0 := H3.out.sp.frozen 0
    obtain ⟨p0, p1, p2, p3, p4, p5⟩ := H3.out.sp.cells
    obtain ⟨r0, r1, r2, r3, r4, r5⟩ := H3.out.dt.z.cells
    obtain ⟨g0, g1, g2, g3, g4, g5⟩ := H3.out.dt.z.frozen
    go_wp2
    refine bodyPost_ret (v := .agg #[.int .i64 y, .bool t.flag, .int .i64 t.num, .string t.text, .slice a1 t.keys.length m1, .slice b1 t.kids.length c1]) (by simp [results, Tryz.results33, go_sem, r0, r1, r2, r3, r4, r5]) rfl ?_
    exact (H3.out.setKind y).ret (by omega) _ _ _ _ _ _
  by_cases h1 : x = 1
  · subst h1
    clear h0
    have p4 := H2.out.sp.cells.2.2.2.2.1
    have f4 := H2.out.sp.frozen 4
    go_wp2_with fail
    go_region_law (first
      | (go_simp; go_at_call 69; refine (l01Pick_any g _ 2 2 (fun i => keysA.getD i ⟨#[]⟩) (fun s => s.size ≤ 20) _ (by omega) (by omega) ((H2.out.dt.cur.alloc _).keep (by repeat (first | exact Below.refl _ _ | refine Below.drew ?_))) ((lit_strs w2 keysA _ rfl).keep (by repeat (first | exact Below.refl _ _ | refine Below.drew ?_))) (fun b o h => by cases h; have := H2.out.dt.cur.lt; simp; omega) keysA_ok).mono ?_; rintro e w3 ⟨key, hkey, rfl, hc3, ha3⟩; have H3 := Lib.hid (((H2.out.keep (alloc_below _ _ _)).keep (by repeat (first | exact Below.refl _ _ | refine Below.drew ?_))).go hc3 ha3); have HK := Lib.hid hkey; clear hkey hc3 ha3; have p4 := H3.out.sp.cells.2.2.2.2.1; have f4 := H3.out.sp.frozen 4; have hlB := H3.out.sp.lt)
      | (go_loud (refine step_keyA (by rfl) (.tmp 19) (.tmp 23) (by rfl) H3.out key HK.out (by rfl) w3.heap.size (by rfl) (by omega) (by repeat (first | exact Below.refl _ _ | (refine Below.alloc ?_ (by first | omega | (simp; done) | (simp; omega)) _) | (refine Below.setCell ?_ (by first | omega | (simp; done) | (simp; omega)) _) | (refine Below.drew ?_) | (refine below_drewN ?_ _))) (heap_alloc_new _ _) ?_; intro gg cap3 fp3 w4 q4 g4 hA4)))
    all_goals
      have H4 := Lib.hid hA4; clear hA4 q4 g4 p4 f4 H3 H2
      generalize w4.setCell ⟨w1.heap.size, 4, none⟩ (.slice (some ⟨gg, 0, none⟩) (t.keys.length + 1) cap3) = wx at H4 ⊢
      obtain ⟨p0, p1, p2, p3, p4, p5⟩ := H4.out.sp.cells
      obtain ⟨r0, r1, r2, r3, r4, r5⟩ := H4.out.dt.z.cells
      obtain ⟨g0, g1, g2, g3, g4, g5⟩ := H4.out.dt.z.frozen
      go_wp2
      refine bodyPost_ret (v := .agg #[.int .i64 (Tr.mk t.kind t.flag t.num t.text (t.keys ++ [key]) t.kids).kind, .bool (Tr.mk t.kind t.flag t.num t.text (t.keys ++ [key]) t.kids).flag, .int .i64 (Tr.mk t.kind t.flag t.num t.text (t.keys ++ [key]) t.kids).num, .string (Tr.mk t.kind t.flag t.num t.text (t.keys ++ [key]) t.kids).text, .slice (some ⟨gg, 0, none⟩) (t.keys.length + 1) cap3, .slice b1 t.kids.length c1]) (by simp [results, Tryz.results33, go_sem, r0, r1, r2, r3, r4, r5]) rfl ?_
      exact H4.out.ret (by omega) _ _ _ _ _ _
  by_cases h2 : x = 2
  · subst h2
    clear h0 h1
    go_wp2_with fail
    refine (long_sz 400 97 _ (by omega)).mono ?_
    rintro e w3 ⟨s4, hs4, rfl, hb3⟩
    have H3 := Lib.hid (H2.out.keep hb3); clear hb3 H2
    go_wp2_with fail
    refine (long_sz 401 97 _ (by omega)).mono ?_
    rintro e w4 ⟨u4, hu4, rfl, hb4⟩
    have H4 := Lib.hid (H3.out.keep hb4); clear hb4 H3
    have HTX := Lib.hid (texts_ok s4 u4 hs4 hu4); clear hs4 hu4
    go_wp2_with fail
    refine (l01Pick_any g _ 4 4 (fun i => ([⟨#[97]⟩, ⟨#[255]⟩, s4, u4] : List ByteArray).getD i ⟨#[]⟩) (fun s => s.size ≤ 401) _ (by omega) (by omega) (H4.out.dt.cur.alloc _) (lit_strs w4 ([⟨#[97]⟩, ⟨#[255]⟩, s4, u4] : List ByteArray) _ rfl) (fun b o h => by cases h; have := H4.out.dt.cur.lt; omega) HTX.out).mono ?_
    rintro e w5 ⟨s5, hs5, rfl, hc5, ha5⟩
    have H5 := Lib.hid ((H4.out.keep (alloc_below _ _ _)).go hc5 ha5); clear hc5 ha5 H4
    have HS := Lib.hid hs5; clear hs5
    have f3 := H5.out.sp.frozen 3
    obtain ⟨p0, p1, p2, p3, p4, p5⟩ := H5.out.sp.cells
    obtain ⟨r0, r1, r2, r3, r4, r5⟩ := H5.out.dt.z.cells
    obtain ⟨g0, g1, g2, g3, g4, g5⟩ := H5.out.dt.z.frozen
    go_wp2
    refine bodyPost_ret (v := .agg #[.int .i64 t.kind, .bool t.flag, .int .i64 t.num, .string s5, .slice a1 t.keys.length m1, .slice b1 t.kids.length c1]) (by simp [results, Tryz.results33, go_sem, r0, r1, r2, r3, r4, r5]) rfl ?_
    exact (H5.out.setText s5 HS.out).ret (by omega) _ _ _ _ _ _
  by_cases h3 : x = 3
  · subst h3
    clear h0 h1 h2
    go_wp2_with fail
    go_loopw [4] (fun s4 wr => ∃ (k : Nat) (u : Tr) (vk vs : Value) (fu : List Nat), k ≤ 7 ∧ s4 = .int .i64 k ∧ Hid (AD w g w1.heap.size wr u vk vs fu k)) (fun s4 _ => 7 - (intOf s4).toNat)
    case atStart => exact ⟨0, t, _, _, fp, by omega, rfl, H2⟩
    case round =>
      obtain ⟨k, u, vk, vs, fu, hk, rfl, HK⟩ := hrel
      clear H2
      have hto := HK.out.own
      obtain ⟨fk9, fs9, hfe9, hso9, hko9⟩ := treeOwn_iff.1 hto
      obtain ⟨a2, m2, rfl⟩ := str_shape hso9
      obtain ⟨b2, c2, rfl⟩ := kids_shape hko9
      clear hfe9 hso9 hko9
      clear hto
      go_wp2_with fail
      refine (l01Below_any g 3 _ (by omega) (by omega) HK.out.dt.cur).mono ?_
      rintro e w3 ⟨y, hy0, hy1, rfl, hc3, ha3⟩
      have H3 := Lib.hid (HK.out.go hc3 ha3); clear hc3 ha3 HK
      have hl3 := H3.out.sp.lt
      obtain ⟨p0, p1, p2, p3, p4, p5⟩ := H3.out.sp.cells
      obtain ⟨r0, r1, r2, r3, r4, r5⟩ := H3.out.dt.z.cells
      obtain ⟨g0, g1, g2, g3, g4, g5⟩ := H3.out.dt.z.frozen
      by_cases hkx : (k : Int) < 5 + y
      · have hwu := H3.out.wt
        have HW := Lib.hid (show ([u] : List Tr).length + wtL [u] ≤ 1048576 by simp only [List.length_cons, List.length_nil, wtL]; omega)
        clear hwu
        have HI := Lib.hid (one_in (TreeOwn.toIn (S := Any) _ _ _ _ H3.out.own (fun _ _ => trivial)))
        go_wp2_with fail
        refine (sListTree [u] Any _ 1 _ HW.out HI.out).mono ?_
        rintro e w5 ⟨⟨uk, us, fv, rfl, hto, hnd, hge⟩, hb5⟩
        obtain ⟨fk9, fs9, hfe9, hso9, hko9⟩ := treeOwn_iff.1 hto
        obtain ⟨a3, m3, rfl⟩ := str_shape hso9
        obtain ⟨b3, c3, rfl⟩ := kids_shape hko9
        clear hfe9 hso9 hko9
        have H5 := Lib.hid (H3.out.wrap ((alloc_below _ _ _).trans (hb5.mono (by simp))) hto hnd (fun b hb => by have := hge b hb; simp at this; omega))
        have H6 := Lib.hid (H3.out.keep ((alloc_below _ _ _).trans (hb5.mono (by simp))))
        clear hto hnd hge hb5
        have f6 := fun i => H6.out.sp.frozen i
        obtain ⟨p0, p1, p2, p3, p4, p5⟩ := H6.out.sp.cells
        have j0 := f6 0; have j1 := f6 1; have j2 := f6 2; have j3 := f6 3; have j4 := f6 4; have j5 := f6 5
        clear f6
        go_wp2
        go_roundw
        case rel => exact ⟨k + 1, listTr [u], _, _, fv, by omega, by go_num, H5⟩
        case measure => simp [intOf]; omega
      · go_wp2
        refine bodyPost_ret (v := .agg #[.int .i64 u.kind, .bool u.flag, .int .i64 u.num, .string u.text, .slice a2 u.keys.length m2, .slice b2 u.kids.length c2]) (by simp [results, Tryz.results33, go_sem, r0, r1, r2, r3, r4, r5]) rfl ?_
        exact (H3.out).ret (by omega) _ _ _ _ _ _
  by_cases h4 : x = 4
  · subst h4
    clear h0 h1 h2 h3
    have HL := Lib.hid (LD.start (d := 0) H2.out.dt #[] rfl)
    clear H2
    go_wp2_with fail
    go_loopw [5, 6] (fun s5 s6 wr => ∃ (k : Nat) (l : List Tr) (ff : List Nat), k ≤ 300 ∧ s6 = .int .i64 k ∧ Hid (LD w g w2.heap.size wr s5 l ff 0 k)) (fun _ s6 _ => 300 - (intOf s6).toNat)
    case atStart => exact ⟨0, [], [], by omega, rfl, HL⟩
    case round =>
      obtain ⟨k, l, ff, hk, rfl, HLK⟩ := hrel
      clear HL
      go_wp2_with fail
      refine (l01Below_any g 3 _ (by omega) (by omega) HLK.out.dt.cur).mono ?_
      rintro e w3 ⟨y, hy0, hy1, rfl, hc3, ha3⟩
      have H3 := Lib.hid (HLK.out.go hc3 ha3); clear hc3 ha3 HLK
      by_cases hkx : (k : Int) < 298 + y
      · have HSM := Lib.hid (Drn.leaf (sm_int (k : Int) (by omega)) rfl 0)
        go_wp2_with fail
        refine (sIntTree (k : Int) _).mono ?_
        rintro e w4 ⟨rfl, hb4⟩
        have H4 := Lib.hid (H3.out.go (H3.out.dt.cur.keep hb4) (Apart.of_below hb4 _)); clear hb4
        go_wp2_with (at_builtin; go_loud (refine wpList_kidG (by rfl) _ _ (by rfl) H4.out H4.out (.mk 3 false (k : Int) noS [] []) HSM.out (leaf_own _ _ _ _ _) List.nodup_nil (fun b hb => by simp at hb) (by rfl) (by rfl) (by omega) ?_; intro v4 ff4 w5 hL5))
        go_roundw
        case rel => exact ⟨k + 1, l ++ [.mk 3 false (k : Int) noS [] []], ff4, by omega, by go_num, Lib.hid hL5⟩
        case measure => simp [intOf]; omega
      · obtain ⟨fs, hko, hnd, hge⟩ := H3.out.kids.own
        obtain ⟨a2, n2, rfl⟩ := kids_shape hko
        have HAN := Lib.hid (ints_any (by have := H3.out.len; omega) H3.out.all)
        have HKI := Lib.hid (hko.toIn (S := Any) (fun _ _ => trivial))
        clear hko hnd hge
        go_wp2_with fail
        refine (sListTree l Any a2 n2 _ HAN.out.2 HKI.out).mono ?_
        rintro e w4 ⟨⟨vk, vs, fq, rfl, hto, hnd, hge⟩, hb4⟩
        obtain ⟨fk9, fs9, hfe9, hso9, hko9⟩ := treeOwn_iff.1 hto
        obtain ⟨a3, m3, rfl⟩ := str_shape hso9
        obtain ⟨b3, c3, rfl⟩ := kids_shape hko9
        clear hfe9 hso9 hko9
        have H4 := Lib.hid (H3.out.dt.keep hb4)
        have HTO := Lib.hid (And.intro hto (And.intro hnd (show ∀ b, b ∈ fq → w.heap.size < b from fun b hb => by have := hge b hb; have := H3.out.dt.size; omega)))
        clear hto hnd hge hb4
        obtain ⟨r0, r1, r2, r3, r4, r5⟩ := H4.out.z.cells
        obtain ⟨g0, g1, g2, g3, g4, g5⟩ := H4.out.z.frozen
        go_wp2
        refine bodyPost_ret (v := .agg #[.int .i64 (listTr l).kind, .bool (listTr l).flag, .int .i64 (listTr l).num, .string (listTr l).text, .slice a3 (listTr l).keys.length m3, .slice b3 (listTr l).kids.length c3]) (by simp [results, Tryz.results33, go_sem, r0, r1, r2, r3, r4, r5]) rfl ?_
        exact H4.out.retA HAN.out.1 HTO.out.1 HTO.out.2.1 HTO.out.2.2 _ _ _ _ _ _
  have n0 : (x == 0) = false := by rw [beq_eq_false_iff_ne]; exact h0
  have n1 : (x == 1) = false := by rw [beq_eq_false_iff_ne]; exact h1
  have n2 : (x == 2) = false := by rw [beq_eq_false_iff_ne]; exact h2
  have n3 : (x == 3) = false := by rw [beq_eq_false_iff_ne]; exact h3
  have n4 : (x == 4) = false := by rw [beq_eq_false_iff_ne]; exact h4
  clear h0 h1 h2 h3 h4 hx0 hx1
  obtain ⟨p0, p1, p2, p3, p4, p5⟩ := H2.out.sp.cells
  obtain ⟨r0, r1, r2, r3, r4, r5⟩ := H2.out.dt.z.cells
  obtain ⟨g0, g1, g2, g3, g4, g5⟩ := H2.out.dt.z.frozen
  go_wp2
  refine bodyPost_ret (v := .agg #[.int .i64 t.kind, .bool t.flag, .int .i64 t.num, .string t.text, .slice a1 t.keys.length m1, .slice b1 t.kids.length c1]) (by simp [results, Tryz.results33, go_sem, r0, r1, r2, r3, r4, r5]) rfl ?_
  exact (H2.out).ret (by omega) _ _ _ _ _ _

end Go.Proofs.YtomhbbchflblpaaGreatDoor
namespace Go.Proofs.YtomhbbchflblpaaGreatDoor
open Go.RowKit

theorem drn0_any {t : Tr} (h : Drn 0 t) : AnyT t := by
  have a := drn_wt 0 _ h
  have b := drn_nodes 0 _ h
  rw [wtD] at a
  rw [nodesD] at b
  exact ⟨by omega, by omega, h.sm.nums⟩
/-- A drawn tree, all of it new. -/
def ScQ (w : World) (e : Ending) (w' : World) : Prop :=
  ∃ t vk vs fp, AnyT t ∧ e = .returned (.agg #[.int .i64 t.kind, .bool t.flag, .int .i64 t.num, .string t.text, vk, vs]) ∧ TreeOwn w' t vk vs fp ∧ fp.Nodup ∧ (∀ b, b ∈ fp → w.heap.size ≤ b) ∧ Below w.heap.size w w'
set_option maxRecDepth 100000 in
set_option maxHeartbeats 1000000 in
theorem drawScalarText (a : Option Addr) (n cap : Nat) (w : World) (hn : n ≤ 1048576) (hc : CodeAt w w.heap.size a n) : Calls Tryz.prog 12 #[.slice a n cap] w (ScQ w) := by
  have hz := ZeroAt.new w
  have hal := alloc_below w #[.int .i64 0, .bool false, .int .i64 0, .string ⟨#[]⟩, .slice none 0 0, .slice none 0 0] 28
  have HZ := Lib.hid (And.intro hz hal)
  have HC := Lib.hid (hc.keep hal)
  have HT := Lib.hid (show ∀ (g : Nat) (w : World), Cur w g → Calls Tryz.prog 22 #[.pointer (some ⟨g, 0, none⟩), .int .i64 1] w (TrP g 0 w) from fun g w hC => by
    have := tree_any 0 (by omega) g w hC
    simpa using this)
  clear hz hal hc
  go_enter Tryz.func12, Tryz.ntmps12
  go_wp2_with fail
  refine (l01New_any a n cap _ hn HC.out).mono ?_
  rintro e w1 ⟨g, rfl, hg, hc1, hb1⟩
  have H1 := Lib.hid (And.intro hg (And.intro hc1 (And.intro (bnext HZ.out.2 hb1) (HZ.out.1.keep hb1))))
  clear hg hc1 hb1 HC
  go_wp2_with fail
  refine (l01Once_any g 3 _ (by omega) (by omega) H1.out.2.1).mono ?_
  rintro e w2 ⟨b, rfl, hc2, ha2⟩
  have H2 := Lib.hid (And.intro H1.out.1 (And.intro hc2 (And.intro (H1.out.2.2.1.trans (ha2.below H1.out.2.2.1.size (fun x hx => by have := H1.out.1; simp at hx this; omega))) (show ZeroAt w2 w.heap.size from ha2.row H1.out.2.2.2 (by have := H1.out.1; simp at this ⊢; omega)))))
  clear hc2 ha2 H1 HZ
  cases b
  · go_wp2_with fail
    refine (HT.out g _ H2.out.2.1).mono ?_
    rintro e w3 ⟨t, vk, vs, fp, hdr, rfl, hto, hnd, hge, hc3, ha3⟩
    obtain ⟨fk9, fs9, hfe9, hso9, hko9⟩ := treeOwn_iff.1 hto
    obtain ⟨a1, m1, rfl⟩ := str_shape hso9
    obtain ⟨a2, m2, rfl⟩ := kids_shape hko9
    clear hfe9 hso9 hko9
    have hgw : w.heap.size + 1 ≤ g := by have := H2.out.1; simpa using this
    have hs1 := H2.out.2.2.1.size
    have hz3 : ZeroAt w3 w.heap.size := ha3.row H2.out.2.2.2 (by simp; omega)
    obtain ⟨r0, r1, r2, r3, r4, r5⟩ := hz3.cells
    obtain ⟨g0, g1, g2, g3, g4, g5⟩ := hz3.frozen
    have H3 := Lib.hid (And.intro (drn0_any hdr) (And.intro hto (And.intro hnd (And.intro hge (H2.out.2.2.1.trans (ha3.below hs1 (fun x hx => by simp at hx; omega)))))))
    have HLZ := Lib.hid H2.out.2.2.2.lt
    clear hdr hto hnd hge hc3 ha3 hz3
    go_wp2
    refine bodyPost_ret (v := .agg #[.int .i64 t.kind, .bool t.flag, .int .i64 t.num, .string t.text, .slice a1 t.keys.length m1, .slice a2 t.kids.length m2]) (by simp [results, Tryz.results12, go_sem, r0, r1, r2, r3, r4, r5]) rfl ?_
    obtain ⟨hdr, hto, hnd, hge, hb⟩ := H3.out
    have hlz := HLZ.out
    exact ⟨t, _, _, fp, hdr, rfl, TreeOwn.same _ _ _ _ hto fun x hx _ => put6w_heap _ _ _ _ _ _ _ _ _ (by have := hge x hx; omega), hnd, fun b hb' => by have := hge b hb'; omega, put6w_below hb _ (Nat.le_refl _) _ _ _ _ _ _⟩
  · go_wp2_with fail
    refine (l08Any_any g _ H2.out.2.1).mono ?_
    rintro e w3 ⟨t, vk, vs, fp, hdr, rfl, hto, hnd, hge, hc3, ha3⟩
    obtain ⟨fk9, fs9, hfe9, hso9, hko9⟩ := treeOwn_iff.1 hto
    obtain ⟨a1, m1, rfl⟩ := str_shape hso9
    obtain ⟨a2, m2, rfl⟩ := kids_shape hko9
    clear hfe9 hso9 hko9
    have hgw : w.heap.size + 1 ≤ g := by have := H2.out.1; simpa using this
    have hs1 := H2.out.2.2.1.size
    have hz3 : ZeroAt w3 w.heap.size := ha3.row H2.out.2.2.2 (by simp; omega)
    obtain ⟨r0, r1, r2, r3, r4, r5⟩ := hz3.cells
    obtain ⟨g0, g1, g2, g3, g4, g5⟩ := hz3.frozen
    have H3 := Lib.hid (And.intro (hdr) (And.intro hto (And.intro hnd (And.intro hge (H2.out.2.2.1.trans (ha3.below hs1 (fun x hx => by simp at hx; omega)))))))
    have HLZ := Lib.hid H2.out.2.2.2.lt
    clear hdr hto hnd hge hc3 ha3 hz3
    go_wp2
    refine bodyPost_ret (v := .agg #[.int .i64 t.kind, .bool t.flag, .int .i64 t.num, .string t.text, .slice a1 t.keys.length m1, .slice a2 t.kids.length m2]) (by simp [results, Tryz.results12, go_sem, r0, r1, r2, r3, r4, r5]) rfl ?_
    obtain ⟨hdr, hto, hnd, hge, hb⟩ := H3.out
    have hlz := HLZ.out
    exact ⟨t, _, _, fp, hdr, rfl, TreeOwn.same _ _ _ _ hto fun x hx _ => put6w_heap _ _ _ _ _ _ _ _ _ (by have := hge x hx; omega), hnd, fun b hb' => by have := hge b hb'; omega, put6w_below hb _ (Nat.le_refl _) _ _ _ _ _ _⟩

end Go.Proofs.YtomhbbchflblpaaGreatDoor
