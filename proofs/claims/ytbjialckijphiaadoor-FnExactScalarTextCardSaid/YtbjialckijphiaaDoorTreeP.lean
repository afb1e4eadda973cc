/- Trees: the data, what it is for a tree to lie in memory, and that it stays. No program. -/
import Derived.Test.YtbjialckijphiaaDoorMem
namespace Go.Proofs.YtbjialckijphiaaDoor
open Go.RowKit

inductive Tr where
  | mk (kind : Int) (flag : Bool) (num : Int) (text : ByteArray) (keys : List ByteArray) (kids : List Tr)

def Tr.kind : Tr → Int | .mk k _ _ _ _ _ => k
def Tr.flag : Tr → Bool | .mk _ f _ _ _ _ => f
def Tr.num : Tr → Int | .mk _ _ n _ _ _ => n
def Tr.text : Tr → ByteArray | .mk _ _ _ s _ _ => s
def Tr.keys : Tr → List ByteArray | .mk _ _ _ _ l _ => l
def Tr.kids : Tr → List Tr | .mk _ _ _ _ _ l => l

def strAt (l : List ByteArray) (i : Nat) : ByteArray := l.getD i ByteArray.empty
def strF (l : List ByteArray) (i _j : Nat) : Value := .string (strAt l i)
def noTree : Tr := .mk 0 false 0 ByteArray.empty [] []
def kidAt (l : List Tr) (i : Nat) : Tr := l.getD i noTree

/-- The six cells of element i. -/
def TrCells (w : World) (b o i : Nat) (t : Tr) (vk vs : Value) : Prop :=
  w.cell? ⟨b, o + i * 6, none⟩ = some (.int .i64 t.kind) ∧ w.cell? ⟨b, o + i * 6 + 1, none⟩ = some (.bool t.flag) ∧ w.cell? ⟨b, o + i * 6 + 2, none⟩ = some (.int .i64 t.num) ∧
  w.cell? ⟨b, o + i * 6 + 3, none⟩ = some (.string t.text) ∧ w.cell? ⟨b, o + i * 6 + 4, none⟩ = some vk ∧ w.cell? ⟨b, o + i * 6 + 5, none⟩ = some vs

/-- A slice of strings: its value, and the blocks where it may lie. -/
def StrsIn (w : World) (S : Nat → Prop) (v : Value) (l : List ByteArray) : Prop :=
  ∃ a cap, v = .slice a l.length cap ∧ (l = [] ∨ ∃ b o, a = some ⟨b, o, none⟩ ∧ S b ∧ ∀ i, i < l.length → w.cell? ⟨b, o + i, none⟩ = some (.string (strAt l i)))

mutual
/-- The tree t lies in memory, in blocks of S: vk, vs are the values of its fields Keys and Kids. -/
def TreeIn (w : World) (S : Nat → Prop) : Tr → Value → Value → Prop
  | .mk _ _ _ _ keys kids, vk, vs => StrsIn w S vk keys ∧ ∃ a cap, vs = .slice a kids.length cap ∧ (kids = [] ∨ ∃ b o, a = some ⟨b, o, none⟩ ∧ S b ∧ KidsAt w S kids b o 0)
def KidsAt (w : World) (S : Nat → Prop) : List Tr → Nat → Nat → Nat → Prop
  | [], _, _, _ => True
  | t :: ts, b, o, i => (∃ vk vs, TrCells w b o i t vk vs ∧ TreeIn w S t vk vs) ∧ KidsAt w S ts b o (i + 1)
end

/-- A slice of trees. -/
def KidsIn (w : World) (S : Nat → Prop) (v : Value) (l : List Tr) : Prop :=
  ∃ a cap, v = .slice a l.length cap ∧ (l = [] ∨ ∃ b o, a = some ⟨b, o, none⟩ ∧ S b ∧ KidsAt w S l b o 0)

theorem treeIn_iff {w : World} {S : Nat → Prop} {t : Tr} {vk vs : Value} : TreeIn w S t vk vs ↔ StrsIn w S vk t.keys ∧ KidsIn w S vs t.kids := by
  cases t; simp only [TreeIn, Tr.keys, Tr.kids, KidsIn]

theorem kids_get {w : World} {S : Nat → Prop} : ∀ (l : List Tr) (b o i : Nat), KidsAt w S l b o i → ∀ j, j < l.length → ∃ vk vs, TrCells w b o (i + j) (kidAt l j) vk vs ∧ TreeIn w S (kidAt l j) vk vs
  | [], _, _, _, _, j, hj => by simp at hj
  | t :: ts, b, o, i, h, 0, _ => by
    simp only [KidsAt] at h
    obtain ⟨⟨vk, vs, h1, h2⟩, -⟩ := h
    exact ⟨vk, vs, h1, h2⟩
  | t :: ts, b, o, i, h, j + 1, hj => by
    simp only [KidsAt] at h
    have := kids_get ts b o (i + 1) h.2 j (by simpa using hj)
    rw [show i + 1 + j = i + (j + 1) by omega] at this
    exact this
theorem kids_of {w : World} {S : Nat → Prop} : ∀ (l : List Tr) (b o i : Nat), (∀ j, j < l.length → ∃ vk vs, TrCells w b o (i + j) (kidAt l j) vk vs ∧ TreeIn w S (kidAt l j) vk vs) → KidsAt w S l b o i
  | [], _, _, _, _ => by simp only [KidsAt]
  | t :: ts, b, o, i, h => by
    simp only [KidsAt]
    refine ⟨h 0 (by simp), kids_of ts b o (i + 1) fun j hj => ?_⟩
    have := h (j + 1) (by simpa using hj)
    rw [show i + (j + 1) = i + 1 + j by omega] at this
    exact this

/-- Two worlds are one on the blocks of S that are there. -/
def SameOn (S : Nat → Prop) (w w' : World) : Prop := ∀ b, S b → b < w.heap.size → w'.heap[b]? = w.heap[b]?
theorem SameOn.cell {S : Nat → Prop} {w w' : World} (h : SameOn S w w') {b o : Nat} {v : Value} (hb : S b) (hc : w.cell? ⟨b, o, none⟩ = some v) : w'.cell? ⟨b, o, none⟩ = some v :=
  (World.cell?_of_block (w := w) (h b hb (lt_of_cell hc))).trans hc
theorem SameOn.of_below {S : Nat → Prop} {w w' : World} (h : Below w.heap.size w w') : SameOn S w w' := fun b _ hl => h.block b hl
theorem SameOn.mono {S T : Nat → Prop} {w w' : World} (h : SameOn S w w') (hs : ∀ b, T b → S b) : SameOn T w w' := fun b hb hl => h b (hs b hb) hl

theorem TrCells.same {S : Nat → Prop} {w w' : World} (h : SameOn S w w') {b o i : Nat} {t : Tr} {vk vs : Value} (hb : S b) (hc : TrCells w b o i t vk vs) : TrCells w' b o i t vk vs :=
  ⟨h.cell hb hc.1, h.cell hb hc.2.1, h.cell hb hc.2.2.1, h.cell hb hc.2.2.2.1, h.cell hb hc.2.2.2.2.1, h.cell hb hc.2.2.2.2.2⟩
theorem StrsIn.same {S T : Nat → Prop} {w w' : World} (h : SameOn S w w') (hT : ∀ b, S b → b < w.heap.size → T b) {v : Value} {l : List ByteArray} (hs : StrsIn w S v l) : StrsIn w' T v l := by
  obtain ⟨a, cap, rfl, hs⟩ := hs
  refine ⟨a, cap, rfl, ?_⟩
  rcases hs with hs | ⟨b, o, rfl, hb, hc⟩
  · exact .inl hs
  · cases hl : l with
    | nil => exact .inl rfl
    | cons x xs =>
      right
      have h0 := hc 0 (by rw [hl]; simp)
      rw [← hl]
      exact ⟨b, o, rfl, hT b hb (lt_of_cell h0), fun i hi => h.cell hb (hc i hi)⟩

mutual
theorem TreeIn.same {S T : Nat → Prop} {w w' : World} (h : SameOn S w w') (hT : ∀ b, S b → b < w.heap.size → T b) : ∀ (t : Tr) (vk vs : Value), TreeIn w S t vk vs → TreeIn w' T t vk vs
  | .mk _ _ _ _ keys kids, vk, vs, ht => by
    simp only [TreeIn] at ht ⊢
    obtain ⟨h1, a, cap, rfl, h2⟩ := ht
    refine ⟨h1.same h hT, a, cap, rfl, ?_⟩
    rcases h2 with h2 | ⟨b, o, rfl, hb, hk⟩
    · exact .inl h2
    · cases hl : kids with
      | nil => exact .inl rfl
      | cons x xs =>
        right
        have hlt : b < w.heap.size := by
          rw [hl] at hk
          simp only [KidsAt] at hk
          obtain ⟨⟨_, _, hc, _⟩, _⟩ := hk
          exact lt_of_cell hc.1
        rw [← hl]
        exact ⟨b, o, rfl, hT b hb hlt, KidsAt.same h hT kids b o 0 hb hk⟩
theorem KidsAt.same {S T : Nat → Prop} {w w' : World} (h : SameOn S w w') (hT : ∀ b, S b → b < w.heap.size → T b) : ∀ (l : List Tr) (b o i : Nat), S b → KidsAt w S l b o i → KidsAt w' T l b o i
  | [], _, _, _, _, _ => by simp only [KidsAt]
  | t :: ts, b, o, i, hb, hk => by
    simp only [KidsAt] at hk ⊢
    obtain ⟨⟨vk, vs, hc, ht⟩, hr⟩ := hk
    exact ⟨⟨vk, vs, hc.same h hb, TreeIn.same h hT t vk vs ht⟩, KidsAt.same h hT ts b o (i + 1) hb hr⟩
end

theorem TreeIn.keep {S : Nat → Prop} {w w' : World} {t : Tr} {vk vs : Value} (h : TreeIn w S t vk vs) (hb : Below w.heap.size w w') : TreeIn w' S t vk vs := TreeIn.same (SameOn.of_below hb) (fun _ h _ => h) t vk vs h
theorem KidsIn.same {S T : Nat → Prop} {w w' : World} (h : SameOn S w w') (hT : ∀ b, S b → b < w.heap.size → T b) {v : Value} {l : List Tr} (hk : KidsIn w S v l) : KidsIn w' T v l := by
  have := TreeIn.same h hT (.mk 0 false 0 ByteArray.empty [] l) (.slice none 0 0) v (by simp only [TreeIn]; exact ⟨⟨none, 0, rfl, .inl rfl⟩, hk⟩)
  simp only [TreeIn] at this
  exact this.2
theorem KidsIn.keep {S : Nat → Prop} {w w' : World} {v : Value} {l : List Tr} (h : KidsIn w S v l) (hb : Below w.heap.size w w') : KidsIn w' S v l := h.same (SameOn.of_below hb) (fun _ h _ => h)
theorem StrsIn.keep {S : Nat → Prop} {w w' : World} {v : Value} {l : List ByteArray} (h : StrsIn w S v l) (hb : Below w.heap.size w w') : StrsIn w' S v l := h.same (SameOn.of_below hb) (fun _ h _ => h)
/-- The element of a slice of trees. -/
theorem KidsIn.at {S : Nat → Prop} {w : World} {a : Option Addr} {n cap : Nat} {l : List Tr} (h : KidsIn w S (.slice a n cap) l) {j : Nat} (hj : j < l.length) :
    ∃ b o vk vs, a = some ⟨b, o, none⟩ ∧ TrCells w b o j (kidAt l j) vk vs ∧ TreeIn w S (kidAt l j) vk vs := by
  obtain ⟨a', cap', e, h⟩ := h
  simp only [Value.slice.injEq] at e
  obtain ⟨rfl, _, _⟩ := e
  rcases h with h | ⟨b, o, rfl, _, hk⟩
  · rw [h] at hj; simp at hj
  · obtain ⟨vk, vs, h1, h2⟩ := kids_get l b o 0 hk j hj
    rw [Nat.zero_add] at h1
    exact ⟨b, o, vk, vs, rfl, h1, h2⟩
theorem KidsIn.len {S : Nat → Prop} {w : World} {v : Value} {l : List Tr} (h : KidsIn w S v l) : ∃ a cap, v = .slice a l.length cap := by
  obtain ⟨a, cap, e, _⟩ := h; exact ⟨a, cap, e⟩
theorem StrsIn.at {S : Nat → Prop} {w : World} {a : Option Addr} {n cap : Nat} {l : List ByteArray} (h : StrsIn w S (.slice a n cap) l) {j : Nat} (hj : j < l.length) :
    ∃ b o, a = some ⟨b, o, none⟩ ∧ ∀ i, i < l.length → w.cell? ⟨b, o + i, none⟩ = some (.string (strAt l i)) := by
  obtain ⟨a', cap', e, h⟩ := h
  simp only [Value.slice.injEq] at e
  obtain ⟨rfl, _, _⟩ := e
  rcases h with h | ⟨b, o, rfl, _, hk⟩
  · rw [h] at hj; simp at hj
  · exact ⟨b, o, rfl, hk⟩
theorem StrsIn.len {S : Nat → Prop} {w : World} {v : Value} {l : List ByteArray} (h : StrsIn w S v l) : ∃ a cap, v = .slice a l.length cap := by
  obtain ⟨a, cap, e, _⟩ := h; exact ⟨a, cap, e⟩

/-! ### Sizes -/
mutual
/-- How many nodes. -/
def Tr.nodes : Tr → Nat | .mk _ _ _ _ _ kids => 1 + nodesL kids
def nodesL : List Tr → Nat | [] => 0 | t :: ts => t.nodes + nodesL ts
end
mutual
def Tr.depth : Tr → Nat | .mk _ _ _ _ _ kids => depthL kids + 1
def depthL : List Tr → Nat | [] => 0 | t :: ts => max t.depth (depthL ts)
end
mutual
def Tr.leaves : Tr → Nat | .mk k _ _ _ _ kids => if kids.isEmpty then (if k == 5 || k == 6 then 0 else 1) else leavesL kids
def leavesL : List Tr → Nat | [] => 0 | t :: ts => t.leaves + leavesL ts
end
def strWt (l : List ByteArray) : Nat := l.length + (l.map ByteArray.size).sum
mutual
/-- What szTree takes away. -/
def Tr.wt : Tr → Nat | .mk _ _ _ s keys kids => s.size + strWt keys + (kids.length + wtL kids)
def wtL : List Tr → Nat | [] => 0 | t :: ts => t.wt + wtL ts
end
theorem nodes_pos (t : Tr) : 1 ≤ t.nodes := by cases t; simp only [Tr.nodes]; omega
mutual
theorem nodes_wt : ∀ t : Tr, t.nodes ≤ 1 + t.wt
  | .mk _ _ _ s keys kids => by have := nodesL_wt kids; simp only [Tr.nodes, Tr.wt]; omega
theorem nodesL_wt : ∀ l : List Tr, nodesL l ≤ l.length + wtL l
  | [] => by simp [nodesL]
  | t :: ts => by have := nodes_wt t; have := nodesL_wt ts; simp only [nodesL, wtL, List.length_cons]; omega
end
mutual
theorem depth_nodes : ∀ t : Tr, t.depth ≤ t.nodes
  | .mk _ _ _ _ _ kids => by have := depthL_nodes kids; simp only [Tr.nodes, Tr.depth]; omega
theorem depthL_nodes : ∀ l : List Tr, depthL l ≤ nodesL l
  | [] => by simp [depthL]
  | t :: ts => by have := depth_nodes t; have := depthL_nodes ts; simp only [nodesL, depthL]; omega
end
mutual
theorem leaves_nodes : ∀ t : Tr, t.leaves ≤ t.nodes
  | .mk k _ _ _ _ kids => by
    have := leavesL_nodes kids
    simp only [Tr.nodes, Tr.leaves]
    split
    · split <;> omega
    · omega
theorem leavesL_nodes : ∀ l : List Tr, leavesL l ≤ nodesL l
  | [] => by simp [leavesL]
  | t :: ts => by have := leaves_nodes t; have := leavesL_nodes ts; simp only [nodesL, leavesL]; omega
end
theorem kidAt_mem {l : List Tr} {i : Nat} (h : i < l.length) : kidAt l i = l[i] := by
  unfold kidAt; rw [List.getD_eq_getElem?_getD, List.getElem?_eq_getElem h]; rfl
theorem sum_take (f : Tr → Nat) (g : List Tr → Nat) (h0 : g [] = 0) (hc : ∀ t ts, g (t :: ts) = f t + g ts) : ∀ (l : List Tr) (k : Nat), k < l.length → g (l.take (k + 1)) = g (l.take k) + f (kidAt l k)
  | [], k, h => by simp at h
  | t :: ts, 0, _ => by simp [hc, h0, kidAt]
  | t :: ts, k + 1, h => by
    have := sum_take f g h0 hc ts k (by simpa using h)
    simp only [List.take_succ_cons, hc] at this ⊢
    have e : kidAt (t :: ts) (k + 1) = kidAt ts k := rfl
    rw [this, e]; omega
theorem le_sum (f : Tr → Nat) (g : List Tr → Nat) (hc : ∀ t ts, g (t :: ts) = f t + g ts) : ∀ (l : List Tr) (k : Nat), k < l.length → f (kidAt l k) ≤ g l
  | [], k, h => by simp at h
  | t :: ts, 0, _ => by rw [hc]; exact Nat.le_add_right _ _
  | t :: ts, k + 1, h => by
    have := le_sum f g hc ts k (by simpa using h)
    rw [hc]; exact Nat.le_trans this (Nat.le_add_left _ _)
theorem take_le_sum (f : Tr → Nat) (g : List Tr → Nat) (h0 : g [] = 0) (hc : ∀ t ts, g (t :: ts) = f t + g ts) : ∀ (l : List Tr) (k : Nat), g (l.take k) ≤ g l
  | [], k => by simp
  | t :: ts, 0 => by simp [h0]
  | t :: ts, k + 1 => by
    have := take_le_sum f g h0 hc ts k
    simp only [List.take_succ_cons, hc]; omega

end Go.Proofs.YtbjialckijphiaaDoor
