/- Trees that a call has made: each slice a row of its own, with the list of the blocks. No program. -/
import Derived.Test.YtbjialckijphiaaDoorTreeA
namespace Go.Proofs.YtbjialckijphiaaDoor
open Go.RowKit

def StrOwn (w : World) (v : Value) (l : List ByteArray) (fp : List Nat) : Prop :=
  (l = [] ∧ fp = [] ∧ ∃ a c, v = .slice a 0 c ∧ a = none ∧ c = 0) ∨
  ∃ g cap e N F, v = .slice (some ⟨g, 0, none⟩) l.length cap ∧ fp = [g] ∧ w.rowIs g e N F ∧ (l.length ≤ N ∧ N = cap ∧ e = 9 ∧ cap ≤ maxLen) ∧ ∀ i, i < l.length → F i = .string (strAt l i)

mutual
def TreeOwn (w : World) : Tr → Value → Value → List Nat → Prop
  | .mk _ _ _ _ keys kids, vk, vs, fp => ∃ fk fs, fp = fk ++ fs ∧ StrOwn w vk keys fk ∧
      ((kids = [] ∧ fs = [] ∧ ∃ a c, vs = .slice a 0 c) ∨ ∃ g cap e N F ff, vs = .slice (some ⟨g, 0, none⟩) kids.length cap ∧ fs = g :: ff ∧ w.rowIs g e N F ∧ kids.length * 6 ≤ N ∧ KidsRow w F kids 0 ff)
def KidsRow (w : World) (F : Nat → Value) : List Tr → Nat → List Nat → Prop
  | [], _, ff => ff = []
  | t :: ts, i, ff => ∃ vk vs f1 f2, ff = f1 ++ f2 ∧ (F (i * 6) = .int .i64 t.kind ∧ F (i * 6 + 1) = .bool t.flag ∧ F (i * 6 + 2) = .int .i64 t.num ∧ F (i * 6 + 3) = .string t.text ∧ F (i * 6 + 4) = vk ∧ F (i * 6 + 5) = vs) ∧
      TreeOwn w t vk vs f1 ∧ KidsRow w F ts (i + 1) f2
end
/-- A slice of trees that a call has made. -/
def KidsOwn (w : World) (v : Value) (l : List Tr) (fs : List Nat) : Prop :=
  (l = [] ∧ fs = [] ∧ ∃ a c, v = .slice a 0 c) ∨ ∃ g cap e N F ff, v = .slice (some ⟨g, 0, none⟩) l.length cap ∧ fs = g :: ff ∧ w.rowIs g e N F ∧ l.length * 6 ≤ N ∧ KidsRow w F l 0 ff
theorem treeOwn_iff {w : World} {t : Tr} {vk vs : Value} {fp : List Nat} : TreeOwn w t vk vs fp ↔ ∃ fk fs, fp = fk ++ fs ∧ StrOwn w vk t.keys fk ∧ KidsOwn w vs t.kids fs := by
  cases t; simp only [TreeOwn, Tr.keys, Tr.kids, KidsOwn]

theorem StrOwn.same {w w' : World} {v : Value} {l : List ByteArray} {fp : List Nat} (h : StrOwn w v l fp) (hs : ∀ b, b ∈ fp → b < w.heap.size → w'.heap[b]? = w.heap[b]?) : StrOwn w' v l fp := by
  rcases h with h | ⟨g, cap, e, N, F, h1, rfl, h3, h4⟩
  · exact .inl h
  · exact .inr ⟨g, cap, e, N, F, h1, rfl, h3.of_block (hs g (by simp) h3.lt), h4⟩
mutual
theorem TreeOwn.same {w w' : World} : ∀ (t : Tr) (vk vs : Value) (fp : List Nat), TreeOwn w t vk vs fp → (∀ b, b ∈ fp → b < w.heap.size → w'.heap[b]? = w.heap[b]?) → TreeOwn w' t vk vs fp
  | .mk _ _ _ _ keys kids, vk, vs, fp, h, hs => by
    simp only [TreeOwn] at h ⊢
    obtain ⟨fk, fs, rfl, h1, h2⟩ := h
    refine ⟨fk, fs, rfl, h1.same fun b hb => hs b (by simp [hb]), ?_⟩
    rcases h2 with h2 | ⟨g, cap, e, N, F, ff, h2, rfl, h3, h4, h5⟩
    · exact .inl h2
    · exact .inr ⟨g, cap, e, N, F, ff, h2, rfl, h3.of_block (hs g (by simp) h3.lt), h4, KidsRow.same F kids 0 ff h5 fun b hb => hs b (by simp [hb])⟩
theorem KidsRow.same {w w' : World} (F : Nat → Value) : ∀ (l : List Tr) (i : Nat) (ff : List Nat), KidsRow w F l i ff → (∀ b, b ∈ ff → b < w.heap.size → w'.heap[b]? = w.heap[b]?) → KidsRow w' F l i ff
  | [], _, ff, h, _ => by simp only [KidsRow] at h ⊢; exact h
  | t :: ts, i, ff, h, hs => by
    simp only [KidsRow] at h ⊢
    obtain ⟨vk, vs, f1, f2, rfl, hc, h1, h2⟩ := h
    exact ⟨vk, vs, f1, f2, rfl, hc, TreeOwn.same t vk vs f1 h1 fun b hb => hs b (by simp [hb]), KidsRow.same F ts (i + 1) f2 h2 fun b hb => hs b (by simp [hb])⟩
end
theorem StrOwn.lt {w : World} {v : Value} {l : List ByteArray} {fp : List Nat} (h : StrOwn w v l fp) : ∀ b, b ∈ fp → b < w.heap.size := by
  rcases h with ⟨_, rfl, _⟩ | ⟨g, cap, e, N, F, h1, rfl, h3, h4⟩
  · intro b hb; simp at hb
  · intro b hb; simp at hb; subst hb; exact h3.lt
mutual
theorem TreeOwn.lt {w : World} : ∀ (t : Tr) (vk vs : Value) (fp : List Nat), TreeOwn w t vk vs fp → ∀ b, b ∈ fp → b < w.heap.size
  | .mk _ _ _ _ keys kids, vk, vs, fp, h => by
    simp only [TreeOwn] at h
    obtain ⟨fk, fs, rfl, h1, h2⟩ := h
    intro b hb
    rw [List.mem_append] at hb
    rcases hb with hb | hb
    · exact h1.lt b hb
    rcases h2 with ⟨_, rfl, _⟩ | ⟨g, cap, e, N, F, ff, h2, rfl, h3, h4, h5⟩
    · simp at hb
    · rw [List.mem_cons] at hb
      rcases hb with rfl | hb
      · exact h3.lt
      · exact KidsRow.lt F kids 0 ff h5 b hb
theorem KidsRow.lt {w : World} (F : Nat → Value) : ∀ (l : List Tr) (i : Nat) (ff : List Nat), KidsRow w F l i ff → ∀ b, b ∈ ff → b < w.heap.size
  | [], _, ff, h => by simp only [KidsRow] at h; subst h; intro b hb; simp at hb
  | t :: ts, i, ff, h => by
    simp only [KidsRow] at h
    obtain ⟨vk, vs, f1, f2, rfl, hc, h1, h2⟩ := h
    intro b hb
    rw [List.mem_append] at hb
    rcases hb with hb | hb
    · exact TreeOwn.lt t vk vs f1 h1 b hb
    · exact KidsRow.lt F ts (i + 1) f2 h2 b hb
end
theorem StrOwn.toIn {w : World} {S : Nat → Prop} {v : Value} {l : List ByteArray} {fp : List Nat} (h : StrOwn w v l fp) (hS : ∀ b, b ∈ fp → S b) : StrsIn w S v l := by
  rcases h with ⟨rfl, _, a, c, rfl, _⟩ | ⟨g, cap, e, N, F, rfl, rfl, h3, h4, h5⟩
  · exact ⟨a, c, rfl, .inl rfl⟩
  · exact ⟨_, cap, rfl, .inr ⟨g, 0, rfl, hS g (by simp), fun i hi => by rw [Nat.zero_add, h3.cell (by omega), h5 i hi]⟩⟩
mutual
theorem TreeOwn.toIn {w : World} {S : Nat → Prop} : ∀ (t : Tr) (vk vs : Value) (fp : List Nat), TreeOwn w t vk vs fp → (∀ b, b ∈ fp → S b) → TreeIn w S t vk vs
  | .mk _ _ _ _ keys kids, vk, vs, fp, h, hS => by
    simp only [TreeOwn] at h
    simp only [TreeIn]
    obtain ⟨fk, fs, rfl, h1, h2⟩ := h
    refine ⟨h1.toIn fun b hb => hS b (by simp [hb]), ?_⟩
    rcases h2 with ⟨rfl, _, a, c, rfl⟩ | ⟨g, cap, e, N, F, ff, rfl, rfl, h3, h4, h5⟩
    · exact ⟨a, c, rfl, .inl rfl⟩
    · exact ⟨_, cap, rfl, .inr ⟨g, 0, rfl, hS g (by simp), KidsRow.toIn F h3 kids 0 ff (by simpa using h4) h5 fun b hb => hS b (by simp [hb])⟩⟩
theorem KidsRow.toIn {w : World} {S : Nat → Prop} (F : Nat → Value) {g e N : Nat} (hr : w.rowIs g e N F) : ∀ (l : List Tr) (i : Nat) (ff : List Nat), (i + l.length) * 6 ≤ N → KidsRow w F l i ff → (∀ b, b ∈ ff → S b) → KidsAt w S l g 0 i
  | [], _, _, _, _, _ => by simp only [KidsAt]
  | t :: ts, i, ff, hN, h, hS => by
    simp only [KidsRow] at h
    simp only [KidsAt]
    simp only [List.length_cons] at hN
    obtain ⟨vk, vs, f1, f2, rfl, ⟨c0, c1, c2, c3, c4, c5⟩, h1, h2⟩ := h
    refine ⟨⟨vk, vs, ?_, TreeOwn.toIn t vk vs f1 h1 fun b hb => hS b (by simp [hb])⟩, KidsRow.toIn F hr ts (i + 1) f2 (by omega) h2 fun b hb => hS b (by simp [hb])⟩
    unfold TrCells
    rw [Nat.zero_add]
    exact ⟨by rw [hr.cell (by omega), c0], by rw [hr.cell (by omega), c1], by rw [hr.cell (by omega), c2], by rw [hr.cell (by omega), c3], by rw [hr.cell (by omega), c4], by rw [hr.cell (by omega), c5]⟩
end
theorem KidsOwn.toIn {w : World} {S : Nat → Prop} {v : Value} {l : List Tr} {fp : List Nat} (h : KidsOwn w v l fp) (hS : ∀ b, b ∈ fp → S b) : KidsIn w S v l := by
  have := TreeOwn.toIn (S := S) (.mk 0 false 0 ByteArray.empty [] l) (.slice none 0 0) v fp (by simp only [TreeOwn]; exact ⟨[], fp, rfl, .inl ⟨rfl, rfl, none, 0, rfl, rfl, rfl⟩, h⟩) hS
  simp only [TreeIn] at this
  exact this.2
theorem KidsOwn.same {w w' : World} {v : Value} {l : List Tr} {fp : List Nat} (h : KidsOwn w v l fp) (hs : ∀ b, b ∈ fp → b < w.heap.size → w'.heap[b]? = w.heap[b]?) : KidsOwn w' v l fp := by
  rcases h with h | ⟨g, cap, e, N, F, ff, h2, rfl, h3, h4, h5⟩
  · exact .inl h
  · exact .inr ⟨g, cap, e, N, F, ff, h2, rfl, h3.of_block (hs g (by simp) h3.lt), h4, KidsRow.same F l 0 ff h5 fun b hb => hs b (by simp [hb])⟩
theorem KidsOwn.keep {w w' : World} {v : Value} {l : List Tr} {fp : List Nat} (h : KidsOwn w v l fp) (hb : Below w.heap.size w w') : KidsOwn w' v l fp := h.same fun b _ hl => hb.block b hl
theorem StrOwn.keep {w w' : World} {v : Value} {l : List ByteArray} {fp : List Nat} (h : StrOwn w v l fp) (hb : Below w.heap.size w w') : StrOwn w' v l fp := h.same fun b _ hl => hb.block b hl
theorem TreeOwn.keep {w w' : World} {t : Tr} {vk vs : Value} {fp : List Nat} (h : TreeOwn w t vk vs fp) (hb : Below w.heap.size w w') : TreeOwn w' t vk vs fp := TreeOwn.same t vk vs fp h fun b _ hl => hb.block b hl

theorem KidsRow.snoc {w : World} (F : Nat → Value) (t : Tr) (vk vs : Value) (f1 : List Nat) : ∀ (l : List Tr) (i : Nat) (ff : List Nat), KidsRow w F l i ff →
    (F ((i + l.length) * 6) = .int .i64 t.kind ∧ F ((i + l.length) * 6 + 1) = .bool t.flag ∧ F ((i + l.length) * 6 + 2) = .int .i64 t.num ∧ F ((i + l.length) * 6 + 3) = .string t.text ∧ F ((i + l.length) * 6 + 4) = vk ∧ F ((i + l.length) * 6 + 5) = vs) →
    TreeOwn w t vk vs f1 → KidsRow w F (l ++ [t]) i (ff ++ f1)
  | [], i, ff, h, hc, ht => by
    simp only [KidsRow] at h; subst h
    simp only [List.nil_append, KidsRow, List.length_nil, Nat.add_zero] at hc ⊢
    exact ⟨vk, vs, f1, [], by simp, hc, ht, rfl⟩
  | x :: xs, i, ff, h, hc, ht => by
    simp only [KidsRow] at h
    simp only [List.cons_append, KidsRow]
    obtain ⟨vk', vs', g1, g2, rfl, hc', h1, h2⟩ := h
    refine ⟨vk', vs', g1, g2 ++ f1, by simp, hc', h1, KidsRow.snoc F t vk vs f1 xs (i + 1) g2 h2 ?_ ht⟩
    simp only [List.length_cons] at hc
    rw [show i + 1 + xs.length = i + (xs.length + 1) by omega]; exact hc
theorem KidsRow.congr {w : World} (F G : Nat → Value) : ∀ (l : List Tr) (i : Nat) (ff : List Nat), KidsRow w F l i ff → (∀ j, j < (i + l.length) * 6 → F j = G j) → KidsRow w G l i ff
  | [], _, ff, h, _ => by simp only [KidsRow] at h ⊢; exact h
  | t :: ts, i, ff, h, he => by
    simp only [KidsRow] at h ⊢
    simp only [List.length_cons] at he
    obtain ⟨vk, vs, f1, f2, rfl, ⟨c0, c1, c2, c3, c4, c5⟩, h1, h2⟩ := h
    refine ⟨vk, vs, f1, f2, rfl, ⟨by rw [← he _ (by omega), c0], by rw [← he _ (by omega), c1], by rw [← he _ (by omega), c2], by rw [← he _ (by omega), c3], by rw [← he _ (by omega), c4], by rw [← he _ (by omega), c5]⟩, h1, ?_⟩
    exact KidsRow.congr F G ts (i + 1) f2 h2 fun j hj => he j (by omega)
theorem kids_take_succ (l : List Tr) (k : Nat) (h : k < l.length) : l.take (k + 1) = l.take k ++ [kidAt l k] := by
  rw [List.take_succ_eq_append_getElem h, kidAt_mem h]

/-- Six stores into one row. -/
def put6 (F : Nat → Value) (i : Nat) (v0 v1 v2 v3 v4 v5 : Value) : Nat → Value := fun j =>
  if j = i + 5 then v5 else if j = i + 4 then v4 else if j = i + 3 then v3 else if j = i + 2 then v2 else if j = i + 1 then v1 else if j = i then v0 else F j
theorem rowIs_set6 {w : World} {g e N : Nat} {F : Nat → Value} (h : w.rowIs g e N F) (i : Nat) (v0 v1 v2 v3 v4 v5 : Value) :
    ((((((w.setCell ⟨g, i, none⟩ v0).setCell ⟨g, i + 1, none⟩ v1).setCell ⟨g, i + 2, none⟩ v2).setCell ⟨g, i + 3, none⟩ v3).setCell ⟨g, i + 4, none⟩ v4).setCell ⟨g, i + 5, none⟩ v5).rowIs g e N (put6 F i v0 v1 v2 v3 v4 v5) :=
  (((((h.set i v0).set (i + 1) v1).set (i + 2) v2).set (i + 3) v3).set (i + 4) v4).set (i + 5) v5
theorem put6_old (F : Nat → Value) (i : Nat) (v0 v1 v2 v3 v4 v5 : Value) (j : Nat) (h : j < i) : F j = put6 F i v0 v1 v2 v3 v4 v5 j := by
  unfold put6
  rw [if_neg (by omega), if_neg (by omega), if_neg (by omega), if_neg (by omega), if_neg (by omega), if_neg (by omega)]
theorem put6_new (F : Nat → Value) (i : Nat) (v0 v1 v2 v3 v4 v5 : Value) :
    put6 F i v0 v1 v2 v3 v4 v5 i = v0 ∧ put6 F i v0 v1 v2 v3 v4 v5 (i + 1) = v1 ∧ put6 F i v0 v1 v2 v3 v4 v5 (i + 2) = v2 ∧ put6 F i v0 v1 v2 v3 v4 v5 (i + 3) = v3 ∧ put6 F i v0 v1 v2 v3 v4 v5 (i + 4) = v4 ∧ put6 F i v0 v1 v2 v3 v4 v5 (i + 5) = v5 := by
  unfold put6
  refine ⟨?_, ?_, ?_, ?_, ?_, ?_⟩
  · rw [if_neg (by omega), if_neg (by omega), if_neg (by omega), if_neg (by omega), if_neg (by omega), if_pos rfl]
  · rw [if_neg (by omega), if_neg (by omega), if_neg (by omega), if_neg (by omega), if_pos rfl]
  · rw [if_neg (by omega), if_neg (by omega), if_neg (by omega), if_pos rfl]
  · rw [if_neg (by omega), if_neg (by omega), if_pos rfl]
  · rw [if_neg (by omega), if_pos rfl]
  · rw [if_pos rfl]

end Go.Proofs.YtbjialckijphiaaDoor
