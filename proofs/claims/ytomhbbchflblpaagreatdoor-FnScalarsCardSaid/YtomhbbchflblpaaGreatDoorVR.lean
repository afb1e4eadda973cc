/- MarkB, MarkC, MarkD, merged. -/
import Derived.Test.YtomhbbchflblpaaGreatDoorMarkA
import Derived.Test.YtomhbbchflblpaaGreatDoorTreeT
namespace Go.Proofs.YtomhbbchflblpaaGreatDoor
open Go.RowKit

mutual
/-- How many marks a tree takes below its top. -/
def Tr.cnt : Tr → Nat | .mk _ _ _ _ keys kids => keys.length + cntL kids
def cntL : List Tr → Nat | [] => 0 | t :: ts => 4 + t.cnt + cntL ts
end
def topped (k : Nat) : Tr → Tr | .mk _ _ _ _ keys kids => .mk (k : Nat) (decide ((k + 1) % 3 = 0)) ((k + 2 : Nat) : Int) (mtext (k + 3)) keys kids
mutual
def markTr : Nat → Tr → Tr | k, .mk kd f n s keys kids => .mk kd f n s (markStrs k keys.length) (markKids (k + keys.length) kids)
def markKids : Nat → List Tr → List Tr | _, [] => [] | k, t :: ts => topped k (markTr (k + 4) t) :: markKids (k + 4 + t.cnt) ts
end
theorem kind_mk (k : Int) (f : Bool) (n : Int) (s : ByteArray) (l : List ByteArray) (m : List Tr) : (Tr.mk k f n s l m).kind = k := rfl
theorem flag_mk (k : Int) (f : Bool) (n : Int) (s : ByteArray) (l : List ByteArray) (m : List Tr) : (Tr.mk k f n s l m).flag = f := rfl
theorem num_mk (k : Int) (f : Bool) (n : Int) (s : ByteArray) (l : List ByteArray) (m : List Tr) : (Tr.mk k f n s l m).num = n := rfl
theorem text_mk (k : Int) (f : Bool) (n : Int) (s : ByteArray) (l : List ByteArray) (m : List Tr) : (Tr.mk k f n s l m).text = s := rfl
theorem keys_mk (k : Int) (f : Bool) (n : Int) (s : ByteArray) (l : List ByteArray) (m : List Tr) : (Tr.mk k f n s l m).keys = l := rfl
theorem kids_mk (k : Int) (f : Bool) (n : Int) (s : ByteArray) (l : List ByteArray) (m : List Tr) : (Tr.mk k f n s l m).kids = m := rfl
theorem cnt_eq (t : Tr) : t.cnt = t.keys.length + cntL t.kids := by cases t; simp only [Tr.cnt, Tr.keys, Tr.kids]
theorem markTr_eq (k : Nat) (t : Tr) : markTr k t = .mk t.kind t.flag t.num t.text (markStrs k t.keys.length) (markKids (k + t.keys.length) t.kids) := by
  cases t; simp only [markTr, Tr.kind, Tr.flag, Tr.num, Tr.text, Tr.keys, Tr.kids]
theorem topped_markTr (k : Nat) (t : Tr) : topped k (markTr (k + 4) t) = .mk (k : Nat) (decide ((k + 1) % 3 = 0)) ((k + 2 : Nat) : Int) (mtext (k + 3)) (markStrs (k + 4) t.keys.length) (markKids (k + 4 + t.keys.length) t.kids) := by
  rw [markTr_eq]; rfl
theorem markKids_len : ∀ (k : Nat) (l : List Tr), (markKids k l).length = l.length
  | _, [] => by simp only [markKids]
  | k, t :: ts => by simp only [markKids, List.length_cons, markKids_len _ ts]
theorem cntL_take (l : List Tr) (k : Nat) (h : k < l.length) : cntL (l.take (k + 1)) = cntL (l.take k) + (4 + (kidAt l k).cnt) :=
  sum_take (fun t => 4 + t.cnt) cntL rfl (fun _ _ => rfl) l k h
theorem cntL_le (l : List Tr) (k : Nat) : cntL (l.take k) ≤ cntL l := take_le_sum (fun t => 4 + t.cnt) cntL rfl (fun _ _ => rfl) l k
theorem markKids_at : ∀ (l : List Tr) (k j : Nat), j < l.length → kidAt (markKids k l) j = topped (k + cntL (l.take j)) (markTr (k + cntL (l.take j) + 4) (kidAt l j))
  | [], _, _, h => by simp at h
  | t :: ts, k, 0, _ => by simp only [markKids, List.take_zero, cntL, Nat.add_zero, kidAt, List.getD_cons_zero]
  | t :: ts, k, j + 1, h => by
    have := markKids_at ts (k + 4 + t.cnt) j (by simpa using h)
    simp only [markKids, List.take_succ_cons, cntL]
    rw [show k + (4 + t.cnt + cntL (ts.take j)) = k + 4 + t.cnt + cntL (ts.take j) by omega]
    exact this
theorem kidAt_app (l m : List Tr) (j : Nat) (h : l.length = j) : kidAt (l ++ m) j = kidAt m 0 := by
  subst h; simp only [kidAt, List.getD_eq_getElem?_getD]; rw [List.getElem?_append_right (Nat.le_refl _), Nat.sub_self]
theorem kidAt_drop (l : List Tr) (j : Nat) : kidAt (l.drop j) 0 = kidAt l j := by simp [kidAt, List.getD_eq_getElem?_getD]
/-- The first j marked, the others as they were. -/
def partMarked (k j : Nat) (l : List Tr) : List Tr := markKids k (l.take j) ++ l.drop j
theorem partMarked_len (k j : Nat) (l : List Tr) (h : j ≤ l.length) : (partMarked k j l).length = l.length := by simp [partMarked, markKids_len]; omega
theorem partMarked_at (k j : Nat) (l : List Tr) (h : j < l.length) : kidAt (partMarked k j l) j = kidAt l j := by
  unfold partMarked
  rw [kidAt_app _ _ _ (by rw [markKids_len, List.length_take]; omega), kidAt_drop]
theorem partMarked_zero (k : Nat) (l : List Tr) : partMarked k 0 l = l := by simp [partMarked, markKids]
theorem partMarked_end (k : Nat) (l : List Tr) : partMarked k l.length l = markKids k l := by simp [partMarked]
theorem markKids_snoc : ∀ (l : List Tr) (k : Nat) (t : Tr), markKids k (l ++ [t]) = markKids k l ++ [topped (k + cntL l) (markTr (k + cntL l + 4) t)]
  | [], k, t => by simp only [List.nil_append, markKids, cntL, Nat.add_zero]
  | x :: xs, k, t => by
    simp only [List.cons_append, markKids, cntL, markKids_snoc xs]
    rw [show k + 4 + x.cnt + cntL xs = k + (4 + x.cnt + cntL xs) by omega]
theorem partMarked_succ (k j : Nat) (l : List Tr) (h : j < l.length) :
    (partMarked k j l).set j (topped (k + cntL (l.take j)) (markTr (k + cntL (l.take j) + 4) (kidAt l j))) = partMarked k (j + 1) l := by
  unfold partMarked
  rw [kids_take_succ l j h, markKids_snoc]
  have hlen : (markKids k (l.take j)).length = j := by rw [markKids_len, List.length_take]; omega
  rw [List.set_append_right _ _ (by omega), hlen, Nat.sub_self, List.append_assoc, List.drop_eq_getElem_cons h]
  rfl

/-- The six values of element i of a row. -/
def Cells6 (F : Nat → Value) (i : Nat) (t : Tr) (vk vs : Value) : Prop :=
  F (i * 6) = .int .i64 t.kind ∧ F (i * 6 + 1) = .bool t.flag ∧ F (i * 6 + 2) = .int .i64 t.num ∧ F (i * 6 + 3) = .string t.text ∧ F (i * 6 + 4) = vk ∧ F (i * 6 + 5) = vs
theorem KidsRow.turn {w w' : World} {F F' : Nat → Value} : ∀ (l : List Tr) (i : Nat) (ff : List Nat), KidsRow w F l i ff → (∀ b, b ∈ ff → b < w.heap.size → w'.heap[b]? = w.heap[b]?) → (∀ m, i * 6 ≤ m → F' m = F m) → KidsRow w' F' l i ff
  | [], _, ff, h, _, _ => by simp only [KidsRow] at h ⊢; exact h
  | t :: ts, i, ff, h, hs, hF => by
    simp only [KidsRow] at h ⊢
    obtain ⟨vk, vs, f1, f2, rfl, ⟨c0, c1, c2, c3, c4, c5⟩, h1, h2⟩ := h
    exact ⟨vk, vs, f1, f2, rfl, ⟨by rw [hF _ (by omega), c0], by rw [hF _ (by omega), c1], by rw [hF _ (by omega), c2], by rw [hF _ (by omega), c3], by rw [hF _ (by omega), c4], by rw [hF _ (by omega), c5]⟩,
      TreeOwn.same t vk vs f1 h1 fun b hb => hs b (by simp [hb]), KidsRow.turn ts (i + 1) f2 h2 (fun b hb => hs b (by simp [hb])) fun m hm => hF m (by omega)⟩
/-- One element of an owned list of trees, and how the list is put together again when this element has turned. -/
theorem KidsRow.split {w : World} {F : Nat → Value} : ∀ (l : List Tr) (i : Nat) (ff : List Nat) (j : Nat), j < l.length → KidsRow w F l i ff →
    ∃ f1 fj f3 vk vs, ff = f1 ++ (fj ++ f3) ∧ Cells6 F (i + j) (kidAt l j) vk vs ∧ TreeOwn w (kidAt l j) vk vs fj ∧
      ∀ (w' : World) (F' : Nat → Value) (t' : Tr), (∀ b, b ∈ f1 ++ f3 → b < w.heap.size → w'.heap[b]? = w.heap[b]?) → (∀ m, m / 6 ≠ i + j → F' m = F m) → Cells6 F' (i + j) t' vk vs → TreeOwn w' t' vk vs fj → KidsRow w' F' (l.set j t') i ff
  | [], _, _, j, h, _ => by simp at h
  | t :: ts, i, ff, 0, _, h => by
    simp only [KidsRow] at h
    obtain ⟨vk, vs, f1, f2, rfl, hc, h1, h2⟩ := h
    refine ⟨[], f1, f2, vk, vs, by simp, hc, h1, fun w' F' t' hs hF hc' ht' => ?_⟩
    simp only [List.set_cons_zero, KidsRow]
    exact ⟨vk, vs, f1, f2, rfl, hc', ht', KidsRow.turn ts (i + 1) f2 h2 (fun b hb => hs b (by simp [hb])) fun m hm => hF m (by omega)⟩
  | t :: ts, i, ff, j + 1, hj, h => by
    simp only [KidsRow] at h
    obtain ⟨vk, vs, g1, g2, rfl, ⟨c0, c1, c2, c3, c4, c5⟩, h1, h2⟩ := h
    obtain ⟨f1, fj, f3, vk', vs', rfl, hc', ht', hall⟩ := KidsRow.split ts (i + 1) g2 j (by simpa using hj) h2
    rw [show i + 1 + j = i + (j + 1) by omega] at hc' hall
    refine ⟨g1 ++ f1, fj, f3, vk', vs', by simp, hc', ht', fun w' F' t' hs hF hc'' ht'' => ?_⟩
    simp only [List.set_cons_succ, KidsRow]
    have e : ∀ m, m / 6 = i → F' m = F m := fun m hm => hF m (by omega)
    exact ⟨vk, vs, g1, f1 ++ (fj ++ f3), rfl, ⟨by rw [e _ (by omega), c0], by rw [e _ (by omega), c1], by rw [e _ (by omega), c2], by rw [e _ (by omega), c3], by rw [e _ (by omega), c4], by rw [e _ (by omega), c5]⟩,
      TreeOwn.same t vk vs g1 h1 fun b hb => hs b (by simp [hb]), hall w' F' t' (fun b hb => hs b (by simp at hb ⊢; rcases hb with hb | hb <;> simp [hb])) hF hc'' ht''⟩

end Go.Proofs.YtomhbbchflblpaaGreatDoor
namespace Go.Proofs.YtomhbbchflblpaaGreatDoor
open Go.RowKit

def put4 (F : Nat → Value) (i : Nat) (v0 v1 v2 v3 : Value) : Nat → Value := fun j =>
  if j = i + 3 then v3 else if j = i + 2 then v2 else if j = i + 1 then v1 else if j = i then v0 else F j
theorem put4_new (F : Nat → Value) (i : Nat) (v0 v1 v2 v3 : Value) :
    put4 F i v0 v1 v2 v3 i = v0 ∧ put4 F i v0 v1 v2 v3 (i + 1) = v1 ∧ put4 F i v0 v1 v2 v3 (i + 2) = v2 ∧ put4 F i v0 v1 v2 v3 (i + 3) = v3 := by
  unfold put4
  refine ⟨?_, ?_, ?_, ?_⟩
  · rw [if_neg (by omega), if_neg (by omega), if_neg (by omega), if_pos rfl]
  · rw [if_neg (by omega), if_neg (by omega), if_pos rfl]
  · rw [if_neg (by omega), if_pos rfl]
  · rw [if_pos rfl]
theorem put4_old (F : Nat → Value) (i : Nat) (v0 v1 v2 v3 : Value) (m : Nat) (h : m < i ∨ i + 3 < m) : put4 F i v0 v1 v2 v3 m = F m := by
  unfold put4
  rw [if_neg (by omega), if_neg (by omega), if_neg (by omega), if_neg (by omega)]
theorem len_cnt : ∀ l : List Tr, l.length ≤ cntL l
  | [] => by simp [cntL]
  | t :: ts => by have := len_cnt ts; simp only [cntL, List.length_cons]; omega

end Go.Proofs.YtomhbbchflblpaaGreatDoor
namespace Go.Proofs.YtomhbbchflblpaaGreatDoor
open Go.RowKit

end Go.Proofs.YtomhbbchflblpaaGreatDoor
