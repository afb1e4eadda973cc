/- PutP, DrnP, merged. -/
import Derived.Test.YtomhbbchflblpaaGreatDoorTreeG
import Derived.Test.YtomhbbchflblpaaGreatDoorVB
namespace Go.Proofs.YtomhbbchflblpaaGreatDoor
open Go.RowKit

def lsT (a b : ByteArray) : Bool := Op.bytesLess a.toList b.toList
theorem lsT_irr : ∀ x : List UInt8, Op.bytesLess x x = false
  | [] => rfl
  | a :: x => by simp [Op.bytesLess, lsT_irr x]
theorem lsT_tri : ∀ x y : List UInt8, Op.bytesLess x y = false → Op.bytesLess y x = false → x = y
  | [], [], _, _ => rfl
  | a :: x, [], _, h => by simp [Op.bytesLess] at h
  | [], b :: y, h, _ => by simp [Op.bytesLess] at h
  | a :: x, b :: y, h, k => by
    simp only [Op.bytesLess, Bool.or_eq_false_iff, decide_eq_false_iff_not, Bool.and_eq_false_iff, beq_eq_false_iff_ne] at h k
    have hab : a = b := UInt8.le_antisymm (UInt8.not_lt.1 k.1) (UInt8.not_lt.1 h.1)
    subst hab
    rw [lsT_tri x y (h.2.resolve_left (by simp)) (k.2.resolve_left (by simp))]
theorem lsT_trans : ∀ x y z : List UInt8, Op.bytesLess x y = true → Op.bytesLess y z = true → Op.bytesLess x z = true
  | [], [], _, h, _ => by simp [Op.bytesLess] at h
  | [], _ :: _, [], _, h => by simp [Op.bytesLess] at h
  | [], _ :: _, _ :: _, _, _ => by simp [Op.bytesLess]
  | _ :: _, [], _, h, _ => by simp [Op.bytesLess] at h
  | _ :: _, _ :: _, [], _, h => by simp [Op.bytesLess] at h
  | a :: x, b :: y, c :: z, h, k => by
    simp only [Op.bytesLess, Bool.or_eq_true, decide_eq_true_eq, Bool.and_eq_true, beq_iff_eq] at h k ⊢
    rcases h with h | ⟨rfl, h⟩
    · rcases k with k | ⟨rfl, k⟩
      · exact .inl (UInt8.lt_trans h k)
      · exact .inl h
    · rcases k with k | ⟨rfl, k⟩
      · exact .inl k
      · exact .inr ⟨rfl, lsT_trans x y z h k⟩
theorem lsT_asy {x y : List UInt8} (h : Op.bytesLess x y = true) : Op.bytesLess y x = false := by
  cases k : Op.bytesLess y x
  · rfl
  · have := lsT_trans x y x h k
    rw [lsT_irr] at this; cases this
theorem ba_inj {a b : ByteArray} (h : a.toList = b.toList) : a = b := by
  apply ByteArray.ext; apply Array.ext'
  rw [← ByteArray.toList_eq, ← ByteArray.toList_eq, h]
def SortedK (l : List ByteArray) : Prop := ∀ i j, i < j → j < l.length → lsT (strAt l i) (strAt l j) = true
theorem sorted_keys {l : List ByteArray} (h : keysOkB l = true) : SortedK l := by
  have h1 : ∀ j, j + 1 < l.length → lsT (strAt l j) (strAt l (j + 1)) = true := fun j hj => by
    rw [keysOkB, List.all_eq_true] at h
    have := h (j + 1) (List.mem_range.2 hj)
    simp only [keyOkAt, Bool.and_eq_true, Bool.not_eq_true', Bool.and_eq_false_iff, decide_eq_false_iff_not] at this
    have h2 := this.2.resolve_left (by omega)
    rw [Nat.add_sub_cancel, geT, Bool.not_eq_false'] at h2
    exact h2
  intro i j hij
  induction j with
  | zero => omega
  | succ j ih =>
    intro hj
    rcases Nat.eq_or_lt_of_le (Nat.le_of_lt_succ hij) with rfl | h3
    · exact h1 i hj
    · exact lsT_trans _ _ _ (ih h3 (by omega)) (h1 j hj)

/-! ### Where the key belongs -/
def posK (key : ByteArray) (l : List ByteArray) : Nat := (l.takeWhile fun k => lsT k key).length
theorem strAt_cons (x : ByteArray) (l : List ByteArray) (i : Nat) : strAt (x :: l) (i + 1) = strAt l i := by simp [strAt]
theorem pos_le (key : ByteArray) (l : List ByteArray) : posK key l ≤ l.length := (List.takeWhile_sublist _).length_le
theorem pos_low (key : ByteArray) : ∀ (l : List ByteArray) (i : Nat), i < posK key l → lsT (strAt l i) key = true
  | [], i, h => by simp [posK] at h
  | x :: l, i, h => by
    unfold posK at h
    rw [List.takeWhile_cons] at h
    by_cases hx : lsT x key = true
    · rw [if_pos hx] at h
      cases i with
      | zero => exact hx
      | succ i => rw [strAt_cons]; exact pos_low key l i (by simpa [posK] using h)
    · rw [if_neg hx] at h; simp at h
theorem pos_at (key : ByteArray) : ∀ (l : List ByteArray), posK key l < l.length → lsT (strAt l (posK key l)) key = false
  | [], h => by simp at h
  | x :: l, h => by
    unfold posK at h ⊢
    rw [List.takeWhile_cons] at h ⊢
    by_cases hx : lsT x key = true
    · rw [if_pos hx] at h ⊢
      rw [List.length_cons, strAt_cons]
      exact pos_at key l (by simpa [posK] using h)
    · rw [if_neg hx]
      show lsT x key = false
      exact Bool.eq_false_iff.2 hx
theorem pos_high {key : ByteArray} {l : List ByteArray} (hs : SortedK l) {i : Nat} (h : posK key l ≤ i) (hi : i < l.length) : lsT (strAt l i) key = false := by
  have h0 := pos_at key l (by omega)
  rcases Nat.eq_or_lt_of_le h with rfl | h2
  · exact h0
  · cases hc : lsT (strAt l i) key
    · rfl
    · have := lsT_trans _ _ _ (hs _ _ h2 hi) hc
      rw [lsT] at h0
      rw [h0] at this; cases this
def hitK (key : ByteArray) (l : List ByteArray) : Bool := decide (posK key l < l.length) && ((strAt l (posK key l)).toList == key.toList)
def hitN (key : ByteArray) (l : List ByteArray) : Nat := if hitK key l = true then 1 else 0
theorem hit_eq {key : ByteArray} {l : List ByteArray} (h : hitK key l = true) : posK key l < l.length ∧ strAt l (posK key l) = key := by
  simp only [hitK, Bool.and_eq_true, decide_eq_true_eq, beq_iff_eq] at h
  exact ⟨h.1, ba_inj h.2⟩
theorem hit_ne {key : ByteArray} {l : List ByteArray} (h : hitK key l = false) (hp : posK key l < l.length) : strAt l (posK key l) ≠ key := by
  intro e
  rw [hitK, e, decide_eq_true hp, beq_self_eq_true] at h; cases h
theorem low_ne {key : ByteArray} {l : List ByteArray} {i : Nat} (h : i < posK key l) : strAt l i ≠ key := by
  intro e
  have := pos_low key l i h
  rw [e, lsT, lsT_irr] at this; cases this
theorem high_ne {key : ByteArray} {l : List ByteArray} (hs : SortedK l) {i : Nat} (h : posK key l < i) (hi : i < l.length) : strAt l i ≠ key := by
  intro e
  have h0 := pos_at key l (by omega)
  have h1 := hs _ _ h hi
  rw [e] at h1
  rw [h1] at h0; cases h0
theorem hitN_le (key : ByteArray) (l : List ByteArray) : hitN key l ≤ 1 ∧ posK key l + hitN key l ≤ l.length := by
  unfold hitN
  have := pos_le key l
  split
  · rename_i h
    have := hit_eq h
    omega
  · omega

/-! ### The tree with the child put in -/
def putK (key : ByteArray) (l : List ByteArray) : List ByteArray := l.take (posK key l) ++ key :: l.drop (posK key l + hitN key l)
def putT (key : ByteArray) (l : List ByteArray) (kid : Tr) (kids : List Tr) : List Tr := kids.take (posK key l) ++ kid :: kids.drop (posK key l + hitN key l)
def noS : ByteArray := ⟨#[]⟩
def putO (t : Tr) (key : ByteArray) (kid : Tr) : Tr := .mk 6 false 0 noS (putK key t.keys) (putT key t.keys kid t.kids)
def putOk (t : Tr) (key : ByteArray) (kid : Tr) : Bool := t.kind == 6 && (treeOkB t && treeOkB (putO t key kid))
def putR (t : Tr) (key : ByteArray) (kid : Tr) : Tr := if putOk t key kid = true then putO t key kid else t

/-! ### The rounds of the reference -/
def stK (key : ByteArray) (l : List ByteArray) (i : Nat) : List ByteArray := if i ≤ posK key l then l.take i else l.take (posK key l) ++ key :: (l.take i).drop (posK key l + hitN key l)
def stT (key : ByteArray) (l : List ByteArray) (kid : Tr) (kids : List Tr) (i : Nat) : List Tr := if i ≤ posK key l then kids.take i else kids.take (posK key l) ++ kid :: (kids.take i).drop (posK key l + hitN key l)
theorem take_str (l : List ByteArray) (i : Nat) (h : i < l.length) : l.take (i + 1) = l.take i ++ [strAt l i] := by
  rw [List.take_succ_eq_append_getElem h, strAt, List.getD_eq_getElem?_getD, List.getElem?_eq_getElem h]; rfl
theorem take_kid (l : List Tr) (i : Nat) (h : i < l.length) : l.take (i + 1) = l.take i ++ [kidAt l i] := by
  rw [List.take_succ_eq_append_getElem h, kidAt_mem h]
theorem st_low {key : ByteArray} {l : List ByteArray} {kid : Tr} {kids : List Tr} {i : Nat} (h : i < posK key l) (hl : l.length = kids.length) : stK key l (i + 1) = stK key l i ++ [strAt l i] ∧ stT key l kid kids (i + 1) = stT key l kid kids i ++ [kidAt kids i] := by
  have := pos_le key l
  rw [stK, stK, stT, stT, if_pos (by omega), if_pos (by omega), if_pos (by omega), if_pos (by omega)]
  exact ⟨take_str l i (by omega), take_kid kids i (by omega)⟩
theorem st_hit {key : ByteArray} {l : List ByteArray} {kid : Tr} {kids : List Tr} (h : hitK key l = true) (hl : l.length = kids.length) : stK key l (posK key l + 1) = stK key l (posK key l) ++ [key] ∧ stT key l kid kids (posK key l + 1) = stT key l kid kids (posK key l) ++ [kid] := by
  have h1 := (hit_eq h).1
  have h2 : hitN key l = 1 := if_pos h
  rw [stK, stK, stT, stT, if_neg (by omega), if_pos (by omega), if_neg (by omega), if_pos (by omega), h2, List.drop_of_length_le (by simp; omega), List.drop_of_length_le (by simp; omega)]
  exact ⟨rfl, rfl⟩
theorem st_new {key : ByteArray} {l : List ByteArray} {kid : Tr} {kids : List Tr} (h : hitK key l = false) (hp : posK key l < l.length) (hl : l.length = kids.length) :
    stK key l (posK key l + 1) = (stK key l (posK key l) ++ [key]) ++ [strAt l (posK key l)] ∧ stT key l kid kids (posK key l + 1) = (stT key l kid kids (posK key l) ++ [kid]) ++ [kidAt kids (posK key l)] := by
  have h2 : hitN key l = 0 := if_neg (by simp [h])
  rw [stK, stK, stT, stT, if_neg (by omega), if_pos (by omega), if_neg (by omega), if_pos (by omega), h2, Nat.add_zero, take_str l _ hp, take_kid kids _ (by omega)]
  rw [List.drop_append_of_le_length (by simp; omega), List.drop_append_of_le_length (by simp; omega), List.drop_of_length_le (by simp; omega), List.drop_of_length_le (by simp; omega)]
  simp
theorem st_high {key : ByteArray} {l : List ByteArray} {kid : Tr} {kids : List Tr} {i : Nat} (h : posK key l < i) (hi : i < l.length) (hl : l.length = kids.length) : stK key l (i + 1) = stK key l i ++ [strAt l i] ∧ stT key l kid kids (i + 1) = stT key l kid kids i ++ [kidAt kids i] := by
  have h2 := (hitN_le key l).1
  rw [stK, stK, stT, stT, if_neg (by omega), if_neg (by omega), if_neg (by omega), if_neg (by omega), take_str l i hi, take_kid kids i (by omega)]
  rw [List.drop_append_of_le_length (by simp; omega), List.drop_append_of_le_length (by simp; omega)]
  simp
theorem st_end {key : ByteArray} {l : List ByteArray} {kid : Tr} {kids : List Tr} (hp : posK key l < l.length) (hl : l.length = kids.length) : stK key l l.length = putK key l ∧ stT key l kid kids l.length = putT key l kid kids := by
  rw [stK, stT, if_neg (by omega), if_neg (by omega), List.take_of_length_le (Nat.le_refl _), List.take_of_length_le (by omega : kids.length ≤ l.length)]
  exact ⟨rfl, rfl⟩
theorem st_last {key : ByteArray} {l : List ByteArray} {kid : Tr} {kids : List Tr} (hp : posK key l = l.length) (hl : l.length = kids.length) : stK key l l.length ++ [key] = putK key l ∧ stT key l kid kids l.length ++ [kid] = putT key l kid kids := by
  have h2 := (hitN_le key l).2
  rw [stK, stT, if_pos (by omega), if_pos (by omega), putK, putT, hp, List.drop_of_length_le (by omega), List.drop_of_length_le (by omega)]
  exact ⟨rfl, rfl⟩
theorem st_zero (key : ByteArray) (l : List ByteArray) (kid : Tr) (kids : List Tr) : stK key l 0 = [] ∧ stT key l kid kids 0 = [] := by
  rw [stK, stT, if_pos (Nat.zero_le _), if_pos (Nat.zero_le _)]; exact ⟨rfl, rfl⟩
theorem st_len {key : ByteArray} {l : List ByteArray} {kid : Tr} {kids : List Tr} {i : Nat} (hi : i ≤ l.length) (hl : l.length = kids.length) : (stK key l i).length ≤ i + 1 ∧ (stT key l kid kids i).length = (stK key l i).length := by
  have h2 := (hitN_le key l).2
  rw [stK, stT]
  split
  · simp; omega
  · simp; omega

end Go.Proofs.YtomhbbchflblpaaGreatDoor
namespace Go.Proofs.YtomhbbchflblpaaGreatDoor
open Go.RowKit

/-- A small node. -/
structure Sm (t : Tr) : Prop where
  shape : shapeB t = true
  nums : t.nums
  text : t.text.size ≤ 20
  keys : ∀ i, (strAt t.keys i).size ≤ 20
def Drn : Nat → Tr → Prop
  | 0, t => Sm t ∧ t.kids.length = 0
  | d + 1, t => Sm t ∧ t.kids.length ≤ 4 ∧ ∀ i, i < t.kids.length → Drn d (kidAt t.kids i)
theorem Drn.sm : ∀ {d : Nat} {t : Tr}, Drn d t → Sm t
  | 0, _, h => h.1
  | _ + 1, _, h => h.1
theorem Drn.succ : ∀ {d : Nat} {t : Tr}, Drn d t → Drn (d + 1) t
  | 0, t, h => ⟨h.1, by have := h.2; omega, fun i hi => by have := h.2; omega⟩
  | d + 1, t, h => ⟨h.1, h.2.1, fun i hi => (h.2.2 i hi).succ⟩
theorem Drn.leaf {t : Tr} (h : Sm t) (hk : t.kids.length = 0) : ∀ d : Nat, Drn d t
  | 0 => ⟨h, hk⟩
  | d + 1 => ⟨h, by omega, fun i hi => by omega⟩
theorem sumL (g : List Tr → Nat) (f : Tr → Nat) (h0 : g [] = 0) (hc : ∀ t ts, g (t :: ts) = f t + g ts) (B : Nat) : ∀ l : List Tr, (∀ i, i < l.length → f (kidAt l i) ≤ B) → g l ≤ B * l.length
  | [], _ => by rw [h0]; exact Nat.zero_le _
  | t :: ts, h => by
    have a := h 0 (by simp)
    have b := sumL g f h0 hc B ts (fun i hi => h (i + 1) (by simpa using hi))
    rw [hc, List.length_cons, Nat.mul_succ]
    have e : kidAt (t :: ts) 0 = t := rfl
    rw [e] at a
    omega
theorem maxL (B : Nat) : ∀ l : List Tr, (∀ i, i < l.length → (kidAt l i).depth ≤ B) → depthL l ≤ B
  | [], _ => Nat.zero_le _
  | t :: ts, h => by
    have a := h 0 (by simp)
    have b := maxL B ts (fun i hi => h (i + 1) (by simpa using hi))
    have e : kidAt (t :: ts) 0 = t := rfl
    rw [e] at a
    rw [depthL]; omega
def nodesD : Nat → Nat | 0 => 1 | d + 1 => 1 + 4 * nodesD d
theorem drn_nodes : ∀ (d : Nat) (t : Tr), Drn d t → t.nodes ≤ nodesD d
  | 0, t, h => by
    have := sumL nodesL Tr.nodes rfl (fun _ _ => rfl) 0 t.kids (fun i hi => by have := h.2; omega)
    have := nodes_eq t
    rw [nodesD]; omega
  | d + 1, t, h => by
    have a := sumL nodesL Tr.nodes rfl (fun _ _ => rfl) (nodesD d) t.kids (fun i hi => drn_nodes d _ (h.2.2 i hi))
    have b := Nat.mul_le_mul_left (nodesD d) h.2.1
    have := nodes_eq t
    rw [nodesD]; omega
theorem drn_depth : ∀ (d : Nat) (t : Tr), Drn d t → t.depth ≤ d + 1
  | 0, t, h => by
    have a := maxL 0 t.kids (fun i hi => by have := h.2; omega)
    cases t; simp only [Tr.depth, Tr.kids] at a ⊢; omega
  | d + 1, t, h => by
    have a := maxL (d + 1) t.kids (fun i hi => drn_depth d _ (h.2.2 i hi))
    cases t; simp only [Tr.depth, Tr.kids] at a ⊢; omega
theorem drn_ok {t : Tr} (h : Drn 3 t) : treeOkB t = true ∧ t.nodes ≤ 85 := by
  have a := drn_nodes 3 t h
  have b := drn_depth 3 t h
  have e : nodesD 3 = 85 := by decide
  rw [treeOkB, decide_eq_true (by omega), decide_eq_true (by omega), h.sm.shape]
  exact ⟨rfl, by omega⟩
theorem strWt_le {l : List ByteArray} {B n : Nat} (h : ∀ i, (strAt l i).size ≤ B) (hn : l.length ≤ n) : strWt l ≤ (B + 1) * n := by
  have key : ∀ l : List ByteArray, (∀ i, (strAt l i).size ≤ B) → (l.map ByteArray.size).sum ≤ B * l.length := by
    intro l
    induction l with
    | nil => intro _; exact Nat.zero_le _
    | cons x l ih =>
      intro h
      have a := h 0
      have b := ih (fun i => h (i + 1))
      have e : strAt (x :: l) 0 = x := rfl
      rw [e] at a
      rw [List.map_cons, List.sum_cons, List.length_cons, Nat.mul_succ]; omega
  have a := key l h
  have b := Nat.mul_le_mul_left B hn
  unfold strWt
  rw [Nat.add_mul]; omega
theorem sm_keys {t : Tr} (h : Sm t) : t.keys.length ≤ t.kids.length := by
  obtain ⟨-, -, -, h4, -, h6⟩ := head_kind (shape_parts h.shape).1
  by_cases e : t.kind = 6
  · rw [h4 e]; exact Nat.le_refl _
  · rw [h6 e]; exact Nat.zero_le _
def wtD : Nat → Nat | 0 => 20 | d + 1 => 108 + 4 * wtD d
theorem drn_wt : ∀ (d : Nat) (t : Tr), Drn d t → t.wt ≤ wtD d
  | 0, t, h => by
    have a := sumL wtL Tr.wt rfl (fun _ _ => rfl) 0 t.kids (fun i hi => by have := h.2; omega)
    have b := strWt_le h.1.keys (show t.keys.length ≤ 0 by have := sm_keys h.1; have := h.2; omega)
    have c := h.1.text
    have := wt_eq t
    have := h.2
    rw [wtD]; omega
  | d + 1, t, h => by
    have a := sumL wtL Tr.wt rfl (fun _ _ => rfl) (wtD d) t.kids (fun i hi => drn_wt d _ (h.2.2 i hi))
    have b := strWt_le h.1.keys (show t.keys.length ≤ 4 by have := sm_keys h.1; have := h.2.1; omega)
    have c := h.1.text
    have e := Nat.mul_le_mul_left (wtD d) h.2.1
    have := wt_eq t
    have := h.2.1
    rw [wtD]; omega
theorem drn_wt3 {t : Tr} (h : Drn 3 t) : t.wt ≤ 20000 := by
  have := drn_wt 3 t h
  have e : wtD 3 = 3548 := by decide
  omega

/-! ### What a round of drawing a map leaves -/
theorem kidAt_take (l : List Tr) (n i : Nat) (h : i < n) : kidAt (l.take n) i = kidAt l i := by
  simp only [kidAt, List.getD_eq_getElem?_getD, List.getElem?_take_of_lt h]
theorem kidAt_put {l : List Tr} {kid : Tr} {p q : Nat} (Q : Tr → Prop) (hl : ∀ i, i < l.length → Q (kidAt l i)) (hk : Q kid) : ∀ i, i < (l.take p ++ kid :: l.drop q).length → Q (kidAt (l.take p ++ kid :: l.drop q) i) := by
  intro i hi
  have hmem : kidAt (l.take p ++ kid :: l.drop q) i ∈ l.take p ++ kid :: l.drop q := by rw [kidAt_mem hi]; exact List.getElem_mem hi
  simp only [List.mem_append, List.mem_cons] at hmem
  have hall : ∀ x ∈ l, Q x := fun x hx => by
    obtain ⟨j, hj, rfl⟩ := List.getElem_of_mem hx
    have := hl j hj
    rwa [kidAt_mem hj] at this
  rcases hmem with h | h | h
  · exact hall _ (List.mem_of_mem_take h)
  · rw [h]; exact hk
  · exact hall _ (List.mem_of_mem_drop h)
theorem strAt_put {l : List ByteArray} {key : ByteArray} {p q B : Nat} (hl : ∀ i, (strAt l i).size ≤ B) (hk : key.size ≤ B) : ∀ i, (strAt (l.take p ++ key :: l.drop q) i).size ≤ B := by
  intro i
  have hall : ∀ x ∈ l, x.size ≤ B := fun x hx => by
    obtain ⟨j, hj, rfl⟩ := List.getElem_of_mem hx
    have := hl j
    rwa [strAt, List.getD_eq_getElem?_getD, List.getElem?_eq_getElem hj] at this
  rcases Nat.lt_or_ge i (l.take p ++ key :: l.drop q).length with h | h
  · have hmem : strAt (l.take p ++ key :: l.drop q) i ∈ l.take p ++ key :: l.drop q := by rw [strAt, List.getD_eq_getElem?_getD, List.getElem?_eq_getElem h]; exact List.getElem_mem h
    simp only [List.mem_append, List.mem_cons] at hmem
    rcases hmem with h | h | h
    · exact hall _ (List.mem_of_mem_take h)
    · rw [h]; exact hk
    · exact hall _ (List.mem_of_mem_drop h)
  · rw [strAt, List.getD_eq_getElem?_getD, List.getElem?_eq_none h]; exact Nat.zero_le _
def emptyMap : Tr := .mk 6 false 0 noS [] []
/-- As far as round i of drawing a map at depth d + 1. -/
structure MapD (d i : Nat) (t : Tr) : Prop where
  kind : t.kind = 6
  sm : Sm t
  few : t.kids.length ≤ i
  kids : ∀ j, j < t.kids.length → Drn d (kidAt t.kids j)
theorem mapD_start (d : Nat) : MapD d 0 emptyMap := by
  refine ⟨rfl, ⟨by decide +kernel, ?_, by decide +kernel, fun i => ?_⟩, Nat.le_refl _, fun j hj => by simp [emptyMap, Tr.kids] at hj⟩
  · rw [nums_iff]; exact ⟨by decide, by simp [emptyMap, Tr.kids, numsL]⟩
  · simp [emptyMap, Tr.keys, strAt]
theorem mapD_put {d i : Nat} {t kid : Tr} {key : ByteArray} (h : MapD d i t) (hk : Drn d kid) (hs : key.size ≤ 20) : MapD d (i + 1) (putR t key kid) := by
  unfold putR
  cases ho : putOk t key kid
  · rw [if_neg (by simp)]
    exact ⟨h.kind, h.sm, by have := h.few; omega, h.kids⟩
  · rw [if_pos rfl]
    simp only [putOk, Bool.and_eq_true, treeOkB] at ho
    have hl : t.keys.length = t.kids.length := (head_kind (shape_parts h.sm.shape).1).2.2.2.1 h.kind
    have hp := hitN_le key t.keys
    have hkids := kidAt_put (kid := kid) (p := posK key t.keys) (q := posK key t.keys + hitN key t.keys) (Drn d) h.kids hk
    refine ⟨rfl, ⟨ho.2.2.2.2, ?_, Nat.zero_le _, strAt_put h.sm.keys hs⟩, ?_, hkids⟩
    · rw [nums_iff]
      refine ⟨show (Lit.int .i64 0).wf = true by decide, ?_⟩
      exact numsL_of _ fun i hi => (hkids i hi).sm.nums
    · have := h.few
      show (putT key t.keys kid t.kids).length ≤ i + 1
      rw [putT, List.length_append, List.length_cons, List.length_take, List.length_drop]; omega
theorem mapD_end {d i : Nat} {t : Tr} (h : MapD d i t) (hi : i ≤ 4) : Drn (d + 1) t := ⟨h.sm, by have := h.few; omega, h.kids⟩

end Go.Proofs.YtomhbbchflblpaaGreatDoor
