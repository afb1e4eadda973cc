/- SortLabels, as data: insertion into a sorted list; rounds of both texts. No program. -/
import Derived.Test.YtomhbbchflblpaaDoorLabOk
namespace Go.Proofs.YtomhbbchflblpaaDoor
open Go.RowKit

theorem bl_irr : ∀ x : List UInt8, Op.bytesLess x x = false
  | [] => rfl
  | a :: x => by simp [Op.bytesLess, bl_irr x]
theorem bl_trans : ∀ x y z : List UInt8, Op.bytesLess x y = true → Op.bytesLess y z = true → Op.bytesLess x z = true
  | [], [], _, h, _ => by simp [Op.bytesLess] at h
  | [], _ :: _, [], _, h => by simp [Op.bytesLess] at h
  | [], _ :: _, _ :: _, _, _ => by simp [Op.bytesLess]
  | _ :: _, [], _, h, _ => by simp [Op.bytesLess] at h
  | _ :: _, _ :: _, [], _, h => by simp [Op.bytesLess] at h
  | a :: x, b :: y, c :: z, h, k => by
    simp only [Op.bytesLess, Bool.or_eq_true, decide_eq_true_eq, Bool.and_eq_true, beq_iff_eq] at h k ⊢
    rcases h with h | ⟨rfl, h⟩
    · rcases k with k | ⟨rfl, k⟩
      · exact .inl (UInt8.lt_trans h k)
      · exact .inl h
    · rcases k with k | ⟨rfl, k⟩
      · exact .inl k
      · exact .inr ⟨rfl, bl_trans x y z h k⟩
theorem bl_tri : ∀ x y : List UInt8, Op.bytesLess x y = false → Op.bytesLess y x = false → x = y
  | [], [], _, _ => rfl
  | a :: x, [], _, h => by simp [Op.bytesLess] at h
  | [], b :: y, h, _ => by simp [Op.bytesLess] at h
  | a :: x, b :: y, h, k => by
    simp only [Op.bytesLess, Bool.or_eq_false_iff, decide_eq_false_iff_not, Bool.and_eq_false_iff, beq_eq_false_iff_ne] at h k
    have hab : a = b := UInt8.le_antisymm (UInt8.not_lt.1 k.1) (UInt8.not_lt.1 h.1)
    subst hab
    rw [bl_tri x y (h.2.resolve_left (by simp)) (k.2.resolve_left (by simp))]
/-- 'not below' is transitive. -/
theorem bl_ge {x y z : List UInt8} (h : Op.bytesLess y x = false) (k : Op.bytesLess z y = false) : Op.bytesLess z x = false := by
  cases e : Op.bytesLess z x
  · rfl
  cases f : Op.bytesLess x y
  · have := bl_tri x y f h
    subst this; rw [k] at e; cases e
  · have := bl_trans z x y e f
    rw [k] at this; cases this

abbrev Lb := ByteArray × ByteArray
def labN (L : List Lb) (i : Nat) : Lb := L.getD i (ByteArray.empty, ByteArray.empty)
def ltL (x y : Lb) : Bool := Op.bytesLess x.1.toList y.1.toList
theorem ge_trans {x y z : Lb} (h : ltL y x = false) (k : ltL z y = false) : ltL z x = false := bl_ge h k
theorem labN_cons (x : Lb) (l : List Lb) (i : Nat) : labN (x :: l) (i + 1) = labN l i := by simp [labN]
theorem labN_zero (x : Lb) (l : List Lb) : labN (x :: l) 0 = x := rfl
theorem labN_get {l : List Lb} {i : Nat} (h : i < l.length) : labN l i = l[i] := by rw [labN, List.getD_eq_getElem?_getD, List.getElem?_eq_getElem h]; rfl
theorem labN_mem {l : List Lb} {i : Nat} (h : i < l.length) : labN l i ∈ l := by rw [labN_get h]; exact List.getElem_mem h
theorem labN_left {a b : List Lb} {i : Nat} (h : i < a.length) : labN (a ++ b) i = labN a i := by simp only [labN, List.getD_eq_getElem?_getD, List.getElem?_append_left h]
theorem labN_right {a b : List Lb} {i : Nat} (h : a.length ≤ i) : labN (a ++ b) i = labN b (i - a.length) := by simp only [labN, List.getD_eq_getElem?_getD, List.getElem?_append_right h]
theorem labN_take {l : List Lb} {n i : Nat} (h : i < n) : labN (l.take n) i = labN l i := by simp only [labN, List.getD_eq_getElem?_getD, List.getElem?_take_of_lt h]
theorem labN_drop {l : List Lb} {n i : Nat} : labN (l.drop n) i = labN l (n + i) := by simp only [labN, List.getD_eq_getElem?_getD, List.getElem?_drop]

/-! ### Where a label belongs -/
def posL (x : Lb) (l : List Lb) : Nat := (l.takeWhile fun y => !ltL x y).length
theorem posL_le (x : Lb) (l : List Lb) : posL x l ≤ l.length := (List.takeWhile_sublist _).length_le
theorem posL_eq (x : Lb) : ∀ (l : List Lb) (k : Nat), k ≤ l.length → (∀ i, i < k → ltL x (labN l i) = false) → (k = l.length ∨ ltL x (labN l k) = true) → posL x l = k
  | [], k, h, _, _ => by simp at h; subst h; rfl
  | y :: l, 0, _, _, h => by
    have h1 : ltL x y = true := by rcases h with h | h; (· simp at h); exact h
    simp [posL, h1]
  | y :: l, k + 1, h, hl, hk => by
    have h0 := hl 0 (by omega)
    rw [labN_zero] at h0
    have ih := posL_eq x l k (by simpa using h) (fun i hi => by have := hl (i + 1) (by omega); rwa [labN_cons] at this) (by rw [labN_cons] at hk; simpa using hk)
    rw [posL, List.takeWhile_cons, if_pos (by simp [h0]), List.length_cons]
    rw [posL] at ih; omega
theorem posL_low (x : Lb) : ∀ (l : List Lb) (i : Nat), i < posL x l → ltL x (labN l i) = false
  | [], i, h => by simp [posL] at h
  | y :: l, i, h => by
    rw [posL, List.takeWhile_cons] at h
    by_cases hy : ltL x y = true
    · rw [if_neg (by simp [hy])] at h; simp at h
    · rw [if_pos (by simp [hy])] at h
      cases i with
      | zero => exact Bool.eq_false_iff.2 hy
      | succ i => rw [labN_cons]; exact posL_low x l i (by simpa [posL] using h)
theorem posL_at (x : Lb) : ∀ (l : List Lb), posL x l < l.length → ltL x (labN l (posL x l)) = true
  | [], h => by simp at h
  | y :: l, h => by
    unfold posL at h ⊢
    rw [List.takeWhile_cons] at h ⊢
    by_cases hy : ltL x y = true
    · rw [if_neg (by simp [hy])]; exact hy
    · rw [if_pos (by simp [hy])] at h ⊢
      rw [List.length_cons, labN_cons]
      exact posL_at x l (by simpa [posL] using h)
def insL (x : Lb) (l : List Lb) : List Lb := l.take (posL x l) ++ x :: l.drop (posL x l)
theorem insL_len (x : Lb) (l : List Lb) : (insL x l).length = l.length + 1 := by
  have := posL_le x l
  simp [insL]; omega
def SortedL (l : List Lb) : Prop := ∀ i j, i < j → j < l.length → ltL (labN l j) (labN l i) = false
theorem insL_at (x : Lb) (l : List Lb) (i : Nat) : labN (insL x l) i = if i < posL x l then labN l i else if i = posL x l then x else labN l (i - 1) := by
  have hp := posL_le x l
  have ht : (l.take (posL x l)).length = posL x l := by simp; omega
  unfold insL
  by_cases h1 : i < posL x l
  · rw [if_pos h1, labN_left (by omega), labN_take h1]
  rw [if_neg h1, labN_right (by omega), ht]
  by_cases h2 : i = posL x l
  · rw [if_pos h2, h2, Nat.sub_self, labN_zero]
  · rw [if_neg h2]
    obtain ⟨r, rfl⟩ : ∃ r, i = posL x l + (r + 1) := ⟨i - posL x l - 1, by omega⟩
    rw [show posL x l + (r + 1) - posL x l = r + 1 by omega, labN_cons, labN_drop, show posL x l + (r + 1) - 1 = posL x l + r by omega]
theorem ins_sorted {x : Lb} {l : List Lb} (hs : SortedL l) : SortedL (insL x l) := by
  intro i j hij hj
  rw [insL_len] at hj
  have hp := posL_le x l
  have hge : ∀ m, posL x l ≤ m → m < l.length → ltL (labN l m) x = false := fun m h1 h2 => by
    have h0 := posL_at x l (by omega)
    have h3 : ltL (labN l (posL x l)) x = false := by
      cases e : ltL (labN l (posL x l)) x
      · rfl
      · have := bl_trans _ _ _ e h0; rw [bl_irr] at this; cases this
    rcases Nat.eq_or_lt_of_le h1 with h4 | h4
    · rw [← h4]; exact h3
    · exact ge_trans h3 (hs _ _ h4 h2)
  rw [insL_at, insL_at]
  by_cases a1 : j < posL x l
  · rw [if_pos a1, if_pos (by omega)]; exact hs i j hij (by omega)
  rw [if_neg a1]
  by_cases a2 : j = posL x l
  · rw [if_pos a2, if_pos (by omega)]
    exact posL_low x l i (by omega)
  rw [if_neg a2]
  by_cases b1 : i < posL x l
  · rw [if_pos b1]
    exact hs i (j - 1) (by omega) (by omega)
  rw [if_neg b1]
  by_cases b2 : i = posL x l
  · rw [if_pos b2]; exact hge (j - 1) (by omega) (by omega)
  · rw [if_neg b2]; exact hs (i - 1) (j - 1) (by omega) (by omega)
def sortN (L : List Lb) : Nat → List Lb
  | 0 => []
  | k + 1 => insL (labN L k) (sortN L k)
theorem sortN_len (L : List Lb) : ∀ k, (sortN L k).length = k
  | 0 => rfl
  | k + 1 => by rw [sortN, insL_len, sortN_len L k]
theorem sortN_sorted (L : List Lb) : ∀ k, SortedL (sortN L k)
  | 0 => fun i j _ h => by simp [sortN] at h
  | k + 1 => ins_sorted (sortN_sorted L k)
theorem insL_mem {x y : Lb} {l : List Lb} (h : y ∈ insL x l) : y = x ∨ y ∈ l := by
  simp only [insL, List.mem_append, List.mem_cons] at h
  rcases h with h | h | h
  · exact .inr (List.mem_of_mem_take h)
  · exact .inl h
  · exact .inr (List.mem_of_mem_drop h)
theorem sortN_mem {L : List Lb} {y : Lb} : ∀ k, k ≤ L.length → y ∈ sortN L k → y ∈ L
  | 0, _, h => by simp [sortN] at h
  | k + 1, hk, h => by
    rcases insL_mem h with rfl | h
    · exact labN_mem (by omega)
    · exact sortN_mem k (by omega) h

/-! ### Exchanges in a row -/
def swL (C : List Lb) (a b : Nat) : List Lb := (C.set a (labN C b)).set b (labN C a)
theorem swL_len (C : List Lb) (a b : Nat) : (swL C a b).length = C.length := by simp [swL]
theorem swL_at {C : List Lb} {a b i : Nat} (ha : a < C.length) (hb : b < C.length) : labN (swL C a b) i = if i = b then labN C a else if i = a then labN C b else labN C i := by
  unfold swL
  simp only [labN, List.getD_eq_getElem?_getD, List.getElem?_set]
  by_cases h1 : i = b
  · subst h1; simp [hb]
  · rw [if_neg (fun e => h1 e.symm), if_neg h1]
    by_cases h2 : i = a
    · subst h2; simp [ha]
    · rw [if_neg (fun e => h2 e.symm), if_neg h2]
theorem swL_mem {C : List Lb} {a b : Nat} {y : Lb} (ha : a < C.length) (hb : b < C.length) (h : y ∈ swL C a b) : y ∈ C := by
  obtain ⟨i, hi, rfl⟩ := List.getElem_of_mem h
  rw [swL_len] at hi
  rw [← labN_get (by rw [swL_len]; exact hi), swL_at ha hb]
  split
  · exact labN_mem ha
  split
  · exact labN_mem hb
  · exact labN_mem hi
theorem list_ext {a b : List Lb} (hl : a.length = b.length) (h : ∀ i, i < a.length → labN a i = labN b i) : a = b := by
  apply List.ext_getElem hl
  intro i h1 h2
  rw [← labN_get h1, ← labN_get h2]; exact h i h1
/-- The row while label i of L moves down to place j. -/
def midL (L : List Lb) (i j : Nat) : List Lb := (sortN L i).take j ++ labN L i :: ((sortN L i).drop j ++ L.drop (i + 1))
theorem midL_len {L : List Lb} {i j : Nat} (hi : i < L.length) (hj : j ≤ i) : (midL L i j).length = L.length := by
  have := sortN_len L i
  simp [midL]; omega
theorem midL_at {L : List Lb} {i j : Nat} (hj : j ≤ i) (m : Nat) : labN (midL L i j) m = if m < j then labN (sortN L i) m else if m = j then labN L i else if m ≤ i then labN (sortN L i) (m - 1) else labN L m := by
  have hs := sortN_len L i
  have ht : ((sortN L i).take j).length = j := by simp; omega
  have hd : ((sortN L i).drop j).length = i - j := by simp; omega
  unfold midL
  by_cases h1 : m < j
  · rw [if_pos h1, labN_left (by omega), labN_take h1]
  rw [if_neg h1, labN_right (by omega), ht]
  by_cases h2 : m = j
  · rw [if_pos h2, h2, Nat.sub_self, labN_zero]
  rw [if_neg h2]
  obtain ⟨r, rfl⟩ : ∃ r, m = j + (r + 1) := ⟨m - j - 1, by omega⟩
  rw [show j + (r + 1) - j = r + 1 by omega, labN_cons]
  by_cases h3 : j + (r + 1) ≤ i
  · rw [if_pos h3, labN_left (by omega), labN_drop, show j + (r + 1) - 1 = j + r by omega]
  · rw [if_neg h3, labN_right (by omega), hd, labN_drop]; congr 1; omega
theorem midL_start {L : List Lb} {i : Nat} (hi : i < L.length) : midL L i i = sortN L i ++ L.drop i := by
  have hs := sortN_len L i
  rw [midL, List.take_of_length_le (by omega), List.drop_of_length_le (by omega), List.nil_append, List.drop_eq_getElem_cons hi, labN_get hi]
theorem midL_swap {L : List Lb} {i j : Nat} (hi : i < L.length) (hj : j + 1 ≤ i) : swL (midL L i (j + 1)) (j + 1) j = midL L i j := by
  have h1 := midL_len hi hj
  have h2 := midL_len hi (Nat.le_of_succ_le hj)
  refine list_ext (by rw [swL_len, h1, h2]) fun m hm => ?_
  rw [swL_len, h1] at hm
  rw [swL_at (by omega) (by omega), midL_at hj, midL_at hj, midL_at hj, midL_at (Nat.le_of_succ_le hj)]
  by_cases a1 : m = j
  · subst a1
    rw [if_pos rfl, if_neg (by omega), if_pos rfl, if_neg (by omega), if_pos rfl]
  rw [if_neg a1]
  by_cases a2 : m = j + 1
  · subst a2
    rw [if_pos rfl, if_pos (by omega), if_neg (by omega), if_neg (by omega), if_pos (by omega)]; congr 1
  rw [if_neg a2]
  by_cases a3 : m < j
  · rw [if_pos (by omega), if_pos a3]
  · rw [if_neg (by omega), if_neg a2, if_neg a3, if_neg a1]
theorem midL_stop {L : List Lb} {i j : Nat} (hj : j ≤ i) (hup : ∀ m, j ≤ m → m < i → ltL (labN L i) (labN (sortN L i) m) = true) (hlow : j = 0 ∨ ltL (labN L i) (labN (sortN L i) (j - 1)) = false) : midL L i j = sortN L (i + 1) ++ L.drop (i + 1) := by
  have hs := sortN_len L i
  have hp : posL (labN L i) (sortN L i) = j := by
    refine posL_eq _ _ j (by omega) (fun m hm => ?_) ?_
    · rcases hlow with h | h
      · omega
      · rcases Nat.eq_or_lt_of_le (show m ≤ j - 1 by omega) with e | e
        · rw [e]; exact h
        · exact ge_trans (sortN_sorted L i m (j - 1) e (by omega)) h
    · rcases Nat.eq_or_lt_of_le hj with e | e
      · left; omega
      · right; exact hup j (Nat.le_refl _) e
  rw [sortN, insL, hp, midL, List.append_assoc, List.cons_append]
theorem sortN_full {L : List Lb} : sortN L L.length ++ L.drop L.length = sortN L L.length := by simp
theorem sortN_one {L : List Lb} (h : 0 < L.length) : sortN L 1 ++ L.drop 1 = L := by
  cases L with
  | nil => simp at h
  | cons x L => simp [sortN, insL, posL, labN]
/-- What SortLabels returns. -/
def sortOk (L : List Lb) : Bool := decide (L.length ≤ 6) && labsOkB (sortN L L.length)
def sortR (L : List Lb) : List Lb := if sortOk L = true then sortN L L.length else L

end Go.Proofs.YtomhbbchflblpaaDoor
