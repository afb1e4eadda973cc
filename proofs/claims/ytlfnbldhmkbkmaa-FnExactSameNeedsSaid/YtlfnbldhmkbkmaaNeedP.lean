/- Needs: the data, their order, how they lie in memory. No program. -/
import Derived.Test.YtlfnbldhmkbkmaaStrS
import Derived.Lib.Bytealg
import Derived.Lib.Small
namespace Go.Proofs.Ytlfnbldhmkbkmaa
open Go.RowKit

structure Nd where
  key : ByteArray
  op : Int
  vals : List ByteArray
def noNeed : Nd := ⟨ByteArray.empty, 0, []⟩
def needAt (l : List Nd) (i : Nat) : Nd := l.getD i noNeed

/-! ### The order of strings -/
def ltB (a b : ByteArray) : Bool := Op.bytesLess a.toList b.toList
def cmpB (a b : ByteArray) : Int := if ltB a b = true then -1 else if ltB b a = true then 1 else 0
theorem less_irr : ∀ x : List UInt8, Op.bytesLess x x = false
  | [] => rfl
  | a :: x => by simp [Op.bytesLess, less_irr x]
theorem less_asy : ∀ x y : List UInt8, Op.bytesLess x y = true → Op.bytesLess y x = false
  | _, [], h => by simp [Op.bytesLess] at h
  | [], b :: y, _ => by simp [Op.bytesLess]
  | a :: x, b :: y, h => by
    simp only [Op.bytesLess, Bool.or_eq_true, decide_eq_true_eq, Bool.and_eq_true, beq_iff_eq] at h
    simp only [Op.bytesLess, Bool.or_eq_false_iff, decide_eq_false_iff_not, Bool.and_eq_false_iff, beq_eq_false_iff_ne]
    rcases h with h | ⟨rfl, h⟩
    · have h1 : ¬ b < a := by rw [UInt8.lt_iff_toNat_lt] at h ⊢; omega
      have h2 : b ≠ a := fun e => by rw [e, UInt8.lt_iff_toNat_lt] at h; omega
      exact ⟨h1, .inl h2⟩
    · have h1 : ¬ a < a := by rw [UInt8.lt_iff_toNat_lt]; omega
      exact ⟨h1, .inr (less_asy x y h)⟩
theorem less_tri : ∀ x y : List UInt8, Op.bytesLess x y = false → Op.bytesLess y x = false → x = y
  | [], [], _, _ => rfl
  | a :: x, [], _, h => by simp [Op.bytesLess] at h
  | [], b :: y, h, _ => by simp [Op.bytesLess] at h
  | a :: x, b :: y, h, k => by
    simp only [Op.bytesLess, Bool.or_eq_false_iff, decide_eq_false_iff_not, Bool.and_eq_false_iff, beq_eq_false_iff_ne] at h k
    have e : a = b := UInt8.toNat_inj.1 (by have := h.1; have := k.1; rw [UInt8.lt_iff_toNat_lt] at *; omega)
    subst e
    rw [less_tri x y (h.2.resolve_left (fun g => g rfl)) (k.2.resolve_left (fun g => g rfl))]
theorem cmpBytes_eq : ∀ x y : List UInt8, Lib.compareBytes x y = if Op.bytesLess x y = true then -1 else if Op.bytesLess y x = true then 1 else 0
  | [], [] => rfl
  | [], _ :: _ => rfl
  | _ :: _, [] => rfl
  | a :: x, b :: y => by
    have ih := cmpBytes_eq x y
    simp only [Lib.compareBytes, Op.bytesLess, Bool.or_eq_true, decide_eq_true_eq, Bool.and_eq_true, beq_iff_eq]
    by_cases h1 : a < b
    · simp [h1]
    · by_cases h2 : b < a
      · have h3 : a ≠ b := fun e => by rw [e, UInt8.lt_iff_toNat_lt] at h2; omega
        have h4 : b ≠ a := fun e => h3 e.symm
        simp [h1, h2, h3]
      · have e : a = b := UInt8.toNat_inj.1 (by rw [UInt8.lt_iff_toNat_lt] at h1 h2; omega)
        subst e
        simp only [h1, if_false, false_or, true_and, ih]
theorem cmpB_bytes (a b : ByteArray) : Lib.compareBytes a.data.toList b.data.toList = cmpB a b := by
  rw [cmpBytes_eq, ← ByteArray.toList_eq, ← ByteArray.toList_eq]; rfl
theorem ltB_asy {a b : ByteArray} (h : ltB a b = true) : ltB b a = false := less_asy _ _ h
theorem cmpB_neg (a b : ByteArray) : cmpB b a = - cmpB a b := by
  unfold cmpB
  cases h1 : ltB a b
  · cases h2 : ltB b a <;> simp
  · rw [ltB_asy h1]; simp
theorem cmpB_lt (a b : ByteArray) : decide (cmpB a b < 0) = ltB a b := by
  unfold cmpB
  cases h1 : ltB a b
  · cases h2 : ltB b a <;> simp
  · simp
theorem cmpB_zero (a b : ByteArray) : (cmpB a b == 0) = (a.toList == b.toList) := by
  unfold cmpB
  cases h1 : ltB a b
  · cases h2 : ltB b a
    · have := less_tri _ _ h1 h2
      simp [this]
    · have : a.toList ≠ b.toList := fun e => by unfold ltB at h2; rw [e, less_irr] at h2; simp at h2
      simp [this]
  · have : a.toList ≠ b.toList := fun e => by unfold ltB at h1; rw [e, less_irr] at h1; simp at h1
    simp [this]
theorem cmpB_bd (a b : ByteArray) : -1 ≤ cmpB a b ∧ cmpB a b ≤ 1 := by
  unfold cmpB
  split
  · omega
  · split <;> omega

/-! ### The order of needs -/
def cmpVals : List ByteArray → List ByteArray → Int
  | [], [] => 0
  | [], _ :: _ => -1
  | _ :: _, [] => 1
  | x :: xs, y :: ys => if cmpB x y = 0 then cmpVals xs ys else cmpB x y
theorem cmpVals_neg : ∀ a b : List ByteArray, cmpVals b a = - cmpVals a b
  | [], [] => rfl
  | [], _ :: _ => rfl
  | _ :: _, [] => rfl
  | x :: xs, y :: ys => by
    have := cmpB_neg x y
    simp only [cmpVals]
    by_cases h : cmpB x y = 0
    · rw [if_pos h, if_pos (by omega), cmpVals_neg xs ys]
    · rw [if_neg h, if_neg (by omega), this]
theorem cmpVals_bd : ∀ a b : List ByteArray, -1 ≤ cmpVals a b ∧ cmpVals a b ≤ 1
  | [], [] => by simp [cmpVals]
  | [], _ :: _ => by simp [cmpVals]
  | _ :: _, [] => by simp [cmpVals]
  | x :: xs, y :: ys => by
    have := cmpB_bd x y
    have := cmpVals_bd xs ys
    simp only [cmpVals]
    split <;> omega
theorem drop_cons (l : List ByteArray) (k : Nat) (h : k < l.length) : l.drop k = strAt l k :: l.drop (k + 1) := by
  rw [List.drop_eq_getElem_cons h]
  congr 1
  rw [strAt, List.getD_eq_getElem?_getD, List.getElem?_eq_getElem h]; rfl
theorem cmpVals_at (a b : List ByteArray) (k : Nat) (h : k < a.length) (h' : k < b.length) :
    cmpVals (a.drop k) (b.drop k) = if cmpB (strAt a k) (strAt b k) = 0 then cmpVals (a.drop (k + 1)) (b.drop (k + 1)) else cmpB (strAt a k) (strAt b k) := by
  rw [drop_cons a k h, drop_cons b k h']; simp only [cmpVals]
theorem cmpVals_long (a b : List ByteArray) (k : Nat) (h : k < a.length) (h' : ¬ k < b.length) : cmpVals (a.drop k) (b.drop k) = 1 := by
  rw [drop_cons a k h, List.drop_eq_nil_of_le (show b.length ≤ k by omega)]; rfl
theorem cmpVals_end (a b : List ByteArray) (k : Nat) (h : ¬ k < a.length) (h' : k ≤ a.length) : cmpVals (a.drop k) (b.drop k) = if a.length < b.length then -1 else 0 := by
  rw [List.drop_eq_nil_of_le (show a.length ≤ k by omega)]
  by_cases hb : k < b.length
  · rw [drop_cons b k hb, if_pos (by omega)]; rfl
  · rw [List.drop_eq_nil_of_le (show b.length ≤ k by omega), if_neg (by omega)]; rfl

def cmpNeed (a b : Nd) : Int :=
  if cmpB a.key b.key = 0 then (if Lib.compareInt a.op b.op = 0 then cmpVals a.vals b.vals else Lib.compareInt a.op b.op) else cmpB a.key b.key
theorem cmpInt_neg (x y : Int) : Lib.compareInt y x = - Lib.compareInt x y := by
  unfold Lib.compareInt
  by_cases h1 : x < y
  · have h2 : ¬ y < x := by omega
    have h3 : y > x := by omega
    simp [h1, h2]
  · by_cases h2 : y < x
    · have h3 : x > y := by omega
      simp [h1, h2]
    · simp [h1, h2]
theorem cmpInt_bd (x y : Int) : -1 ≤ Lib.compareInt x y ∧ Lib.compareInt x y ≤ 1 := by
  unfold Lib.compareInt
  split
  · omega
  · split <;> omega
theorem cmpNeed_neg (a b : Nd) : cmpNeed b a = - cmpNeed a b := by
  have h1 := cmpB_neg a.key b.key
  have h2 := cmpInt_neg a.op b.op
  have h3 := cmpVals_neg a.vals b.vals
  unfold cmpNeed
  by_cases e1 : cmpB a.key b.key = 0
  · rw [if_pos e1, if_pos (by omega)]
    by_cases e2 : Lib.compareInt a.op b.op = 0
    · rw [if_pos e2, if_pos (by omega), h3]
    · rw [if_neg e2, if_neg (by omega), h2]
  · rw [if_neg e1, if_neg (by omega), h1]
theorem cmpNeed_bd (a b : Nd) : -1 ≤ cmpNeed a b ∧ cmpNeed a b ≤ 1 := by
  have := cmpB_bd a.key b.key
  have := cmpInt_bd a.op b.op
  have := cmpVals_bd a.vals b.vals
  unfold cmpNeed
  split
  · split <;> omega
  · omega
def lessNeed (a b : Nd) : Bool := decide (cmpNeed a b < 0)
def sameNeeds : List Nd → List Nd → Bool
  | [], [] => true
  | [], _ :: _ => false
  | _ :: _, [] => false
  | x :: xs, y :: ys => (cmpNeed x y == 0) && sameNeeds xs ys
theorem sameNeeds_len : ∀ (l l' : List Nd), l.length ≠ l'.length → sameNeeds l l' = false
  | [], [], h => absurd rfl h
  | [], _ :: _, _ => rfl
  | _ :: _, [], _ => rfl
  | x :: xs, y :: ys, h => by simp [sameNeeds, sameNeeds_len xs ys (by simpa using h)]
theorem drop_need (l : List Nd) (k : Nat) (h : k < l.length) : l.drop k = needAt l k :: l.drop (k + 1) := by
  rw [List.drop_eq_getElem_cons h]
  congr 1
  rw [needAt, List.getD_eq_getElem?_getD, List.getElem?_eq_getElem h]; rfl
theorem sameNeeds_at (l l' : List Nd) (k : Nat) (h : k < l.length) (h' : k < l'.length) : sameNeeds (l.drop k) (l'.drop k) = ((cmpNeed (needAt l k) (needAt l' k) == 0) && sameNeeds (l.drop (k + 1)) (l'.drop (k + 1))) := by
  rw [drop_need l k h, drop_need l' k h']; rfl
theorem sameNeeds_end (l l' : List Nd) (h : l.length = l'.length) : sameNeeds (l.drop l.length) (l'.drop l.length) = true := by
  rw [List.drop_length, h, List.drop_length]; rfl
/-- Neither is less: they are the same. -/
theorem less_less (a b : Nd) : (lessNeed a b || lessNeed b a) = !(cmpNeed a b == 0) := by
  have := cmpNeed_neg a b
  unfold lessNeed
  rw [this, Bool.eq_iff_iff]
  simp
  omega

/-! ### In memory -/
def NdCells (w : World) (b o i : Nat) (n : Nd) (vv : Value) : Prop :=
  w.cell? ⟨b, o + i * 3, none⟩ = some (.string n.key) ∧ w.cell? ⟨b, o + i * 3 + 1, none⟩ = some (.int .i64 n.op) ∧ w.cell? ⟨b, o + i * 3 + 2, none⟩ = some vv
theorem NdCells.same {S : Nat → Prop} {w w' : World} (h : SameOn S w w') {b o i : Nat} {n : Nd} {vv : Value} (hb : S b) (hc : NdCells w b o i n vv) : NdCells w' b o i n vv :=
  ⟨h.cell hb hc.1, h.cell hb hc.2.1, h.cell hb hc.2.2⟩
/-- A slice of needs. -/
def NeedsIn (w : World) (v : Value) (l : List Nd) : Prop :=
  ∃ a cap, v = .slice a l.length cap ∧ (l = [] ∨ ∃ b o, a = some ⟨b, o, none⟩ ∧ ∀ j, j < l.length → ∃ vv, NdCells w b o j (needAt l j) vv ∧ StrsIn w Any vv (needAt l j).vals)
theorem NeedsIn.keep {w w' : World} {v : Value} {l : List Nd} (h : NeedsIn w v l) (hb : Below w.heap.size w w') : NeedsIn w' v l := by
  obtain ⟨a, cap, rfl, h⟩ := h
  refine ⟨a, cap, rfl, ?_⟩
  rcases h with h | ⟨b, o, rfl, h⟩
  · exact .inl h
  · refine .inr ⟨b, o, rfl, fun j hj => ?_⟩
    obtain ⟨vv, h1, h2⟩ := h j hj
    exact ⟨vv, NdCells.same (S := Any) (SameOn.of_below hb) trivial h1, h2.keep hb⟩
theorem NeedsIn.at {w : World} {a : Option Addr} {n cap : Nat} {l : List Nd} (h : NeedsIn w (.slice a n cap) l) {j : Nat} (hj : j < l.length) :
    ∃ b o vv, a = some ⟨b, o, none⟩ ∧ NdCells w b o j (needAt l j) vv ∧ StrsIn w Any vv (needAt l j).vals := by
  obtain ⟨a', cap', e, h⟩ := h
  simp only [Value.slice.injEq] at e
  obtain ⟨rfl, _, _⟩ := e
  rcases h with h | ⟨b, o, rfl, h⟩
  · rw [h] at hj; simp at hj
  · obtain ⟨vv, h1, h2⟩ := h j hj
    exact ⟨b, o, vv, rfl, h1, h2⟩
theorem NeedsIn.len {w : World} {v : Value} {l : List Nd} (h : NeedsIn w v l) : ∃ a cap, v = .slice a l.length cap := by
  obtain ⟨a, cap, e, _⟩ := h; exact ⟨a, cap, e⟩

/-- What szNeed takes away. -/
def Nd.wt (n : Nd) : Nat := n.key.size + strWt n.vals
def Nd.fits (n : Nd) : Prop := n.key.size ≤ maxLen ∧ strFits n.vals
def wtN (l : List Nd) : Nat := (l.map Nd.wt).sum
theorem wtN_take : ∀ (l : List Nd) (k : Nat), k < l.length → wtN (l.take (k + 1)) = wtN (l.take k) + (needAt l k).wt
  | [], k, h => by simp at h
  | x :: xs, 0, _ => by simp [wtN, needAt]
  | x :: xs, k + 1, h => by
    have := wtN_take xs k (by simpa using h)
    simp only [wtN, List.take_succ_cons, List.map_cons, List.sum_cons, needAt, List.getD_cons_succ] at this ⊢
    omega
theorem wtN_le : ∀ (l : List Nd) (k : Nat), wtN (l.take k) ≤ wtN l
  | [], k => by simp
  | x :: xs, 0 => by simp [wtN]
  | x :: xs, k + 1 => by
    have := wtN_le xs k
    simp only [wtN, List.take_succ_cons, List.map_cons, List.sum_cons] at this ⊢
    omega
theorem wt_need : ∀ (l : List Nd) (k : Nat), k < l.length → (needAt l k).wt ≤ wtN l
  | [], k, h => by simp at h
  | x :: xs, 0, _ => by simp [wtN, needAt]
  | x :: xs, k + 1, h => by
    have := wt_need xs k (by simpa using h)
    simp only [wtN, List.map_cons, List.sum_cons, needAt, List.getD_cons_succ] at this ⊢
    omega

end Go.Proofs.Ytlfnbldhmkbkmaa
