/- PutP, PutW, PutX, merged. -/
import Derived.Test.YtkifacpanipfhaaDoorTreeG
import Derived.Test.YtkifacpanipfhaaDoorNL
import Derived.Test.YtkifacpanipfhaaDoorMarkA
import Derived.Test.YtkifacpanipfhaaDoorRuneB
import Derived.Test.YtkifacpanipfhaaDoorNH
import Derived.Test.YtkifacpanipfhaaDoorTreeOk
import Derived.Deep.RegionHeld3
import Derived.Deep.AppendLies
import Derived.Deep.RegionLaw
namespace Go.Proofs.YtkifacpanipfhaaDoor
open Go.RowKit

def lsT (a b : ByteArray) : Bool := Op.bytesLess a.toList b.toList
theorem lsT_irr : ∀ x : List UInt8, Op.bytesLess x x = false
  | [] => rfl
  | a :: x => by simp [Op.bytesLess, lsT_irr x]
theorem lsT_tri : ∀ x y : List UInt8, Op.bytesLess x y = false → Op.bytesLess y x = false → x = y
  | [], [], _, _ => rfl
  | a :: x, [], _, h => by simp [Op.bytesLess] at h
  | [], b :: y, h, _ => by simp [Op.bytesLess] at h
  | a :: x, b :: y, h, k => by
    simp only [Op.bytesLess, Bool.or_eq_false_iff, decide_eq_false_iff_not, Bool.and_eq_false_iff, beq_eq_false_iff_ne] at h k
    have hab : a = b := UInt8.le_antisymm (UInt8.not_lt.1 k.1) (UInt8.not_lt.1 h.1)
    subst hab
    rw [lsT_tri x y (h.2.resolve_left (by simp)) (k.2.resolve_left (by simp))]
theorem lsT_trans : ∀ x y z : List UInt8, Op.bytesLess x y = true → Op.bytesLess y z = true → Op.bytesLess x z = true
  | [], [], _, h, _ => by simp [Op.bytesLess] at h
  | [], _ :: _, [], _, h => by simp [Op.bytesLess] at h
  | [], _ :: _, _ :: _, _, _ => by simp [Op.bytesLess]
  | _ :: _, [], _, h, _ => by simp [Op.bytesLess] at h
  | _ :: _, _ :: _, [], _, h => by simp [Op.bytesLess] at h
  | a :: x, b :: y, c :: z, h, k => by
    simp only [Op.bytesLess, Bool.or_eq_true, decide_eq_true_eq, Bool.and_eq_true, beq_iff_eq] at h k ⊢
    rcases h with h | ⟨rfl, h⟩
    · rcases k with k | ⟨rfl, k⟩
      · exact .inl (UInt8.lt_trans h k)
      · exact .inl h
    · rcases k with k | ⟨rfl, k⟩
      · exact .inl k
      · exact .inr ⟨rfl, lsT_trans x y z h k⟩
theorem lsT_asy {x y : List UInt8} (h : Op.bytesLess x y = true) : Op.bytesLess y x = false := by
  cases k : Op.bytesLess y x
  · rfl
  · have := lsT_trans x y x h k
    rw [lsT_irr] at this; cases this
theorem ba_inj {a b : ByteArray} (h : a.toList = b.toList) : a = b := by
  apply ByteArray.ext; apply Array.ext'
  rw [← ByteArray.toList_eq, ← ByteArray.toList_eq, h]
def SortedK (l : List ByteArray) : Prop := ∀ i j, i < j → j < l.length → lsT (strAt l i) (strAt l j) = true
theorem sorted_keys {l : List ByteArray} (h : keysOkB l = true) : SortedK l := by
  have h1 : ∀ j, j + 1 < l.length → lsT (strAt l j) (strAt l (j + 1)) = true := fun j hj => by
    rw [keysOkB, List.all_eq_true] at h
    have := h (j + 1) (List.mem_range.2 hj)
    simp only [keyOkAt, Bool.and_eq_true, Bool.not_eq_true', Bool.and_eq_false_iff, decide_eq_false_iff_not] at this
    have h2 := this.2.resolve_left (by omega)
    rw [Nat.add_sub_cancel, geT, Bool.not_eq_false'] at h2
    exact h2
  intro i j hij
  induction j with
  | zero => omega
  | succ j ih =>
    intro hj
    rcases Nat.eq_or_lt_of_le (Nat.le_of_lt_succ hij) with rfl | h3
    · exact h1 i hj
    · exact lsT_trans _ _ _ (ih h3 (by omega)) (h1 j hj)

/-! ### Where the key belongs -/
def posK (key : ByteArray) (l : List ByteArray) : Nat := (l.takeWhile fun k => lsT k key).length
theorem strAt_cons (x : ByteArray) (l : List ByteArray) (i : Nat) : strAt (x :: l) (i + 1) = strAt l i := by simp [strAt]
theorem pos_le (key : ByteArray) (l : List ByteArray) : posK key l ≤ l.length := (List.takeWhile_sublist _).length_le
theorem pos_low (key : ByteArray) : ∀ (l : List ByteArray) (i : Nat), i < posK key l → lsT (strAt l i) key = true
  | [], i, h => by simp [posK] at h
  | x :: l, i, h => by
    unfold posK at h
    rw [List.takeWhile_cons] at h
    by_cases hx : lsT x key = true
    · rw [if_pos hx] at h
      cases i with
      | zero => exact hx
      | succ i => rw [strAt_cons]; exact pos_low key l i (by simpa [posK] using h)
    · rw [if_neg hx] at h; simp at h
theorem pos_at (key : ByteArray) : ∀ (l : List ByteArray), posK key l < l.length → lsT (strAt l (posK key l)) key = false
  | [], h => by simp at h
  | x :: l, h => by
    unfold posK at h ⊢
    rw [List.takeWhile_cons] at h ⊢
    by_cases hx : lsT x key = true
    · rw [if_pos hx] at h ⊢
      rw [List.length_cons, strAt_cons]
      exact pos_at key l (by simpa [posK] using h)
    · rw [if_neg hx]
      show lsT x key = false
      exact Bool.eq_false_iff.2 hx
theorem pos_high {key : ByteArray} {l : List ByteArray} (hs : SortedK l) {i : Nat} (h : posK key l ≤ i) (hi : i < l.length) : lsT (strAt l i) key = false := by
  have h0 := pos_at key l (by omega)
  rcases Nat.eq_or_lt_of_le h with rfl | h2
  · exact h0
  · cases hc : lsT (strAt l i) key
    · rfl
    · have := lsT_trans _ _ _ (hs _ _ h2 hi) hc
      rw [lsT] at h0
      rw [h0] at this; cases this
def hitK (key : ByteArray) (l : List ByteArray) : Bool := decide (posK key l < l.length) && ((strAt l (posK key l)).toList == key.toList)
def hitN (key : ByteArray) (l : List ByteArray) : Nat := if hitK key l = true then 1 else 0
theorem hit_eq {key : ByteArray} {l : List ByteArray} (h : hitK key l = true) : posK key l < l.length ∧ strAt l (posK key l) = key := by
  simp only [hitK, Bool.and_eq_true, decide_eq_true_eq, beq_iff_eq] at h
  exact ⟨h.1, ba_inj h.2⟩
theorem hit_ne {key : ByteArray} {l : List ByteArray} (h : hitK key l = false) (hp : posK key l < l.length) : strAt l (posK key l) ≠ key := by
  intro e
  rw [hitK, e, decide_eq_true hp, beq_self_eq_true] at h; cases h
theorem low_ne {key : ByteArray} {l : List ByteArray} {i : Nat} (h : i < posK key l) : strAt l i ≠ key := by
  intro e
  have := pos_low key l i h
  rw [e, lsT, lsT_irr] at this; cases this
theorem high_ne {key : ByteArray} {l : List ByteArray} (hs : SortedK l) {i : Nat} (h : posK key l < i) (hi : i < l.length) : strAt l i ≠ key := by
  intro e
  have h0 := pos_at key l (by omega)
  have h1 := hs _ _ h hi
  rw [e] at h1
  rw [h1] at h0; cases h0
theorem hitN_le (key : ByteArray) (l : List ByteArray) : hitN key l ≤ 1 ∧ posK key l + hitN key l ≤ l.length := by
  unfold hitN
  have := pos_le key l
  split
  · rename_i h
    have := hit_eq h
    omega
  · omega

/-! ### The tree with the child put in -/
def putK (key : ByteArray) (l : List ByteArray) : List ByteArray := l.take (posK key l) ++ key :: l.drop (posK key l + hitN key l)
def putT (key : ByteArray) (l : List ByteArray) (kid : Tr) (kids : List Tr) : List Tr := kids.take (posK key l) ++ kid :: kids.drop (posK key l + hitN key l)
def noS : ByteArray := ⟨#[]⟩
def putO (t : Tr) (key : ByteArray) (kid : Tr) : Tr := .mk 6 false 0 noS (putK key t.keys) (putT key t.keys kid t.kids)
def putOk (t : Tr) (key : ByteArray) (kid : Tr) : Bool := t.kind == 6 && (treeOkB t && treeOkB (putO t key kid))
def putR (t : Tr) (key : ByteArray) (kid : Tr) : Tr := if putOk t key kid = true then putO t key kid else t

/-! ### The rounds of the reference -/
def stK (key : ByteArray) (l : List ByteArray) (i : Nat) : List ByteArray := if i ≤ posK key l then l.take i else l.take (posK key l) ++ key :: (l.take i).drop (posK key l + hitN key l)
def stT (key : ByteArray) (l : List ByteArray) (kid : Tr) (kids : List Tr) (i : Nat) : List Tr := if i ≤ posK key l then kids.take i else kids.take (posK key l) ++ kid :: (kids.take i).drop (posK key l + hitN key l)
theorem take_str (l : List ByteArray) (i : Nat) (h : i < l.length) : l.take (i + 1) = l.take i ++ [strAt l i] := by
  rw [List.take_succ_eq_append_getElem h, strAt, List.getD_eq_getElem?_getD, List.getElem?_eq_getElem h]; rfl
theorem take_kid (l : List Tr) (i : Nat) (h : i < l.length) : l.take (i + 1) = l.take i ++ [kidAt l i] := by
  rw [List.take_succ_eq_append_getElem h, kidAt_mem h]
theorem st_low {key : ByteArray} {l : List ByteArray} {kid : Tr} {kids : List Tr} {i : Nat} (h : i < posK key l) (hl : l.length = kids.length) : stK key l (i + 1) = stK key l i ++ [strAt l i] ∧ stT key l kid kids (i + 1) = stT key l kid kids i ++ [kidAt kids i] := by
  have := pos_le key l
  rw [stK, stK, stT, stT, if_pos (by omega), if_pos (by omega), if_pos (by omega), if_pos (by omega)]
  exact ⟨take_str l i (by omega), take_kid kids i (by omega)⟩
theorem st_hit {key : ByteArray} {l : List ByteArray} {kid : Tr} {kids : List Tr} (h : hitK key l = true) (hl : l.length = kids.length) : stK key l (posK key l + 1) = stK key l (posK key l) ++ [key] ∧ stT key l kid kids (posK key l + 1) = stT key l kid kids (posK key l) ++ [kid] := by
  have h1 := (hit_eq h).1
  have h2 : hitN key l = 1 := if_pos h
  rw [stK, stK, stT, stT, if_neg (by omega), if_pos (by omega), if_neg (by omega), if_pos (by omega), h2, List.drop_of_length_le (by simp; omega), List.drop_of_length_le (by simp; omega)]
  exact ⟨rfl, rfl⟩
theorem st_new {key : ByteArray} {l : List ByteArray} {kid : Tr} {kids : List Tr} (h : hitK key l = false) (hp : posK key l < l.length) (hl : l.length = kids.length) :
    stK key l (posK key l + 1) = (stK key l (posK key l) ++ [key]) ++ [strAt l (posK key l)] ∧ stT key l kid kids (posK key l + 1) = (stT key l kid kids (posK key l) ++ [kid]) ++ [kidAt kids (posK key l)] := by
  have h2 : hitN key l = 0 := if_neg (by simp [h])
  rw [stK, stK, stT, stT, if_neg (by omega), if_pos (by omega), if_neg (by omega), if_pos (by omega), h2, Nat.add_zero, take_str l _ hp, take_kid kids _ (by omega)]
  rw [List.drop_append_of_le_length (by simp; omega), List.drop_append_of_le_length (by simp; omega), List.drop_of_length_le (by simp; omega), List.drop_of_length_le (by simp; omega)]
  simp
theorem st_high {key : ByteArray} {l : List ByteArray} {kid : Tr} {kids : List Tr} {i : Nat} (h : posK key l < i) (hi : i < l.length) (hl : l.length = kids.length) : stK key l (i + 1) = stK key l i ++ [strAt l i] ∧ stT key l kid kids (i + 1) = stT key l kid kids i ++ [kidAt kids i] := by
  have h2 := (hitN_le key l).1
  rw [stK, stK, stT, stT, if_neg (by omega), if_neg (by omega), if_neg (by omega), if_neg (by omega), take_str l i hi, take_kid kids i (by omega)]
  rw [List.drop_append_of_le_length (by simp; omega), List.drop_append_of_le_length (by simp; omega)]
  simp
theorem st_end {key : ByteArray} {l : List ByteArray} {kid : Tr} {kids : List Tr} (hp : posK key l < l.length) (hl : l.length = kids.length) : stK key l l.length = putK key l ∧ stT key l kid kids l.length = putT key l kid kids := by
  rw [stK, stT, if_neg (by omega), if_neg (by omega), List.take_of_length_le (Nat.le_refl _), List.take_of_length_le (by omega : kids.length ≤ l.length)]
  exact ⟨rfl, rfl⟩
theorem st_last {key : ByteArray} {l : List ByteArray} {kid : Tr} {kids : List Tr} (hp : posK key l = l.length) (hl : l.length = kids.length) : stK key l l.length ++ [key] = putK key l ∧ stT key l kid kids l.length ++ [kid] = putT key l kid kids := by
  have h2 := (hitN_le key l).2
  rw [stK, stT, if_pos (by omega), if_pos (by omega), putK, putT, hp, List.drop_of_length_le (by omega), List.drop_of_length_le (by omega)]
  exact ⟨rfl, rfl⟩
theorem st_zero (key : ByteArray) (l : List ByteArray) (kid : Tr) (kids : List Tr) : stK key l 0 = [] ∧ stT key l kid kids 0 = [] := by
  rw [stK, stT, if_pos (Nat.zero_le _), if_pos (Nat.zero_le _)]; exact ⟨rfl, rfl⟩
theorem st_len {key : ByteArray} {l : List ByteArray} {kid : Tr} {kids : List Tr} {i : Nat} (hi : i ≤ l.length) (hl : l.length = kids.length) : (stK key l i).length ≤ i + 1 ∧ (stT key l kid kids i).length = (stK key l i).length := by
  have h2 := (hitN_le key l).2
  rw [stK, stT]
  split
  · simp; omega
  · simp; omega

end Go.Proofs.YtkifacpanipfhaaDoor
namespace Go.Proofs.YtkifacpanipfhaaDoor
open Go.RowKit

/-- The tree that is being put together, in a local that was made in W0: its keys, its kids. -/
structure PK (W0 w : World) (K : List ByteArray) (T : List Tr) (vk vs : Value) (ff : List Nat) : Prop where
  out : Spill w W0.heap.size (.mk 6 false 0 noS [] []) vk vs
  keys : w.ownsRow (W0.heap.size + 1) 9 1 vk K.length (K.map Value.string)
  kids : KidsGrow w (W0.heap.size + 1) 27 vs T ff
  sep : ∀ b, vk.ownBlock = some b → vs.ownBlock ≠ some b ∧ b ∉ ff
  bel : Below W0.heap.size W0 w
theorem PK.new (w : World) : PK w (w.alloc (.cells #[.int .i64 6, .bool false, .int .i64 0, .string ⟨#[]⟩, .slice none 0 0, .slice none 0 0] 27)) [] [] (.slice none 0 0) (.slice none 0 0) [] :=
  ⟨Spill.new w (.mk 6 false 0 noS [] []) _ _ _, World.ownsRow_nil _ _ _ _, KidsGrow.nil _ _ _, fun b hb => by simp [Value.ownBlock] at hb, (Below.refl _ _).alloc (Nat.le_refl _) _⟩
theorem PK.keep {W0 w w' : World} {K : List ByteArray} {T : List Tr} {vk vs : Value} {ff : List Nat} (h : PK W0 w K T vk vs ff) (hb : Below w.heap.size w w') : PK W0 w' K T vk vs ff :=
  ⟨h.out.keep hb, ownsRow_keep h.keys hb, h.kids.keep hb, h.sep, bnext h.bel hb⟩
theorem PK.size {W0 w : World} {K : List ByteArray} {T : List Tr} {vk vs : Value} {ff : List Nat} (h : PK W0 w K T vk vs ff) : W0.heap.size < w.heap.size := h.out.lt
theorem row_same {w w' : World} {base e size : Nat} {v : Value} {n : Nat} {xs : List Value} (h : w.ownsRow base e size v n xs) (hs : ∀ b, v.ownBlock = some b → b < w.heap.size → w'.heap[b]? = w.heap[b]?) : w'.ownsRow base e size v n xs := by
  obtain ⟨h1, h2⟩ := h
  refine ⟨h1, ?_⟩
  rcases h2 with h2 | ⟨b, cap, cur, rfl, hb, hh, r⟩
  · exact .inl h2
  · exact .inr ⟨b, cap, cur, rfl, hb, by rw [hs b rfl (Array.getElem?_eq_some_iff.1 hh).1]; exact hh, r⟩
theorem KidsGrow.same {w w' : World} {B : Nat} {e : TypeId} {v : Value} {l : List Tr} {ff : List Nat} (h : KidsGrow w B e v l ff) (hs : ∀ b, (v.ownBlock = some b ∨ b ∈ ff) → b < w.heap.size → w'.heap[b]? = w.heap[b]?) : KidsGrow w' B e v l ff := by
  obtain ⟨xs, h1, h2, h3, h4⟩ := h
  exact ⟨xs, row_same h1 fun b hb hl => hs b (.inl hb) hl, KidsRow.same _ _ 0 ff h2 fun b hb hl => hs b (.inr hb) hl, h3, h4⟩
theorem KidsGrow.lt {w : World} {B : Nat} {e : TypeId} {v : Value} {l : List Tr} {ff : List Nat} (h : KidsGrow w B e v l ff) : (∀ b, v.ownBlock = some b → B ≤ b ∧ b < w.heap.size) ∧ ∀ b, b ∈ ff → B ≤ b ∧ b < w.heap.size := by
  obtain ⟨xs, h1, h2, h3, h4⟩ := h
  exact ⟨h1.lt, fun b hb => ⟨(h4 b hb).1, KidsRow.lt _ _ 0 ff h2 b hb⟩⟩
/-- A key is laid behind the others. -/
theorem PK.addKey {W0 w w2 : World} {K : List ByteArray} {T : List Tr} {vk vk' vs : Value} {ff : List Nat} {key : ByteArray} (h : PK W0 w K T vk vs ff)
    (ho : w2.ownsRow (W0.heap.size + 1) 9 1 vk' (K.length + 1) (K.map Value.string ++ [.string key])) (hg : w.grownBy w2 vk.ownBlock) (hs : SpotK vk vk' w) :
    PK W0 (w2.setCell ⟨W0.heap.size, 4, none⟩ vk') (K ++ [key]) T vk' vs ff := by
  have hk := h.keys.lt
  have ht := h.kids.lt
  have hsame : ∀ b, b < w.heap.size → some b ≠ vk.ownBlock → w2.heap[b]? = w.heap[b]? := hg.block
  have hcell : ∀ b, b ≠ W0.heap.size → (w2.setCell ⟨W0.heap.size, 4, none⟩ vk').heap[b]? = w2.heap[b]? := fun b hb => Below.heap_setCell _ _ _ _ hb
  refine ⟨(h.out.of_block (hsame _ h.size fun e => by have := (hk _ e.symm).1; omega)).set4 _, ?_, ?_, ?_, ?_⟩
  · rw [List.length_append, List.map_append]
    exact row_same ho fun b hb _ => hcell b (by have := (ho.lt b hb).1; omega)
  · refine h.kids.same fun b hb hl => ?_
    have hB : W0.heap.size + 1 ≤ b := by rcases hb with hb | hb; (· exact (ht.1 b hb).1); exact (ht.2 b hb).1
    rw [hcell b (by omega), hsame b hl fun e => ?_]
    rcases hb with hb | hb
    · exact (h.sep b e.symm).1 hb
    · exact (h.sep b e.symm).2 hb
  · intro b hb
    rcases hs with hs | ⟨q, hs, hq⟩
    · rw [hs] at hb; exact h.sep b hb
    · rw [hs] at hb
      cases hb
      exact ⟨fun e => by have := (ht.1 _ e).2; omega, fun e => by have := (ht.2 _ e).2; omega⟩
  · exact (h.bel.grown hg (by have := h.size; omega) (fun q hq => by have := (hk q hq).1; omega)).setCell (p := ⟨W0.heap.size, 4, none⟩) (Nat.le_refl _) _
/-- A kid is laid behind the others. -/
theorem PK.addKid {W0 w w2 : World} {K : List ByteArray} {T : List Tr} {vk vs vs' : Value} {ff fp : List Nat} {t : Tr} {kk ks : Value} {xs : List Value} (h : PK W0 w K T vk vs ff)
    (ho0 : w.ownsRow (W0.heap.size + 1) 27 6 vs T.length xs) (hr : KidsRow w (fun i => xs.getD i undef) T 0 ff) (hnd : ff.Nodup) (hff : ∀ b, b ∈ ff → W0.heap.size + 1 ≤ b ∧ vs.ownBlock ≠ some b)
    (ht : TreeOwn w t kk ks fp) (hfn : fp.Nodup) (hfp : ∀ b, b ∈ fp → W0.heap.size + 1 ≤ b ∧ vs.ownBlock ≠ some b ∧ b ∉ ff ∧ vk.ownBlock ≠ some b)
    (ho : w2.ownsRow (W0.heap.size + 1) 27 6 vs' (T.length + 1) (xs ++ six t kk ks)) (hg : w.grownBy w2 vs.ownBlock) (hs : SpotK vs vs' w) :
    PK W0 (w2.setCell ⟨W0.heap.size, 5, none⟩ vs') K (T ++ [t]) vk vs' (ff ++ fp) := by
  have hk := h.keys.lt
  have hl := h.kids.lt
  have hsame : ∀ b, b < w.heap.size → some b ≠ vs.ownBlock → w2.heap[b]? = w.heap[b]? := hg.block
  have hcell : ∀ b, b ≠ W0.heap.size → (w2.setCell ⟨W0.heap.size, 5, none⟩ vs').heap[b]? = w2.heap[b]? := fun b hb => Below.heap_setCell _ _ _ _ hb
  have hstep := KidsGrow.step ho0 hr hnd hff ht hfn (fun b hb => ⟨(hfp b hb).1, (hfp b hb).2.1, (hfp b hb).2.2.1⟩) ho hg hs
  have hsl := hstep.lt
  refine ⟨(h.out.of_block (hsame _ h.size fun e => by have := (hl.1 _ e.symm).1; omega)).set5 _, ?_, ?_, ?_, ?_⟩
  · refine row_same h.keys fun b hb hl' => ?_
    rw [hcell b (by have := (hk b hb).1; omega), hsame b hl' fun e => (h.sep b hb).1 e.symm]
  · refine hstep.same fun b hb _ => hcell b ?_
    have hB : W0.heap.size + 1 ≤ b := by rcases hb with hb | hb; (· exact (hsl.1 b hb).1); exact (hsl.2 b hb).1
    omega
  · intro b hb
    refine ⟨fun e => ?_, fun e => ?_⟩
    · rcases hs with hs | ⟨q, hs, hq⟩
      · rw [hs] at e; exact (h.sep b hb).1 e
      · rw [hs] at e; cases e; have := (hk _ hb).2; omega
    · rw [List.mem_append] at e
      rcases e with e | e
      · exact (h.sep b hb).2 e
      · exact (hfp b e).2.2.2 hb
  · exact (h.bel.grown hg (by have := h.size; omega) (fun q hq => by have := (hl.1 q hq).1; omega)).setCell (p := ⟨W0.heap.size, 5, none⟩) (Nat.le_refl _) _
theorem KidsGrow.own2 {w : World} {B : Nat} {e : TypeId} {v : Value} {l : List Tr} {ff : List Nat} (h : KidsGrow w B e v l ff) : ∃ fs, KidsOwn w v l fs ∧ fs.Nodup ∧ ∀ b, b ∈ fs → B ≤ b ∧ (v.ownBlock = some b ∨ b ∈ ff) := by
  obtain ⟨xs, h1, h2, h3, h4⟩ := h
  rcases h1.2 with ⟨rfl, hl⟩ | ⟨g, cap, cur, rfl, hbg, hg, hnc, hcm, hcs, htake⟩
  · have : l = [] := List.eq_nil_of_length_eq_zero hl
    subst this
    exact ⟨[], .inl ⟨rfl, rfl, none, 0, rfl⟩, List.nodup_nil, fun b hb => by simp at hb⟩
  · obtain ⟨F, hrow, hn, hm, hb, hF⟩ := rowIs_of_owns h1
    refine ⟨g :: ff, .inr ⟨g, cap, e, cap * 6, F, ff, rfl, rfl, hrow, by omega, ?_⟩, ?_, fun b hb => ?_⟩
    · refine KidsRow.congr _ _ _ 0 ff h2 fun j hj => ?_
      simp only [List.getD_eq_getElem?_getD]
      rw [hF j (by omega)]; rfl
    · rw [List.nodup_cons]
      exact ⟨fun hgf => (h4 g hgf).2 rfl, h3⟩
    · rw [List.mem_cons] at hb
      rcases hb with rfl | hb
      · exact ⟨hbg, .inl rfl⟩
      · exact ⟨(h4 b hb).1, .inr hb⟩
theorem strOwn2 {w : World} {B : Nat} {v : Value} {l : List ByteArray} (h : w.ownsRow B 9 1 v l.length (l.map Value.string)) :
    ∃ fp, StrOwn w v l fp ∧ fp.Nodup ∧ ∀ b, b ∈ fp → B ≤ b ∧ v.ownBlock = some b := by
  rcases h.2 with ⟨rfl, hl⟩ | ⟨g, cap, cur, rfl, hbg, hg, hnc, hcm, hcs, htake⟩
  · have : l = [] := List.eq_nil_of_length_eq_zero hl
    subst this
    exact ⟨[], .inl ⟨rfl, rfl, none, 0, rfl, rfl, rfl⟩, List.nodup_nil, fun b hb => by simp at hb⟩
  · obtain ⟨F, hrow, hn, hm, hb, hF⟩ := rowIs_of_owns h
    refine ⟨[g], .inr ⟨g, cap, _, cap * 1, F, rfl, rfl, hrow, ⟨by omega, by omega, rfl, by omega⟩, fun i hi => ?_⟩, by simp, fun b hb => by simp at hb; subst hb; exact ⟨hbg, rfl⟩⟩
    have h2 := hF i (by omega)
    rw [List.getElem?_map, List.getElem?_eq_getElem hi] at h2
    simp only [Option.map_some, Option.some.injEq] at h2
    rw [← h2, strAt, List.getD_eq_getElem?_getD, List.getElem?_eq_getElem hi]; rfl
/-- What has been put together is a tree of the call's own. -/
theorem PK.tree {W0 w : World} {K : List ByteArray} {T : List Tr} {vk vs : Value} {ff : List Nat} (h : PK W0 w K T vk vs ff) : ∃ fp, TreeOwn w (.mk 6 false 0 noS K T) vk vs fp ∧ fp.Nodup ∧ ∀ b, b ∈ fp → W0.heap.size + 1 ≤ b := by
  obtain ⟨fk, h1, h2, h3⟩ := strOwn2 h.keys
  obtain ⟨fs, g1, g2, g3⟩ := h.kids.own2
  refine ⟨fk ++ fs, treeOwn_iff.2 ⟨fk, fs, rfl, h1, g1⟩, ?_, fun b hb => ?_⟩
  · rw [List.nodup_append]
    refine ⟨h2, g2, fun x hx y hy hxy => ?_⟩
    subst hxy
    have hs := h.sep x (h3 x hx).2
    rcases (g3 x hy).2 with e | e
    · exact hs.1 e
    · exact hs.2 e
  · rw [List.mem_append] at hb
    rcases hb with hb | hb
    · exact (h3 b hb).1
    · exact (g3 b hb).1

end Go.Proofs.YtkifacpanipfhaaDoor
namespace Go.Proofs.YtkifacpanipfhaaDoor
open Go.RowKit

theorem put6w_new2 {w0 w : World} {B b : Nat} {t : Tr} {vk vs : Value} {fp : List Nat} (ho : TreeOwn w t vk vs fp) (hn : fp.Nodup) (hge : ∀ x, x ∈ fp → B ≤ x ∧ x ≠ b) (hb : Below B w0 w) (h : B ≤ b) (c : Bool) (v0 v1 v2 v3 v4 v5 : Value) :
    TreeNew2 B t c (.returned (.tuple #[.agg #[.int .i64 t.kind, .bool t.flag, .int .i64 t.num, .string t.text, vk, vs], .bool c])) (put6w w b v0 v1 v2 v3 v4 v5) ∧ Below B w0 (put6w w b v0 v1 v2 v3 v4 v5) :=
  ⟨⟨vk, vs, fp, rfl, TreeOwn.same _ _ _ _ ho fun x hx _ => put6w_heap _ _ _ _ _ _ _ _ _ (hge x hx).2, hn, fun x hx => (hge x hx).1⟩, put6w_below hb b h _ _ _ _ _ _⟩
theorem str_src (w : World) (x : ByteArray) (e : TypeId) : ∀ (j : Nat) (u : Value), ([Value.string x] : List Value)[j]? = some u → (w.alloc (.cells #[.string x] e)).cell? ((⟨w.heap.size, 0, none⟩ : Addr).add j) = some u := by
  intro j u hu
  have hj : j < 1 := (List.getElem?_eq_some_iff.1 hu).1
  obtain rfl : j = 0 := by omega
  rw [addr_add, Nat.zero_add]
  have hr := World.rowIs_alloc w #[.string x] e (fun _ => .string x) (fun i hi => by simp at hi; subst hi; rfl)
  rw [hr.cell (by simp)]
  simpa using hu
/-- A key is appended: a step of the walk. -/
theorem wpList_key {ops : Array Oper} {rest : List Oper} {o : Oper} {a : Act} {Q : Exit → Act → World → Prop} (hgd : o.guard = none) (s x : Operand)
    (ho : o.op = .call { callee := .builtin .append, args := #[s, x], argTypes := #[24, 24] }) {W0 w : World} {K : List ByteArray} {T : List Tr} {vk vs : Value} {ff : List Nat} (h : PK W0 w K T vk vs ff) (key : ByteArray)
    (hs : a.eval s = vk) (hx : a.eval x = .slice (some ⟨w.heap.size, 0, none⟩) 1 1) (hK : K.length ≤ 1000000)
    (hk : ∀ g n cap w', w'.cell? ⟨W0.heap.size, 4, none⟩ = some vk → w'.frozen? ⟨W0.heap.size, 4, none⟩ = false → PK W0 (w'.setCell ⟨W0.heap.size, 4, none⟩ (.slice g n cap)) (K ++ [key]) T (.slice g n cap) vs ff → wpList Tryd.prog ops Q rest (a.put o.dst (.slice g n cap)) w') :
    wpList Tryd.prog ops Q (o :: rest) a (w.alloc (.cells #[.string key] 9)) := by
  obtain ⟨i0, hi, hz0, hz1, hz2⟩ := info_parts Tryd.infoStr
  have hp := h.keep (alloc_below w #[.string key] 9)
  refine wpList_append_spotK hgd s x 24 ho (W0.heap.size + 1) 9 i0 (.string ⟨#[]⟩) 1 16 Tryd.underlying24 hi hz0 hz1 hz2 rfl (by decide) vk K.length (K.map Value.string) hs hp.keys ⟨w.heap.size, 0, none⟩ 1 1 [.string key] hx rfl (str_src w key 9) (by simp [Value.oneCell']) (by unfold maxLen; omega) (by omega) hp.size ?_
  intro vk' w' hown hg hsp
  have hbk := hg.block _ hp.size (fun e => by have := (hp.keys.lt _ e.symm).1; omega)
  obtain ⟨g, n, cap, rfl⟩ : ∃ g n cap, vk' = .slice g n cap := by
    rcases hown.2 with ⟨e, _⟩ | ⟨g, cap, _, e, _⟩
    · exact ⟨_, _, _, e⟩
    · exact ⟨_, _, _, e⟩
  refine hk g n cap w' ?_ ?_ (hp.addKey hown hg hsp)
  · exact (hp.out.of_block hbk).cells.2.2.2.2.1
  · exact (hp.out.of_block hbk).frozen 4
theorem spotK_of {v : Value} {w : World} {g n cap : Nat} (h : v.ownBlock = some g ∨ g = w.heap.size) : SpotK v (.slice (some ⟨g, 0, none⟩) n cap) w := by
  rcases h with h | h
  · exact .inl (by rw [h]; rfl)
  · exact .inr ⟨g, rfl, by rw [h]; exact Nat.le_refl _⟩
/-- The same inside a region that draws its order. -/
theorem step_key {ops : Array Oper} {o : Oper} {a : Act} {C : Act → World → Prop} {Q : Exit → Act → World → Prop} {E : Prop} (hgd : o.guard = none) (s x : Operand)
    (ho : o.op = .call { callee := .builtin .append, args := #[s, x], argTypes := #[24, 24] }) {W0 we w : World} {K : List ByteArray} {T : List Tr} {vk vs : Value} {ff : List Nat} (he : PK W0 we K T vk vs ff) (key : ByteArray)
    (hs : a.eval s = vk) (B : Nat) (hx : a.eval x = .slice (some ⟨B, 0, none⟩) 1 1) (hK : K.length ≤ 1000000) (hb : Below we.heap.size we w) (hB : w.heap[B]? = some (.cells #[.string key] 9 (0, 0)))
    (hk : ∀ g cap w', w'.cell? ⟨W0.heap.size, 4, none⟩ = some vk → w'.frozen? ⟨W0.heap.size, 4, none⟩ = false → PK W0 (w'.setCell ⟨W0.heap.size, 4, none⟩ (.slice (some ⟨g, 0, none⟩) (K.length + 1) cap)) (K ++ [key]) T (.slice (some ⟨g, 0, none⟩) (K.length + 1) cap) vs ff → C (a.put o.dst (.slice (some ⟨g, 0, none⟩) (K.length + 1) cap)) w') :
    if Region.wanted o (yielded ops a.tmps) = true then Oper.wp Tryd.prog o a w C Q else E := by
  obtain ⟨i0, hi, hz0, hz1, hz2⟩ := info_parts Tryd.infoStr
  have hp := he.keep hb
  refine step_append_lies _ hgd s x 24 ho (W0.heap.size + 1) 9 i0 (.string ⟨#[]⟩) 1 16 Tryd.underlying24 hi hz0 hz1 hz2 rfl (by decide) vk K.length (K.map Value.string) hs hp.keys ⟨B, 0, none⟩ 1 1 [.string key] hx rfl (fun j u hu => World.news_of_block hB j u hu) (by simp [Value.oneCell']) (by decide) (by unfold maxLen; omega) (by omega) hp.size _ rfl ?_
  intro g cap w' hown hg hat _
  have hbk := hg.block _ hp.size (fun e => by have := (hp.keys.lt _ e.symm).1; omega)
  refine hk g cap w' ?_ ?_ (hp.addKey hown hg (spotK_of hat))
  · exact (hp.out.of_block hbk).cells.2.2.2.2.1
  · exact (hp.out.of_block hbk).frozen 4
theorem step_kid {ops : Array Oper} {o : Oper} {a : Act} {C : Act → World → Prop} {Q : Exit → Act → World → Prop} {E : Prop} (hgd : o.guard = none) (s x : Operand)
    (ho : o.op = .call { callee := .builtin .append, args := #[s, x], argTypes := #[25, 25] }) {W0 we w1 w : World} {K : List ByteArray} {T : List Tr} {vk vs : Value} {ff fp : List Nat} (he : PK W0 we K T vk vs ff) (t : Tr)
    {a5 a6 : Option Addr} {l5 l6 n5 n6 : Nat} (ht : TreeOwn w1 t (.slice a5 l5 n5) (.slice a6 l6 n6) fp) (hfn : fp.Nodup) (hfp : ∀ b, b ∈ fp → we.heap.size ≤ b)
    (hs : a.eval s = vs) (B : Nat) (hx : a.eval x = .slice (some ⟨B, 0, none⟩) 1 1) (hT : T.length ≤ 1000000) (hb1 : Below we.heap.size we w1) (hb : Below w1.heap.size w1 w)
    (hB : w.heap[B]? = some (.cells #[.int .i64 t.kind, .bool t.flag, .int .i64 t.num, .string t.text, .slice a5 l5 n5, .slice a6 l6 n6] 27 (0, 0)))
    (hk : ∀ g cap ff' w', w'.cell? ⟨W0.heap.size, 5, none⟩ = some vs → w'.frozen? ⟨W0.heap.size, 5, none⟩ = false → PK W0 (w'.setCell ⟨W0.heap.size, 5, none⟩ (.slice (some ⟨g, 0, none⟩) (T.length + 1) cap)) K (T ++ [t]) vk (.slice (some ⟨g, 0, none⟩) (T.length + 1) cap) ff' → C (a.put o.dst (.slice (some ⟨g, 0, none⟩) (T.length + 1) cap)) w') :
    if Region.wanted o (yielded ops a.tmps) = true then Oper.wp Tryd.prog o a w C Q else E := by
  obtain ⟨i1, hi, hz0, hz1, hz2⟩ := info_parts Tryd.infoTree
  have hp := (he.keep hb1).keep hb
  have hlk := he.keys.lt
  have hls := he.kids.lt
  obtain ⟨xs, hx1, hx2, hx3, hx4⟩ := hp.kids
  refine step_append_lies _ hgd s x 25 ho (W0.heap.size + 1) 27 i1 _ 6 88 Tryd.underlying25 hi hz0 hz1 hz2 rfl (by decide) vs T.length xs hs hx1 ⟨B, 0, none⟩ 1 1 (six t (.slice a5 l5 n5) (.slice a6 l6 n6)) hx rfl (fun j u hu => World.news_of_block hB j u hu) six_one (by decide) (by unfold maxLen; omega) (by omega) hp.size _ rfl ?_
  intro g cap w' hown hg hat _
  have hbk := hg.block _ hp.size (fun e => by have := (hx1.lt _ e.symm).1; omega)
  have hsz := he.size
  refine hk g cap (ff ++ fp) w' ?_ ?_ (hp.addKid hx1 hx2 hx3 hx4 (ht.keep hb) hfn (fun b hb' => ?_) hown hg (spotK_of hat))
  · exact (hp.out.of_block hbk).cells.2.2.2.2.2
  · exact (hp.out.of_block hbk).frozen 5
  · have := hfp b hb'
    exact ⟨by omega, fun e => by have := (hls.1 b e).2; omega, fun e => by have := (hls.2 b e).2; omega, fun e => by have := (hlk b e).2; omega⟩

end Go.Proofs.YtkifacpanipfhaaDoor
