/- The braced text of a tree, as bytes. No program. -/
import Derived.Test.YtclffhejoneiaaaDoorRTreeG
import Derived.Test.YtclffhejoneiaaaDoorRTreeL
import Derived.Test.YtclffhejoneiaaaDoorRQuo
import Derived.Test.YtclffhejoneiaaaDoorRWhoS
namespace Go.Proofs.YtclffhejoneiaaaDoorR
open Go.RowKit

def trueL : List UInt8 := [116, 114, 117, 101]
def falseL : List UInt8 := [102, 97, 108, 115, 101]
def nullL : List UInt8 := [110, 117, 108, 108]
def qL (s : ByteArray) : List UInt8 := (quotedB s).data.toList
def leafL (k : Int) (f : Bool) (n : Int) (s : ByteArray) : List UInt8 :=
  if k = 1 then nullL else if k = 2 then (if f = true then trueL else falseL) else if k = 3 then Lib.itoa n else qL s
def headK (m : Bool) (keys : List ByteArray) (i : Nat) : List UInt8 := (if 0 < i then [44] else []) ++ (if m = true then qL (strAt keys i) ++ [58] else [])
mutual
/-- What a tree is told as. -/
def sayB : Tr → List UInt8
  | .mk k f n s keys kids => if k < 5 then leafL k f n s else (if k = 6 then 123 else 91) :: (sayK (k == 6) keys 0 kids ++ [if k = 6 then 125 else 93])
def sayK (m : Bool) (keys : List ByteArray) (i : Nat) : List Tr → List UInt8
  | [] => []
  | t :: ts => headK m keys i ++ (sayB t ++ sayK m keys (i + 1) ts)
end
theorem say_leaf {t : Tr} (h : t.kind < 5) : sayB t = leafL t.kind t.flag t.num t.text := by
  cases t; simp only [Tr.kind] at h; simp only [sayB, if_pos h, Tr.kind, Tr.flag, Tr.num, Tr.text]
theorem say_list {t : Tr} (h : t.kind = 5) : sayB t = 91 :: (sayK false t.keys 0 t.kids ++ [93]) := by
  cases t; simp only [Tr.kind] at h; subst h; simp only [sayB, Tr.keys, Tr.kids]; rfl
theorem say_map {t : Tr} (h : t.kind = 6) : sayB t = 123 :: (sayK true t.keys 0 t.kids ++ [125]) := by
  cases t; simp only [Tr.kind] at h; subst h; simp only [sayB, Tr.keys, Tr.kids]; rfl
theorem say_null {t : Tr} (h : t.kind = 1) : sayB t = nullL := by rw [say_leaf (by omega), leafL, if_pos h]
theorem say_true {t : Tr} (h : t.kind = 2) (hf : t.flag = true) : sayB t = trueL := by rw [say_leaf (by omega), leafL, if_neg (by omega), if_pos h, if_pos hf]
theorem say_false {t : Tr} (h : t.kind = 2) (hf : t.flag = false) : sayB t = falseL := by rw [say_leaf (by omega), leafL, if_neg (by omega), if_pos h, if_neg (by simp [hf])]
theorem say_int {t : Tr} (h : t.kind = 3) : sayB t = Lib.itoa t.num := by rw [say_leaf (by omega), leafL, if_neg (by omega), if_neg (by omega), if_pos h]
theorem say_text {t : Tr} (h : t.kind = 4) : sayB t = qL t.text := by rw [say_leaf (by omega), leafL, if_neg (by omega), if_neg (by omega), if_neg (by omega)]
theorem kids_drop {l : List Tr} {k : Nat} (h : k < l.length) : l.drop k = kidAt l k :: l.drop (k + 1) := by
  rw [kidAt_mem h]; exact List.drop_eq_getElem_cons h
/-- As far as round k: acc stands, what is still to come is told by the rest. -/
def SayAt (m : Bool) (keys : List ByteArray) (kids : List Tr) (k : Nat) (acc tail all : List UInt8) : Prop := acc ++ (sayK m keys k (kids.drop k) ++ tail) = all
theorem sayAt_start (m : Bool) (keys : List ByteArray) (kids : List Tr) (acc tail : List UInt8) : SayAt m keys kids 0 acc tail (acc ++ (sayK m keys 0 kids ++ tail)) := rfl
theorem sayAt_step {m : Bool} {keys : List ByteArray} {kids : List Tr} {k : Nat} {acc tail all : List UInt8} (h : SayAt m keys kids k acc tail all) (hk : k < kids.length) :
    SayAt m keys kids (k + 1) ((acc ++ headK m keys k) ++ sayB (kidAt kids k)) tail all := by
  rw [SayAt, kids_drop hk, sayK] at h
  rw [SayAt, ← h]; simp only [List.append_assoc]
theorem sayAt_end {m : Bool} {keys : List ByteArray} {kids : List Tr} {k : Nat} {acc tail all : List UInt8} (h : SayAt m keys kids k acc tail all) (hk : kids.length ≤ k) : acc ++ tail = all := by
  rw [SayAt, List.drop_of_length_le hk, sayK, List.nil_append] at h; exact h
theorem sayAt_len {m : Bool} {keys : List ByteArray} {kids : List Tr} {k : Nat} {acc tail all : List UInt8} (h : SayAt m keys kids k acc tail all) : acc.length + tail.length ≤ all.length := by
  rw [SayAt] at h; rw [← h]; simp only [List.length_append]; omega
theorem qL_len (s : ByteArray) : (qL s).length ≤ 6 * s.size + 2 := by
  unfold qL quotedB
  split
  · have := escTo_len s s.size
    simp only [List.length_append, List.length_singleton]; omega
  · simp
theorem itoa_len (n : Int) (h : -9223372036854775808 ≤ n ∧ n ≤ 9223372036854775807) : (Lib.itoa n).length ≤ 21 := by
  have hd : ∀ u : Nat, u < 18446744073709551616 → (Lib.decDigits u).length ≤ 20 := fun u hu => by
    have := DecRel.size (M := u) (m := 0) (t := ⟨(Lib.decDigits u).toArray⟩) (Or.inl ⟨rfl, by simp⟩) hu
    have e : (⟨(Lib.decDigits u).toArray⟩ : ByteArray).size = (Lib.decDigits u).length := by show (List.toArray _).size = _; rw [List.size_toArray]
    omega
  unfold Lib.itoa
  split
  · have := hd n.natAbs (by omega)
    simp only [List.length_cons]; omega
  · have := hd n.natAbs (by omega)
    first | omega | (have := hd n.toNat (by omega); omega)
theorem text_size {s : ByteArray} (h : textOkB s = true) : s.size ≤ 400 := by
  simp only [textOkB, Bool.and_eq_true, decide_eq_true_eq] at h; exact h.1
theorem key_size {l : List ByteArray} (h : keysOkB l = true) (i : Nat) : (strAt l i).size ≤ 400 := by
  rcases Nat.lt_or_ge i l.length with hi | hi
  · rw [keysOkB, List.all_eq_true] at h
    have := h i (List.mem_range.2 hi)
    rw [keyOkAt, Bool.and_eq_true] at this
    exact text_size this.1
  · rw [strAt, List.getD_eq_getElem?_getD, List.getElem?_eq_none hi]; exact Nat.zero_le _
theorem head_kind {t : Tr} (h : headB t = true) : 1 ≤ t.kind ∧ t.kind ≤ 6 ∧ textOkB t.text = true ∧ (t.kind = 6 → t.keys.length = t.kids.length) ∧ (t.kind < 5 → t.kids.length = 0) ∧ (t.kind ≠ 6 → t.keys.length = 0) := by
  simp only [headB, betweenB, Bool.and_eq_true, decide_eq_true_eq, Bool.not_eq_true', Bool.and_eq_false_iff, beq_eq_false_iff_ne, bne_eq_false_iff_eq, decide_eq_false_iff_not, ne_eq] at h
  obtain ⟨⟨h1, h2⟩, -, -, -, h6, h7, h8, h9⟩ := h
  refine ⟨h1, h2, h8, fun e => ?_, fun e => ?_, fun e => ?_⟩
  · rcases h9 with h9 | h9
    · exact absurd e h9
    · exact h9
  · rcases h7 with h7 | h7
    · omega
    · omega
  · rcases h6 with h6 | h6
    · omega
    · exact absurd h6 e
theorem shape_parts {t : Tr} (h : shapeB t = true) : headB t = true ∧ keysOkB t.keys = true ∧ shapeL t.kids = true := by
  rw [shape_eq, Bool.and_eq_true, Bool.and_eq_true] at h; exact h
theorem shapeL_kid : ∀ {l : List Tr} {k : Nat}, shapeL l = true → k < l.length → shapeB (kidAt l k) = true
  | [], k, _, h => by simp at h
  | t :: ts, 0, h, _ => by rw [shapeL, Bool.and_eq_true] at h; exact h.1
  | t :: ts, k + 1, h, hk => by rw [shapeL, Bool.and_eq_true] at h; exact shapeL_kid (l := ts) (k := k) h.2 (by simpa using hk)
theorem headK_len (m : Bool) {keys : List ByteArray} (hk : ∀ j, (strAt keys j).size ≤ 400) (i : Nat) : (headK m keys i).length ≤ 2404 := by
  have h1 := qL_len (strAt keys i)
  have h2 := hk i
  unfold headK
  rw [List.length_append]
  have a : (if 0 < i then [44] else ([] : List UInt8)).length ≤ 1 := by split <;> simp
  have b : (if m = true then qL (strAt keys i) ++ [58] else []).length ≤ 2403 := by
    split
    · rw [List.length_append]; simp only [List.length_singleton]; omega
    · simp
  omega
mutual
theorem sayB_len : ∀ t : Tr, shapeB t = true → t.nums → (sayB t).length + 2500 ≤ 5000 * t.nodes
  | .mk k f n s keys kids, h, hn => by
    obtain ⟨h1, h2, h3⟩ := shape_parts h
    obtain ⟨a1, a2, a3, a4, a5, a6⟩ := head_kind h1
    simp only [Tr.kind, Tr.text, Tr.keys, Tr.kids] at a1 a2 a3 a4 a5 a6 h2 h3
    have hb := nums_bd hn
    simp only [Tr.num] at hb
    have hs := text_size a3
    simp only [Tr.nums] at hn
    have hq := qL_len s
    have hi := itoa_len n hb
    by_cases hk : k < 5
    · rw [sayB, if_pos hk]
      have : (leafL k f n s).length ≤ 2402 := by
        unfold leafL
        split
        · decide
        split
        · split <;> decide
        split
        · omega
        · omega
      simp only [Tr.nodes]; omega
    · rw [sayB, if_neg hk]
      have := sayK_len (k == 6) keys (key_size h2) kids 0 h3 hn.2
      simp only [Tr.nodes, List.length_cons, List.length_append, List.length_nil]; omega
theorem sayK_len (m : Bool) (keys : List ByteArray) (hk : ∀ j, (strAt keys j).size ≤ 400) : ∀ (l : List Tr) (i : Nat), shapeL l = true → numsL l → (sayK m keys i l).length ≤ 5000 * nodesL l
  | [], i, _, _ => by simp [sayK]
  | t :: ts, i, h, hn => by
    rw [shapeL, Bool.and_eq_true] at h
    simp only [numsL] at hn
    have a := sayB_len t h.1 hn.1
    have b := sayK_len m keys hk ts (i + 1) h.2 hn.2
    have c := headK_len m hk i
    simp only [sayK, nodesL, List.length_append]; omega
end

end Go.Proofs.YtclffhejoneiaaaDoorR
