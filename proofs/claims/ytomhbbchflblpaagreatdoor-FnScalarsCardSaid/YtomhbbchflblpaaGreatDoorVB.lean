/- SayP, Dec, Rq, RqS, RqE, RqR, QuoB, WhoR, WhoT, WhoU, RuneI, QuoI, merged. -/
import Derived.Test.YtomhbbchflblpaaGreatDoorTreeG
import Derived.Test.YtomhbbchflblpaaGreatDoorTreeL
import Derived.Test.YtomhbbchflblpaaGreatDoorVA
import Derived.Deep.DeepCutAuto
import Derived.Shelf.Strings.MapAny
import Derived.Deep.RegionLaw
namespace Go.Proofs.YtomhbbchflblpaaGreatDoor
open Go.RowKit

def trueL : List UInt8 := [116, 114, 117, 101]
def falseL : List UInt8 := [102, 97, 108, 115, 101]
def nullL : List UInt8 := [110, 117, 108, 108]
def qL (s : ByteArray) : List UInt8 := (quotedB s).data.toList
def leafL (k : Int) (f : Bool) (n : Int) (s : ByteArray) : List UInt8 :=
  if k = 1 then nullL else if k = 2 then (if f = true then trueL else falseL) else if k = 3 then Lib.itoa n else qL s
def headK (m : Bool) (keys : List ByteArray) (i : Nat) : List UInt8 := (if 0 < i then [44] else []) ++ (if m = true then qL (strAt keys i) ++ [58] else [])
mutual
/-- What a tree is told as. -/
def sayB : Tr → List UInt8
  | .mk k f n s keys kids => if k < 5 then leafL k f n s else (if k = 6 then 123 else 91) :: (sayK (k == 6) keys 0 kids ++ [if k = 6 then 125 else 93])
def sayK (m : Bool) (keys : List ByteArray) (i : Nat) : List Tr → List UInt8
  | [] => []
  | t :: ts => headK m keys i ++ (sayB t ++ sayK m keys (i + 1) ts)
end
theorem say_leaf {t : Tr} (h : t.kind < 5) : sayB t = leafL t.kind t.flag t.num t.text := by
  cases t; simp only [Tr.kind] at h; simp only [sayB, if_pos h, Tr.kind, Tr.flag, Tr.num, Tr.text]
theorem say_list {t : Tr} (h : t.kind = 5) : sayB t = 91 :: (sayK false t.keys 0 t.kids ++ [93]) := by
  cases t; simp only [Tr.kind] at h; subst h; simp only [sayB, Tr.keys, Tr.kids]; rfl
theorem say_map {t : Tr} (h : t.kind = 6) : sayB t = 123 :: (sayK true t.keys 0 t.kids ++ [125]) := by
  cases t; simp only [Tr.kind] at h; subst h; simp only [sayB, Tr.keys, Tr.kids]; rfl
theorem say_null {t : Tr} (h : t.kind = 1) : sayB t = nullL := by rw [say_leaf (by omega), leafL, if_pos h]
theorem say_true {t : Tr} (h : t.kind = 2) (hf : t.flag = true) : sayB t = trueL := by rw [say_leaf (by omega), leafL, if_neg (by omega), if_pos h, if_pos hf]
theorem say_false {t : Tr} (h : t.kind = 2) (hf : t.flag = false) : sayB t = falseL := by rw [say_leaf (by omega), leafL, if_neg (by omega), if_pos h, if_neg (by simp [hf])]
theorem say_int {t : Tr} (h : t.kind = 3) : sayB t = Lib.itoa t.num := by rw [say_leaf (by omega), leafL, if_neg (by omega), if_neg (by omega), if_pos h]
theorem say_text {t : Tr} (h : t.kind = 4) : sayB t = qL t.text := by rw [say_leaf (by omega), leafL, if_neg (by omega), if_neg (by omega), if_neg (by omega)]
theorem kids_drop {l : List Tr} {k : Nat} (h : k < l.length) : l.drop k = kidAt l k :: l.drop (k + 1) := by
  rw [kidAt_mem h]; exact List.drop_eq_getElem_cons h
/-- As far as round k: acc stands, what is still to come is told by the rest. -/
def SayAt (m : Bool) (keys : List ByteArray) (kids : List Tr) (k : Nat) (acc tail all : List UInt8) : Prop := acc ++ (sayK m keys k (kids.drop k) ++ tail) = all
theorem sayAt_start (m : Bool) (keys : List ByteArray) (kids : List Tr) (acc tail : List UInt8) : SayAt m keys kids 0 acc tail (acc ++ (sayK m keys 0 kids ++ tail)) := rfl
theorem sayAt_step {m : Bool} {keys : List ByteArray} {kids : List Tr} {k : Nat} {acc tail all : List UInt8} (h : SayAt m keys kids k acc tail all) (hk : k < kids.length) :
    SayAt m keys kids (k + 1) ((acc ++ headK m keys k) ++ sayB (kidAt kids k)) tail all := by
  rw [SayAt, kids_drop hk, sayK] at h
  rw [SayAt, ← h]; simp only [List.append_assoc]
theorem sayAt_end {m : Bool} {keys : List ByteArray} {kids : List Tr} {k : Nat} {acc tail all : List UInt8} (h : SayAt m keys kids k acc tail all) (hk : kids.length ≤ k) : acc ++ tail = all := by
  rw [SayAt, List.drop_of_length_le hk, sayK, List.nil_append] at h; exact h
theorem sayAt_len {m : Bool} {keys : List ByteArray} {kids : List Tr} {k : Nat} {acc tail all : List UInt8} (h : SayAt m keys kids k acc tail all) : acc.length + tail.length ≤ all.length := by
  rw [SayAt] at h; rw [← h]; simp only [List.length_append]; omega
theorem qL_len (s : ByteArray) : (qL s).length ≤ 6 * s.size + 2 := by
  unfold qL quotedB
  split
  · have := escTo_len s s.size
    simp only [List.length_append, List.length_singleton]; omega
  · simp
theorem itoa_len (n : Int) (h : -9223372036854775808 ≤ n ∧ n ≤ 9223372036854775807) : (Lib.itoa n).length ≤ 21 := by
  have hd : ∀ u : Nat, u < 18446744073709551616 → (Lib.decDigits u).length ≤ 20 := fun u hu => by
    have := DecRel.size (M := u) (m := 0) (t := ⟨(Lib.decDigits u).toArray⟩) (Or.inl ⟨rfl, by simp⟩) hu
    have e : (⟨(Lib.decDigits u).toArray⟩ : ByteArray).size = (Lib.decDigits u).length := by show (List.toArray _).size = _; rw [List.size_toArray]
    omega
  unfold Lib.itoa
  split
  · have := hd n.natAbs (by omega)
    simp only [List.length_cons]; omega
  · have := hd n.natAbs (by omega)
    first | omega | (have := hd n.toNat (by omega); omega)
theorem text_size {s : ByteArray} (h : textOkB s = true) : s.size ≤ 400 := by
  simp only [textOkB, Bool.and_eq_true, decide_eq_true_eq] at h; exact h.1
theorem key_size {l : List ByteArray} (h : keysOkB l = true) (i : Nat) : (strAt l i).size ≤ 400 := by
  rcases Nat.lt_or_ge i l.length with hi | hi
  · rw [keysOkB, List.all_eq_true] at h
    have := h i (List.mem_range.2 hi)
    rw [keyOkAt, Bool.and_eq_true] at this
    exact text_size this.1
  · rw [strAt, List.getD_eq_getElem?_getD, List.getElem?_eq_none hi]; exact Nat.zero_le _
theorem head_kind {t : Tr} (h : headB t = true) : 1 ≤ t.kind ∧ t.kind ≤ 6 ∧ textOkB t.text = true ∧ (t.kind = 6 → t.keys.length = t.kids.length) ∧ (t.kind < 5 → t.kids.length = 0) ∧ (t.kind ≠ 6 → t.keys.length = 0) := by
  simp only [headB, betweenB, Bool.and_eq_true, decide_eq_true_eq, Bool.not_eq_true', Bool.and_eq_false_iff, beq_eq_false_iff_ne, bne_eq_false_iff_eq, decide_eq_false_iff_not, ne_eq] at h
  obtain ⟨⟨h1, h2⟩, -, -, -, h6, h7, h8, h9⟩ := h
  refine ⟨h1, h2, h8, fun e => ?_, fun e => ?_, fun e => ?_⟩
  · rcases h9 with h9 | h9
    · exact absurd e h9
    · exact h9
  · rcases h7 with h7 | h7
    · omega
    · omega
  · rcases h6 with h6 | h6
    · omega
    · exact absurd h6 e
theorem shape_parts {t : Tr} (h : shapeB t = true) : headB t = true ∧ keysOkB t.keys = true ∧ shapeL t.kids = true := by
  rw [shape_eq, Bool.and_eq_true, Bool.and_eq_true] at h; exact h
theorem shapeL_kid : ∀ {l : List Tr} {k : Nat}, shapeL l = true → k < l.length → shapeB (kidAt l k) = true
  | [], k, _, h => by simp at h
  | t :: ts, 0, h, _ => by rw [shapeL, Bool.and_eq_true] at h; exact h.1
  | t :: ts, k + 1, h, hk => by rw [shapeL, Bool.and_eq_true] at h; exact shapeL_kid (l := ts) (k := k) h.2 (by simpa using hk)
theorem headK_len (m : Bool) {keys : List ByteArray} (hk : ∀ j, (strAt keys j).size ≤ 400) (i : Nat) : (headK m keys i).length ≤ 2404 := by
  have h1 := qL_len (strAt keys i)
  have h2 := hk i
  unfold headK
  rw [List.length_append]
  have a : (if 0 < i then [44] else ([] : List UInt8)).length ≤ 1 := by split <;> simp
  have b : (if m = true then qL (strAt keys i) ++ [58] else []).length ≤ 2403 := by
    split
    · rw [List.length_append]; simp only [List.length_singleton]; omega
    · simp
  omega
mutual
theorem sayB_len : ∀ t : Tr, shapeB t = true → t.nums → (sayB t).length + 2500 ≤ 5000 * t.nodes
  | .mk k f n s keys kids, h, hn => by
    obtain ⟨h1, h2, h3⟩ := shape_parts h
    obtain ⟨a1, a2, a3, a4, a5, a6⟩ := head_kind h1
    simp only [Tr.kind, Tr.text, Tr.keys, Tr.kids] at a1 a2 a3 a4 a5 a6 h2 h3
    have hb := nums_bd hn
    simp only [Tr.num] at hb
    have hs := text_size a3
    simp only [Tr.nums] at hn
    have hq := qL_len s
    have hi := itoa_len n hb
    by_cases hk : k < 5
    · rw [sayB, if_pos hk]
      have : (leafL k f n s).length ≤ 2402 := by
        unfold leafL
        split
        · decide
        split
        · split <;> decide
        split
        · omega
        · omega
      simp only [Tr.nodes]; omega
    · rw [sayB, if_neg hk]
      have := sayK_len (k == 6) keys (key_size h2) kids 0 h3 hn.2
      simp only [Tr.nodes, List.length_cons, List.length_append, List.length_nil]; omega
theorem sayK_len (m : Bool) (keys : List ByteArray) (hk : ∀ j, (strAt keys j).size ≤ 400) : ∀ (l : List Tr) (i : Nat), shapeL l = true → numsL l → (sayK m keys i l).length ≤ 5000 * nodesL l
  | [], i, _, _ => by simp [sayK]
  | t :: ts, i, h, hn => by
    rw [shapeL, Bool.and_eq_true] at h
    simp only [numsL] at hn
    have a := sayB_len t h.1 hn.1
    have b := sayK_len m keys hk ts (i + 1) h.2 hn.2
    have c := headK_len m hk i
    simp only [sayK, nodesL, List.length_append]; omega
end

end Go.Proofs.YtomhbbchflblpaaGreatDoor
namespace Go.Proofs.YtomhbbchflblpaaGreatDoor

theorem runeBytes_pos {n : Nat} (h : runeOkN n = true) : 1 ≤ (runeBytes n).length ∧ (runeBytes n).length ≤ 4 := by
  rw [bytes_len, if_pos h]
  split
  · omega
  split
  · omega
  split <;> omega
theorem decode_of_bytes (s : ByteArray) (k n : Nat) (ho : runeOkN n = true) (h : btake s k (runeBytes n).length = runeBytes n) (hk : k + (runeBytes n).length ≤ s.size) :
    Utf8.decode s k = (n, (runeBytes n).length) := by
  have hle : n ≤ 1114111 := by simp only [runeOkN, Bool.and_eq_true, decide_eq_true_eq] at ho; omega
  have hpos := runeBytes_pos ho
  have key : ∀ r, rsize (bt s k) = r → r = (runeBytes n).length → racc s k r = n → (∀ i, 1 ≤ i → i < r → contB (bt s (k + i)) = true) → Utf8.decode s k = (n, (runeBytes n).length) := by
    intro r h1 h2 h3 h4
    subst h1
    rcases dec_end s k (by omega) h4 with ⟨_, b, _⟩ | ⟨a, _⟩
    · rw [b, h3, h2]
    · rw [h3, h2] at a; exact absurd h.symm a
  by_cases g1 : n < 128
  · have e : runeBytes n = [n] := by rw [runeBytes, if_pos ho, if_pos g1]
    rw [e] at h
    have h0 : bt s k = n := by simpa [btake] using h
    refine key 1 ?_ (by rw [e]; rfl) ?_ (fun i h1 h2 => by omega)
    · rw [h0]; unfold rsize; rw [if_neg (by omega), if_neg (by omega), if_neg (by omega)]
    · show rhead (bt s k) = n
      rw [h0, rhead, if_neg (by omega), if_neg (by omega), if_neg (by omega)]
  by_cases g2 : n < 2048
  · have e : runeBytes n = [192 + n / 64, 128 + n % 64] := by rw [runeBytes, if_pos ho, if_neg g1, if_pos g2]
    rw [e] at h
    have h0 : bt s k = 192 + n / 64 ∧ bt s (k + 1) = 128 + n % 64 := by simpa [btake] using h
    obtain ⟨h0, h1⟩ := h0
    refine key 2 ?_ (by rw [e]; rfl) ?_ (fun i i1 i2 => ?_)
    · rw [h0]; unfold rsize; rw [if_neg (by omega), if_neg (by omega), if_pos (by omega)]
    · show 64 * rhead (bt s k) + (bt s (k + 1) - 128) = n
      rw [h0, h1, rhead, if_neg (by omega), if_neg (by omega), if_pos (by omega)]; omega
    · obtain rfl : i = 1 := by omega
      rw [h1]; simp [contB]; omega
  by_cases g3 : n < 65536
  · have e : runeBytes n = [224 + n / 4096, 128 + n / 64 % 64, 128 + n % 64] := by rw [runeBytes, if_pos ho, if_neg g1, if_neg g2, if_pos g3]
    rw [e] at h
    have h0 : bt s k = 224 + n / 4096 ∧ bt s (k + 1) = 128 + n / 64 % 64 ∧ bt s (k + 2) = 128 + n % 64 := by simpa [btake] using h
    obtain ⟨h0, h1, h2⟩ := h0
    refine key 3 ?_ (by rw [e]; rfl) ?_ (fun i i1 i2 => ?_)
    · rw [h0]; unfold rsize; rw [if_neg (by omega), if_pos (by omega)]
    · show 64 * (64 * rhead (bt s k) + (bt s (k + 1) - 128)) + (bt s (k + 2) - 128) = n
      rw [h0, h1, h2, rhead, if_neg (by omega), if_pos (by omega)]; omega
    · rcases (show i = 1 ∨ i = 2 by omega) with rfl | rfl
      · rw [h1]; simp [contB]; omega
      · rw [h2]; simp [contB]; omega
  · have e : runeBytes n = [240 + n / 262144, 128 + n / 4096 % 64, 128 + n / 64 % 64, 128 + n % 64] := by rw [runeBytes, if_pos ho, if_neg g1, if_neg g2, if_neg g3]
    rw [e] at h
    have h0 : bt s k = 240 + n / 262144 ∧ bt s (k + 1) = 128 + n / 4096 % 64 ∧ bt s (k + 2) = 128 + n / 64 % 64 ∧ bt s (k + 3) = 128 + n % 64 := by simpa [btake] using h
    obtain ⟨h0, h1, h2, h3⟩ := h0
    refine key 4 ?_ (by rw [e]; rfl) ?_ (fun i i1 i2 => ?_)
    · rw [h0]; unfold rsize; rw [if_pos (by omega)]
    · show 64 * (64 * (64 * rhead (bt s k) + (bt s (k + 1) - 128)) + (bt s (k + 2) - 128)) + (bt s (k + 3) - 128) = n
      rw [h0, h1, h2, h3, rhead, if_pos (by omega)]; omega
    · rcases (show i = 1 ∨ i = 2 ∨ i = 3 by omega) with rfl | rfl | rfl
      · rw [h1]; simp [contB]; omega
      · rw [h2]; simp [contB]; omega
      · rw [h3]; simp [contB]; omega
theorem runeOk_good {n m : Nat} (ho : runeOkN n = true) (hm : m = (runeBytes n).length) : badD (n, m) = false := by
  cases h : badD (n, m)
  · rfl
  · exfalso
    have := (badD_iff _).1 h
    simp only at this
    obtain ⟨rfl, h1⟩ := this
    rw [hm, bytes_len, if_pos ho] at h1
    simp at h1

theorem btake_len (s : ByteArray) (k : Nat) : ∀ m, (btake s k m).length = m
  | 0 => rfl
  | m + 1 => by simp [btake, btake_len s k m]
theorem btake_get (s : ByteArray) (k : Nat) : ∀ m i, i < m → (btake s k m).getD i 0 = bt s (k + i)
  | 0, _, h => by omega
  | m + 1, i, h => by
    rw [btake, List.getD_eq_getElem?_getD]
    by_cases hi : i < m
    · rw [List.getElem?_append_left (by rw [btake_len]; exact hi), ← List.getD_eq_getElem?_getD]
      exact btake_get s k m i hi
    · obtain rfl : i = m := by omega
      rw [List.getElem?_append_right (by rw [btake_len]; omega), btake_len]
      simp
/-- Bytes at k, as the text's list has them. -/
theorem btake_of_list (s : ByteArray) (k : Nat) (l : List Nat) (h8 : ∀ x ∈ l, x < 256) (h : (s.data.toList.drop k).take l.length = l.map UInt8.ofNat) : btake s k l.length = l := by
  apply List.ext_getElem?
  intro i
  by_cases hi : i < l.length
  · have h1 : s.data.toList[k + i]? = some (UInt8.ofNat l[i]) := by
      have := congrArg (·[i]?) h
      simpa [List.getElem?_take, hi, List.getElem?_drop] using this
    have hk : k + i < s.size := by
      have := (List.getElem?_eq_some_iff.1 h1).1
      simpa using this
    have h2 := btake_get s k l.length i hi
    rw [List.getD_eq_getElem?_getD, List.getElem?_eq_getElem (by rw [btake_len]; exact hi)] at h2
    rw [List.getElem?_eq_getElem (by rw [btake_len]; exact hi), List.getElem?_eq_getElem hi]
    simp only [Option.getD_some] at h2
    rw [h2, bt_eq s (k + i) hk]
    have h3 : s.data.toList[k + i]? = some s[k + i] := by
      rw [List.getElem?_eq_getElem (by simpa using hk)]; rfl
    rw [h3] at h1
    have h4 : s[k + i] = UInt8.ofNat l[i] := by simpa using h1
    rw [h4]
    have := h8 l[i] (List.getElem_mem hi)
    simp; omega
  · rw [List.getElem?_eq_none (by rw [btake_len]; omega), List.getElem?_eq_none (by omega)]

/-- Texts of code points. -/
def rtexts (l : List Int) : List UInt8 := l.flatMap rtext
theorem rtext_of (n : Int) : (rtext n = [] ∧ runeOkZ n = false) ∨ ∃ m : Nat, n = (m : Int) ∧ runeOkN m = true ∧ rtext n = (runeBytes m).map UInt8.ofNat := by
  cases h : runeOkZ n
  · exact .inl ⟨rtext_bad h, rfl⟩
  · right
    have h0 : 0 ≤ n := by simp [runeOkZ, betweenB] at h; omega
    obtain ⟨m, rfl⟩ := Int.eq_ofNat_of_zero_le h0
    exact ⟨m, rfl, by rw [← runeOkZ_nat]; exact h, rtext_nat m⟩
theorem rtext_len4 (n : Int) : (rtext n).length ≤ 4 := by
  rcases rtext_of n with ⟨h, _⟩ | ⟨m, rfl, ho, h⟩
  · rw [h]; simp
  · rw [h, List.length_map]; exact (runeBytes_pos ho).2
theorem rtexts_len (l : List Int) : (rtexts l).length ≤ 4 * l.length := by
  induction l with
  | nil => simp [rtexts]
  | cons n l ih =>
    have := rtext_len4 n
    simp only [rtexts, List.flatMap_cons, List.length_append, List.length_cons] at ih ⊢
    omega
theorem rtexts_snoc (l : List Int) (n : Int) : rtexts (l ++ [n]) = rtexts l ++ rtext n := by simp [rtexts]
theorem rtexts_valid (s : ByteArray) : ∀ (l : List Int) (f k : Nat) (acc : List Nat), s.data.toList.drop k = rtexts l → s.size < k + f → k ≤ s.size → (rgo s f k acc).isSome = true
  | [], f, k, acc, h, hf, hks => by
    have hk : s.size ≤ k := by
      have := congrArg List.length h
      simp [rtexts] at this
      omega
    cases f with
    | zero => omega
    | succ f => rw [rgo, if_pos hk]; rfl
  | n :: l, f, k, acc, h, hf, hks => by
    have hcons : rtexts (n :: l) = rtext n ++ rtexts l := by simp [rtexts]
    rw [hcons] at h
    rcases rtext_of n with ⟨h1, _⟩ | ⟨m, rfl, ho, h1⟩
    · rw [h1, List.nil_append] at h
      exact rtexts_valid s l f k acc h hf hks
    · rw [h1] at h
      have hp := runeBytes_pos ho
      have hl : (runeBytes m).length ≤ s.size - k := by
        have := congrArg List.length h
        simp at this
        omega
      have hb : btake s k (runeBytes m).length = runeBytes m := by
        refine btake_of_list s k (runeBytes m) (runeBytes_lt m) ?_
        rw [h]
        rw [List.take_left' (by simp)]
      have hd := decode_of_bytes s k m ho hb (by omega)
      cases f with
      | zero => omega
      | succ f =>
        rw [rgo, if_neg (by omega), hd, if_neg (by rw [runeOk_good ho rfl]; simp)]
        refine rtexts_valid s l f _ _ ?_ (by simp only; omega) (by simp only; omega)
        simp only
        rw [← List.drop_drop, h, List.drop_left' (by simp)]
/-- A text of code points is valid. -/
theorem rtexts_some (l : List Int) : (runesO ⟨(rtexts l).toArray⟩).isSome = true :=
  rtexts_valid _ l _ 0 [] (by simp) (by omega) (by omega)
/-- What the code points of a text tell is the text. -/
theorem rgo_text (s : ByteArray) : ∀ f k acc L, rgo s f k acc = some L → k ≤ s.size → rtexts (acc.map (Nat.cast : Nat → Int)) = s.data.toList.take k → rtexts (L.map (Nat.cast : Nat → Int)) = s.data.toList
  | 0, _, _, _, h, _, _ => by cases h
  | f + 1, k, acc, L, h, hk, ha => by
    rw [rgo] at h
    by_cases h1 : s.size ≤ k
    · rw [if_pos h1] at h
      cases h
      rw [ha, List.take_of_length_le (by simpa using h1)]
    · rw [if_neg h1] at h
      split at h
      · cases h
      · rename_i hb
        have hb : badD (Utf8.decode s k) = false := by simpa using hb
        obtain ⟨h2, h3⟩ := dec_bytes s k (by omega) hb
        have h4 := width_le s k (by omega)
        refine rgo_text s f _ _ L h h4 ?_
        rw [List.map_append, List.map_singleton, rtexts_snoc, ha, rtext_nat, ← h2, List.take_add]
        congr 1
        have := btake_ext s k (Utf8.decode s k).2 h4
        rw [Lib.extract_toList, Nat.add_sub_cancel_left] at this
        exact this.symm
theorem runes_text {s : ByteArray} {L : List Nat} (h : runesO s = some L) : rtexts (L.map (Nat.cast : Nat → Int)) = s.data.toList :=
  rgo_text s _ 0 [] L h (by omega) (by simp [rtexts])

end Go.Proofs.YtomhbbchflblpaaGreatDoor
namespace Go.Proofs.YtomhbbchflblpaaGreatDoor

def hexO (b : Nat) : Option Nat := if 48 ≤ b ∧ b ≤ 57 then some (b - 48) else if 65 ≤ b ∧ b ≤ 70 then some (b - 55) else if 97 ≤ b ∧ b ≤ 102 then some (b - 87) else none
/-- The number that i hexadecimal digits at k tell. -/
def hexTo (s : ByteArray) (k : Nat) : Nat → Option Nat
  | 0 => some 0
  | i + 1 => (hexTo s k i).bind fun n => (hexO (bt s (k + i))).map fun d => 16 * n + d
theorem hexO_lt {b d : Nat} (h : hexO b = some d) : d < 16 := by
  unfold hexO at h
  split at h
  · cases h; omega
  split at h
  · cases h; omega
  split at h
  · cases h; omega
  · cases h
theorem hexTo_lt (s : ByteArray) (k : Nat) : ∀ i n, hexTo s k i = some n → n < 16 ^ i
  | 0, n, h => by cases h; simp
  | i + 1, n, h => by
    simp only [hexTo, Option.bind_eq_some_iff, Option.map_eq_some_iff] at h
    obtain ⟨m, hm, d, hd, rfl⟩ := h
    have := hexTo_lt s k i m hm
    have := hexO_lt hd
    rw [Nat.pow_succ]; omega
theorem hexTo_none {s : ByteArray} {k i : Nat} (h : hexO (bt s (k + i)) = none) : ∀ j, i < j → hexTo s k j = none
  | 0, hj => by omega
  | j + 1, hj => by
    rcases Nat.lt_or_ge i j with h1 | h1
    · rw [hexTo, hexTo_none h j h1]; rfl
    · obtain rfl : i = j := by omega
      rw [hexTo, h]
      cases hexTo s k i <;> rfl
def fourO (s : ByteArray) (k : Nat) : Option Nat := if s.size < k + 4 then none else hexTo s k 4
theorem fourO_some {s : ByteArray} {k n : Nat} (h : fourO s k = some n) : k + 4 ≤ s.size ∧ n < 65536 := by
  unfold fourO at h
  split at h
  · cases h
  · exact ⟨by omega, hexTo_lt s k 4 n h⟩

/-- What stands behind a backslash that stands ahead of k: the code point, and where it ends. -/
def escO (s : ByteArray) (k : Nat) : Option (Nat × Nat) :=
  if s.size ≤ k then none
  else if bt s k = 34 ∨ bt s k = 92 ∨ bt s k = 47 then some (bt s k, k + 1)
  else if bt s k = 98 then some (8, k + 1)
  else if bt s k = 102 then some (12, k + 1)
  else if bt s k = 110 then some (10, k + 1)
  else if bt s k = 114 then some (13, k + 1)
  else if bt s k = 116 then some (9, k + 1)
  else if bt s k = 117 then
    match fourO s (k + 1) with
    | none => none
    | some n =>
      if 56320 ≤ n ∧ n ≤ 57343 then none
      else if ¬ (55296 ≤ n ∧ n ≤ 56319) then some (n, k + 5)
      else if bt s (k + 5) = 92 ∧ bt s (k + 6) = 117 then
        match fourO s (k + 7) with
        | none => none
        | some m => if 56320 ≤ m ∧ m ≤ 57343 then some (65536 + 1024 * (n - 55296) + (m - 56320), k + 11) else none
      else none
  else none
theorem escO_some {s : ByteArray} {k n k' : Nat} (h : escO s k = some (n, k')) : k < k' ∧ k' ≤ s.size ∧ n ≤ 1114111 := by
  unfold escO at h
  by_cases h0 : s.size ≤ k
  · rw [if_pos h0] at h; cases h
  rw [if_neg h0] at h
  by_cases h1 : bt s k = 34 ∨ bt s k = 92 ∨ bt s k = 47
  · rw [if_pos h1] at h; cases h; omega
  rw [if_neg h1] at h
  by_cases h2 : bt s k = 98
  · rw [if_pos h2] at h; cases h; omega
  rw [if_neg h2] at h
  by_cases h3 : bt s k = 102
  · rw [if_pos h3] at h; cases h; omega
  rw [if_neg h3] at h
  by_cases h4 : bt s k = 110
  · rw [if_pos h4] at h; cases h; omega
  rw [if_neg h4] at h
  by_cases h5 : bt s k = 114
  · rw [if_pos h5] at h; cases h; omega
  rw [if_neg h5] at h
  by_cases h6 : bt s k = 116
  · rw [if_pos h6] at h; cases h; omega
  rw [if_neg h6] at h
  by_cases h7 : bt s k = 117
  · rw [if_pos h7] at h
    cases hf : fourO s (k + 1) with
    | none => rw [hf] at h; cases h
    | some a =>
      rw [hf] at h
      have ha := fourO_some hf
      simp only at h
      by_cases g1 : 56320 ≤ a ∧ a ≤ 57343
      · rw [if_pos g1] at h; cases h
      rw [if_neg g1] at h
      by_cases g2 : 55296 ≤ a ∧ a ≤ 56319
      · rw [if_neg (by simpa using g2)] at h
        by_cases g3 : bt s (k + 5) = 92 ∧ bt s (k + 6) = 117
        · rw [if_pos g3] at h
          cases hg : fourO s (k + 7) with
          | none => rw [hg] at h; cases h
          | some b =>
            rw [hg] at h
            have hb := fourO_some hg
            simp only at h
            by_cases g4 : 56320 ≤ b ∧ b ≤ 57343
            · rw [if_pos g4] at h
              simp only [Option.some.injEq, Prod.mk.injEq] at h
              omega
            · rw [if_neg g4] at h; cases h
        · rw [if_neg g3] at h; cases h
      · rw [if_pos g2] at h; cases h; omega
  · rw [if_neg h7] at h; cases h

/-- The code point at k of a quoted text, and where the next one begins. -/
def stepO (s : ByteArray) (k : Nat) : Option (Nat × Nat) :=
  if bt s k = 92 then escO s (k + 1) else if badD (Utf8.decode s k) = true ∨ (Utf8.decode s k).1 < 32 then none else some ((Utf8.decode s k).1, k + (Utf8.decode s k).2)
theorem stepO_some {s : ByteArray} {k n k' : Nat} (hk : k < s.size) (h : stepO s k = some (n, k')) : k < k' ∧ k' ≤ s.size ∧ n ≤ 1114111 := by
  unfold stepO at h
  split at h
  · have := escO_some h; omega
  · split at h
    · cases h
    · rename_i hn
      have hb : badD (Utf8.decode s k) = false := by
        cases hb : badD (Utf8.decode s k)
        · rfl
        · exact absurd (.inl hb) hn
      have ho := (dec_bytes s k hk hb).2
      simp only [runeOkN, Bool.and_eq_true, decide_eq_true_eq] at ho
      cases h
      have := Lib.decode_width_pos s k hk
      have := width_le s k hk
      omega
/-- The text from k on, behind acc, as far as its closing quote. -/
def rq (s : ByteArray) : Nat → Nat → List UInt8 → Option (List UInt8 × Nat)
  | 0, _, _ => none
  | f + 1, k, acc => if s.size ≤ k then none else if bt s k = 34 then some (acc, k + 1) else
    match stepO s k with
    | none => none
    | some (n, k') => rq s f k' (acc ++ rtext (n : Int))
theorem rq_out {s : ByteArray} {f k : Nat} {acc : List UInt8} (h : s.size ≤ k) : rq s f k acc = none := by
  cases f with
  | zero => rfl
  | succ f => rw [rq, if_pos h]
theorem rq_quote {s : ByteArray} {f k : Nat} {acc : List UInt8} (h : k < s.size) (hf : s.size < k + f) (hq : bt s k = 34) : rq s f k acc = some (acc, k + 1) := by
  cases f with
  | zero => omega
  | succ f => rw [rq, if_neg (by omega), if_pos hq]
theorem rq_bad {s : ByteArray} {f k : Nat} {acc : List UInt8} (h : k < s.size) (hq : bt s k ≠ 34) (hb : stepO s k = none) : rq s f k acc = none := by
  cases f with
  | zero => rfl
  | succ f => rw [rq, if_neg (by omega), if_neg hq, hb]
theorem rq_step {s : ByteArray} {f k n k' : Nat} {acc : List UInt8} (h : k < s.size) (hf : s.size < k + f) (hq : bt s k ≠ 34) (hb : stepO s k = some (n, k')) :
    ∃ f', s.size < k' + f' ∧ rq s f' k' (acc ++ rtext (n : Int)) = rq s f k acc := by
  cases f with
  | zero => omega
  | succ f =>
    have := stepO_some h hb
    exact ⟨f, by omega, by rw [rq, if_neg (by omega), if_neg hq, hb]⟩

def readQ (s : ByteArray) (p : Int) : Option (List UInt8 × Nat) := if 0 ≤ p ∧ p < s.size ∧ bt s p.toNat = 34 then rq s (s.size + 1) (p.toNat + 1) [] else none
def qText : Option (List UInt8 × Nat) → ByteArray
  | none => ⟨#[]⟩
  | some (l, _) => ⟨l.toArray⟩
def qEnd : Option (List UInt8 × Nat) → Int
  | none => -1
  | some (_, k) => k
theorem rq_end_le {s : ByteArray} : ∀ f k acc l e, rq s f k acc = some (l, e) → k < e ∧ e ≤ s.size
  | 0, _, _, _, _, h => by cases h
  | f + 1, k, acc, l, e, h => by
    rw [rq] at h
    by_cases h1 : s.size ≤ k
    · rw [if_pos h1] at h; cases h
    rw [if_neg h1] at h
    by_cases h2 : bt s k = 34
    · rw [if_pos h2] at h; cases h; omega
    rw [if_neg h2] at h
    cases hs : stepO s k with
    | none => rw [hs] at h; cases h
    | some x =>
      obtain ⟨n, k'⟩ := x
      rw [hs] at h
      have h3 := stepO_some (by omega) hs
      have h4 := rq_end_le f k' _ l e h
      omega

end Go.Proofs.YtomhbbchflblpaaGreatDoor
namespace Go.Proofs.YtomhbbchflblpaaGreatDoor
open Go.RowKit

def valZ (c : Int) : Int := if 48 ≤ c ∧ c ≤ 57 then c - 48 else if 97 ≤ c ∧ c ≤ 102 then c - 87 else -1
theorem sValue (c : Int) (w : World) (h0 : 0 ≤ c) (h1 : c ≤ 255) : Calls Tryz.prog 126 #[.int .u8 c] w fun e w' => e = .returned (.int .i64 (valZ c)) ∧ w = w' := by
  have H : Hid (valZ c = if 48 ≤ c ∧ c ≤ 57 then c - 48 else if 97 ≤ c ∧ c ≤ 102 then c - 87 else -1) := rfl
  rcases (show c < 48 ∨ (48 ≤ c ∧ c ≤ 57) ∨ (58 ≤ c ∧ c < 97) ∨ (97 ≤ c ∧ c ≤ 102) ∨ 103 ≤ c by omega) with g | ⟨g, g'⟩ | ⟨g, g'⟩ | ⟨g, g'⟩ | g
  all_goals
    go_enter Tryz.func126, Tryz.ntmps126
    go_wp2
    go_ret
    refine ⟨ret_int ?_, rfl⟩
    rw [H.out]
    first
      | (rw [if_pos (by omega)]; done)
      | (rw [if_neg (by omega), if_pos (by omega)]; omega)
      | (rw [if_neg (by omega), if_neg (by omega)]; done)
def zOf (b : Nat) : Int := if 65 ≤ b ∧ b ≤ 70 then valZ ((b : Int) + 32) else valZ (b : Int)
theorem zOf_cases (b : Nat) : (hexO b = none ∧ zOf b = -1) ∨ ∃ d, d < 16 ∧ hexO b = some d ∧ zOf b = (d : Int) := by
  unfold zOf hexO valZ
  rcases (show b < 48 ∨ (48 ≤ b ∧ b ≤ 57) ∨ (58 ≤ b ∧ b < 65) ∨ (65 ≤ b ∧ b ≤ 70) ∨ (71 ≤ b ∧ b < 97) ∨ (97 ≤ b ∧ b ≤ 102) ∨ 103 ≤ b by omega) with g | g | g | g | g | g | g
  · left; rw [if_neg (by omega), if_neg (by omega), if_neg (by omega), if_neg (by omega), if_neg (by omega), if_neg (by omega)]; exact ⟨rfl, rfl⟩
  · right; rw [if_pos (by omega), if_neg (by omega), if_pos (by omega)]; exact ⟨b - 48, by omega, rfl, by omega⟩
  · left; rw [if_neg (by omega), if_neg (by omega), if_neg (by omega), if_neg (by omega), if_neg (by omega), if_neg (by omega)]; exact ⟨rfl, rfl⟩
  · right; rw [if_neg (by omega), if_pos (by omega), if_pos (by omega), if_neg (by omega), if_pos (by omega)]; exact ⟨b - 55, by omega, rfl, by omega⟩
  · left; rw [if_neg (by omega), if_neg (by omega), if_neg (by omega), if_neg (by omega), if_neg (by omega), if_neg (by omega)]; exact ⟨rfl, rfl⟩
  · right; rw [if_neg (by omega), if_neg (by omega), if_pos (by omega), if_neg (by omega), if_neg (by omega), if_pos (by omega)]; exact ⟨b - 87, by omega, rfl, by omega⟩
  · left; rw [if_neg (by omega), if_neg (by omega), if_neg (by omega), if_neg (by omega), if_neg (by omega), if_neg (by omega)]; exact ⟨rfl, rfl⟩

def fourZ (s : ByteArray) (k : Nat) : Int := match fourO s k with | none => -1 | some n => (n : Int)
theorem fourZ_none {s : ByteArray} {k : Nat} (h : fourO s k = none) : fourZ s k = -1 := by rw [fourZ, h]
theorem fourZ_some {s : ByteArray} {k n : Nat} (h : fourO s k = some n) : fourZ s k = n := by rw [fourZ, h]

set_option maxHeartbeats 1000000 in
theorem sFour (s : ByteArray) (k : Nat) (p : Int) (w : World) (hs : s.size ≤ 1048576) (hk : k ≤ 2000000) (hp : p = (k : Int)) : Calls Tryz.prog 115 #[.string s, .int .i64 p] w fun e w' => e = .returned (.int .i64 (fourZ s k)) ∧ w = w' := by
  subst hp
  by_cases hin : s.size < k + 4
  · have H := Lib.hid (fourZ_none (show fourO s k = none by rw [fourO, if_pos hin]))
    have hd : decide ((s.size : Int) < (k : Int) + 4) = true := decide_eq_true (by omega)
    clear hin
    go_enter Tryz.func115, Tryz.ntmps115
    go_wp2
    go_ret
    exact ⟨ret_int H.out.symm, rfl⟩
  have HF := Lib.hid (show fourO s k = hexTo s k 4 by rw [fourO, if_neg hin])
  have hd : decide ((s.size : Int) < (k : Int) + 4) = false := decide_eq_false (by omega)
  have hin2 : k + 4 ≤ s.size := by omega
  clear hin
  go_enter Tryz.func115, Tryz.ntmps115
  go_wp2
  clear hd
  go_loop [5, 6] (fun n i => ∃ q m : Nat, k ≤ q ∧ q ≤ k + 4 ∧ i = .int .i64 q ∧ n = .int .i64 m ∧ hexTo s k (q - k) = some m) (fun _ i => k + 4 - (intOf i).toNat)
  case atStart => exact ⟨k, 0, by omega, by omega, rfl, rfl, by rw [Nat.sub_self]; rfl⟩
  case round =>
    obtain ⟨q, m, hq, hq4, rfl, rfl, hx⟩ := hrel
    have HX := Lib.hid hx
    have hm : m ≤ 1048576 := by
      have h1 := hexTo_lt s k _ m hx
      have h2 : (16 : Nat) ^ (q - k) ≤ 16 ^ 4 := Nat.pow_le_pow_right (by omega) (by omega)
      have h3 : (16 : Nat) ^ 4 = 65536 := rfl
      omega
    clear hx
    by_cases hlt : q < k + 4
    · have hqs : q < s.size := by omega
      have hlt' : decide ((q : Int) < (k : Int) + 4) = true := decide_eq_true (by omega)
      have HB := Lib.hid (bt_eq s q hqs)
      have HS := Lib.hid (show hexTo s k (q + 1 - k) = (hexTo s k (q - k)).bind fun n => (hexO (bt s q)).map fun d => 16 * n + d by
        have e : q + 1 - k = (q - k) + 1 := by omega
        have e2 : k + (q - k) = q := by omega
        rw [e, hexTo, e2])
      have h255 : (s[q].toNat : Int) ≤ 255 := by have := UInt8.toNat_lt s[q]; omega
      have hz : Hid ((65 ≤ s[q].toNat ∧ s[q].toNat ≤ 70 → valZ ((s[q].toNat : Int) + 32) = zOf s[q].toNat) ∧ (¬ (65 ≤ s[q].toNat ∧ s[q].toNat ≤ 70) → valZ (s[q].toNat : Int) = zOf s[q].toNat)) :=
        ⟨fun h => by rw [zOf, if_pos h], fun h => by rw [zOf, if_neg h]⟩
      have HC := Lib.hid (zOf_cases s[q].toNat)
      rcases (show (s[q].toNat : Int) < 65 ∨ (65 ≤ (s[q].toNat : Int) ∧ (s[q].toNat : Int) ≤ 70) ∨ 71 ≤ (s[q].toNat : Int) by omega) with g | ⟨g, g'⟩ | g
      all_goals
        rcases HC.out with ⟨c1, c2⟩ | ⟨d, hd16, c1, c2⟩
      all_goals
        have C1 := Lib.hid c1; have C2 := Lib.hid c2; clear c1 c2
      all_goals
        go_wp2_with (go_at_call 126; refine (sValue _ _ (by omega) (by omega)).mono ?_; first | rw [hz.out.1 (by omega), C2.out] | rw [hz.out.2 (by omega), C2.out]; rintro e w' ⟨rfl, rfl⟩)
      all_goals
        first
          | (go_ret
             refine ⟨ret_int ?_, rfl⟩
             rw [fourZ_none]
             rw [HF.out]
             refine hexTo_none (i := q - k) ?_ 4 (by omega)
             have e2 : k + (q - k) = q := by omega
             rw [e2, HB.out]
             exact C1.out)
          | (go_round
             case rel => exact ⟨q + 1, 16 * m + d, by omega, by omega, by go_num, by go_num, by rw [HS.out, HX.out, HB.out, C1.out]; rfl⟩
             case measure => simp [intOf]; omega)
    · have hlt' : decide ((q : Int) < (k : Int) + 4) = false := decide_eq_false (by omega)
      have H := Lib.hid (fourZ_some (show fourO s k = some m by
        rw [HF.out]
        have e : q - k = 4 := by omega
        have := HX.out
        rw [e] at this
        exact this))
      go_wp2
      go_ret
      exact ⟨ret_int H.out.symm, rfl⟩

end Go.Proofs.YtomhbbchflblpaaGreatDoor
namespace Go.Proofs.YtomhbbchflblpaaGreatDoor
open Go.RowKit

def stN : Option (Nat × Nat) → Int
  | none => 0
  | some (n, _) => n
def stE : Option (Nat × Nat) → Int
  | none => -1
  | some (_, e) => e

theorem esc_out {s : ByteArray} {k : Nat} (h : s.size ≤ k) : escO s k = none := by rw [escO, if_pos h]
theorem esc_lit {s : ByteArray} {k b : Nat} (h : k < s.size) (hb : bt s k = b) (h1 : b = 34 ∨ b = 92 ∨ b = 47) : escO s k = some (b, k + 1) := by
  rw [escO, if_neg (by omega), hb, if_pos h1]
theorem esc_ctl {s : ByteArray} {k b c : Nat} (h : k < s.size) (hb : bt s k = b) (h1 : (b = 98 ∧ c = 8) ∨ (b = 102 ∧ c = 12) ∨ (b = 110 ∧ c = 10) ∨ (b = 114 ∧ c = 13) ∨ (b = 116 ∧ c = 9)) : escO s k = some (c, k + 1) := by
  rw [escO, if_neg (by omega), hb]
  rcases h1 with ⟨rfl, rfl⟩ | ⟨rfl, rfl⟩ | ⟨rfl, rfl⟩ | ⟨rfl, rfl⟩ | ⟨rfl, rfl⟩ <;> rfl
theorem esc_other {s : ByteArray} {k : Nat} (h : bt s k ≠ 34 ∧ bt s k ≠ 92 ∧ bt s k ≠ 47 ∧ bt s k ≠ 98 ∧ bt s k ≠ 102 ∧ bt s k ≠ 110 ∧ bt s k ≠ 114 ∧ bt s k ≠ 116 ∧ bt s k ≠ 117) : escO s k = none := by
  by_cases h0 : s.size ≤ k
  · exact esc_out h0
  · rw [escO, if_neg h0, if_neg (by omega), if_neg (by omega), if_neg (by omega), if_neg (by omega), if_neg (by omega), if_neg (by omega), if_neg (by omega)]
theorem esc_u {s : ByteArray} {k : Nat} (h : k < s.size) (hb : bt s k = 117) : escO s k =
    match fourO s (k + 1) with
    | none => none
    | some n =>
      if 56320 ≤ n ∧ n ≤ 57343 then none
      else if ¬ (55296 ≤ n ∧ n ≤ 56319) then some (n, k + 5)
      else if bt s (k + 5) = 92 ∧ bt s (k + 6) = 117 then
        match fourO s (k + 7) with
        | none => none
        | some m => if 56320 ≤ m ∧ m ≤ 57343 then some (65536 + 1024 * (n - 55296) + (m - 56320), k + 11) else none
      else none := by
  rw [escO, if_neg (by omega), hb]
  rfl
theorem esc_u0 {s : ByteArray} {k : Nat} (h : k < s.size) (hb : bt s k = 117) (hf : fourO s (k + 1) = none) : escO s k = none := by rw [esc_u h hb, hf]
theorem esc_u1 {s : ByteArray} {k n : Nat} (h : k < s.size) (hb : bt s k = 117) (hf : fourO s (k + 1) = some n) (h1 : 56320 ≤ n ∧ n ≤ 57343) : escO s k = none := by
  rw [esc_u h hb, hf]; exact if_pos h1
theorem esc_u2 {s : ByteArray} {k n : Nat} (h : k < s.size) (hb : bt s k = 117) (hf : fourO s (k + 1) = some n) (h1 : ¬ (56320 ≤ n ∧ n ≤ 57343)) (h2 : ¬ (55296 ≤ n ∧ n ≤ 56319)) : escO s k = some (n, k + 5) := by
  rw [esc_u h hb, hf]; exact (if_neg h1).trans (if_pos h2)
theorem esc_u3 {s : ByteArray} {k n : Nat} (h : k < s.size) (hb : bt s k = 117) (hf : fourO s (k + 1) = some n) (h2 : 55296 ≤ n ∧ n ≤ 56319) (h3 : ¬ (bt s (k + 5) = 92 ∧ bt s (k + 6) = 117) ∨ fourO s (k + 7) = none) : escO s k = none := by
  rw [esc_u h hb, hf]
  refine (if_neg (by omega)).trans ((if_neg (by omega)).trans ?_)
  split
  · rcases h3 with h3 | h3
    · exact absurd (by assumption) h3
    · rw [h3]
  · rfl
theorem esc_u4 {s : ByteArray} {k n m : Nat} (h : k < s.size) (hb : bt s k = 117) (hf : fourO s (k + 1) = some n) (h2 : 55296 ≤ n ∧ n ≤ 56319) (h3 : bt s (k + 5) = 92 ∧ bt s (k + 6) = 117) (hg : fourO s (k + 7) = some m) (h4 : ¬ (56320 ≤ m ∧ m ≤ 57343)) : escO s k = none := by
  rw [esc_u h hb, hf]
  refine (if_neg (by omega)).trans ((if_neg (by omega)).trans ((if_pos h3).trans ?_))
  rw [hg]; exact if_neg h4
theorem esc_u5 {s : ByteArray} {k n m : Nat} (h : k < s.size) (hb : bt s k = 117) (hf : fourO s (k + 1) = some n) (h2 : 55296 ≤ n ∧ n ≤ 56319) (h3 : bt s (k + 5) = 92 ∧ bt s (k + 6) = 117) (hg : fourO s (k + 7) = some m) (h4 : 56320 ≤ m ∧ m ≤ 57343) : escO s k = some (65536 + 1024 * (n - 55296) + (m - 56320), k + 11) := by
  rw [esc_u h hb, hf]
  refine (if_neg (by omega)).trans ((if_neg (by omega)).trans ((if_pos h3).trans ?_))
  rw [hg]; exact if_pos h4

set_option maxHeartbeats 2000000 in
set_option maxRecDepth 100000 in
theorem sEscape (s : ByteArray) (k : Nat) (p : Int) (w : World) (hs : s.size ≤ 1048576) (hk : k ≤ 1048577) (hp : p = (k : Int)) :
    Calls Tryz.prog 96 #[.string s, .int .i64 p] w fun e w' => e = .returned (.tuple #[.int .i64 (stN (escO s k)), .int .i64 (stE (escO s k))]) ∧ w = w' := by
  subst hp
  by_cases hin : s.size ≤ k
  · have H := Lib.hid (esc_out hin)
    go_enter Tryz.func96, Tryz.ntmps96
    go_wp2
    go_ret2
    exact ⟨by rw [H.out]; rfl, rfl⟩
  have hks : k < s.size := by omega
  clear hin
  have hbt := bt_eq s k hks
  have h255 : (s[k].toNat : Int) ≤ 255 := by have := UInt8.toNat_lt s[k]; omega
  by_cases c1 : s[k].toNat = 34
  · have H := Lib.hid (esc_lit hks (hbt.trans c1) (by omega)); clear hbt
    go_enter Tryz.func96, Tryz.ntmps96
    go_wp2
    go_ret2
    exact ⟨by rw [H.out]; rfl, rfl⟩
  have d1 : ((s[k].toNat : Int) == 34) = false := by simp; omega
  by_cases c2 : s[k].toNat = 92
  · have H := Lib.hid (esc_lit hks (hbt.trans c2) (by omega)); clear hbt d1 c1
    go_enter Tryz.func96, Tryz.ntmps96
    go_wp2
    go_ret2
    exact ⟨by rw [H.out]; rfl, rfl⟩
  have d2 : ((s[k].toNat : Int) == 92) = false := by simp; omega
  by_cases c3 : s[k].toNat = 47
  · have H := Lib.hid (esc_lit hks (hbt.trans c3) (by omega)); clear hbt d1 d2 c1 c2
    go_enter Tryz.func96, Tryz.ntmps96
    go_wp2
    go_ret2
    exact ⟨by rw [H.out]; rfl, rfl⟩
  have d3 : ((s[k].toNat : Int) == 47) = false := by simp; omega
  by_cases c4 : s[k].toNat = 98
  · have H := Lib.hid (esc_ctl (c := 8) hks (hbt.trans c4) (by omega)); clear hbt d1 d2 d3 c1 c2 c3
    go_enter Tryz.func96, Tryz.ntmps96
    go_wp2
    go_ret2
    exact ⟨by rw [H.out]; rfl, rfl⟩
  have d4 : ((s[k].toNat : Int) == 98) = false := by simp; omega
  by_cases c5 : s[k].toNat = 102
  · have H := Lib.hid (esc_ctl (c := 12) hks (hbt.trans c5) (by omega)); clear hbt d1 d2 d3 d4 c1 c2 c3 c4
    go_enter Tryz.func96, Tryz.ntmps96
    go_wp2
    go_ret2
    exact ⟨by rw [H.out]; rfl, rfl⟩
  have d5 : ((s[k].toNat : Int) == 102) = false := by simp; omega
  by_cases c6 : s[k].toNat = 110
  · have H := Lib.hid (esc_ctl (c := 10) hks (hbt.trans c6) (by omega)); clear hbt d1 d2 d3 d4 d5 c1 c2 c3 c4 c5
    go_enter Tryz.func96, Tryz.ntmps96
    go_wp2
    go_ret2
    exact ⟨by rw [H.out]; rfl, rfl⟩
  have d6 : ((s[k].toNat : Int) == 110) = false := by simp; omega
  by_cases c7 : s[k].toNat = 114
  · have H := Lib.hid (esc_ctl (c := 13) hks (hbt.trans c7) (by omega)); clear hbt d1 d2 d3 d4 d5 d6 c1 c2 c3 c4 c5 c6
    go_enter Tryz.func96, Tryz.ntmps96
    go_wp2
    go_ret2
    exact ⟨by rw [H.out]; rfl, rfl⟩
  have d7 : ((s[k].toNat : Int) == 114) = false := by simp; omega
  by_cases c8 : s[k].toNat = 116
  · have H := Lib.hid (esc_ctl (c := 9) hks (hbt.trans c8) (by omega)); clear hbt d1 d2 d3 d4 d5 d6 d7 c1 c2 c3 c4 c5 c6 c7
    go_enter Tryz.func96, Tryz.ntmps96
    go_wp2
    go_ret2
    exact ⟨by rw [H.out]; rfl, rfl⟩
  have d8 : ((s[k].toNat : Int) == 116) = false := by simp; omega
  by_cases c9 : s[k].toNat = 117
  rotate_left
  · have H := Lib.hid (esc_other (s := s) (k := k) (by omega)); clear hbt
    have d9 : ((s[k].toNat : Int) == 117) = false := by simp; omega
    clear c1 c2 c3 c4 c5 c6 c7 c8 c9
    go_enter Tryz.func96, Tryz.ntmps96
    go_wp2
    go_ret2
    exact ⟨by rw [H.out]; rfl, rfl⟩
  have hb := Lib.hid (hbt.trans c9)
  clear hbt c1 c2 c3 c4 c5 c6 c7 c8
  have e9 : ((s[k].toNat : Int) == 117) = true := by rw [c9]; rfl
  clear c9
  have HF1 := Lib.hid (fun w0 => sFour s (k + 1) ((k : Int) + 1) w0 hs (by omega) (by omega))
  cases hf : fourO s (k + 1) with
  | none =>
    have H := Lib.hid (esc_u0 hks hb.out hf)
    have HZ := Lib.hid (fourZ_none hf)
    clear hf
    go_enter Tryz.func96, Tryz.ntmps96
    go_wp2_with (go_at_call 115; refine (HF1.out _).mono ?_; rw [HZ.out]; rintro e w' ⟨rfl, rfl⟩)
    go_ret2
    exact ⟨by rw [H.out]; rfl, rfl⟩
  | some n =>
    have HZ := Lib.hid (fourZ_some hf)
    have hn := (fourO_some hf).2
    have hn4 := (fourO_some hf).1
    have hn0 : ((n : Int) < 0) = False := by simp
    by_cases g1 : 56320 ≤ n ∧ n ≤ 57343
    · have H := Lib.hid (esc_u1 hks hb.out hf g1)
      have hbw : betweenB (n : Int) 56320 57343 = true := by simp [betweenB]; omega
      clear hf
      go_enter Tryz.func96, Tryz.ntmps96
      go_wp2_with (first | (go_at_call 115; refine (HF1.out _).mono ?_; rw [HZ.out]; rintro e w' ⟨rfl, rfl⟩) | (go_at_call 46; refine (l01In_any _ _ _ _).mono ?_; rintro e w' ⟨rfl, rfl⟩))
      go_ret2
      exact ⟨by rw [H.out]; rfl, rfl⟩
    have hbw : betweenB (n : Int) 56320 57343 = false := by simp [betweenB]; omega
    by_cases g2 : 55296 ≤ n ∧ n ≤ 56319
    rotate_left
    · have H := Lib.hid (esc_u2 hks hb.out hf g1 g2)
      have hbw2 : betweenB (n : Int) 55296 56319 = false := by simp [betweenB]; omega
      clear hf g1 g2
      go_enter Tryz.func96, Tryz.ntmps96
      go_wp2_with (first | (go_at_call 115; refine (HF1.out _).mono ?_; rw [HZ.out]; rintro e w' ⟨rfl, rfl⟩) | (go_at_call 46; refine (l01In_any _ _ _ _).mono ?_; rintro e w' ⟨rfl, rfl⟩))
      go_ret2
      exact ⟨by rw [H.out]; exact ret_at rfl rfl, rfl⟩
    have hbw2 : betweenB (n : Int) 55296 56319 = true := by simp [betweenB]; omega
    have hn1 : (55296 : Int) ≤ n := by omega
    have hn2 : (n : Int) ≤ 56319 := by omega
    have HU3 := Lib.hid (esc_u3 hks hb.out hf g2)
    have HU4 := Lib.hid (fun m => esc_u4 (m := m) hks hb.out hf g2)
    have HU5 := Lib.hid (fun m => esc_u5 (m := m) hks hb.out hf g2)
    clear hf g1 g2
    by_cases h7 : k + 7 ≤ s.size
    rotate_left
    · have H := Lib.hid (HU3.out (.inr (show fourO s (k + 7) = none by rw [fourO, if_pos (by omega)])))
      have hd7 : decide ((s.size : Int) < (k : Int) + 7) = true := decide_eq_true (by omega)
      clear h7
      go_enter Tryz.func96, Tryz.ntmps96
      go_wp2_with (first | (go_at_call 115; refine (HF1.out _).mono ?_; rw [HZ.out]; rintro e w' ⟨rfl, rfl⟩) | (go_at_call 46; refine (l01In_any _ _ _ _).mono ?_; rintro e w' ⟨rfl, rfl⟩))
      go_ret2
      exact ⟨by rw [H.out]; rfl, rfl⟩
    have hd7 : decide ((s.size : Int) < (k : Int) + 7) = false := decide_eq_false (by omega)
    have k5 : k + 5 < s.size := by omega
    have k6 : k + 6 < s.size := by omega
    have hb5 := Lib.hid (bt_eq s (k + 5) k5)
    have hb6 := Lib.hid (bt_eq s (k + 6) k6)
    by_cases g5 : s[k + 5].toNat = 92
    rotate_left
    · have H := Lib.hid (HU3.out (.inl (by rw [hb5.out]; omega)))
      have n5 : ((s[k + 5].toNat : Int) != 92) = true := by simp; omega
      clear g5
      go_enter Tryz.func96, Tryz.ntmps96
      go_wp2_with (first | (go_at_call 115; refine (HF1.out _).mono ?_; rw [HZ.out]; rintro e w' ⟨rfl, rfl⟩) | (go_at_call 46; refine (l01In_any _ _ _ _).mono ?_; rintro e w' ⟨rfl, rfl⟩))
      go_ret2
      exact ⟨by rw [H.out]; rfl, rfl⟩
    have n5 : ((s[k + 5].toNat : Int) != 92) = false := by rw [g5]; rfl
    by_cases g6 : s[k + 6].toNat = 117
    rotate_left
    · have H := Lib.hid (HU3.out (.inl (by rw [hb6.out]; omega)))
      have n6 : ((s[k + 6].toNat : Int) != 117) = true := by simp; omega
      clear g5 g6
      go_enter Tryz.func96, Tryz.ntmps96
      go_wp2_with (first | (go_at_call 115; refine (HF1.out _).mono ?_; rw [HZ.out]; rintro e w' ⟨rfl, rfl⟩) | (go_at_call 46; refine (l01In_any _ _ _ _).mono ?_; rintro e w' ⟨rfl, rfl⟩))
      go_ret2
      exact ⟨by rw [H.out]; rfl, rfl⟩
    have n6 : ((s[k + 6].toNat : Int) != 117) = false := by rw [g6]; rfl
    have HB := Lib.hid (show bt s (k + 5) = 92 ∧ bt s (k + 6) = 117 from ⟨hb5.out.trans g5, hb6.out.trans g6⟩)
    clear g5 g6
    have HF7 := Lib.hid (fun w0 => sFour s (k + 7) ((k : Int) + 7) w0 hs (by omega) (by omega))
    cases hg : fourO s (k + 7) with
    | none =>
      have H := Lib.hid (HU3.out (.inr hg))
      have HZ7 := Lib.hid (fourZ_none hg)
      clear hg
      have hbw3 : betweenB (-1) 56320 57343 = false := by decide
      go_enter Tryz.func96, Tryz.ntmps96
      go_wp2_with (first | (go_at_call 115; (first | ((with_reducible refine (HF1.out _).mono ?_); rw [HZ.out]) | ((with_reducible refine (HF7.out _).mono ?_); rw [HZ7.out])); rintro e w' ⟨rfl, rfl⟩) | (go_at_call 46; refine (l01In_any _ _ _ _).mono ?_; rintro e w' ⟨rfl, rfl⟩))
      go_ret2
      exact ⟨by rw [H.out]; rfl, rfl⟩
    | some m =>
      have HZ7 := Lib.hid (fourZ_some hg)
      have hm := (fourO_some hg).2
      by_cases g4 : 56320 ≤ m ∧ m ≤ 57343
      rotate_left
      · have H := Lib.hid (HU4.out m HB.out hg g4)
        have hbw3 : betweenB (m : Int) 56320 57343 = false := by simp [betweenB]; omega
        clear hg g4
        go_enter Tryz.func96, Tryz.ntmps96
        go_wp2_with (first | (go_at_call 115; (first | ((with_reducible refine (HF1.out _).mono ?_); rw [HZ.out]) | ((with_reducible refine (HF7.out _).mono ?_); rw [HZ7.out])); rintro e w' ⟨rfl, rfl⟩) | (go_at_call 46; refine (l01In_any _ _ _ _).mono ?_; rintro e w' ⟨rfl, rfl⟩))
        go_ret2
        exact ⟨by rw [H.out]; rfl, rfl⟩
      · have H := Lib.hid (HU5.out m HB.out hg g4)
        have hbw3 : betweenB (m : Int) 56320 57343 = true := by simp [betweenB]; omega
        have hm1 : (56320 : Int) ≤ m := by omega
        have hm2 : (m : Int) ≤ 57343 := by omega
        clear hg g4
        go_enter Tryz.func96, Tryz.ntmps96
        go_wp2_with (first | (go_at_call 115; (first | ((with_reducible refine (HF1.out _).mono ?_); rw [HZ.out]) | ((with_reducible refine (HF7.out _).mono ?_); rw [HZ7.out])); rintro e w' ⟨rfl, rfl⟩) | (go_at_call 46; refine (l01In_any _ _ _ _).mono ?_; rintro e w' ⟨rfl, rfl⟩))
        go_ret2
        exact ⟨by rw [H.out]; exact ret_at (by simp only [stN]; omega) (by simp only [stE]; omega), rfl⟩

end Go.Proofs.YtomhbbchflblpaaGreatDoor
namespace Go.Proofs.YtomhbbchflblpaaGreatDoor
open Go.RowKit

theorem readQ_out {s : ByteArray} {p : Int} (h : betweenB p 0 ((s.size : Int) - 1) = false) : readQ s p = none := by
  rw [readQ, if_neg]
  simp [betweenB] at h; omega
theorem readQ_not {s : ByteArray} {k : Nat} (h : bt s k ≠ 34) : readQ s (k : Int) = none := by
  rw [readQ, if_neg]
  rintro ⟨_, _, h3⟩
  exact h (by simpa using h3)
theorem readQ_in {s : ByteArray} {k : Nat} (hk : k < s.size) (h : bt s k = 34) : readQ s (k : Int) = rq s (s.size + 1) (k + 1) [] := by
  rw [readQ, if_pos ⟨by omega, by omega, by simpa using h⟩]
  simp
theorem ret_sq {a b : ByteArray} {c d : Int} (h : a = b) (k : c = d) : Ending.returned (.tuple #[.string a, .int .i64 c]) = .returned (.tuple #[.string b, .int .i64 d]) := by rw [h, k]
theorem step_bad {s : ByteArray} {k : Nat} (h92 : bt s k ≠ 92) (hb : badD (Utf8.decode s k) = true ∨ (Utf8.decode s k).1 < 32) : stepO s k = none := by
  rw [stepO, if_neg h92, if_pos hb]
theorem step_good {s : ByteArray} {k : Nat} (h92 : bt s k ≠ 92) (hb : badD (Utf8.decode s k) = false) (h : ¬ (Utf8.decode s k).1 < 32) : stepO s k = some ((Utf8.decode s k).1, k + (Utf8.decode s k).2) := by
  rw [stepO, if_neg h92, if_neg (by rw [hb]; simp; omega)]
theorem step_esc {s : ByteArray} {k : Nat} (h92 : bt s k = 92) : stepO s k = escO s (k + 1) := by rw [stepO, if_pos h92]
theorem rtext_size (n : Nat) : (rtext (n : Int)).length ≤ 4 := rtext_len n

set_option maxHeartbeats 2000000 in
set_option maxRecDepth 100000 in
theorem sReadQuoted (s : ByteArray) (p : Int) (w : World) (hs : s.size ≤ 1048576) :
    Calls Tryz.prog 63 #[.string s, .int .i64 p] w fun e w' => e = .returned (.tuple #[.string (qText (readQ s p)), .int .i64 (qEnd (readQ s p))]) ∧ Below w.heap.size w w' := by
  cases hbt : betweenB p 0 ((s.size : Int) - 1)
  · have H := Lib.hid (readQ_out hbt)
    go_enter Tryz.func63, Tryz.ntmps63
    go_wp2_with (go_at_call 46; refine (l01In_any _ _ _ _).mono ?_; rintro e w' ⟨rfl, rfl⟩)
    go_ret2
    exact ⟨by rw [H.out]; rfl, Below.refl _ _⟩
  have hr : 0 ≤ p ∧ p < s.size := by simp [betweenB] at hbt; omega
  obtain ⟨k0, rfl⟩ := Int.eq_ofNat_of_zero_le hr.1
  have hk0 : k0 < s.size := by omega
  clear hr
  have hb0 := bt_eq s k0 hk0
  by_cases c0 : s[k0].toNat = 34
  rotate_left
  · have H := Lib.hid (readQ_not (s := s) (k := k0) (by omega))
    have n0 : ((s[k0].toNat : Int) != 34) = true := by simp; omega
    clear c0 hb0
    go_enter Tryz.func63, Tryz.ntmps63
    go_wp2_with (go_at_call 46; refine (l01In_any _ _ _ _).mono ?_; rintro e w' ⟨rfl, rfl⟩)
    go_ret2
    exact ⟨by rw [H.out]; rfl, Below.refl _ _⟩
  have n0 : ((s[k0].toNat : Int) != 34) = false := by rw [c0]; rfl
  have HR := Lib.hid (readQ_in hk0 (hb0.trans c0))
  clear c0 hb0
  obtain ⟨R, hR⟩ : ∃ R, R = rq s (s.size + 1) (k0 + 1) [] := ⟨_, rfl⟩
  have HRR := Lib.hid hR
  have HQ := Lib.hid (HR.out.trans hR.symm)
  clear hR HR
  go_enter Tryz.func63, Tryz.ntmps63
  go_wp2_with (go_at_call 46; refine (l01In_any _ _ _ _).mono ?_; rintro e w' ⟨rfl, rfl⟩)
  go_loopw [1, 6] (fun a v wr => ∃ (k f : Nat) (acc : List UInt8), k ≤ s.size ∧ a = .int .i64 k ∧ s.size < k + f ∧ rq s f k acc = R ∧ acc.length ≤ 4 * k ∧ Buf w wr v acc) (fun a _ _ => s.size - (intOf a).toNat)
  case atStart => exact ⟨k0 + 1, s.size + 1, [], by omega, by go_num, by omega, HRR.out.symm, by simp, Buf.lit w [] _ 0 rfl rfl (by omega)⟩
  case round =>
    obtain ⟨k, f, acc, hk, rfl, hf, hrq, hac, hbuf⟩ := hrel
    have HB := Lib.hid hbuf; have HF := Lib.hid hf; have HRQ := Lib.hid hrq
    clear hrq hf
    by_cases hlt : k < s.size
    rotate_left
    · have H := Lib.hid (HRQ.out.symm.trans (rq_out (by omega)))
      clear hbuf
      go_wp2
      go_ret2
      exact ⟨by rw [HQ.out, H.out]; rfl, HB.out.bel⟩
    have hb := bt_eq s k hlt
    by_cases c1 : s[k].toNat = 34
    · have H := Lib.hid (HRQ.out.symm.trans (rq_quote hlt HF.out (hb.trans c1)))
      have ht := hbuf.text
      clear hbuf hb
      go_wp2
      go_ret2
      exact ⟨by rw [HQ.out, H.out]; exact ret_sq rfl (by show _ = ((k + 1 : Nat) : Int); omega), HB.out.bel⟩
    have e1 : ((s[k].toNat : Int) == 34) = false := by simp; omega
    have HNQ := Lib.hid (show bt s k ≠ 34 by omega)
    by_cases c2 : s[k].toNat = 92
    · have e2 : ((s[k].toNat : Int) == 92) = true := by rw [c2]; rfl
      have HS := Lib.hid (step_esc (hb.trans c2))
      have HE := Lib.hid (fun w0 => sEscape s (k + 1) ((k : Int) + 1) w0 hs (by omega) (by omega))
      clear c1 c2 hb hbuf
      cases ho : escO s (k + 1) with
      | none =>
        have H := Lib.hid (HRQ.out.symm.trans (rq_bad hlt HNQ.out (HS.out.trans ho)))
        rw [ho] at HE
        clear ho
        simp only [stN, stE] at HE
        go_wp2_with (go_at_call 96; refine (HE.out _).mono ?_; rintro e w' ⟨rfl, rfl⟩)
        go_ret2
        exact ⟨by rw [HQ.out, H.out]; rfl, HB.out.bel⟩
      | some x =>
        obtain ⟨n, k'⟩ := x
        obtain ⟨h1, h2, h3⟩ := escO_some ho
        obtain ⟨f', hf', hrq'⟩ := rq_step (acc := acc) hlt HF.out HNQ.out (HS.out.trans ho)
        have HF' := Lib.hid hf'; have HR' := Lib.hid (hrq'.trans HRQ.out)
        have HN := Lib.hid (rtext_size n)
        rw [ho] at HE
        clear ho hf' hrq'
        simp only [stN, stE] at HE
        go_wp2_with (first | (go_at_call 96; refine (HE.out _).mono ?_; rintro e w' ⟨rfl, rfl⟩) | (go_at_call 90; refine (sRuneText _ _).mono ?_; rintro e w4 ⟨rfl, hb4⟩) | (at_builtin; refine wpList_bufS (by rfl) _ _ (by rfl) _ _ w _ (by rfl) (HB.out.keep hb4) _ (by rfl) (by have := HN.out; show _ + (rtext (n : Int)).length ≤ _; omega) ?_; intro v2 w2 hb2))
        go_roundw
        case rel => exact ⟨k', f', acc ++ rtext (n : Int), h2, rfl, HF'.out, HR'.out, by have := HN.out; rw [List.length_append]; omega, hb2⟩
        case measure => simp [intOf]; omega
    · have e2 : ((s[k].toNat : Int) == 92) = false := by simp; omega
      have HN2 := Lib.hid (show bt s k ≠ 92 by omega)
      clear c1 c2 hb hbuf
      cases hbad : badD (Utf8.decode s k)
      · have hg := rAt_good s k (Utf8.decode s k).1 (Utf8.decode s k).2 hlt rfl hbad
        have hw1 := Lib.decode_width_pos s k hlt
        have hw2 := width_le s k hlt
        have hle := decode_le s k
        have HSB := Lib.hid (fun h => step_bad HN2.out (.inr h))
        have HSG := Lib.hid (step_good HN2.out hbad)
        clear hbad
        generalize Utf8.decode s k = d at hg hw1 hw2 hle HSB HSG
        obtain ⟨n, m⟩ := d
        obtain ⟨g1, g2⟩ := hg
        simp only at hw1 hw2 hle g1 g2
        have HG := Lib.hid (And.intro g1 g2)
        clear g1 g2
        by_cases h32 : n < 32
        · have H := Lib.hid (HRQ.out.symm.trans (rq_bad hlt HNQ.out (HSB.out h32)))
          have hd : (n : Int) < 32 := by omega
          clear h32
          go_wp2_with (go_at_call 61; refine (sRuneAt _ _ _ hs (by omega)).mono ?_; rw [HG.out.1, HG.out.2]; rintro e w4 ⟨rfl, hb4⟩)
          go_ret2
          exact ⟨by rw [HQ.out, H.out]; rfl, bnext HB.out.bel hb4⟩
        · obtain ⟨f', hf', hrq'⟩ := rq_step (acc := acc) hlt HF.out HNQ.out (HSG.out h32)
          have HF' := Lib.hid hf'; have HR' := Lib.hid (hrq'.trans HRQ.out)
          have HN := Lib.hid (rtext_size n)
          have hd : decide ((n : Int) < 32) = false := decide_eq_false (by omega)
          clear h32 hf' hrq'
          go_wp2_with (first | (go_at_call 61; refine (sRuneAt _ _ _ hs (by omega)).mono ?_; rw [HG.out.1, HG.out.2]; rintro e w4 ⟨rfl, hb4⟩) | (go_at_call 90; refine (sRuneText _ _).mono ?_; rintro e w5 ⟨rfl, hb5⟩) | (at_builtin; refine wpList_bufS (by rfl) _ _ (by rfl) _ _ w _ (by rfl) ((HB.out.keep hb4).keep hb5) _ (by rfl) (by have := HN.out; show _ + (rtext (n : Int)).length ≤ _; omega) ?_; intro v2 w2 hb2))
          go_roundw
          case rel => exact ⟨k + m, f', acc ++ rtext (n : Int), hw2, by go_num, HF'.out, HR'.out, by have := HN.out; rw [List.length_append]; omega, hb2⟩
          case measure => simp [intOf]; omega
      · obtain ⟨g1, g2⟩ := rAt_bad s k hbad
        have H := Lib.hid (HRQ.out.symm.trans (rq_bad hlt HNQ.out (step_bad HN2.out (.inl hbad))))
        have HG := Lib.hid (And.intro g1 g2)
        clear g1 g2 hbad
        go_wp2_with (go_at_call 61; refine (sRuneAt _ _ _ hs (by omega)).mono ?_; rw [HG.out.1, HG.out.2]; rintro e w4 ⟨rfl, hb4⟩)
        go_ret2
        exact ⟨by rw [HQ.out, H.out]; rfl, bnext HB.out.bel hb4⟩

end Go.Proofs.YtomhbbchflblpaaGreatDoor
namespace Go.Proofs.YtomhbbchflblpaaGreatDoor

theorem bt_drop {T : ByteArray} {k : Nat} {l R : List UInt8} (h : T.data.toList.drop k = l ++ R) : k + l.length + R.length = T.size ∨ (l = [] ∧ R = [] ∧ T.size ≤ k) := by
  have := congrArg List.length h
  simp only [List.length_drop, List.length_append] at this
  have hs : T.data.toList.length = T.size := by simp
  rw [hs] at this
  rcases Nat.lt_or_ge k T.size with h1 | h1
  · left; omega
  · right
    exact ⟨List.eq_nil_of_length_eq_zero (by omega), List.eq_nil_of_length_eq_zero (by omega), h1⟩
theorem bt_at {T : ByteArray} {k i : Nat} {l R : List UInt8} (h : T.data.toList.drop k = l ++ R) (hi : i < l.length) : bt T (k + i) = (l.getD i 0).toNat := by
  have hsz : k + l.length ≤ T.size := by
    rcases bt_drop h with h1 | ⟨h1, _, _⟩
    · omega
    · rw [h1] at hi; simp at hi
  have h2 : T.data.toList[k + i]? = l[i]? := by
    rw [← List.getElem?_drop, h, List.getElem?_append_left hi]
  have h3 : T.data.toList[k + i]? = some T[k + i] := by
    rw [List.getElem?_eq_getElem (by simp; omega)]; rfl
  rw [bt_eq T (k + i) (by omega), List.getD_eq_getElem?_getD, ← h2, h3]
  rfl
theorem drop_more {T : ByteArray} {k : Nat} {l R : List UInt8} (h : T.data.toList.drop k = l ++ R) : T.data.toList.drop (k + l.length) = R := by
  rw [← List.drop_drop, h]; simp
theorem fig_hex (x : Nat) (h : x < 16) : hexO (figB x).toNat = some x := by
  unfold figB hexO
  split
  · have e : (UInt8.ofNat (48 + x)).toNat = 48 + x := by simp; omega
    rw [e, if_pos (by omega)]; congr 1; omega
  · have e : (UInt8.ofNat (87 + x)).toNat = 87 + x := by simp; omega
    rw [e, if_neg (by omega), if_neg (by omega), if_pos (by omega)]; congr 1; omega

theorem step_two {T : ByteArray} {k b n : Nat} (hk : k + 1 < T.size) (h0 : bt T k = 92) (h1 : bt T (k + 1) = b) (hb : ((b = 34 ∨ b = 92 ∨ b = 47) ∧ n = b) ∨ (b = 98 ∧ n = 8) ∨ (b = 102 ∧ n = 12) ∨ (b = 110 ∧ n = 10) ∨ (b = 114 ∧ n = 13) ∨ (b = 116 ∧ n = 9)) :
    bt T k ≠ 34 ∧ k < T.size ∧ stepO T k = some (n, k + 2) := by
  refine ⟨by omega, by omega, ?_⟩
  rw [step_esc h0]
  rcases hb with ⟨hb, rfl⟩ | hb
  · exact esc_lit hk h1 hb
  · exact esc_ctl hk h1 hb
/-- One code point, told in quotes, is read. -/
theorem step_back {T : ByteArray} {k n : Nat} {R : List UInt8} (ho : runeOkN n = true) (h : T.data.toList.drop k = escR n ++ R) : bt T k ≠ 34 ∧ k < T.size ∧ stepO T k = some (n, k + (escR n).length) := by
  have two : ∀ b : UInt8, escR n = [92, b] → (((b.toNat = 34 ∨ b.toNat = 92 ∨ b.toNat = 47) ∧ n = b.toNat) ∨ (b.toNat = 98 ∧ n = 8) ∨ (b.toNat = 102 ∧ n = 12) ∨ (b.toNat = 110 ∧ n = 10) ∨ (b.toNat = 114 ∧ n = 13) ∨ (b.toNat = 116 ∧ n = 9)) → bt T k ≠ 34 ∧ k < T.size ∧ stepO T k = some (n, k + (escR n).length) := by
    intro b e hb
    rw [e] at h ⊢
    have h0 := bt_at (i := 0) h (by simp)
    have h1 := bt_at (i := 1) h (by simp)
    have hsz := bt_drop h
    simp only [Nat.add_zero, List.getD_cons_zero, List.getD_cons_succ, List.length_cons, List.length_nil] at h0 h1 hsz
    exact step_two (by rcases hsz with h2 | ⟨h2, _⟩ <;> first | omega | cases h2) h0 h1 hb
  by_cases g1 : n = 34
  · subst g1; exact two 34 (by decide) (by decide)
  by_cases g2 : n = 92
  · subst g2; exact two 92 (by decide) (by decide)
  by_cases g3 : n = 8
  · subst g3; exact two 98 (by decide) (by decide)
  by_cases g4 : n = 12
  · subst g4; exact two 102 (by decide) (by decide)
  by_cases g5 : n = 10
  · subst g5; exact two 110 (by decide) (by decide)
  by_cases g6 : n = 13
  · subst g6; exact two 114 (by decide) (by decide)
  by_cases g7 : n = 9
  · subst g7; exact two 116 (by decide) (by decide)
  by_cases g8 : n < 32
  · have e := escR_ctl g8 g3 g4 g5 g6 g7
    rw [e] at h ⊢
    have b0 := bt_at (i := 0) h (by simp)
    have b1 := bt_at (i := 1) h (by simp)
    have b2 := bt_at (i := 2) h (by simp)
    have b3 := bt_at (i := 3) h (by simp)
    have b4 := bt_at (i := 4) h (by simp)
    have b5 := bt_at (i := 5) h (by simp)
    have hsz := bt_drop h
    simp only [Nat.add_zero, List.getD_cons_zero, List.getD_cons_succ, List.length_cons, List.length_nil] at b0 b1 b2 b3 b4 b5 hsz ⊢
    have hk : k + 6 ≤ T.size := by rcases hsz with h2 | ⟨h2, _⟩ <;> first | omega | cases h2
    have h92 : bt T k = 92 := b0
    have h117 : bt T (k + 1) = 117 := b1
    refine ⟨by omega, by omega, ?_⟩
    rw [step_esc h92]
    have hf : fourO T (k + 1 + 1) = some n := by
      rw [fourO, if_neg (by omega)]
      have c2 : hexO (bt T (k + 2)) = some 0 := by rw [b2]; rfl
      have c3 : hexO (bt T (k + 3)) = some 0 := by rw [b3]; rfl
      have c4 : hexO (bt T (k + 4)) = some (n / 16) := by rw [b4]; exact fig_hex _ (by omega)
      have c5 : hexO (bt T (k + 5)) = some (n % 16) := by rw [b5]; exact fig_hex _ (by omega)
      simp only [hexTo, Nat.add_zero]
      have a2 : k + 1 + 1 = k + 2 := by omega
      have a3 : k + 2 + 1 = k + 3 := by omega
      have a4 : k + 2 + 2 = k + 4 := by omega
      have a5 : k + 2 + 3 = k + 5 := by omega
      rw [a2, a3, a4, a5, c2, c3, c4, c5]
      simp
      omega
    have := esc_u2 (k := k + 1) (by omega) h117 hf (by omega) (by omega)
    rw [this]
  · have e := escR_plain (by omega : 32 ≤ n) g1 g2
    rw [e] at h ⊢
    have hp := runeBytes_pos ho
    have hlen : ((runeBytes n).map UInt8.ofNat).length = (runeBytes n).length := List.length_map ..
    have hsz := bt_drop h
    have hk : k + (runeBytes n).length ≤ T.size := by
      rcases hsz with h2 | ⟨h2, _⟩
      · omega
      · rw [h2] at hlen; simp at hlen; omega
    have hb : btake T k (runeBytes n).length = runeBytes n := by
      refine btake_of_list T k (runeBytes n) (runeBytes_lt n) ?_
      rw [h, List.take_left' (by simp)]
    have hd := decode_of_bytes T k n ho hb hk
    have hg := runeOk_good ho rfl
    have h0 := btake_get T k (runeBytes n).length 0 (by omega)
    rw [hb, Nat.add_zero] at h0
    have hne : bt T k ≠ 34 ∧ bt T k ≠ 92 := by
      rw [← h0]
      have ho2 := ho
      simp only [runeOkN, Bool.and_eq_true, decide_eq_true_eq] at ho2
      unfold runeBytes
      rw [if_pos ho]
      split
      · simp; omega
      split
      · simp; omega
      split
      · simp; omega
      · simp; omega
    refine ⟨hne.1, by omega, ?_⟩
    rw [step_good hne.2 (by rw [hd]; exact hg) (by rw [hd]; exact g8), hd, hlen]

theorem rq_back {T : ByteArray} : ∀ (L : List Nat) (f k : Nat) (acc R : List UInt8), (∀ n ∈ L, runeOkN n = true) → T.data.toList.drop k = L.flatMap escR ++ 34 :: R → T.size < k + f →
    rq T f k acc = some (acc ++ rtexts (L.map (Nat.cast : Nat → Int)), k + (L.flatMap escR).length + 1)
  | [], f, k, acc, R, _, h, hf => by
    have h' : T.data.toList.drop k = [34] ++ R := h
    have h0 := bt_at (i := 0) h' (by simp)
    have hsz := bt_drop h'
    have hk : k < T.size := by rcases hsz with h2 | ⟨h2, _⟩ <;> first | (simp at h2; omega) | cases h2
    rw [rq_quote hk hf (by simpa using h0)]
    simp [rtexts]
  | n :: L, f, k, acc, R, ho, h, hf => by
    have hon := ho n (by simp)
    have e1 : (n :: L).flatMap escR = escR n ++ L.flatMap escR := by simp
    rw [e1, List.append_assoc] at h
    obtain ⟨h34, hk, hst⟩ := step_back hon h
    obtain ⟨f', hf', he⟩ := rq_step (acc := acc) hk hf h34 hst
    rw [← he, rq_back L f' (k + (escR n).length) (acc ++ rtext (n : Int)) R (fun m hm => ho m (by simp [hm])) (drop_more h) hf', e1]
    simp [rtexts]
    omega
theorem rq_open {T : ByteArray} : ∀ (L : List Nat) (f k : Nat) (acc : List UInt8), (∀ n ∈ L, runeOkN n = true) → T.data.toList.drop k = L.flatMap escR → T.size < k + f → rq T f k acc = none
  | [], f, k, acc, _, h, _ => by
    have : T.size ≤ k := by
      have := congrArg List.length h
      simp at this; omega
    exact rq_out this
  | n :: L, f, k, acc, ho, h, hf => by
    have e1 : (n :: L).flatMap escR = escR n ++ L.flatMap escR := by simp
    rw [e1] at h
    obtain ⟨h34, hk, hst⟩ := step_back (ho n (by simp)) h
    obtain ⟨f', hf', he⟩ := rq_step (acc := acc) hk hf h34 hst
    rw [← he]
    exact rq_open L f' _ _ (fun m hm => ho m (by simp [hm])) (drop_more h) hf'

theorem rgo_ok (s : ByteArray) : ∀ f k acc L, rgo s f k acc = some L → (∀ n ∈ acc, runeOkN n = true) → ∀ n ∈ L, runeOkN n = true
  | 0, _, _, _, h, _ => by cases h
  | f + 1, k, acc, L, h, ha => by
    rw [rgo] at h
    by_cases h1 : s.size ≤ k
    · rw [if_pos h1] at h; cases h; exact ha
    · rw [if_neg h1] at h
      split at h
      · cases h
      · rename_i hb
        refine rgo_ok s f _ _ L h fun n hn => ?_
        rw [List.mem_append, List.mem_singleton] at hn
        rcases hn with hn | rfl
        · exact ha n hn
        · exact (dec_bytes s k (by omega) (by simpa using hb)).2
theorem esc_flat {s : ByteArray} {L : List Nat} (h : runesO s = some L) : s.data.toList.flatMap escB = L.flatMap escR := by
  have ho := rgo_ok s _ 0 [] L h (by simp)
  rw [← runes_text h, rtexts, List.flatMap_map, List.flatMap_assoc]
  have : ∀ l : List Nat, (l.flatMap fun (n : Nat) => (rtext ((n : Nat) : Int)).flatMap escB) = l.flatMap escR := by
    intro l
    refine congrArg (fun g => List.flatMap g l) (funext fun n => ?_)
    rw [rtext_nat]; rfl
  exact this L
/-- What stands in quotes ahead of R, behind P, comes back. -/
theorem quote_back {s : ByteArray} (h : (runesO s).isSome = true) (P R : List UInt8) (T : ByteArray) (hT : T.data.toList = P ++ ((escTo s s.size ++ [34]) ++ R)) :
    readQ T (P.length : Int) = some (s.data.toList, P.length + (escTo s s.size ++ [34]).length) := by
  obtain ⟨L, hL⟩ := Option.isSome_iff_exists.1 h
  have ho := rgo_ok s _ 0 [] L hL (by simp)
  have he : escTo s s.size = 34 :: L.flatMap escR := by
    rw [escTo, List.take_of_length_le (by simp), esc_flat hL]
  rw [he] at hT ⊢
  have hd : T.data.toList.drop P.length = [34] ++ (L.flatMap escR ++ 34 :: R) := by
    rw [hT]; simp
  have h0 := bt_at (i := 0) hd (by simp)
  have hsz := bt_drop hd
  have hk : P.length < T.size := by rcases hsz with h2 | ⟨h2, _⟩ <;> first | (simp at h2; omega) | cases h2
  have hd2 := drop_more hd
  have hb := rq_back L (T.size + 1) (P.length + 1) [] R ho hd2 (by omega)
  rw [readQ_in hk (by simpa using h0), hb, runes_text hL]
  simp
  omega
theorem quote_open {s : ByteArray} (h : (runesO s).isSome = true) (T : ByteArray) (hT : T.data.toList = escTo s s.size) : readQ T 0 = none := by
  obtain ⟨L, hL⟩ := Option.isSome_iff_exists.1 h
  have ho := rgo_ok s _ 0 [] L hL (by simp)
  have he : escTo s s.size = 34 :: L.flatMap escR := by
    rw [escTo, List.take_of_length_le (by simp), esc_flat hL]
  rw [he] at hT
  have hd : T.data.toList.drop 0 = [34] ++ L.flatMap escR := by rw [hT]; simp
  have h0 := bt_at (i := 0) hd (by simp)
  have hsz := bt_drop hd
  have hk : 0 < T.size := by rcases hsz with h2 | ⟨h2, _⟩ <;> first | (simp at h2; omega) | cases h2
  have h2 : readQ T ((0 : Nat) : Int) = rq T (T.size + 1) (0 + 1) [] := readQ_in hk (by simpa using h0)
  rw [show ((0 : Nat) : Int) = 0 from rfl] at h2
  rw [h2]
  exact rq_open L _ _ _ ho (drop_more hd) (by omega)

end Go.Proofs.YtomhbbchflblpaaGreatDoor
namespace Go.Proofs.YtomhbbchflblpaaGreatDoor
open Go.RowKit

def riZ (v : Nat) : Int := if v ≤ 9223372036854775807 then (v : Int) else 0
theorem riZ_yes {v : Nat} (h : v ≤ 9223372036854775807) : riZ v = v := if_pos h
theorem riZ_no {v : Nat} (h : ¬ v ≤ 9223372036854775807) : riZ v = 0 := if_neg h
def riB (v : Nat) : Bool := decide (v ≤ 9223372036854775807)
theorem byteAt_toNat (t : ByteArray) (j : Nat) (h : j < t.size) : (t.data.toList.getD j 0).toNat = t[j].toNat := by
  have : t.data.toList[j]? = some t[j] := by
    rw [List.getElem?_eq_getElem (by simpa using h)]; rfl
  rw [List.getD_eq_getElem?_getD, this]; rfl

set_option maxHeartbeats 1000000 in
set_option maxRecDepth 100000 in
theorem sReadInt (t : ByteArray) (w : World) (hc : Canon t.data.toList) : Calls Tryz.prog 97 #[.string t] w fun e w' => e = .returned (.tuple #[.int .i64 (riZ (valFrom 0 t.data.toList)), .bool (riB (valFrom 0 t.data.toList))]) ∧ Below w.heap.size w w' := by
  have hlen : t.data.toList.length = t.size := by simp
  have HC := Lib.hid hc; have HLEN := Lib.hid hlen
  clear hc hlen
  by_cases h19 : 19 < t.size
  · have hv := canon_len HC.out (by rw [HLEN.out]; exact h19)
    have H := Lib.hid (And.intro (riZ_no (v := valFrom 0 t.data.toList) (by omega)) (show riB (valFrom 0 t.data.toList) = false from decide_eq_false (by omega)))
    clear hv
    go_enter Tryz.func97, Tryz.ntmps97
    go_wp2
    go_ret2
    exact ⟨by rw [H.out.1, H.out.2]; rfl, Below.refl _ _⟩
  have h19' : t.size ≤ 19 := by omega
  clear h19
  go_enter Tryz.func97, Tryz.ntmps97
  go_wp2
  go_loop [4, 5] (fun n i => ∃ j v : Nat, j ≤ t.size ∧ i = .int .i64 (j : Int) ∧ n = .int .i64 (v : Int) ∧ v = valFrom 0 (t.data.toList.take j) ∧ v ≤ 9223372036854775807) (fun _ i => t.size - (intOf i).toNat)
  case atStart => exact ⟨0, 0, by omega, rfl, rfl, rfl, by omega⟩
  case round =>
    obtain ⟨j, v, hj, rfl, rfl, hv, hvm⟩ := hrel
    have HV := Lib.hid hv; clear hv
    by_cases hlt : j < t.size
    · have HB := Lib.hid (byteAt_toNat t j hlt)
      have hdg : 48 ≤ t[j].toNat ∧ t[j].toNat ≤ 57 := by
        have hm : t.data.toList.getD j 0 ∈ t.data.toList := by
          rw [List.getD_eq_getElem?_getD, List.getElem?_eq_getElem (by rw [HLEN.out]; exact hlt)]; exact List.getElem_mem _
        have := isDg_iff.1 (HC.out.dg _ hm)
        have := HB.out
        omega
      have hd1 : (48 : Int) ≤ (t[j].toNat : Int) := by omega
      have hd2 : (t[j].toNat : Int) ≤ 57 := by omega
      have HS := Lib.hid (show valFrom 0 (t.data.toList.take (j + 1)) = 10 * v + (t[j].toNat - 48) by rw [val_take _ j (by rw [HLEN.out]; exact hlt), HB.out, HV.out])
      have HLE := Lib.hid (val_take_le t.data.toList (j + 1))
      clear hdg
      by_cases ho : (9223372036854775807 - ((t[j].toNat : Int) - 48)) / 10 < (v : Int)
      · have H := Lib.hid (And.intro (riZ_no (v := valFrom 0 t.data.toList) (by have := HS.out; have := HLE.out; omega)) (show riB (valFrom 0 t.data.toList) = false from decide_eq_false (by have := HS.out; have := HLE.out; omega)))
        go_wp2
        go_ret2
        exact ⟨by rw [H.out.1, H.out.2]; rfl, Below.refl _ _⟩
      · have hb10 : 10 * (v : Int) + ((t[j].toNat : Int) - 48) ≤ 9223372036854775807 := by omega
        go_wp2
        go_round
        case rel => exact ⟨j + 1, 10 * v + (t[j].toNat - 48), by omega, by go_num, by congr 1; omega, HS.out.symm, by omega⟩
        case measure => simp [intOf]; omega
    · obtain rfl : j = t.size := by omega
      have hfull : valFrom 0 t.data.toList = v := by
        rw [HV.out, List.take_of_length_le (by rw [HLEN.out]; exact Nat.le_refl _)]
      have H := Lib.hid (And.intro (riZ_yes (v := valFrom 0 t.data.toList) (by omega)) (show riB (valFrom 0 t.data.toList) = true from decide_eq_true (by omega)))
      have HT := Lib.hid (show (⟨(Lib.itoa (v : Int)).toArray⟩ : ByteArray) = t by
        rw [itoa_pos, ← hfull, dec_val _ _ rfl HC.out])
      have HF := Lib.hid hfull
      clear hfull
      have e1 := beq_self_eq_true t.toList
      go_wp2_with (go_at_call 49; refine (sDecimal _ _ (by omega) (by omega)).mono ?_; rw [HT.out]; rintro e w1 ⟨rfl, hb1⟩)
      go_ret2
      exact ⟨by rw [H.out.1, H.out.2, HF.out]; rfl, hb1⟩

end Go.Proofs.YtomhbbchflblpaaGreatDoor
namespace Go.Proofs.YtomhbbchflblpaaGreatDoor
open Go.RowKit

def minB : ByteArray := ⟨#[57, 50, 50, 51, 51, 55, 50, 48, 51, 54, 56, 53, 52, 55, 55, 53, 56, 48, 56]⟩
theorem minB_val : valFrom 0 minB.data.toList = 9223372036854775808 := by decide +kernel
theorem minB_dec : Lib.decDigits 9223372036854775808 = minB.data.toList := by
  have hc : Canon minB.data.toList := ⟨by simp [minB], by decide +kernel, by decide +kernel⟩
  have := dec_val _ _ rfl hc
  rw [minB_val] at this
  exact this
/-- The one number whose figures have no int of their own. -/
theorem min_iff {l : List UInt8} (h : Canon l) : (l = minB.data.toList) ↔ valFrom 0 l = 9223372036854775808 := by
  constructor
  · intro e; rw [e]; exact minB_val
  · intro e
    have := dec_val _ _ rfl h
    rw [e, minB_dec] at this
    exact this.symm
theorem data_toList (t : ByteArray) : t.toList = t.data.toList := ByteArray.toList_eq t

/-- What stands behind the figures of s from f to e. -/
structure Fig (s : ByteArray) (f e : Nat) (F : ByteArray) : Prop where
  ends : Ends s f e
  size : F.size = e - f
  list : F.data.toList = figs s f e
theorem Fig.mk' {s : ByteArray} {f e : Nat} (h : Ends s f e) : Fig s f e (s.extract f e) :=
  ⟨h, by rw [ByteArray.size_extract]; have := h.top; omega, rfl⟩
theorem fig_head {s : ByteArray} {f e : Nat} {F : ByteArray} (h : Fig s f e F) (hne : f < e) (h0 : 0 < F.size) : F[0].toNat = bt s f := by
  have h1 := figs_get s f e 0 (by omega) h.ends.top
  rw [← h.list, byteAt_toNat F 0 h0, Nat.add_zero] at h1
  exact h1
theorem fig_empty {s : ByteArray} {f e : Nat} {F : ByteArray} (h : Fig s f e F) : F.toList.isEmpty = decide (e = f) := by
  have hl : F.toList.length = e - f := by
    rw [data_toList, h.list, figs_len s f e h.ends.le h.ends.top]
  have := h.ends.le
  rw [Bool.eq_iff_iff, List.isEmpty_iff, decide_eq_true_eq]
  constructor
  · intro hq; rw [hq] at hl; simp at hl; omega
  · intro hq; exact List.eq_nil_of_length_eq_zero (by omega)

end Go.Proofs.YtomhbbchflblpaaGreatDoor
namespace Go.Proofs.YtomhbbchflblpaaGreatDoor
open Go.RowKit

set_option maxHeartbeats 4000000 in
set_option maxRecDepth 100000 in
theorem sReadWholeNeg (s : ByteArray) (k : Nat) (w : World) (hs : s.size ≤ 1048576) (hk : k < s.size) (c0 : s[k].toNat = 45) :
    Calls Tryz.prog 64 #[.string s, .int .i64 (k : Int)] w fun e w' => e = .returned (.tuple #[.int .i64 (whoN (whoQ s (k : Int))), .int .i64 (whoE (whoQ s (k : Int)))]) ∧ Below w.heap.size w w' := by
  have hbt : betweenB (k : Int) 0 ((s.size : Int) - 1) = true := by simp [betweenB]; omega
  have HQ := Lib.hid (who_in hk)
  have hbk := bt_eq s k hk
  have n0 : ((s[k].toNat : Int) == 45) = true := by rw [c0]; rfl
  have H45 := Lib.hid (show bt s k = 45 by omega)
  have HWF := Lib.hid (show whoFrom s k = (k + 1) from if_pos H45.out)
  clear c0 hbk
  go_enter Tryz.func64, Tryz.ntmps64
  go_wp2_with (go_at_call 46; refine (l01In_any _ _ _ _).mono ?_; rintro e w' ⟨rfl, rfl⟩)
  go_loop [8] (fun i => ∃ q : Nat, (k + 1) ≤ q ∧ q ≤ s.size ∧ i = .int .i64 (q : Int) ∧ ∀ i, (k + 1) ≤ i → i < q → dgAt s i = true) (fun i => s.size - (intOf i).toNat)
  case atStart => exact ⟨(k + 1), by omega, by omega, by go_num, fun i h1 h2 => by omega⟩
  case round =>
    obtain ⟨q, hfq, hq, rfl, hall⟩ := hrel
    by_cases hqs : q < s.size
    · have hbq0 := bt_eq s q hqs
      rcases (show s[q].toNat < 48 ∨ (48 ≤ s[q].toNat ∧ s[q].toNat ≤ 57) ∨ 57 < s[q].toNat by omega) with hd | ⟨hd, hd'⟩ | hd
      · have g1 : decide ((48 : Int) ≤ (s[q].toNat : Int)) = false := decide_eq_false (by omega)
        have hnd : dgAt s q = false := by cases h : dgAt s q; rfl; have := dgAt_iff.1 h; omega
        clear hbq0
        have HEN := Lib.hid (show Ends s (k + 1) q from ⟨hfq, hq, hall, fun _ => hnd⟩)
        have hx1 : (0 : Int) ≤ (k : Int) + 1 := by omega
        have hx2 : (k : Int) + 1 ≤ (q : Int) := by omega
        have hx3 : (q : Int) ≤ (s.size : Int) := by omega
        clear hall
        go_upto_region 11 with fail
        generalize hF : s.extract (k + 1) q = F
        have HF := Lib.hid (show Fig s (k + 1) q F by rw [← hF]; exact Fig.mk' HEN.out)
        clear hF hx1 hx2 hx3
        have HFS := Lib.hid HF.out.size
        by_cases e0 : q = (k + 1)
        · have he : F.toList.isEmpty = true := by rw [fig_empty HF.out]; exact decide_eq_true e0
          have HE0 := Lib.hid e0
          clear e0
          go_wp2
          go_ret2
          exact ⟨by rw [HQ.out, who_bad HWF.out HF.out.ends (.inl HE0.out)]; rfl, Below.refl _ _⟩
        have he : F.toList.isEmpty = false := by rw [fig_empty HF.out]; exact decide_eq_false e0
        have hF0 : 0 < F.size := by have := HFS.out; omega
        have HH := Lib.hid (fig_head HF.out (by omega) hF0)
        by_cases z1 : (k + 1) + 1 < q
        · have d1 : decide ((1 : Int) < (F.size : Int)) = true := decide_eq_true (by have := HFS.out; omega)
          by_cases z2 : F[0].toNat = 48
          · have d2 : ((F[0].toNat : Int) == 48) = true := by rw [z2]; rfl
            have HB := Lib.hid (show bt s (k + 1) = 48 ∧ (k + 1) + 1 < q from ⟨by rw [← HH.out, z2], z1⟩)
            clear z1 z2
            go_wp2
            go_ret2
            exact ⟨by rw [HQ.out, who_bad HWF.out HF.out.ends (.inr (.inl HB.out))]; rfl, Below.refl _ _⟩
          have d2 : ((F[0].toNat : Int) == 48) = false := by rw [beq_eq_false_iff_ne]; omega
          have HZ := Lib.hid (show bt s (k + 1) = 48 → q = (k + 1) + 1 from fun h => by rw [← HH.out] at h; exact absurd h z2)
          clear z2
          have dq : decide ((q : Int) < (s.size : Int)) = true := decide_eq_true (by omega)
          have hbq := Lib.hid (bt_eq s q hqs)
          by_cases c46 : s[q].toNat = 46
          · have x46 : ((s[q].toNat : Int) == 46) = true := by rw [c46]; rfl
            have HB := Lib.hid (show stopB s q = true by rw [stopB, hbq.out, c46, decide_eq_true hqs]; rfl)
            clear c46
            go_wp2
            go_ret2
            exact ⟨by rw [HQ.out, who_bad HWF.out HF.out.ends (.inr (.inr HB.out))]; rfl, Below.refl _ _⟩
          have x46 : ((s[q].toNat : Int) == 46) = false := by rw [beq_eq_false_iff_ne]; omega
          by_cases c101 : s[q].toNat = 101
          · have x101 : ((s[q].toNat : Int) == 101) = true := by rw [c101]; rfl
            have HB := Lib.hid (show stopB s q = true by rw [stopB, hbq.out, c101, decide_eq_true hqs]; rfl)
            clear c101
            go_wp2
            go_ret2
            exact ⟨by rw [HQ.out, who_bad HWF.out HF.out.ends (.inr (.inr HB.out))]; rfl, Below.refl _ _⟩
          have x101 : ((s[q].toNat : Int) == 101) = false := by rw [beq_eq_false_iff_ne]; omega
          by_cases c69 : s[q].toNat = 69
          · have x69 : ((s[q].toNat : Int) == 69) = true := by rw [c69]; rfl
            have HB := Lib.hid (show stopB s q = true by rw [stopB, hbq.out, c69, decide_eq_true hqs]; rfl)
            clear c69
            go_wp2
            go_ret2
            exact ⟨by rw [HQ.out, who_bad HWF.out HF.out.ends (.inr (.inr HB.out))]; rfl, Below.refl _ _⟩
          have x69 : ((s[q].toNat : Int) == 69) = false := by rw [beq_eq_false_iff_ne]; omega
          have HST := Lib.hid (show ¬ (q = (k + 1) ∨ (bt s (k + 1) = 48 ∧ (k + 1) + 1 < q) ∨ stopB s q = true) by
            rintro (h | ⟨h1, h2⟩ | h)
            · exact e0 h
            · have := HZ.out h1; omega
            · simp [stopB, hbq.out, c46, c101, c69] at h)
          clear c46 c101 c69
          have hcan := Lib.hid (show Canon F.data.toList by rw [HF.out.list]; exact figs_canon HF.out.ends (by omega) HZ.out)
          have HW := Lib.hid (who_neg HWF.out HF.out.ends HST.out H45.out)
          rw [← HF.out.list] at HW
          have HRI := Lib.hid (fun w0 => sReadInt F w0 hcan.out)
          have HM := Lib.hid (min_iff hcan.out)
          generalize hv : valFrom 0 F.data.toList = v at HW HRI HM
          clear hv
          by_cases hm : v = 9223372036854775808
          · have e9 : (F.toList == [57, 50, 50, 51, 51, 55, 50, 48, 51, 54, 56, 53, 52, 55, 55, 53, 56, 48, 56]) = true := by rw [beq_iff_eq, data_toList]; exact HM.out.2 hm
            have HR := Lib.hid (show whoO s k = some (-9223372036854775808, q) by rw [HW.out, if_pos (by omega), hm]; rfl)
            clear hm
            go_wp2
            go_ret2
            exact ⟨by rw [HQ.out, HR.out]; rfl, Below.refl _ _⟩
          have e9 : (F.toList == [57, 50, 50, 51, 51, 55, 50, 48, 51, 54, 56, 53, 52, 55, 55, 53, 56, 48, 56]) = false := by rw [beq_eq_false_iff_ne, data_toList]; intro e; exact hm (HM.out.1 e)
          by_cases hv : v ≤ 9223372036854775807
          · have HR := Lib.hid (show whoO s k = some (-((v : Nat) : Int), q) by rw [HW.out, if_pos (by omega)])
            have HRI2 := HRI.out
            rw [riZ_yes hv, show riB v = true from decide_eq_true hv] at HRI2
            have HRI3 := Lib.hid HRI2
            clear HRI2 hm
            have hv2 : (v : Int) ≤ 9223372036854775807 := by omega
            clear hv
            go_wp2_with (go_at_call 97; refine (HRI3.out _).mono ?_; rintro e w1 ⟨rfl, hb1⟩)
            go_ret2
            exact ⟨by rw [HQ.out, HR.out]; rfl, hb1⟩
          · have HR := Lib.hid (show whoO s k = none by rw [HW.out, if_neg (by omega)])
            have HRI2 := HRI.out
            rw [riZ_no hv, show riB v = false from decide_eq_false hv] at HRI2
            have HRI3 := Lib.hid HRI2
            clear HRI2 hm hv
            go_wp2_with (go_at_call 97; refine (HRI3.out _).mono ?_; rintro e w1 ⟨rfl, hb1⟩)
            go_ret2
            exact ⟨by rw [HQ.out, HR.out]; rfl, hb1⟩
        · have d1 : decide ((1 : Int) < (F.size : Int)) = false := decide_eq_false (by have := HFS.out; omega)
          have HZ := Lib.hid (show bt s (k + 1) = 48 → q = (k + 1) + 1 from fun _ => by omega)
          have dq : decide ((q : Int) < (s.size : Int)) = true := decide_eq_true (by omega)
          have hbq := Lib.hid (bt_eq s q hqs)
          by_cases c46 : s[q].toNat = 46
          · have x46 : ((s[q].toNat : Int) == 46) = true := by rw [c46]; rfl
            have HB := Lib.hid (show stopB s q = true by rw [stopB, hbq.out, c46, decide_eq_true hqs]; rfl)
            clear c46
            go_wp2
            go_ret2
            exact ⟨by rw [HQ.out, who_bad HWF.out HF.out.ends (.inr (.inr HB.out))]; rfl, Below.refl _ _⟩
          have x46 : ((s[q].toNat : Int) == 46) = false := by rw [beq_eq_false_iff_ne]; omega
          by_cases c101 : s[q].toNat = 101
          · have x101 : ((s[q].toNat : Int) == 101) = true := by rw [c101]; rfl
            have HB := Lib.hid (show stopB s q = true by rw [stopB, hbq.out, c101, decide_eq_true hqs]; rfl)
            clear c101
            go_wp2
            go_ret2
            exact ⟨by rw [HQ.out, who_bad HWF.out HF.out.ends (.inr (.inr HB.out))]; rfl, Below.refl _ _⟩
          have x101 : ((s[q].toNat : Int) == 101) = false := by rw [beq_eq_false_iff_ne]; omega
          by_cases c69 : s[q].toNat = 69
          · have x69 : ((s[q].toNat : Int) == 69) = true := by rw [c69]; rfl
            have HB := Lib.hid (show stopB s q = true by rw [stopB, hbq.out, c69, decide_eq_true hqs]; rfl)
            clear c69
            go_wp2
            go_ret2
            exact ⟨by rw [HQ.out, who_bad HWF.out HF.out.ends (.inr (.inr HB.out))]; rfl, Below.refl _ _⟩
          have x69 : ((s[q].toNat : Int) == 69) = false := by rw [beq_eq_false_iff_ne]; omega
          have HST := Lib.hid (show ¬ (q = (k + 1) ∨ (bt s (k + 1) = 48 ∧ (k + 1) + 1 < q) ∨ stopB s q = true) by
            rintro (h | ⟨h1, h2⟩ | h)
            · exact e0 h
            · have := HZ.out h1; omega
            · simp [stopB, hbq.out, c46, c101, c69] at h)
          clear c46 c101 c69
          have hcan := Lib.hid (show Canon F.data.toList by rw [HF.out.list]; exact figs_canon HF.out.ends (by omega) HZ.out)
          have HW := Lib.hid (who_neg HWF.out HF.out.ends HST.out H45.out)
          rw [← HF.out.list] at HW
          have HRI := Lib.hid (fun w0 => sReadInt F w0 hcan.out)
          have HM := Lib.hid (min_iff hcan.out)
          generalize hv : valFrom 0 F.data.toList = v at HW HRI HM
          clear hv
          by_cases hm : v = 9223372036854775808
          · have e9 : (F.toList == [57, 50, 50, 51, 51, 55, 50, 48, 51, 54, 56, 53, 52, 55, 55, 53, 56, 48, 56]) = true := by rw [beq_iff_eq, data_toList]; exact HM.out.2 hm
            have HR := Lib.hid (show whoO s k = some (-9223372036854775808, q) by rw [HW.out, if_pos (by omega), hm]; rfl)
            clear hm
            go_wp2
            go_ret2
            exact ⟨by rw [HQ.out, HR.out]; rfl, Below.refl _ _⟩
          have e9 : (F.toList == [57, 50, 50, 51, 51, 55, 50, 48, 51, 54, 56, 53, 52, 55, 55, 53, 56, 48, 56]) = false := by rw [beq_eq_false_iff_ne, data_toList]; intro e; exact hm (HM.out.1 e)
          by_cases hv : v ≤ 9223372036854775807
          · have HR := Lib.hid (show whoO s k = some (-((v : Nat) : Int), q) by rw [HW.out, if_pos (by omega)])
            have HRI2 := HRI.out
            rw [riZ_yes hv, show riB v = true from decide_eq_true hv] at HRI2
            have HRI3 := Lib.hid HRI2
            clear HRI2 hm
            have hv2 : (v : Int) ≤ 9223372036854775807 := by omega
            clear hv
            go_wp2_with (go_at_call 97; refine (HRI3.out _).mono ?_; rintro e w1 ⟨rfl, hb1⟩)
            go_ret2
            exact ⟨by rw [HQ.out, HR.out]; rfl, hb1⟩
          · have HR := Lib.hid (show whoO s k = none by rw [HW.out, if_neg (by omega)])
            have HRI2 := HRI.out
            rw [riZ_no hv, show riB v = false from decide_eq_false hv] at HRI2
            have HRI3 := Lib.hid HRI2
            clear HRI2 hm hv
            go_wp2_with (go_at_call 97; refine (HRI3.out _).mono ?_; rintro e w1 ⟨rfl, hb1⟩)
            go_ret2
            exact ⟨by rw [HQ.out, HR.out]; rfl, hb1⟩
      · have g1 : (48 : Int) ≤ (s[q].toNat : Int) := by omega
        have g2 : (s[q].toNat : Int) ≤ 57 := by omega
        have hyd : dgAt s q = true := dgAt_iff.2 (by omega)
        have HALL := Lib.hid (show ∀ i, (k + 1) ≤ i → i < q + 1 → dgAt s i = true from fun i h1 h2 => by
          rcases Nat.lt_or_ge i q with h | h
          · exact hall i h1 h
          · obtain rfl : i = q := by omega
            exact hyd)
        clear hall hyd hbq0
        go_wp2
        go_round
        case rel => exact ⟨q + 1, by omega, by omega, by go_num, HALL.out⟩
        case measure => simp [intOf]; omega
      · have g1 : (48 : Int) ≤ (s[q].toNat : Int) := by omega
        have g2 : decide ((s[q].toNat : Int) ≤ 57) = false := decide_eq_false (by omega)
        have hnd : dgAt s q = false := by cases h : dgAt s q; rfl; have := dgAt_iff.1 h; omega
        clear hbq0
        have HEN := Lib.hid (show Ends s (k + 1) q from ⟨hfq, hq, hall, fun _ => hnd⟩)
        have hx1 : (0 : Int) ≤ (k : Int) + 1 := by omega
        have hx2 : (k : Int) + 1 ≤ (q : Int) := by omega
        have hx3 : (q : Int) ≤ (s.size : Int) := by omega
        clear hall
        go_upto_region 11 with fail
        generalize hF : s.extract (k + 1) q = F
        have HF := Lib.hid (show Fig s (k + 1) q F by rw [← hF]; exact Fig.mk' HEN.out)
        clear hF hx1 hx2 hx3
        have HFS := Lib.hid HF.out.size
        by_cases e0 : q = (k + 1)
        · have he : F.toList.isEmpty = true := by rw [fig_empty HF.out]; exact decide_eq_true e0
          have HE0 := Lib.hid e0
          clear e0
          go_wp2
          go_ret2
          exact ⟨by rw [HQ.out, who_bad HWF.out HF.out.ends (.inl HE0.out)]; rfl, Below.refl _ _⟩
        have he : F.toList.isEmpty = false := by rw [fig_empty HF.out]; exact decide_eq_false e0
        have hF0 : 0 < F.size := by have := HFS.out; omega
        have HH := Lib.hid (fig_head HF.out (by omega) hF0)
        by_cases z1 : (k + 1) + 1 < q
        · have d1 : decide ((1 : Int) < (F.size : Int)) = true := decide_eq_true (by have := HFS.out; omega)
          by_cases z2 : F[0].toNat = 48
          · have d2 : ((F[0].toNat : Int) == 48) = true := by rw [z2]; rfl
            have HB := Lib.hid (show bt s (k + 1) = 48 ∧ (k + 1) + 1 < q from ⟨by rw [← HH.out, z2], z1⟩)
            clear z1 z2
            go_wp2
            go_ret2
            exact ⟨by rw [HQ.out, who_bad HWF.out HF.out.ends (.inr (.inl HB.out))]; rfl, Below.refl _ _⟩
          have d2 : ((F[0].toNat : Int) == 48) = false := by rw [beq_eq_false_iff_ne]; omega
          have HZ := Lib.hid (show bt s (k + 1) = 48 → q = (k + 1) + 1 from fun h => by rw [← HH.out] at h; exact absurd h z2)
          clear z2
          have dq : decide ((q : Int) < (s.size : Int)) = true := decide_eq_true (by omega)
          have hbq := Lib.hid (bt_eq s q hqs)
          by_cases c46 : s[q].toNat = 46
          · have x46 : ((s[q].toNat : Int) == 46) = true := by rw [c46]; rfl
            have HB := Lib.hid (show stopB s q = true by rw [stopB, hbq.out, c46, decide_eq_true hqs]; rfl)
            clear c46
            go_wp2
            go_ret2
            exact ⟨by rw [HQ.out, who_bad HWF.out HF.out.ends (.inr (.inr HB.out))]; rfl, Below.refl _ _⟩
          have x46 : ((s[q].toNat : Int) == 46) = false := by rw [beq_eq_false_iff_ne]; omega
          by_cases c101 : s[q].toNat = 101
          · have x101 : ((s[q].toNat : Int) == 101) = true := by rw [c101]; rfl
            have HB := Lib.hid (show stopB s q = true by rw [stopB, hbq.out, c101, decide_eq_true hqs]; rfl)
            clear c101
            go_wp2
            go_ret2
            exact ⟨by rw [HQ.out, who_bad HWF.out HF.out.ends (.inr (.inr HB.out))]; rfl, Below.refl _ _⟩
          have x101 : ((s[q].toNat : Int) == 101) = false := by rw [beq_eq_false_iff_ne]; omega
          by_cases c69 : s[q].toNat = 69
          · have x69 : ((s[q].toNat : Int) == 69) = true := by rw [c69]; rfl
            have HB := Lib.hid (show stopB s q = true by rw [stopB, hbq.out, c69, decide_eq_true hqs]; rfl)
            clear c69
            go_wp2
            go_ret2
            exact ⟨by rw [HQ.out, who_bad HWF.out HF.out.ends (.inr (.inr HB.out))]; rfl, Below.refl _ _⟩
          have x69 : ((s[q].toNat : Int) == 69) = false := by rw [beq_eq_false_iff_ne]; omega
          have HST := Lib.hid (show ¬ (q = (k + 1) ∨ (bt s (k + 1) = 48 ∧ (k + 1) + 1 < q) ∨ stopB s q = true) by
            rintro (h | ⟨h1, h2⟩ | h)
            · exact e0 h
            · have := HZ.out h1; omega
            · simp [stopB, hbq.out, c46, c101, c69] at h)
          clear c46 c101 c69
          have hcan := Lib.hid (show Canon F.data.toList by rw [HF.out.list]; exact figs_canon HF.out.ends (by omega) HZ.out)
          have HW := Lib.hid (who_neg HWF.out HF.out.ends HST.out H45.out)
          rw [← HF.out.list] at HW
          have HRI := Lib.hid (fun w0 => sReadInt F w0 hcan.out)
          have HM := Lib.hid (min_iff hcan.out)
          generalize hv : valFrom 0 F.data.toList = v at HW HRI HM
          clear hv
          by_cases hm : v = 9223372036854775808
          · have e9 : (F.toList == [57, 50, 50, 51, 51, 55, 50, 48, 51, 54, 56, 53, 52, 55, 55, 53, 56, 48, 56]) = true := by rw [beq_iff_eq, data_toList]; exact HM.out.2 hm
            have HR := Lib.hid (show whoO s k = some (-9223372036854775808, q) by rw [HW.out, if_pos (by omega), hm]; rfl)
            clear hm
            go_wp2
            go_ret2
            exact ⟨by rw [HQ.out, HR.out]; rfl, Below.refl _ _⟩
          have e9 : (F.toList == [57, 50, 50, 51, 51, 55, 50, 48, 51, 54, 56, 53, 52, 55, 55, 53, 56, 48, 56]) = false := by rw [beq_eq_false_iff_ne, data_toList]; intro e; exact hm (HM.out.1 e)
          by_cases hv : v ≤ 9223372036854775807
          · have HR := Lib.hid (show whoO s k = some (-((v : Nat) : Int), q) by rw [HW.out, if_pos (by omega)])
            have HRI2 := HRI.out
            rw [riZ_yes hv, show riB v = true from decide_eq_true hv] at HRI2
            have HRI3 := Lib.hid HRI2
            clear HRI2 hm
            have hv2 : (v : Int) ≤ 9223372036854775807 := by omega
            clear hv
            go_wp2_with (go_at_call 97; refine (HRI3.out _).mono ?_; rintro e w1 ⟨rfl, hb1⟩)
            go_ret2
            exact ⟨by rw [HQ.out, HR.out]; rfl, hb1⟩
          · have HR := Lib.hid (show whoO s k = none by rw [HW.out, if_neg (by omega)])
            have HRI2 := HRI.out
            rw [riZ_no hv, show riB v = false from decide_eq_false hv] at HRI2
            have HRI3 := Lib.hid HRI2
            clear HRI2 hm hv
            go_wp2_with (go_at_call 97; refine (HRI3.out _).mono ?_; rintro e w1 ⟨rfl, hb1⟩)
            go_ret2
            exact ⟨by rw [HQ.out, HR.out]; rfl, hb1⟩
        · have d1 : decide ((1 : Int) < (F.size : Int)) = false := decide_eq_false (by have := HFS.out; omega)
          have HZ := Lib.hid (show bt s (k + 1) = 48 → q = (k + 1) + 1 from fun _ => by omega)
          have dq : decide ((q : Int) < (s.size : Int)) = true := decide_eq_true (by omega)
          have hbq := Lib.hid (bt_eq s q hqs)
          by_cases c46 : s[q].toNat = 46
          · have x46 : ((s[q].toNat : Int) == 46) = true := by rw [c46]; rfl
            have HB := Lib.hid (show stopB s q = true by rw [stopB, hbq.out, c46, decide_eq_true hqs]; rfl)
            clear c46
            go_wp2
            go_ret2
            exact ⟨by rw [HQ.out, who_bad HWF.out HF.out.ends (.inr (.inr HB.out))]; rfl, Below.refl _ _⟩
          have x46 : ((s[q].toNat : Int) == 46) = false := by rw [beq_eq_false_iff_ne]; omega
          by_cases c101 : s[q].toNat = 101
          · have x101 : ((s[q].toNat : Int) == 101) = true := by rw [c101]; rfl
            have HB := Lib.hid (show stopB s q = true by rw [stopB, hbq.out, c101, decide_eq_true hqs]; rfl)
            clear c101
            go_wp2
            go_ret2
            exact ⟨by rw [HQ.out, who_bad HWF.out HF.out.ends (.inr (.inr HB.out))]; rfl, Below.refl _ _⟩
          have x101 : ((s[q].toNat : Int) == 101) = false := by rw [beq_eq_false_iff_ne]; omega
          by_cases c69 : s[q].toNat = 69
          · have x69 : ((s[q].toNat : Int) == 69) = true := by rw [c69]; rfl
            have HB := Lib.hid (show stopB s q = true by rw [stopB, hbq.out, c69, decide_eq_true hqs]; rfl)
            clear c69
            go_wp2
            go_ret2
            exact ⟨by rw [HQ.out, who_bad HWF.out HF.out.ends (.inr (.inr HB.out))]; rfl, Below.refl _ _⟩
          have x69 : ((s[q].toNat : Int) == 69) = false := by rw [beq_eq_false_iff_ne]; omega
          have HST := Lib.hid (show ¬ (q = (k + 1) ∨ (bt s (k + 1) = 48 ∧ (k + 1) + 1 < q) ∨ stopB s q = true) by
            rintro (h | ⟨h1, h2⟩ | h)
            · exact e0 h
            · have := HZ.out h1; omega
            · simp [stopB, hbq.out, c46, c101, c69] at h)
          clear c46 c101 c69
          have hcan := Lib.hid (show Canon F.data.toList by rw [HF.out.list]; exact figs_canon HF.out.ends (by omega) HZ.out)
          have HW := Lib.hid (who_neg HWF.out HF.out.ends HST.out H45.out)
          rw [← HF.out.list] at HW
          have HRI := Lib.hid (fun w0 => sReadInt F w0 hcan.out)
          have HM := Lib.hid (min_iff hcan.out)
          generalize hv : valFrom 0 F.data.toList = v at HW HRI HM
          clear hv
          by_cases hm : v = 9223372036854775808
          · have e9 : (F.toList == [57, 50, 50, 51, 51, 55, 50, 48, 51, 54, 56, 53, 52, 55, 55, 53, 56, 48, 56]) = true := by rw [beq_iff_eq, data_toList]; exact HM.out.2 hm
            have HR := Lib.hid (show whoO s k = some (-9223372036854775808, q) by rw [HW.out, if_pos (by omega), hm]; rfl)
            clear hm
            go_wp2
            go_ret2
            exact ⟨by rw [HQ.out, HR.out]; rfl, Below.refl _ _⟩
          have e9 : (F.toList == [57, 50, 50, 51, 51, 55, 50, 48, 51, 54, 56, 53, 52, 55, 55, 53, 56, 48, 56]) = false := by rw [beq_eq_false_iff_ne, data_toList]; intro e; exact hm (HM.out.1 e)
          by_cases hv : v ≤ 9223372036854775807
          · have HR := Lib.hid (show whoO s k = some (-((v : Nat) : Int), q) by rw [HW.out, if_pos (by omega)])
            have HRI2 := HRI.out
            rw [riZ_yes hv, show riB v = true from decide_eq_true hv] at HRI2
            have HRI3 := Lib.hid HRI2
            clear HRI2 hm
            have hv2 : (v : Int) ≤ 9223372036854775807 := by omega
            clear hv
            go_wp2_with (go_at_call 97; refine (HRI3.out _).mono ?_; rintro e w1 ⟨rfl, hb1⟩)
            go_ret2
            exact ⟨by rw [HQ.out, HR.out]; rfl, hb1⟩
          · have HR := Lib.hid (show whoO s k = none by rw [HW.out, if_neg (by omega)])
            have HRI2 := HRI.out
            rw [riZ_no hv, show riB v = false from decide_eq_false hv] at HRI2
            have HRI3 := Lib.hid HRI2
            clear HRI2 hm hv
            go_wp2_with (go_at_call 97; refine (HRI3.out _).mono ?_; rintro e w1 ⟨rfl, hb1⟩)
            go_ret2
            exact ⟨by rw [HQ.out, HR.out]; rfl, hb1⟩
    · have hqe : q = s.size := by omega
      subst hqe
      clear hqs
      have HEN := Lib.hid (show Ends s (k + 1) s.size from ⟨hfq, Nat.le_refl _, hall, fun h => absurd h (by omega)⟩)
      have hx1 : (0 : Int) ≤ (k : Int) + 1 := by omega
      have hx2 : (k : Int) + 1 ≤ (s.size : Int) := by omega
      clear hall
      go_upto_region 11 with fail
      generalize hF : s.extract (k + 1) s.size = F
      have HF := Lib.hid (show Fig s (k + 1) s.size F by rw [← hF]; exact Fig.mk' HEN.out)
      clear hF hx1 hx2
      have HFS := Lib.hid HF.out.size
      by_cases e0 : s.size = (k + 1)
      · have he : F.toList.isEmpty = true := by rw [fig_empty HF.out]; exact decide_eq_true e0
        have HE0 := Lib.hid e0
        clear e0
        go_wp2
        go_ret2
        exact ⟨by rw [HQ.out, who_bad HWF.out HF.out.ends (.inl HE0.out)]; rfl, Below.refl _ _⟩
      have he : F.toList.isEmpty = false := by rw [fig_empty HF.out]; exact decide_eq_false e0
      have hF0 : 0 < F.size := by have := HFS.out; omega
      have HH := Lib.hid (fig_head HF.out (by omega) hF0)
      by_cases z1 : (k + 1) + 1 < s.size
      · have d1 : decide ((1 : Int) < (F.size : Int)) = true := decide_eq_true (by have := HFS.out; omega)
        by_cases z2 : F[0].toNat = 48
        · have d2 : ((F[0].toNat : Int) == 48) = true := by rw [z2]; rfl
          have HB := Lib.hid (show bt s (k + 1) = 48 ∧ (k + 1) + 1 < s.size from ⟨by rw [← HH.out, z2], z1⟩)
          clear z1 z2
          go_wp2
          go_ret2
          exact ⟨by rw [HQ.out, who_bad HWF.out HF.out.ends (.inr (.inl HB.out))]; rfl, Below.refl _ _⟩
        have d2 : ((F[0].toNat : Int) == 48) = false := by rw [beq_eq_false_iff_ne]; omega
        have HZ := Lib.hid (show bt s (k + 1) = 48 → s.size = (k + 1) + 1 from fun h => by rw [← HH.out] at h; exact absurd h z2)
        clear z2
        have dq : decide ((s.size : Int) < (s.size : Int)) = false := decide_eq_false (by omega)
        have HST := Lib.hid (show ¬ (s.size = (k + 1) ∨ (bt s (k + 1) = 48 ∧ (k + 1) + 1 < s.size) ∨ stopB s s.size = true) by
          rintro (h | ⟨h1, h2⟩ | h)
          · exact e0 h
          · have := HZ.out h1; omega
          · rw [stopB, decide_eq_false (by omega)] at h; cases h)
        have hcan := Lib.hid (show Canon F.data.toList by rw [HF.out.list]; exact figs_canon HF.out.ends (by omega) HZ.out)
        have HW := Lib.hid (who_neg HWF.out HF.out.ends HST.out H45.out)
        rw [← HF.out.list] at HW
        have HRI := Lib.hid (fun w0 => sReadInt F w0 hcan.out)
        have HM := Lib.hid (min_iff hcan.out)
        generalize hv : valFrom 0 F.data.toList = v at HW HRI HM
        clear hv
        by_cases hm : v = 9223372036854775808
        · have e9 : (F.toList == [57, 50, 50, 51, 51, 55, 50, 48, 51, 54, 56, 53, 52, 55, 55, 53, 56, 48, 56]) = true := by rw [beq_iff_eq, data_toList]; exact HM.out.2 hm
          have HR := Lib.hid (show whoO s k = some (-9223372036854775808, s.size) by rw [HW.out, if_pos (by omega), hm]; rfl)
          clear hm
          go_wp2
          go_ret2
          exact ⟨by rw [HQ.out, HR.out]; rfl, Below.refl _ _⟩
        have e9 : (F.toList == [57, 50, 50, 51, 51, 55, 50, 48, 51, 54, 56, 53, 52, 55, 55, 53, 56, 48, 56]) = false := by rw [beq_eq_false_iff_ne, data_toList]; intro e; exact hm (HM.out.1 e)
        by_cases hv : v ≤ 9223372036854775807
        · have HR := Lib.hid (show whoO s k = some (-((v : Nat) : Int), s.size) by rw [HW.out, if_pos (by omega)])
          have HRI2 := HRI.out
          rw [riZ_yes hv, show riB v = true from decide_eq_true hv] at HRI2
          have HRI3 := Lib.hid HRI2
          clear HRI2 hm
          have hv2 : (v : Int) ≤ 9223372036854775807 := by omega
          clear hv
          go_wp2_with (go_at_call 97; refine (HRI3.out _).mono ?_; rintro e w1 ⟨rfl, hb1⟩)
          go_ret2
          exact ⟨by rw [HQ.out, HR.out]; rfl, hb1⟩
        · have HR := Lib.hid (show whoO s k = none by rw [HW.out, if_neg (by omega)])
          have HRI2 := HRI.out
          rw [riZ_no hv, show riB v = false from decide_eq_false hv] at HRI2
          have HRI3 := Lib.hid HRI2
          clear HRI2 hm hv
          go_wp2_with (go_at_call 97; refine (HRI3.out _).mono ?_; rintro e w1 ⟨rfl, hb1⟩)
          go_ret2
          exact ⟨by rw [HQ.out, HR.out]; rfl, hb1⟩
      · have d1 : decide ((1 : Int) < (F.size : Int)) = false := decide_eq_false (by have := HFS.out; omega)
        have HZ := Lib.hid (show bt s (k + 1) = 48 → s.size = (k + 1) + 1 from fun _ => by omega)
        have dq : decide ((s.size : Int) < (s.size : Int)) = false := decide_eq_false (by omega)
        have HST := Lib.hid (show ¬ (s.size = (k + 1) ∨ (bt s (k + 1) = 48 ∧ (k + 1) + 1 < s.size) ∨ stopB s s.size = true) by
          rintro (h | ⟨h1, h2⟩ | h)
          · exact e0 h
          · have := HZ.out h1; omega
          · rw [stopB, decide_eq_false (by omega)] at h; cases h)
        have hcan := Lib.hid (show Canon F.data.toList by rw [HF.out.list]; exact figs_canon HF.out.ends (by omega) HZ.out)
        have HW := Lib.hid (who_neg HWF.out HF.out.ends HST.out H45.out)
        rw [← HF.out.list] at HW
        have HRI := Lib.hid (fun w0 => sReadInt F w0 hcan.out)
        have HM := Lib.hid (min_iff hcan.out)
        generalize hv : valFrom 0 F.data.toList = v at HW HRI HM
        clear hv
        by_cases hm : v = 9223372036854775808
        · have e9 : (F.toList == [57, 50, 50, 51, 51, 55, 50, 48, 51, 54, 56, 53, 52, 55, 55, 53, 56, 48, 56]) = true := by rw [beq_iff_eq, data_toList]; exact HM.out.2 hm
          have HR := Lib.hid (show whoO s k = some (-9223372036854775808, s.size) by rw [HW.out, if_pos (by omega), hm]; rfl)
          clear hm
          go_wp2
          go_ret2
          exact ⟨by rw [HQ.out, HR.out]; rfl, Below.refl _ _⟩
        have e9 : (F.toList == [57, 50, 50, 51, 51, 55, 50, 48, 51, 54, 56, 53, 52, 55, 55, 53, 56, 48, 56]) = false := by rw [beq_eq_false_iff_ne, data_toList]; intro e; exact hm (HM.out.1 e)
        by_cases hv : v ≤ 9223372036854775807
        · have HR := Lib.hid (show whoO s k = some (-((v : Nat) : Int), s.size) by rw [HW.out, if_pos (by omega)])
          have HRI2 := HRI.out
          rw [riZ_yes hv, show riB v = true from decide_eq_true hv] at HRI2
          have HRI3 := Lib.hid HRI2
          clear HRI2 hm
          have hv2 : (v : Int) ≤ 9223372036854775807 := by omega
          clear hv
          go_wp2_with (go_at_call 97; refine (HRI3.out _).mono ?_; rintro e w1 ⟨rfl, hb1⟩)
          go_ret2
          exact ⟨by rw [HQ.out, HR.out]; rfl, hb1⟩
        · have HR := Lib.hid (show whoO s k = none by rw [HW.out, if_neg (by omega)])
          have HRI2 := HRI.out
          rw [riZ_no hv, show riB v = false from decide_eq_false hv] at HRI2
          have HRI3 := Lib.hid HRI2
          clear HRI2 hm hv
          go_wp2_with (go_at_call 97; refine (HRI3.out _).mono ?_; rintro e w1 ⟨rfl, hb1⟩)
          go_ret2
          exact ⟨by rw [HQ.out, HR.out]; rfl, hb1⟩

set_option maxHeartbeats 4000000 in
set_option maxRecDepth 100000 in
theorem sReadWholePos (s : ByteArray) (k : Nat) (w : World) (hs : s.size ≤ 1048576) (hk : k < s.size) (c0 : s[k].toNat ≠ 45) :
    Calls Tryz.prog 64 #[.string s, .int .i64 (k : Int)] w fun e w' => e = .returned (.tuple #[.int .i64 (whoN (whoQ s (k : Int))), .int .i64 (whoE (whoQ s (k : Int)))]) ∧ Below w.heap.size w w' := by
  have hbt : betweenB (k : Int) 0 ((s.size : Int) - 1) = true := by simp [betweenB]; omega
  have HQ := Lib.hid (who_in hk)
  have hbk := bt_eq s k hk
  have n0 : ((s[k].toNat : Int) == 45) = false := by rw [beq_eq_false_iff_ne]; omega
  have H45 := Lib.hid (show bt s k ≠ 45 by omega)
  have HWF := Lib.hid (show whoFrom s k = k from if_neg H45.out)
  clear c0 hbk
  go_enter Tryz.func64, Tryz.ntmps64
  go_wp2_with (go_at_call 46; refine (l01In_any _ _ _ _).mono ?_; rintro e w' ⟨rfl, rfl⟩)
  go_loop [8] (fun i => ∃ q : Nat, k ≤ q ∧ q ≤ s.size ∧ i = .int .i64 (q : Int) ∧ ∀ i, k ≤ i → i < q → dgAt s i = true) (fun i => s.size - (intOf i).toNat)
  case atStart => exact ⟨k, by omega, by omega, rfl, fun i h1 h2 => by omega⟩
  case round =>
    obtain ⟨q, hfq, hq, rfl, hall⟩ := hrel
    by_cases hqs : q < s.size
    · have hbq0 := bt_eq s q hqs
      rcases (show s[q].toNat < 48 ∨ (48 ≤ s[q].toNat ∧ s[q].toNat ≤ 57) ∨ 57 < s[q].toNat by omega) with hd | ⟨hd, hd'⟩ | hd
      · have g1 : decide ((48 : Int) ≤ (s[q].toNat : Int)) = false := decide_eq_false (by omega)
        have hnd : dgAt s q = false := by cases h : dgAt s q; rfl; have := dgAt_iff.1 h; omega
        clear hbq0
        have HEN := Lib.hid (show Ends s k q from ⟨hfq, hq, hall, fun _ => hnd⟩)
        have hx1 : (0 : Int) ≤ (k : Int) := by omega
        have hx2 : (k : Int) ≤ (q : Int) := by omega
        have hx3 : (q : Int) ≤ (s.size : Int) := by omega
        clear hall
        go_upto_region 11 with fail
        generalize hF : s.extract k q = F
        have HF := Lib.hid (show Fig s k q F by rw [← hF]; exact Fig.mk' HEN.out)
        clear hF hx1 hx2 hx3
        have HFS := Lib.hid HF.out.size
        by_cases e0 : q = k
        · have he : F.toList.isEmpty = true := by rw [fig_empty HF.out]; exact decide_eq_true e0
          have HE0 := Lib.hid e0
          clear e0
          go_wp2
          go_ret2
          exact ⟨by rw [HQ.out, who_bad HWF.out HF.out.ends (.inl HE0.out)]; rfl, Below.refl _ _⟩
        have he : F.toList.isEmpty = false := by rw [fig_empty HF.out]; exact decide_eq_false e0
        have hF0 : 0 < F.size := by have := HFS.out; omega
        have HH := Lib.hid (fig_head HF.out (by omega) hF0)
        by_cases z1 : k + 1 < q
        · have d1 : decide ((1 : Int) < (F.size : Int)) = true := decide_eq_true (by have := HFS.out; omega)
          by_cases z2 : F[0].toNat = 48
          · have d2 : ((F[0].toNat : Int) == 48) = true := by rw [z2]; rfl
            have HB := Lib.hid (show bt s k = 48 ∧ k + 1 < q from ⟨by rw [← HH.out, z2], z1⟩)
            clear z1 z2
            go_wp2
            go_ret2
            exact ⟨by rw [HQ.out, who_bad HWF.out HF.out.ends (.inr (.inl HB.out))]; rfl, Below.refl _ _⟩
          have d2 : ((F[0].toNat : Int) == 48) = false := by rw [beq_eq_false_iff_ne]; omega
          have HZ := Lib.hid (show bt s k = 48 → q = k + 1 from fun h => by rw [← HH.out] at h; exact absurd h z2)
          clear z2
          have dq : decide ((q : Int) < (s.size : Int)) = true := decide_eq_true (by omega)
          have hbq := Lib.hid (bt_eq s q hqs)
          by_cases c46 : s[q].toNat = 46
          · have x46 : ((s[q].toNat : Int) == 46) = true := by rw [c46]; rfl
            have HB := Lib.hid (show stopB s q = true by rw [stopB, hbq.out, c46, decide_eq_true hqs]; rfl)
            clear c46
            go_wp2
            go_ret2
            exact ⟨by rw [HQ.out, who_bad HWF.out HF.out.ends (.inr (.inr HB.out))]; rfl, Below.refl _ _⟩
          have x46 : ((s[q].toNat : Int) == 46) = false := by rw [beq_eq_false_iff_ne]; omega
          by_cases c101 : s[q].toNat = 101
          · have x101 : ((s[q].toNat : Int) == 101) = true := by rw [c101]; rfl
            have HB := Lib.hid (show stopB s q = true by rw [stopB, hbq.out, c101, decide_eq_true hqs]; rfl)
            clear c101
            go_wp2
            go_ret2
            exact ⟨by rw [HQ.out, who_bad HWF.out HF.out.ends (.inr (.inr HB.out))]; rfl, Below.refl _ _⟩
          have x101 : ((s[q].toNat : Int) == 101) = false := by rw [beq_eq_false_iff_ne]; omega
          by_cases c69 : s[q].toNat = 69
          · have x69 : ((s[q].toNat : Int) == 69) = true := by rw [c69]; rfl
            have HB := Lib.hid (show stopB s q = true by rw [stopB, hbq.out, c69, decide_eq_true hqs]; rfl)
            clear c69
            go_wp2
            go_ret2
            exact ⟨by rw [HQ.out, who_bad HWF.out HF.out.ends (.inr (.inr HB.out))]; rfl, Below.refl _ _⟩
          have x69 : ((s[q].toNat : Int) == 69) = false := by rw [beq_eq_false_iff_ne]; omega
          have HST := Lib.hid (show ¬ (q = k ∨ (bt s k = 48 ∧ k + 1 < q) ∨ stopB s q = true) by
            rintro (h | ⟨h1, h2⟩ | h)
            · exact e0 h
            · have := HZ.out h1; omega
            · simp [stopB, hbq.out, c46, c101, c69] at h)
          clear c46 c101 c69
          have hcan := Lib.hid (show Canon F.data.toList by rw [HF.out.list]; exact figs_canon HF.out.ends (by omega) HZ.out)
          have HW := Lib.hid (who_pos HWF.out HF.out.ends HST.out H45.out)
          rw [← HF.out.list] at HW
          have HRI := Lib.hid (fun w0 => sReadInt F w0 hcan.out)
          generalize hv : valFrom 0 F.data.toList = v at HW HRI
          clear hv
          by_cases hv : v ≤ 9223372036854775807
          · have HR := Lib.hid (show whoO s k = some (((v : Nat) : Int), q) by rw [HW.out, if_pos (by omega)])
            have HRI2 := HRI.out
            rw [riZ_yes hv, show riB v = true from decide_eq_true hv] at HRI2
            have HRI3 := Lib.hid HRI2
            clear HRI2 hv
            go_wp2_with (go_at_call 97; refine (HRI3.out _).mono ?_; rintro e w1 ⟨rfl, hb1⟩)
            go_ret2
            exact ⟨by rw [HQ.out, HR.out]; rfl, hb1⟩
          · have HR := Lib.hid (show whoO s k = none by rw [HW.out, if_neg (by omega)])
            have HRI2 := HRI.out
            rw [riZ_no hv, show riB v = false from decide_eq_false hv] at HRI2
            have HRI3 := Lib.hid HRI2
            clear HRI2 hv
            go_wp2_with (go_at_call 97; refine (HRI3.out _).mono ?_; rintro e w1 ⟨rfl, hb1⟩)
            go_ret2
            exact ⟨by rw [HQ.out, HR.out]; rfl, hb1⟩
        · have d1 : decide ((1 : Int) < (F.size : Int)) = false := decide_eq_false (by have := HFS.out; omega)
          have HZ := Lib.hid (show bt s k = 48 → q = k + 1 from fun _ => by omega)
          have dq : decide ((q : Int) < (s.size : Int)) = true := decide_eq_true (by omega)
          have hbq := Lib.hid (bt_eq s q hqs)
          by_cases c46 : s[q].toNat = 46
          · have x46 : ((s[q].toNat : Int) == 46) = true := by rw [c46]; rfl
            have HB := Lib.hid (show stopB s q = true by rw [stopB, hbq.out, c46, decide_eq_true hqs]; rfl)
            clear c46
            go_wp2
            go_ret2
            exact ⟨by rw [HQ.out, who_bad HWF.out HF.out.ends (.inr (.inr HB.out))]; rfl, Below.refl _ _⟩
          have x46 : ((s[q].toNat : Int) == 46) = false := by rw [beq_eq_false_iff_ne]; omega
          by_cases c101 : s[q].toNat = 101
          · have x101 : ((s[q].toNat : Int) == 101) = true := by rw [c101]; rfl
            have HB := Lib.hid (show stopB s q = true by rw [stopB, hbq.out, c101, decide_eq_true hqs]; rfl)
            clear c101
            go_wp2
            go_ret2
            exact ⟨by rw [HQ.out, who_bad HWF.out HF.out.ends (.inr (.inr HB.out))]; rfl, Below.refl _ _⟩
          have x101 : ((s[q].toNat : Int) == 101) = false := by rw [beq_eq_false_iff_ne]; omega
          by_cases c69 : s[q].toNat = 69
          · have x69 : ((s[q].toNat : Int) == 69) = true := by rw [c69]; rfl
            have HB := Lib.hid (show stopB s q = true by rw [stopB, hbq.out, c69, decide_eq_true hqs]; rfl)
            clear c69
            go_wp2
            go_ret2
            exact ⟨by rw [HQ.out, who_bad HWF.out HF.out.ends (.inr (.inr HB.out))]; rfl, Below.refl _ _⟩
          have x69 : ((s[q].toNat : Int) == 69) = false := by rw [beq_eq_false_iff_ne]; omega
          have HST := Lib.hid (show ¬ (q = k ∨ (bt s k = 48 ∧ k + 1 < q) ∨ stopB s q = true) by
            rintro (h | ⟨h1, h2⟩ | h)
            · exact e0 h
            · have := HZ.out h1; omega
            · simp [stopB, hbq.out, c46, c101, c69] at h)
          clear c46 c101 c69
          have hcan := Lib.hid (show Canon F.data.toList by rw [HF.out.list]; exact figs_canon HF.out.ends (by omega) HZ.out)
          have HW := Lib.hid (who_pos HWF.out HF.out.ends HST.out H45.out)
          rw [← HF.out.list] at HW
          have HRI := Lib.hid (fun w0 => sReadInt F w0 hcan.out)
          generalize hv : valFrom 0 F.data.toList = v at HW HRI
          clear hv
          by_cases hv : v ≤ 9223372036854775807
          · have HR := Lib.hid (show whoO s k = some (((v : Nat) : Int), q) by rw [HW.out, if_pos (by omega)])
            have HRI2 := HRI.out
            rw [riZ_yes hv, show riB v = true from decide_eq_true hv] at HRI2
            have HRI3 := Lib.hid HRI2
            clear HRI2 hv
            go_wp2_with (go_at_call 97; refine (HRI3.out _).mono ?_; rintro e w1 ⟨rfl, hb1⟩)
            go_ret2
            exact ⟨by rw [HQ.out, HR.out]; rfl, hb1⟩
          · have HR := Lib.hid (show whoO s k = none by rw [HW.out, if_neg (by omega)])
            have HRI2 := HRI.out
            rw [riZ_no hv, show riB v = false from decide_eq_false hv] at HRI2
            have HRI3 := Lib.hid HRI2
            clear HRI2 hv
            go_wp2_with (go_at_call 97; refine (HRI3.out _).mono ?_; rintro e w1 ⟨rfl, hb1⟩)
            go_ret2
            exact ⟨by rw [HQ.out, HR.out]; rfl, hb1⟩
      · have g1 : (48 : Int) ≤ (s[q].toNat : Int) := by omega
        have g2 : (s[q].toNat : Int) ≤ 57 := by omega
        have hyd : dgAt s q = true := dgAt_iff.2 (by omega)
        have HALL := Lib.hid (show ∀ i, k ≤ i → i < q + 1 → dgAt s i = true from fun i h1 h2 => by
          rcases Nat.lt_or_ge i q with h | h
          · exact hall i h1 h
          · obtain rfl : i = q := by omega
            exact hyd)
        clear hall hyd hbq0
        go_wp2
        go_round
        case rel => exact ⟨q + 1, by omega, by omega, by go_num, HALL.out⟩
        case measure => simp [intOf]; omega
      · have g1 : (48 : Int) ≤ (s[q].toNat : Int) := by omega
        have g2 : decide ((s[q].toNat : Int) ≤ 57) = false := decide_eq_false (by omega)
        have hnd : dgAt s q = false := by cases h : dgAt s q; rfl; have := dgAt_iff.1 h; omega
        clear hbq0
        have HEN := Lib.hid (show Ends s k q from ⟨hfq, hq, hall, fun _ => hnd⟩)
        have hx1 : (0 : Int) ≤ (k : Int) := by omega
        have hx2 : (k : Int) ≤ (q : Int) := by omega
        have hx3 : (q : Int) ≤ (s.size : Int) := by omega
        clear hall
        go_upto_region 11 with fail
        generalize hF : s.extract k q = F
        have HF := Lib.hid (show Fig s k q F by rw [← hF]; exact Fig.mk' HEN.out)
        clear hF hx1 hx2 hx3
        have HFS := Lib.hid HF.out.size
        by_cases e0 : q = k
        · have he : F.toList.isEmpty = true := by rw [fig_empty HF.out]; exact decide_eq_true e0
          have HE0 := Lib.hid e0
          clear e0
          go_wp2
          go_ret2
          exact ⟨by rw [HQ.out, who_bad HWF.out HF.out.ends (.inl HE0.out)]; rfl, Below.refl _ _⟩
        have he : F.toList.isEmpty = false := by rw [fig_empty HF.out]; exact decide_eq_false e0
        have hF0 : 0 < F.size := by have := HFS.out; omega
        have HH := Lib.hid (fig_head HF.out (by omega) hF0)
        by_cases z1 : k + 1 < q
        · have d1 : decide ((1 : Int) < (F.size : Int)) = true := decide_eq_true (by have := HFS.out; omega)
          by_cases z2 : F[0].toNat = 48
          · have d2 : ((F[0].toNat : Int) == 48) = true := by rw [z2]; rfl
            have HB := Lib.hid (show bt s k = 48 ∧ k + 1 < q from ⟨by rw [← HH.out, z2], z1⟩)
            clear z1 z2
            go_wp2
            go_ret2
            exact ⟨by rw [HQ.out, who_bad HWF.out HF.out.ends (.inr (.inl HB.out))]; rfl, Below.refl _ _⟩
          have d2 : ((F[0].toNat : Int) == 48) = false := by rw [beq_eq_false_iff_ne]; omega
          have HZ := Lib.hid (show bt s k = 48 → q = k + 1 from fun h => by rw [← HH.out] at h; exact absurd h z2)
          clear z2
          have dq : decide ((q : Int) < (s.size : Int)) = true := decide_eq_true (by omega)
          have hbq := Lib.hid (bt_eq s q hqs)
          by_cases c46 : s[q].toNat = 46
          · have x46 : ((s[q].toNat : Int) == 46) = true := by rw [c46]; rfl
            have HB := Lib.hid (show stopB s q = true by rw [stopB, hbq.out, c46, decide_eq_true hqs]; rfl)
            clear c46
            go_wp2
            go_ret2
            exact ⟨by rw [HQ.out, who_bad HWF.out HF.out.ends (.inr (.inr HB.out))]; rfl, Below.refl _ _⟩
          have x46 : ((s[q].toNat : Int) == 46) = false := by rw [beq_eq_false_iff_ne]; omega
          by_cases c101 : s[q].toNat = 101
          · have x101 : ((s[q].toNat : Int) == 101) = true := by rw [c101]; rfl
            have HB := Lib.hid (show stopB s q = true by rw [stopB, hbq.out, c101, decide_eq_true hqs]; rfl)
            clear c101
            go_wp2
            go_ret2
            exact ⟨by rw [HQ.out, who_bad HWF.out HF.out.ends (.inr (.inr HB.out))]; rfl, Below.refl _ _⟩
          have x101 : ((s[q].toNat : Int) == 101) = false := by rw [beq_eq_false_iff_ne]; omega
          by_cases c69 : s[q].toNat = 69
          · have x69 : ((s[q].toNat : Int) == 69) = true := by rw [c69]; rfl
            have HB := Lib.hid (show stopB s q = true by rw [stopB, hbq.out, c69, decide_eq_true hqs]; rfl)
            clear c69
            go_wp2
            go_ret2
            exact ⟨by rw [HQ.out, who_bad HWF.out HF.out.ends (.inr (.inr HB.out))]; rfl, Below.refl _ _⟩
          have x69 : ((s[q].toNat : Int) == 69) = false := by rw [beq_eq_false_iff_ne]; omega
          have HST := Lib.hid (show ¬ (q = k ∨ (bt s k = 48 ∧ k + 1 < q) ∨ stopB s q = true) by
            rintro (h | ⟨h1, h2⟩ | h)
            · exact e0 h
            · have := HZ.out h1; omega
            · simp [stopB, hbq.out, c46, c101, c69] at h)
          clear c46 c101 c69
          have hcan := Lib.hid (show Canon F.data.toList by rw [HF.out.list]; exact figs_canon HF.out.ends (by omega) HZ.out)
          have HW := Lib.hid (who_pos HWF.out HF.out.ends HST.out H45.out)
          rw [← HF.out.list] at HW
          have HRI := Lib.hid (fun w0 => sReadInt F w0 hcan.out)
          generalize hv : valFrom 0 F.data.toList = v at HW HRI
          clear hv
          by_cases hv : v ≤ 9223372036854775807
          · have HR := Lib.hid (show whoO s k = some (((v : Nat) : Int), q) by rw [HW.out, if_pos (by omega)])
            have HRI2 := HRI.out
            rw [riZ_yes hv, show riB v = true from decide_eq_true hv] at HRI2
            have HRI3 := Lib.hid HRI2
            clear HRI2 hv
            go_wp2_with (go_at_call 97; refine (HRI3.out _).mono ?_; rintro e w1 ⟨rfl, hb1⟩)
            go_ret2
            exact ⟨by rw [HQ.out, HR.out]; rfl, hb1⟩
          · have HR := Lib.hid (show whoO s k = none by rw [HW.out, if_neg (by omega)])
            have HRI2 := HRI.out
            rw [riZ_no hv, show riB v = false from decide_eq_false hv] at HRI2
            have HRI3 := Lib.hid HRI2
            clear HRI2 hv
            go_wp2_with (go_at_call 97; refine (HRI3.out _).mono ?_; rintro e w1 ⟨rfl, hb1⟩)
            go_ret2
            exact ⟨by rw [HQ.out, HR.out]; rfl, hb1⟩
        · have d1 : decide ((1 : Int) < (F.size : Int)) = false := decide_eq_false (by have := HFS.out; omega)
          have HZ := Lib.hid (show bt s k = 48 → q = k + 1 from fun _ => by omega)
          have dq : decide ((q : Int) < (s.size : Int)) = true := decide_eq_true (by omega)
          have hbq := Lib.hid (bt_eq s q hqs)
          by_cases c46 : s[q].toNat = 46
          · have x46 : ((s[q].toNat : Int) == 46) = true := by rw [c46]; rfl
            have HB := Lib.hid (show stopB s q = true by rw [stopB, hbq.out, c46, decide_eq_true hqs]; rfl)
            clear c46
            go_wp2
            go_ret2
            exact ⟨by rw [HQ.out, who_bad HWF.out HF.out.ends (.inr (.inr HB.out))]; rfl, Below.refl _ _⟩
          have x46 : ((s[q].toNat : Int) == 46) = false := by rw [beq_eq_false_iff_ne]; omega
          by_cases c101 : s[q].toNat = 101
          · have x101 : ((s[q].toNat : Int) == 101) = true := by rw [c101]; rfl
            have HB := Lib.hid (show stopB s q = true by rw [stopB, hbq.out, c101, decide_eq_true hqs]; rfl)
            clear c101
            go_wp2
            go_ret2
            exact ⟨by rw [HQ.out, who_bad HWF.out HF.out.ends (.inr (.inr HB.out))]; rfl, Below.refl _ _⟩
          have x101 : ((s[q].toNat : Int) == 101) = false := by rw [beq_eq_false_iff_ne]; omega
          by_cases c69 : s[q].toNat = 69
          · have x69 : ((s[q].toNat : Int) == 69) = true := by rw [c69]; rfl
            have HB := Lib.hid (show stopB s q = true by rw [stopB, hbq.out, c69, decide_eq_true hqs]; rfl)
            clear c69
            go_wp2
            go_ret2
            exact ⟨by rw [HQ.out, who_bad HWF.out HF.out.ends (.inr (.inr HB.out))]; rfl, Below.refl _ _⟩
          have x69 : ((s[q].toNat : Int) == 69) = false := by rw [beq_eq_false_iff_ne]; omega
          have HST := Lib.hid (show ¬ (q = k ∨ (bt s k = 48 ∧ k + 1 < q) ∨ stopB s q = true) by
            rintro (h | ⟨h1, h2⟩ | h)
            · exact e0 h
            · have := HZ.out h1; omega
            · simp [stopB, hbq.out, c46, c101, c69] at h)
          clear c46 c101 c69
          have hcan := Lib.hid (show Canon F.data.toList by rw [HF.out.list]; exact figs_canon HF.out.ends (by omega) HZ.out)
          have HW := Lib.hid (who_pos HWF.out HF.out.ends HST.out H45.out)
          rw [← HF.out.list] at HW
          have HRI := Lib.hid (fun w0 => sReadInt F w0 hcan.out)
          generalize hv : valFrom 0 F.data.toList = v at HW HRI
          clear hv
          by_cases hv : v ≤ 9223372036854775807
          · have HR := Lib.hid (show whoO s k = some (((v : Nat) : Int), q) by rw [HW.out, if_pos (by omega)])
            have HRI2 := HRI.out
            rw [riZ_yes hv, show riB v = true from decide_eq_true hv] at HRI2
            have HRI3 := Lib.hid HRI2
            clear HRI2 hv
            go_wp2_with (go_at_call 97; refine (HRI3.out _).mono ?_; rintro e w1 ⟨rfl, hb1⟩)
            go_ret2
            exact ⟨by rw [HQ.out, HR.out]; rfl, hb1⟩
          · have HR := Lib.hid (show whoO s k = none by rw [HW.out, if_neg (by omega)])
            have HRI2 := HRI.out
            rw [riZ_no hv, show riB v = false from decide_eq_false hv] at HRI2
            have HRI3 := Lib.hid HRI2
            clear HRI2 hv
            go_wp2_with (go_at_call 97; refine (HRI3.out _).mono ?_; rintro e w1 ⟨rfl, hb1⟩)
            go_ret2
            exact ⟨by rw [HQ.out, HR.out]; rfl, hb1⟩
    · have hqe : q = s.size := by omega
      subst hqe
      clear hqs
      have HEN := Lib.hid (show Ends s k s.size from ⟨hfq, Nat.le_refl _, hall, fun h => absurd h (by omega)⟩)
      have hx1 : (0 : Int) ≤ (k : Int) := by omega
      have hx2 : (k : Int) ≤ (s.size : Int) := by omega
      clear hall
      go_upto_region 11 with fail
      generalize hF : s.extract k s.size = F
      have HF := Lib.hid (show Fig s k s.size F by rw [← hF]; exact Fig.mk' HEN.out)
      clear hF hx1 hx2
      have HFS := Lib.hid HF.out.size
      by_cases e0 : s.size = k
      · have he : F.toList.isEmpty = true := by rw [fig_empty HF.out]; exact decide_eq_true e0
        have HE0 := Lib.hid e0
        clear e0
        go_wp2
        go_ret2
        exact ⟨by rw [HQ.out, who_bad HWF.out HF.out.ends (.inl HE0.out)]; rfl, Below.refl _ _⟩
      have he : F.toList.isEmpty = false := by rw [fig_empty HF.out]; exact decide_eq_false e0
      have hF0 : 0 < F.size := by have := HFS.out; omega
      have HH := Lib.hid (fig_head HF.out (by omega) hF0)
      by_cases z1 : k + 1 < s.size
      · have d1 : decide ((1 : Int) < (F.size : Int)) = true := decide_eq_true (by have := HFS.out; omega)
        by_cases z2 : F[0].toNat = 48
        · have d2 : ((F[0].toNat : Int) == 48) = true := by rw [z2]; rfl
          have HB := Lib.hid (show bt s k = 48 ∧ k + 1 < s.size from ⟨by rw [← HH.out, z2], z1⟩)
          clear z1 z2
          go_wp2
          go_ret2
          exact ⟨by rw [HQ.out, who_bad HWF.out HF.out.ends (.inr (.inl HB.out))]; rfl, Below.refl _ _⟩
        have d2 : ((F[0].toNat : Int) == 48) = false := by rw [beq_eq_false_iff_ne]; omega
        have HZ := Lib.hid (show bt s k = 48 → s.size = k + 1 from fun h => by rw [← HH.out] at h; exact absurd h z2)
        clear z2
        have dq : decide ((s.size : Int) < (s.size : Int)) = false := decide_eq_false (by omega)
        have HST := Lib.hid (show ¬ (s.size = k ∨ (bt s k = 48 ∧ k + 1 < s.size) ∨ stopB s s.size = true) by
          rintro (h | ⟨h1, h2⟩ | h)
          · exact e0 h
          · have := HZ.out h1; omega
          · rw [stopB, decide_eq_false (by omega)] at h; cases h)
        have hcan := Lib.hid (show Canon F.data.toList by rw [HF.out.list]; exact figs_canon HF.out.ends (by omega) HZ.out)
        have HW := Lib.hid (who_pos HWF.out HF.out.ends HST.out H45.out)
        rw [← HF.out.list] at HW
        have HRI := Lib.hid (fun w0 => sReadInt F w0 hcan.out)
        generalize hv : valFrom 0 F.data.toList = v at HW HRI
        clear hv
        by_cases hv : v ≤ 9223372036854775807
        · have HR := Lib.hid (show whoO s k = some (((v : Nat) : Int), s.size) by rw [HW.out, if_pos (by omega)])
          have HRI2 := HRI.out
          rw [riZ_yes hv, show riB v = true from decide_eq_true hv] at HRI2
          have HRI3 := Lib.hid HRI2
          clear HRI2 hv
          go_wp2_with (go_at_call 97; refine (HRI3.out _).mono ?_; rintro e w1 ⟨rfl, hb1⟩)
          go_ret2
          exact ⟨by rw [HQ.out, HR.out]; rfl, hb1⟩
        · have HR := Lib.hid (show whoO s k = none by rw [HW.out, if_neg (by omega)])
          have HRI2 := HRI.out
          rw [riZ_no hv, show riB v = false from decide_eq_false hv] at HRI2
          have HRI3 := Lib.hid HRI2
          clear HRI2 hv
          go_wp2_with (go_at_call 97; refine (HRI3.out _).mono ?_; rintro e w1 ⟨rfl, hb1⟩)
          go_ret2
          exact ⟨by rw [HQ.out, HR.out]; rfl, hb1⟩
      · have d1 : decide ((1 : Int) < (F.size : Int)) = false := decide_eq_false (by have := HFS.out; omega)
        have HZ := Lib.hid (show bt s k = 48 → s.size = k + 1 from fun _ => by omega)
        have dq : decide ((s.size : Int) < (s.size : Int)) = false := decide_eq_false (by omega)
        have HST := Lib.hid (show ¬ (s.size = k ∨ (bt s k = 48 ∧ k + 1 < s.size) ∨ stopB s s.size = true) by
          rintro (h | ⟨h1, h2⟩ | h)
          · exact e0 h
          · have := HZ.out h1; omega
          · rw [stopB, decide_eq_false (by omega)] at h; cases h)
        have hcan := Lib.hid (show Canon F.data.toList by rw [HF.out.list]; exact figs_canon HF.out.ends (by omega) HZ.out)
        have HW := Lib.hid (who_pos HWF.out HF.out.ends HST.out H45.out)
        rw [← HF.out.list] at HW
        have HRI := Lib.hid (fun w0 => sReadInt F w0 hcan.out)
        generalize hv : valFrom 0 F.data.toList = v at HW HRI
        clear hv
        by_cases hv : v ≤ 9223372036854775807
        · have HR := Lib.hid (show whoO s k = some (((v : Nat) : Int), s.size) by rw [HW.out, if_pos (by omega)])
          have HRI2 := HRI.out
          rw [riZ_yes hv, show riB v = true from decide_eq_true hv] at HRI2
          have HRI3 := Lib.hid HRI2
          clear HRI2 hv
          go_wp2_with (go_at_call 97; refine (HRI3.out _).mono ?_; rintro e w1 ⟨rfl, hb1⟩)
          go_ret2
          exact ⟨by rw [HQ.out, HR.out]; rfl, hb1⟩
        · have HR := Lib.hid (show whoO s k = none by rw [HW.out, if_neg (by omega)])
          have HRI2 := HRI.out
          rw [riZ_no hv, show riB v = false from decide_eq_false hv] at HRI2
          have HRI3 := Lib.hid HRI2
          clear HRI2 hv
          go_wp2_with (go_at_call 97; refine (HRI3.out _).mono ?_; rintro e w1 ⟨rfl, hb1⟩)
          go_ret2
          exact ⟨by rw [HQ.out, HR.out]; rfl, hb1⟩

theorem sReadWhole (s : ByteArray) (p : Int) (w : World) (hs : s.size ≤ 1048576) :
    Calls Tryz.prog 64 #[.string s, .int .i64 p] w fun e w' => e = .returned (.tuple #[.int .i64 (whoN (whoQ s p)), .int .i64 (whoE (whoQ s p))]) ∧ Below w.heap.size w w' := by
  cases hbt : betweenB p 0 ((s.size : Int) - 1)
  · have H := Lib.hid (who_out (s := s) (p := p) (by simp [betweenB] at hbt; omega))
    go_enter Tryz.func64, Tryz.ntmps64
    go_wp2_with (go_at_call 46; refine (l01In_any _ _ _ _).mono ?_; rintro e w' ⟨rfl, rfl⟩)
    go_ret2
    exact ⟨by rw [H.out]; rfl, Below.refl _ _⟩
  have hr : 0 ≤ p ∧ p < s.size := by simp [betweenB] at hbt; omega
  obtain ⟨k, rfl⟩ := Int.eq_ofNat_of_zero_le hr.1
  have hk : k < s.size := by omega
  by_cases c0 : s[k].toNat = 45
  · exact sReadWholeNeg s k w hs hk c0
  · exact sReadWholePos s k w hs hk c0

end Go.Proofs.YtomhbbchflblpaaGreatDoor
namespace Go.Proofs.YtomhbbchflblpaaGreatDoor
open Go.RowKit

theorem iRuneOk (n : Int) (w : World) : Calls Tryz.prog 99 #[.int .i64 n] w fun e w' => e = .returned (.bool (runeOkZ n)) ∧ w = w' := by
  have H : Hid (runeOkZ n = (betweenB n 0 1114111 && !betweenB n 55296 57343)) := rfl
  cases h1 : betweenB n 0 1114111 <;> cases h2 : betweenB n 55296 57343
  all_goals
    go_enter Tryz.func99, Tryz.ntmps99
    go_wp2_with (go_at_call 77; refine (within_any _ _ _ _).mono ?_; rintro e w' ⟨rfl, rfl⟩)
    go_ret
    exact ⟨ret_bool (by rw [H.out, h1, h2]; rfl), rfl⟩

theorem encode_eq {n : Int} (h : runeOkZ n = true) : Utf8.encode n = ⟨(rtext n).toArray⟩ := by
  have h0 : 0 ≤ n := by simp [runeOkZ, betweenB] at h; omega
  obtain ⟨m, rfl⟩ := Int.eq_ofNat_of_zero_le h0
  have ho : runeOkN m = true := by rw [← runeOkZ_nat]; exact h
  have hv : Utf8.valid (m : Int) = true := by rw [valid_iff]; exact ho
  rw [rtext_nat, runeBytes, if_pos ho]
  unfold Utf8.encode
  simp only [hv, if_true, Int.toNat_natCast]
  by_cases g1 : m < 128
  · rw [if_pos g1, if_pos g1]; rfl
  rw [if_neg g1, if_neg g1]
  by_cases g2 : m < 2048
  · rw [if_pos g2, if_pos g2]; rfl
  rw [if_neg g2, if_neg g2]
  by_cases g3 : m < 65536
  · rw [if_pos g3, if_pos g3]; rfl
  · rw [if_neg g3, if_neg g3]; rfl

theorem iRuneText (n : Int) (w : World) : Calls Tryz.prog 66 #[.int .i64 n] w fun e w' => e = .returned (.string ⟨(rtext n).toArray⟩) ∧ w = w' := by
  cases hok : runeOkZ n
  · have hr := Lib.hid (rtext_bad hok)
    go_enter Tryz.func66, Tryz.ntmps66
    go_wp2_with (go_at_call 99; refine (iRuneOk _ _).mono ?_; rintro e w' ⟨rfl, rfl⟩)
    go_ret
    exact ⟨ret_str (by rw [hr.out]), rfl⟩
  have hE := Lib.hid (encode_eq hok)
  have hr : 0 ≤ n ∧ n ≤ 1114111 := by simp [runeOkZ, betweenB] at hok; omega
  obtain ⟨h0, h1⟩ := hr
  go_enter Tryz.func66, Tryz.ntmps66
  go_wp2_with (go_at_call 99; refine (iRuneOk _ _).mono ?_; rintro e w' ⟨rfl, rfl⟩)
  go_ret
  exact ⟨ret_str hE.out, rfl⟩

set_option maxRecDepth 100000 in
theorem iRuneAt (s : ByteArray) (p : Int) (w : World) (hs : s.size ≤ 1048576) (hT : Tabs w) :
    Calls Tryz.prog 59 #[.string s, .int .i64 p] w fun e w' => e = .returned (.tuple #[.int .i64 (rN s p), .int .i64 (rNext s p)]) ∧ Below w.heap.size w w' := by
  by_cases h0 : p < 0
  · have E := Lib.hid (rAt_out s p (by simp [betweenB]; omega))
    go_enter Tryz.func59, Tryz.ntmps59
    go_wp2
    go_ret2
    exact ⟨ret_at E.out.1.symm E.out.2.symm, Below.refl _ _⟩
  by_cases h1 : p < (s.size : Int)
  rotate_left
  · have E := Lib.hid (rAt_out s p (by simp [betweenB]; omega))
    go_enter Tryz.func59, Tryz.ntmps59
    go_wp2
    go_ret2
    exact ⟨ret_at E.out.1.symm E.out.2.symm, Below.refl _ _⟩
  obtain ⟨k, rfl⟩ := Int.eq_ofNat_of_zero_le (show 0 ≤ p by omega)
  have hk : k < s.size := by omega
  have hk2 : k ≤ s.size := by omega
  clear h0 h1
  have hc := fun w0 hT => Tryz.utf8_DecodeRuneInString (s.extract k s.size) w0 hT
  rw [Lib.decodeGo_extract s k hk] at hc
  have hw1 := Lib.decode_width_pos s k hk
  have hw2 := width_le s k hk
  have hle := decode_le s k
  have HB := Lib.hid (rAt_bad s k)
  have HG := Lib.hid (rAt_good s k (Utf8.decode s k).1 (Utf8.decode s k).2 hk rfl)
  generalize Utf8.decode s k = d at hc hw1 hw2 hle HB HG
  obtain ⟨d1, d2⟩ := d
  simp only at hc hw1 hw2 hle HB HG
  have HC := Lib.hid (hc _ hT); clear hc
  cases e1 : ((d1 : Int) == 65533)
  · have E := Lib.hid (HG.out (by have g := e1; simp at g; simp [badD]; omega))
    go_enter Tryz.func59, Tryz.ntmps59
    go_wp2_with (go_at_call 94; refine HC.out.mono ?_; rintro e w1 ⟨rfl, hb1⟩)
    go_ret2
    exact ⟨ret_at E.out.1.symm E.out.2.symm, hb1⟩
  · cases e2 : decide ((d2 : Int) ≤ 1)
    · have E := Lib.hid (HG.out (by have g := e2; simp at g; simp [badD]; omega))
      go_enter Tryz.func59, Tryz.ntmps59
      go_wp2_with (go_at_call 94; refine HC.out.mono ?_; rintro e w1 ⟨rfl, hb1⟩)
      go_ret2
      exact ⟨ret_at E.out.1.symm E.out.2.symm, hb1⟩
    · have E := Lib.hid (HB.out (by have g := e2; have g' := e1; simp at g; simp at g'; simp [badD]; omega))
      go_enter Tryz.func59, Tryz.ntmps59
      go_wp2_with (go_at_call 94; refine HC.out.mono ?_; rintro e w1 ⟨rfl, hb1⟩)
      go_ret2
      exact ⟨ret_at E.out.1.symm E.out.2.symm, hb1⟩

end Go.Proofs.YtomhbbchflblpaaGreatDoor
namespace Go.Proofs.YtomhbbchflblpaaGreatDoor
open Go.RowKit

def escBytes : ByteArray := ⟨#[8, 12, 10, 13, 9]⟩
def hexDig : ByteArray := ⟨#[48, 49, 50, 51, 52, 53, 54, 55, 56, 57, 97, 98, 99, 100, 101, 102]⟩
theorem hexDig_at (m : Nat) (h : m < hexDig.size) : hexDig[m] = figB m := by
  have h16 : m < 16 := h
  rcases (show m = 0 ∨ m = 1 ∨ m = 2 ∨ m = 3 ∨ m = 4 ∨ m = 5 ∨ m = 6 ∨ m = 7 ∨ m = 8 ∨ m = 9 ∨ m = 10 ∨ m = 11 ∨ m = 12 ∨ m = 13 ∨ m = 14 ∨ m = 15 by omega) with rfl | rfl | rfl | rfl | rfl | rfl | rfl | rfl | rfl | rfl | rfl | rfl | rfl | rfl | rfl | rfl <;> rfl

theorem esc_none (c : UInt8) (g3 : ¬ c = 8) (g4 : ¬ c = 12) (g5 : ¬ c = 10) (g6 : ¬ c = 13) (g7 : ¬ c = 9) : Lib.indexByte escBytes.data.toList c = -1 := by
  have ne : ∀ d : UInt8, ¬ c = d → ¬ d = c := fun d h e => h e.symm
  show Lib.indexByte [8, 12, 10, 13, 9] c = -1
  simp [Lib.indexByte, ne _ g3, ne _ g4, ne _ g5, ne _ g6, ne _ g7]
theorem escB_ctl (c : UInt8) (h : c.toNat < 32) (g3 : ¬ c = 8) (g4 : ¬ c = 12) (g5 : ¬ c = 10) (g6 : ¬ c = 13) (g7 : ¬ c = 9) : escB c = [92, 117, 48, 48, figB (c.toNat / 16), figB (c.toNat % 16)] := by
  have ne : ∀ d : UInt8, 32 ≤ d.toNat → ¬ c = d := fun d hd e => by rw [e] at h; omega
  unfold escB
  rw [if_neg (ne 34 (by decide)), if_neg (ne 92 (by decide)), if_neg g3, if_neg g4, if_neg g5, if_neg g6, if_neg g7, if_pos h]
theorem escB_plain (c : UInt8) (g1 : ¬ c = 34) (g2 : ¬ c = 92) (h : ¬ c.toNat < 32) (g3 : ¬ c = 8) (g4 : ¬ c = 12) (g5 : ¬ c = 10) (g6 : ¬ c = 13) (g7 : ¬ c = 9) : escB c = [c] := by
  unfold escB
  rw [if_neg g1, if_neg g2, if_neg g3, if_neg g4, if_neg g5, if_neg g6, if_neg g7, if_neg h]
theorem hex_six (c : UInt8) (h : c.toNat < 32) : #[Value.int .u8 92, Value.int .u8 117, Value.int .u8 48, Value.int .u8 48, Value.int .u8 (hexDig[(((c.toNat : Nat) : Int) / 16).toNat]'(by show _ < 16; omega)).toNat, Value.int .u8 (hexDig[(((c.toNat : Nat) : Int) % 16).toNat]'(by show _ < 16; omega)).toNat] =
    ([92, 117, 48, 48, figB (c.toNat / 16), figB (c.toNat % 16)].map byteV).toArray := by
  have e1 : (((c.toNat : Nat) : Int) / 16).toNat = c.toNat / 16 := by omega
  have e2 : (((c.toNat : Nat) : Int) % 16).toNat = c.toNat % 16 := by omega
  rw [hexDig_at, hexDig_at, e1, e2]
  rfl

set_option maxHeartbeats 2000000 in
set_option maxRecDepth 100000 in
theorem iQuoted (s : ByteArray) (w : World) (hs : s.size ≤ 1048576) (hT : Tabs w) :
    Calls Tryz.prog 40 #[.string s] w fun e w' => e = .returned (.string (quotedB s)) ∧ Below w.heap.size w w' := by
  have hU := iUtf8Ok s w hs hT
  cases hO : (runesO s).isSome
  · have HQ := Lib.hid (show quotedB s = ⟨#[]⟩ by rw [quotedB, hO]; rfl)
    rw [hO] at hU
    go_enter Tryz.func40, Tryz.ntmps40
    go_wp2_with (go_at_call 78; refine hU.mono ?_; rintro e w1 ⟨rfl, hb1⟩)
    go_ret
    exact ⟨ret_str HQ.out.symm, hb1⟩
  · have HQ := Lib.hid (show quotedB s = ⟨(escTo s s.size ++ [34]).toArray⟩ by rw [quotedB, hO]; rfl)
    rw [hO] at hU
    go_enter Tryz.func40, Tryz.ntmps40
    go_wp2_with (go_at_call 78; refine hU.mono ?_; rintro e w1 ⟨rfl, hb1⟩)
    have HB1 := Lib.hid hb1
    have hz1 := hb1.size
    clear hb1 hU hT
    go_loopw [3, 13] (fun v i wr => ∃ (k : Nat), k ≤ s.size ∧ i = .int .i64 k ∧ Buf w1 wr v (escTo s k)) (fun _ i _ => s.size - (intOf i).toNat)
    case atStart => exact ⟨0, by omega, rfl, by rw [escTo_zero]; exact Buf.lit w1 [34] _ 1 rfl rfl (by omega)⟩
    case round =>
      obtain ⟨k, hk, rfl, hbuf⟩ := hrel
      have HB := Lib.hid hbuf
      have hl6 := escTo_len s k
      by_cases hlt : k < s.size
      · have HE := Lib.hid (escTo_succ s k hlt)
        have hcx : ∀ w0 : World, Calls Tryz.prog 25 #[.string escBytes, .int .u8 (s[k].toNat : Int)] w0 fun e w' => e = .returned (.int .i64 (Lib.indexByte escBytes.data.toList s[k])) ∧ w0 = w' := fun w0 => by
          have := Tryz.strings_IndexByte escBytes (s[k].toNat : Int) w0
          refine this.mono fun e w' ⟨h1, h2⟩ => ⟨by simpa using h1, h2.symm⟩
        have HC := Lib.hid hcx
        clear hbuf hcx
        by_cases g1 : s[k] = 34
        · have e1 : ((s[k].toNat : Int) == 34) = true := by rw [g1]; rfl
          have HX := Lib.hid (show escB s[k] = [92, s[k]] by rw [g1]; rfl)
          clear g1
          go_wp2_with (first | (go_at_call 25; refine (HC.out _).mono ?_; rintro e w2 ⟨rfl, rfl⟩) | (at_builtin; refine wpList_buf (by rfl) _ _ (by rfl) _ _ [92, s[k]] w1 _ (by rfl) HB.out _ 2 2 rfl rfl (by rfl) (by simp; omega) ?_; intro v2 w3 hb2))
          go_roundw
          case rel => exact ⟨k + 1, by omega, by go_num, by rw [HE.out, HX.out]; exact hb2⟩
          case measure => simp [intOf]; omega
        have e1 : ((s[k].toNat : Int) == 34) = false := by simp; intro h; exact g1 (UInt8.toNat_inj.1 (by show s[k].toNat = 34; omega))
        by_cases g2 : s[k] = 92
        · have e2 : ((s[k].toNat : Int) == 92) = true := by rw [g2]; rfl
          have HX := Lib.hid (show escB s[k] = [92, s[k]] by rw [g2]; rfl)
          clear g1 g2
          go_wp2_with (first | (go_at_call 25; refine (HC.out _).mono ?_; rintro e w2 ⟨rfl, rfl⟩) | (at_builtin; refine wpList_buf (by rfl) _ _ (by rfl) _ _ [92, s[k]] w1 _ (by rfl) HB.out _ 2 2 rfl rfl (by rfl) (by simp; omega) ?_; intro v2 w3 hb2))
          go_roundw
          case rel => exact ⟨k + 1, by omega, by go_num, by rw [HE.out, HX.out]; exact hb2⟩
          case measure => simp [intOf]; omega
        have e2 : ((s[k].toNat : Int) == 92) = false := by simp; intro h; exact g2 (UInt8.toNat_inj.1 (by show s[k].toNat = 92; omega))
        by_cases g3 : s[k] = 8
        · have hI : Lib.indexByte escBytes.data.toList s[k] = 0 := by rw [g3]; rfl
          have HX := Lib.hid (show escB s[k] = [92, 98] by rw [g3]; rfl)
          have HC' := HC.out
          rw [hI] at HC'
          have HC := Lib.hid HC'
          clear hI HC' g1 g2 g3
          go_wp2_with (first | (go_at_call 25; refine (HC.out _).mono ?_; rintro e w2 ⟨rfl, rfl⟩) | (at_builtin; refine wpList_buf (by rfl) _ _ (by rfl) _ _ [92, 98] w1 _ (by rfl) HB.out _ 2 2 rfl rfl (by rfl) (by simp; omega) ?_; intro v2 w3 hb2))
          go_roundw
          case rel => exact ⟨k + 1, by omega, by go_num, by rw [HE.out, HX.out]; exact hb2⟩
          case measure => simp [intOf]; omega
        by_cases g4 : s[k] = 12
        · have hI : Lib.indexByte escBytes.data.toList s[k] = 1 := by rw [g4]; rfl
          have HX := Lib.hid (show escB s[k] = [92, 102] by rw [g4]; rfl)
          have HC' := HC.out
          rw [hI] at HC'
          have HC := Lib.hid HC'
          clear hI HC' g1 g2 g4
          go_wp2_with (first | (go_at_call 25; refine (HC.out _).mono ?_; rintro e w2 ⟨rfl, rfl⟩) | (at_builtin; refine wpList_buf (by rfl) _ _ (by rfl) _ _ [92, 102] w1 _ (by rfl) HB.out _ 2 2 rfl rfl (by rfl) (by simp; omega) ?_; intro v2 w3 hb2))
          go_roundw
          case rel => exact ⟨k + 1, by omega, by go_num, by rw [HE.out, HX.out]; exact hb2⟩
          case measure => simp [intOf]; omega
        by_cases g5 : s[k] = 10
        · have hI : Lib.indexByte escBytes.data.toList s[k] = 2 := by rw [g5]; rfl
          have HX := Lib.hid (show escB s[k] = [92, 110] by rw [g5]; rfl)
          have HC' := HC.out
          rw [hI] at HC'
          have HC := Lib.hid HC'
          clear hI HC' g1 g2 g5
          go_wp2_with (first | (go_at_call 25; refine (HC.out _).mono ?_; rintro e w2 ⟨rfl, rfl⟩) | (at_builtin; refine wpList_buf (by rfl) _ _ (by rfl) _ _ [92, 110] w1 _ (by rfl) HB.out _ 2 2 rfl rfl (by rfl) (by simp; omega) ?_; intro v2 w3 hb2))
          go_roundw
          case rel => exact ⟨k + 1, by omega, by go_num, by rw [HE.out, HX.out]; exact hb2⟩
          case measure => simp [intOf]; omega
        by_cases g6 : s[k] = 13
        · have hI : Lib.indexByte escBytes.data.toList s[k] = 3 := by rw [g6]; rfl
          have HX := Lib.hid (show escB s[k] = [92, 114] by rw [g6]; rfl)
          have HC' := HC.out
          rw [hI] at HC'
          have HC := Lib.hid HC'
          clear hI HC' g1 g2 g6
          go_wp2_with (first | (go_at_call 25; refine (HC.out _).mono ?_; rintro e w2 ⟨rfl, rfl⟩) | (at_builtin; refine wpList_buf (by rfl) _ _ (by rfl) _ _ [92, 114] w1 _ (by rfl) HB.out _ 2 2 rfl rfl (by rfl) (by simp; omega) ?_; intro v2 w3 hb2))
          go_roundw
          case rel => exact ⟨k + 1, by omega, by go_num, by rw [HE.out, HX.out]; exact hb2⟩
          case measure => simp [intOf]; omega
        by_cases g7 : s[k] = 9
        · have hI : Lib.indexByte escBytes.data.toList s[k] = 4 := by rw [g7]; rfl
          have HX := Lib.hid (show escB s[k] = [92, 116] by rw [g7]; rfl)
          have HC' := HC.out
          rw [hI] at HC'
          have HC := Lib.hid HC'
          clear hI HC' g1 g2 g7
          go_wp2_with (first | (go_at_call 25; refine (HC.out _).mono ?_; rintro e w2 ⟨rfl, rfl⟩) | (at_builtin; refine wpList_buf (by rfl) _ _ (by rfl) _ _ [92, 116] w1 _ (by rfl) HB.out _ 2 2 rfl rfl (by rfl) (by simp; omega) ?_; intro v2 w3 hb2))
          go_roundw
          case rel => exact ⟨k + 1, by omega, by go_num, by rw [HE.out, HX.out]; exact hb2⟩
          case measure => simp [intOf]; omega
        have hI : Lib.indexByte escBytes.data.toList s[k] = -1 := esc_none _ g3 g4 g5 g6 g7
        have HC' := HC.out
        rw [hI] at HC'
        have HC := Lib.hid HC'
        clear hI HC'
        by_cases g8 : s[k].toNat < 32
        · have HX := Lib.hid (escB_ctl _ g8 g3 g4 g5 g6 g7)
          have g8' : (s[k].toNat : Int) < 32 := by omega
          have HG8 := Lib.hid g8
          clear g1 g2 g3 g4 g5 g6 g7 g8
          go_wp2_with (go_at_call 25; refine (HC.out _).mono ?_; rintro e w2 ⟨rfl, rfl⟩)
          have hq : IntKind.u8.wrap ((s[k].toNat : Int) / 16) = (s[k].toNat : Int) / 16 := by unfold IntKind.wrap; simp [IntKind.bits]; omega
          have hr : ((s[k].toNat : Nat) : Int).tmod 16 = (s[k].toNat : Int) % 16 := Int.tmod_eq_emod_of_nonneg (by omega)
          have hq0 : (0 : Int) ≤ (s[k].toNat : Int) / 16 := by omega
          have hr0 : (0 : Int) ≤ (s[k].toNat : Int) % 16 := by omega
          have hq1 : (s[k].toNat : Int) / 16 < 16 := by omega
          have hr1 : (s[k].toNat : Int) % 16 < 16 := by omega
          go_region_law ((refine step_bufAt (by rfl) _ _ (by rfl) _ _ [92, 117, 48, 48, figB (s[k].toNat / 16), figB (s[k].toNat % 16)] w1 (by rfl) ((HB.out.alloc _).keep ((Below.refl _ _).drew)) _ _ (heap_alloc_new _ _) 6 6 (hex_six _ HG8.out) rfl (by rfl) (by simp; omega) ?_; intro v2 w3 hb2))
          all_goals
            go_wp2_with fail
            go_roundw
            case rel => exact ⟨k + 1, by omega, by go_num, by rw [HE.out, HX.out]; exact hb2⟩
            case measure => simp [intOf]; omega
        · have HX := Lib.hid (escB_plain _ g1 g2 g8 g3 g4 g5 g6 g7)
          have g8' : decide ((s[k].toNat : Int) < 32) = false := decide_eq_false (by omega)
          clear g1 g2 g3 g4 g5 g6 g7 g8
          go_wp2_with (first | (go_at_call 25; refine (HC.out _).mono ?_; rintro e w2 ⟨rfl, rfl⟩) | (at_builtin; refine wpList_buf (by rfl) _ _ (by rfl) _ _ [s[k]] w1 _ (by rfl) HB.out _ 1 1 rfl rfl (by rfl) (by simp; omega) ?_; intro v2 w3 hb2))
          go_roundw
          case rel => exact ⟨k + 1, by omega, by go_num, by rw [HE.out, HX.out]; exact hb2⟩
          case measure => simp [intOf]; omega
      · obtain rfl : k = s.size := by omega
        clear hbuf
        go_wp2_with (at_builtin; refine wpList_buf (by rfl) _ _ (by rfl) _ _ [34] w1 _ (by rfl) HB.out _ 1 1 rfl rfl (by rfl) (by simp; omega) ?_; intro v2 w2 hb2; have ht := hb2.text)
        go_ret
        exact ⟨ret_str (by rw [HQ.out]), bnext HB1.out hb2.bel⟩

end Go.Proofs.YtomhbbchflblpaaGreatDoor
