/- Plain law: the bytes of a code point decode to it, wherever they lie; texts of code points. No program. -/
import Derived.Test.YtoaakbaijklhhaaDoorQuo
namespace Go.Proofs.YtoaakbaijklhhaaDoor

theorem runeBytes_pos {n : Nat} (h : runeOkN n = true) : 1 ≤ (runeBytes n).length ∧ (runeBytes n).length ≤ 4 := by
  rw [bytes_len, if_pos h]
  split
  · omega
  split
  · omega
  split <;> omega
theorem decode_of_bytes (s : ByteArray) (k n : Nat) (ho : runeOkN n = true) (h : btake s k (runeBytes n).length = runeBytes n) (hk : k + (runeBytes n).length ≤ s.size) :
    Utf8.decode s k = (n, (runeBytes n).length) := by
  have hle : n ≤ 1114111 := by simp only [runeOkN, Bool.and_eq_true, decide_eq_true_eq] at ho; omega
  have hpos := runeBytes_pos ho
  have key : ∀ r, rsize (bt s k) = r → r = (runeBytes n).length → racc s k r = n → (∀ i, 1 ≤ i → i < r → contB (bt s (k + i)) = true) → Utf8.decode s k = (n, (runeBytes n).length) := by
    intro r h1 h2 h3 h4
    subst h1
    rcases dec_end s k (by omega) h4 with ⟨_, b, _⟩ | ⟨a, _⟩
    · rw [b, h3, h2]
    · rw [h3, h2] at a; exact absurd h.symm a
  by_cases g1 : n < 128
  · have e : runeBytes n = [n] := by rw [runeBytes, if_pos ho, if_pos g1]
    rw [e] at h
    have h0 : bt s k = n := by simpa [btake] using h
    refine key 1 ?_ (by rw [e]; rfl) ?_ (fun i h1 h2 => by omega)
    · rw [h0]; unfold rsize; rw [if_neg (by omega), if_neg (by omega), if_neg (by omega)]
    · show rhead (bt s k) = n
      rw [h0, rhead, if_neg (by omega), if_neg (by omega), if_neg (by omega)]
  by_cases g2 : n < 2048
  · have e : runeBytes n = [192 + n / 64, 128 + n % 64] := by rw [runeBytes, if_pos ho, if_neg g1, if_pos g2]
    rw [e] at h
    have h0 : bt s k = 192 + n / 64 ∧ bt s (k + 1) = 128 + n % 64 := by simpa [btake] using h
    obtain ⟨h0, h1⟩ := h0
    refine key 2 ?_ (by rw [e]; rfl) ?_ (fun i i1 i2 => ?_)
    · rw [h0]; unfold rsize; rw [if_neg (by omega), if_neg (by omega), if_pos (by omega)]
    · show 64 * rhead (bt s k) + (bt s (k + 1) - 128) = n
      rw [h0, h1, rhead, if_neg (by omega), if_neg (by omega), if_pos (by omega)]; omega
    · obtain rfl : i = 1 := by omega
      rw [h1]; simp [contB]; omega
  by_cases g3 : n < 65536
  · have e : runeBytes n = [224 + n / 4096, 128 + n / 64 % 64, 128 + n % 64] := by rw [runeBytes, if_pos ho, if_neg g1, if_neg g2, if_pos g3]
    rw [e] at h
    have h0 : bt s k = 224 + n / 4096 ∧ bt s (k + 1) = 128 + n / 64 % 64 ∧ bt s (k + 2) = 128 + n % 64 := by simpa [btake] using h
    obtain ⟨h0, h1, h2⟩ := h0
    refine key 3 ?_ (by rw [e]; rfl) ?_ (fun i i1 i2 => ?_)
    · rw [h0]; unfold rsize; rw [if_neg (by omega), if_pos (by omega)]
    · show 64 * (64 * rhead (bt s k) + (bt s (k + 1) - 128)) + (bt s (k + 2) - 128) = n
      rw [h0, h1, h2, rhead, if_neg (by omega), if_pos (by omega)]; omega
    · rcases (show i = 1 ∨ i = 2 by omega) with rfl | rfl
      · rw [h1]; simp [contB]; omega
      · rw [h2]; simp [contB]; omega
  · have e : runeBytes n = [240 + n / 262144, 128 + n / 4096 % 64, 128 + n / 64 % 64, 128 + n % 64] := by rw [runeBytes, if_pos ho, if_neg g1, if_neg g2, if_neg g3]
    rw [e] at h
    have h0 : bt s k = 240 + n / 262144 ∧ bt s (k + 1) = 128 + n / 4096 % 64 ∧ bt s (k + 2) = 128 + n / 64 % 64 ∧ bt s (k + 3) = 128 + n % 64 := by simpa [btake] using h
    obtain ⟨h0, h1, h2, h3⟩ := h0
    refine key 4 ?_ (by rw [e]; rfl) ?_ (fun i i1 i2 => ?_)
    · rw [h0]; unfold rsize; rw [if_pos (by omega)]
    · show 64 * (64 * (64 * rhead (bt s k) + (bt s (k + 1) - 128)) + (bt s (k + 2) - 128)) + (bt s (k + 3) - 128) = n
      rw [h0, h1, h2, h3, rhead, if_pos (by omega)]; omega
    · rcases (show i = 1 ∨ i = 2 ∨ i = 3 by omega) with rfl | rfl | rfl
      · rw [h1]; simp [contB]; omega
      · rw [h2]; simp [contB]; omega
      · rw [h3]; simp [contB]; omega
theorem runeOk_good {n m : Nat} (ho : runeOkN n = true) (hm : m = (runeBytes n).length) : badD (n, m) = false := by
  cases h : badD (n, m)
  · rfl
  · exfalso
    have := (badD_iff _).1 h
    simp only at this
    obtain ⟨rfl, h1⟩ := this
    rw [hm, bytes_len, if_pos ho] at h1
    simp at h1

theorem btake_len (s : ByteArray) (k : Nat) : ∀ m, (btake s k m).length = m
  | 0 => rfl
  | m + 1 => by simp [btake, btake_len s k m]
theorem btake_get (s : ByteArray) (k : Nat) : ∀ m i, i < m → (btake s k m).getD i 0 = bt s (k + i)
  | 0, _, h => by omega
  | m + 1, i, h => by
    rw [btake, List.getD_eq_getElem?_getD]
    by_cases hi : i < m
    · rw [List.getElem?_append_left (by rw [btake_len]; exact hi), ← List.getD_eq_getElem?_getD]
      exact btake_get s k m i hi
    · obtain rfl : i = m := by omega
      rw [List.getElem?_append_right (by rw [btake_len]; omega), btake_len]
      simp
/-- Bytes at k, as the text's list has them. -/
theorem btake_of_list (s : ByteArray) (k : Nat) (l : List Nat) (h8 : ∀ x ∈ l, x < 256) (h : (s.data.toList.drop k).take l.length = l.map UInt8.ofNat) : btake s k l.length = l := by
  apply List.ext_getElem?
  intro i
  by_cases hi : i < l.length
  · have h1 : s.data.toList[k + i]? = some (UInt8.ofNat l[i]) := by
      have := congrArg (·[i]?) h
      simpa [List.getElem?_take, hi, List.getElem?_drop] using this
    have hk : k + i < s.size := by
      have := (List.getElem?_eq_some_iff.1 h1).1
      simpa using this
    have h2 := btake_get s k l.length i hi
    rw [List.getD_eq_getElem?_getD, List.getElem?_eq_getElem (by rw [btake_len]; exact hi)] at h2
    rw [List.getElem?_eq_getElem (by rw [btake_len]; exact hi), List.getElem?_eq_getElem hi]
    simp only [Option.getD_some] at h2
    rw [h2, bt_eq s (k + i) hk]
    have h3 : s.data.toList[k + i]? = some s[k + i] := by
      rw [List.getElem?_eq_getElem (by simpa using hk)]; rfl
    rw [h3] at h1
    have h4 : s[k + i] = UInt8.ofNat l[i] := by simpa using h1
    rw [h4]
    have := h8 l[i] (List.getElem_mem hi)
    simp; omega
  · rw [List.getElem?_eq_none (by rw [btake_len]; omega), List.getElem?_eq_none (by omega)]

/-- Texts of code points. -/
def rtexts (l : List Int) : List UInt8 := l.flatMap rtext
theorem rtext_of (n : Int) : (rtext n = [] ∧ runeOkZ n = false) ∨ ∃ m : Nat, n = (m : Int) ∧ runeOkN m = true ∧ rtext n = (runeBytes m).map UInt8.ofNat := by
  cases h : runeOkZ n
  · exact .inl ⟨rtext_bad h, rfl⟩
  · right
    have h0 : 0 ≤ n := by simp [runeOkZ, betweenB] at h; omega
    obtain ⟨m, rfl⟩ := Int.eq_ofNat_of_zero_le h0
    exact ⟨m, rfl, by rw [← runeOkZ_nat]; exact h, rtext_nat m⟩
theorem rtext_len4 (n : Int) : (rtext n).length ≤ 4 := by
  rcases rtext_of n with ⟨h, _⟩ | ⟨m, rfl, ho, h⟩
  · rw [h]; simp
  · rw [h, List.length_map]; exact (runeBytes_pos ho).2
theorem rtexts_len (l : List Int) : (rtexts l).length ≤ 4 * l.length := by
  induction l with
  | nil => simp [rtexts]
  | cons n l ih =>
    have := rtext_len4 n
    simp only [rtexts, List.flatMap_cons, List.length_append, List.length_cons] at ih ⊢
    omega
theorem rtexts_snoc (l : List Int) (n : Int) : rtexts (l ++ [n]) = rtexts l ++ rtext n := by simp [rtexts]
theorem rtexts_valid (s : ByteArray) : ∀ (l : List Int) (f k : Nat) (acc : List Nat), s.data.toList.drop k = rtexts l → s.size < k + f → k ≤ s.size → (rgo s f k acc).isSome = true
  | [], f, k, acc, h, hf, hks => by
    have hk : s.size ≤ k := by
      have := congrArg List.length h
      simp [rtexts] at this
      omega
    cases f with
    | zero => omega
    | succ f => rw [rgo, if_pos hk]; rfl
  | n :: l, f, k, acc, h, hf, hks => by
    have hcons : rtexts (n :: l) = rtext n ++ rtexts l := by simp [rtexts]
    rw [hcons] at h
    rcases rtext_of n with ⟨h1, _⟩ | ⟨m, rfl, ho, h1⟩
    · rw [h1, List.nil_append] at h
      exact rtexts_valid s l f k acc h hf hks
    · rw [h1] at h
      have hp := runeBytes_pos ho
      have hl : (runeBytes m).length ≤ s.size - k := by
        have := congrArg List.length h
        simp at this
        omega
      have hb : btake s k (runeBytes m).length = runeBytes m := by
        refine btake_of_list s k (runeBytes m) (runeBytes_lt m) ?_
        rw [h]
        rw [List.take_left' (by simp)]
      have hd := decode_of_bytes s k m ho hb (by omega)
      cases f with
      | zero => omega
      | succ f =>
        rw [rgo, if_neg (by omega), hd, if_neg (by rw [runeOk_good ho rfl]; simp)]
        refine rtexts_valid s l f _ _ ?_ (by simp only; omega) (by simp only; omega)
        simp only
        rw [← List.drop_drop, h, List.drop_left' (by simp)]
/-- A text of code points is valid. -/
theorem rtexts_some (l : List Int) : (runesO ⟨(rtexts l).toArray⟩).isSome = true :=
  rtexts_valid _ l _ 0 [] (by simp) (by omega) (by omega)
/-- What the code points of a text tell is the text. -/
theorem rgo_text (s : ByteArray) : ∀ f k acc L, rgo s f k acc = some L → k ≤ s.size → rtexts (acc.map (Nat.cast : Nat → Int)) = s.data.toList.take k → rtexts (L.map (Nat.cast : Nat → Int)) = s.data.toList
  | 0, _, _, _, h, _, _ => by cases h
  | f + 1, k, acc, L, h, hk, ha => by
    rw [rgo] at h
    by_cases h1 : s.size ≤ k
    · rw [if_pos h1] at h
      cases h
      rw [ha, List.take_of_length_le (by simpa using h1)]
    · rw [if_neg h1] at h
      split at h
      · cases h
      · rename_i hb
        have hb : badD (Utf8.decode s k) = false := by simpa using hb
        obtain ⟨h2, h3⟩ := dec_bytes s k (by omega) hb
        have h4 := width_le s k (by omega)
        refine rgo_text s f _ _ L h h4 ?_
        rw [List.map_append, List.map_singleton, rtexts_snoc, ha, rtext_nat, ← h2, List.take_add]
        congr 1
        have := btake_ext s k (Utf8.decode s k).2 h4
        rw [Lib.extract_toList, Nat.add_sub_cancel_left] at this
        exact this.symm
theorem runes_text {s : ByteArray} {L : List Nat} (h : runesO s = some L) : rtexts (L.map (Nat.cast : Nat → Int)) = s.data.toList :=
  rgo_text s _ 0 [] L h (by omega) (by simp [rtexts])

end Go.Proofs.YtoaakbaijklhhaaDoor
