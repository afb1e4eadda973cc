/- Plain law: a text in double quotes, by bytes and by code points. -/
import Derived.Test.YtbjialckijphiaaDoorRuneB
namespace Go.Proofs.YtbjialckijphiaaDoor

/-- The bytes of a code point that was read are those that lie there. -/
theorem dec_bytes (s : ByteArray) (k : Nat) (hk : k < s.size) (hb : badD (Utf8.decode s k) = false) : btake s k (Utf8.decode s k).2 = runeBytes (Utf8.decode s k).1 ∧ runeOkN (Utf8.decode s k).1 = true := by
  have h1 : k + rsize (bt s k) ≤ s.size := by
    rcases Nat.lt_or_ge s.size (k + rsize (bt s k)) with h | h
    · rw [dec_short s k hk h] at hb; cases hb
    · exact h
  have h2 : ∀ i, 1 ≤ i → i < rsize (bt s k) → contB (bt s (k + i)) = true := fun i i1 i2 => by
    cases hc : contB (bt s (k + i))
    · rw [dec_cont s k i i1 i2 hc] at hb; cases hb
    · rfl
  rcases dec_end s k h1 h2 with ⟨a, b, _⟩ | ⟨_, b⟩
  · rw [b]
    refine ⟨a.symm, ?_⟩
    by_cases ho : runeOkN (racc s k (rsize (bt s k))) = true
    · exact ho
    · exfalso
      have h0 : runeBytes (racc s k (rsize (bt s k))) = [] := by rw [runeBytes, if_neg ho]
      rw [h0] at a
      have hz := congrArg List.length a
      have hl : ∀ m, (btake s k m).length = m := by
        intro m
        induction m with
        | zero => rfl
        | succ m ih => simp [btake, ih]
      rw [hl] at hz
      have : 0 < rsize (bt s k) := by unfold rsize; split <;> (try split) <;> (try split) <;> omega
      simp at hz
      omega
  · rw [b] at hb; cases hb

def figB (x : Nat) : UInt8 := if x < 10 then UInt8.ofNat (48 + x) else UInt8.ofNat (87 + x)
def escB (b : UInt8) : List UInt8 :=
  if b = 34 then [92, 34] else if b = 92 then [92, 92] else if b = 8 then [92, 98] else if b = 12 then [92, 102] else if b = 10 then [92, 110] else if b = 13 then [92, 114] else if b = 9 then [92, 116]
  else if b.toNat < 32 then [92, 117, 48, 48, figB (b.toNat / 16), figB (b.toNat % 16)] else [b]
def escTo (s : ByteArray) (k : Nat) : List UInt8 := 34 :: (s.data.toList.take k).flatMap escB
def quotedB (s : ByteArray) : ByteArray := if (runesO s).isSome then ⟨(escTo s s.size ++ [34]).toArray⟩ else ⟨#[]⟩
theorem escB_len (b : UInt8) : 1 ≤ (escB b).length ∧ (escB b).length ≤ 6 := by
  unfold escB
  repeat' (first | (split) | (simp; done))
theorem flat_len (l : List UInt8) : l.length ≤ (l.flatMap escB).length ∧ (l.flatMap escB).length ≤ 6 * l.length := by
  induction l with
  | nil => simp
  | cons b l ih => have := escB_len b; simp only [List.flatMap_cons, List.length_append, List.length_cons]; omega
theorem escTo_len (s : ByteArray) (k : Nat) : (escTo s k).length ≤ 6 * k + 1 := by
  have := (flat_len (s.data.toList.take k)).2
  have h2 : (s.data.toList.take k).length ≤ k := List.length_take_le _ _
  simp only [escTo, List.length_cons]
  omega
theorem byte_at (s : ByteArray) (k : Nat) (h : k < s.size) : s.data.toList[k]'(by simpa using h) = s[k] := rfl
theorem escTo_succ (s : ByteArray) (k : Nat) (h : k < s.size) : escTo s (k + 1) = escTo s k ++ escB s[k] := by
  have hk : k < s.data.toList.length := by simpa using h
  simp only [escTo]
  rw [List.take_succ_eq_append_getElem hk, List.flatMap_append, List.flatMap_singleton]
  rfl

/-- What a code point becomes. -/
def escR (n : Nat) : List UInt8 := ((runeBytes n).map UInt8.ofNat).flatMap escB
theorem escTo_rune (s : ByteArray) (k : Nat) (hk : k < s.size) (hb : badD (Utf8.decode s k) = false) : escTo s (k + (Utf8.decode s k).2) = escTo s k ++ escR (Utf8.decode s k).1 := by
  have h1 := (dec_bytes s k hk hb).1
  have h2 := btake_ext s k (Utf8.decode s k).2 (width_le s k hk)
  rw [h1, Lib.extract_toList, Nat.add_sub_cancel_left] at h2
  simp only [escTo, escR]
  rw [← h2, List.take_add, List.flatMap_append]
  rfl
theorem escR_high {n : Nat} (h : 128 ≤ n) : escR n = (runeBytes n).map UInt8.ofNat := by
  have hall : ∀ b ∈ (runeBytes n).map UInt8.ofNat, escB b = [b] := by
    intro b hb
    simp only [List.mem_map] at hb
    obtain ⟨x, hx, rfl⟩ := hb
    have hx2 : 128 ≤ x ∧ x < 256 := by
      refine ⟨?_, runeBytes_lt n x hx⟩
      unfold runeBytes at hx
      split at hx
      · rename_i ho
        simp only [runeOkN, Bool.and_eq_true, decide_eq_true_eq] at ho
        split at hx
        · simp at hx; omega
        split at hx
        · simp at hx; omega
        split at hx
        · simp at hx; omega
        · simp at hx; omega
      · simp at hx
    have e : (UInt8.ofNat x).toNat = x := by simp; omega
    have ne : ∀ c : UInt8, c.toNat < 128 → ¬ UInt8.ofNat x = c := fun c hc he => by rw [← he, e] at hc; omega
    unfold escB
    rw [if_neg (ne _ (by decide)), if_neg (ne _ (by decide)), if_neg (ne _ (by decide)), if_neg (ne _ (by decide)), if_neg (ne _ (by decide)), if_neg (ne _ (by decide)), if_neg (ne _ (by decide)), if_neg (by omega)]
  unfold escR
  generalize (runeBytes n).map UInt8.ofNat = l at hall
  induction l with
  | nil => rfl
  | cons b l ih =>
    rw [List.flatMap_cons, hall b (by simp), ih fun c hc => hall c (by simp [hc])]
    rfl
theorem escR_low {n : Nat} (h : n < 128) : escR n = escB (UInt8.ofNat n) := by
  have ho : runeOkN n = true := by simp [runeOkN]; omega
  rw [escR, runeBytes, if_pos ho, if_pos h]
  simp
theorem escR_plain {n : Nat} (h : 32 ≤ n) (h1 : n ≠ 34) (h2 : n ≠ 92) : escR n = (runeBytes n).map UInt8.ofNat := by
  rcases Nat.lt_or_ge n 128 with hn | hn
  · have ho : runeOkN n = true := by simp [runeOkN]; omega
    have e : (UInt8.ofNat n).toNat = n := by simp; omega
    have ne : ∀ c : UInt8, c.toNat ≠ n → ¬ UInt8.ofNat n = c := fun c hc he => by rw [← he, e] at hc; omega
    rw [escR_low hn, runeBytes, if_pos ho, if_pos hn]
    unfold escB
    rw [if_neg (ne _ (by show 34 ≠ n; omega)), if_neg (ne _ (by show 92 ≠ n; omega)), if_neg (ne _ (by show 8 ≠ n; omega)), if_neg (ne _ (by show 12 ≠ n; omega)), if_neg (ne _ (by show 10 ≠ n; omega)), if_neg (ne _ (by show 13 ≠ n; omega)), if_neg (ne _ (by show 9 ≠ n; omega)), if_neg (by omega)]
    rfl
  · exact escR_high hn
theorem escR_ctl {n : Nat} (h : n < 32) (h1 : n ≠ 8) (h2 : n ≠ 12) (h3 : n ≠ 10) (h4 : n ≠ 13) (h5 : n ≠ 9) : escR n = [92, 117, 48, 48, figB (n / 16), figB (n % 16)] := by
  have e : (UInt8.ofNat n).toNat = n := by simp; omega
  have ne : ∀ c : UInt8, c.toNat ≠ n → ¬ UInt8.ofNat n = c := fun c hc he => by rw [← he, e] at hc; omega
  rw [escR_low (by omega)]
  unfold escB
  rw [if_neg (ne _ (by show 34 ≠ n; omega)), if_neg (ne _ (by show 92 ≠ n; omega)), if_neg (ne _ (by show 8 ≠ n; omega)), if_neg (ne _ (by show 12 ≠ n; omega)), if_neg (ne _ (by show 10 ≠ n; omega)), if_neg (ne _ (by show 13 ≠ n; omega)), if_neg (ne _ (by show 9 ≠ n; omega)), if_pos (by omega), e]

/-- The list that RunesOf gives goes on from what has been read. -/
theorem rgo_pre (s : ByteArray) : ∀ f k acc L, rgo s f k acc = some L → ∃ M, L = acc ++ M
  | 0, _, _, _, h => by cases h
  | f + 1, k, acc, L, h => by
    rw [rgo] at h
    split at h
    · cases h; exact ⟨[], by simp⟩
    · split at h
      · cases h
      · obtain ⟨M, rfl⟩ := rgo_pre s f _ _ L h
        exact ⟨_, List.append_assoc _ _ _⟩
/-- The i-th code point of the list, and where it lies. -/
theorem rgo_next (s : ByteArray) (f k : Nat) (acc L : List Nat) (h : rgo s f k acc = some L) (hi : acc.length < L.length) :
    k < s.size ∧ badD (Utf8.decode s k) = false ∧ (Utf8.decode s k).1 = L.getD acc.length 0 ∧ ∃ f', rgo s f' (k + (Utf8.decode s k).2) (acc ++ [(Utf8.decode s k).1]) = some L := by
  cases f with
  | zero => cases h
  | succ f =>
    rw [rgo] at h
    split at h
    · cases h; omega
    · split at h
      · cases h
      · rename_i h1 h2
        refine ⟨by omega, by simpa using h2, ?_, f, h⟩
        obtain ⟨M, rfl⟩ := rgo_pre s f _ _ L h
        simp
theorem rgo_last (s : ByteArray) (f k : Nat) (acc L : List Nat) (h : rgo s f k acc = some L) (hi : acc.length = L.length) : s.size ≤ k ∧ acc = L := by
  cases f with
  | zero => cases h
  | succ f =>
    rw [rgo] at h
    split at h
    · rename_i h1
      cases h; exact ⟨h1, rfl⟩
    · split at h
      · cases h
      · obtain ⟨M, rfl⟩ := rgo_pre s f _ _ L h
        simp at hi

end Go.Proofs.YtbjialckijphiaaDoor
