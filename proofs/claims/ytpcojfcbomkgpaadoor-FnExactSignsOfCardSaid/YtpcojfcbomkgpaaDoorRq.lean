/- Plain law: what a text in double quotes reads as. No program. -/
import Derived.Test.YtpcojfcbomkgpaaDoorQuo
namespace Go.Proofs.YtpcojfcbomkgpaaDoor

def hexO (b : Nat) : Option Nat := if 48 ≤ b ∧ b ≤ 57 then some (b - 48) else if 65 ≤ b ∧ b ≤ 70 then some (b - 55) else if 97 ≤ b ∧ b ≤ 102 then some (b - 87) else none
/-- The number that i hexadecimal digits at k tell. -/
def hexTo (s : ByteArray) (k : Nat) : Nat → Option Nat
  | 0 => some 0
  | i + 1 => (hexTo s k i).bind fun n => (hexO (bt s (k + i))).map fun d => 16 * n + d
theorem hexO_lt {b d : Nat} (h : hexO b = some d) : d < 16 := by
  unfold hexO at h
  split at h
  · cases h; omega
  split at h
  · cases h; omega
  split at h
  · cases h; omega
  · cases h
theorem hexTo_lt (s : ByteArray) (k : Nat) : ∀ i n, hexTo s k i = some n → n < 16 ^ i
  | 0, n, h => by cases h; simp
  | i + 1, n, h => by
    simp only [hexTo, Option.bind_eq_some_iff, Option.map_eq_some_iff] at h
    obtain ⟨m, hm, d, hd, rfl⟩ := h
    have := hexTo_lt s k i m hm
    have := hexO_lt hd
    rw [Nat.pow_succ]; omega
theorem hexTo_none {s : ByteArray} {k i : Nat} (h : hexO (bt s (k + i)) = none) : ∀ j, i < j → hexTo s k j = none
  | 0, hj => by omega
  | j + 1, hj => by
    rcases Nat.lt_or_ge i j with h1 | h1
    · rw [hexTo, hexTo_none h j h1]; rfl
    · obtain rfl : i = j := by omega
      rw [hexTo, h]
      cases hexTo s k i <;> rfl
def fourO (s : ByteArray) (k : Nat) : Option Nat := if s.size < k + 4 then none else hexTo s k 4
theorem fourO_some {s : ByteArray} {k n : Nat} (h : fourO s k = some n) : k + 4 ≤ s.size ∧ n < 65536 := by
  unfold fourO at h
  split at h
  · cases h
  · exact ⟨by omega, hexTo_lt s k 4 n h⟩

/-- What stands behind a backslash that stands ahead of k: the code point, and where it ends. -/
def escO (s : ByteArray) (k : Nat) : Option (Nat × Nat) :=
  if s.size ≤ k then none
  else if bt s k = 34 ∨ bt s k = 92 ∨ bt s k = 47 then some (bt s k, k + 1)
  else if bt s k = 98 then some (8, k + 1)
  else if bt s k = 102 then some (12, k + 1)
  else if bt s k = 110 then some (10, k + 1)
  else if bt s k = 114 then some (13, k + 1)
  else if bt s k = 116 then some (9, k + 1)
  else if bt s k = 117 then
    match fourO s (k + 1) with
    | none => none
    | some n =>
      if 56320 ≤ n ∧ n ≤ 57343 then none
      else if ¬ (55296 ≤ n ∧ n ≤ 56319) then some (n, k + 5)
      else if bt s (k + 5) = 92 ∧ bt s (k + 6) = 117 then
        match fourO s (k + 7) with
        | none => none
        | some m => if 56320 ≤ m ∧ m ≤ 57343 then some (65536 + 1024 * (n - 55296) + (m - 56320), k + 11) else none
      else none
  else none
theorem escO_some {s : ByteArray} {k n k' : Nat} (h : escO s k = some (n, k')) : k < k' ∧ k' ≤ s.size ∧ n ≤ 1114111 := by
  unfold escO at h
  by_cases h0 : s.size ≤ k
  · rw [if_pos h0] at h; cases h
  rw [if_neg h0] at h
  by_cases h1 : bt s k = 34 ∨ bt s k = 92 ∨ bt s k = 47
  · rw [if_pos h1] at h; cases h; omega
  rw [if_neg h1] at h
  by_cases h2 : bt s k = 98
  · rw [if_pos h2] at h; cases h; omega
  rw [if_neg h2] at h
  by_cases h3 : bt s k = 102
  · rw [if_pos h3] at h; cases h; omega
  rw [if_neg h3] at h
  by_cases h4 : bt s k = 110
  · rw [if_pos h4] at h; cases h; omega
  rw [if_neg h4] at h
  by_cases h5 : bt s k = 114
  · rw [if_pos h5] at h; cases h; omega
  rw [if_neg h5] at h
  by_cases h6 : bt s k = 116
  · rw [if_pos h6] at h; cases h; omega
  rw [if_neg h6] at h
  by_cases h7 : bt s k = 117
  · rw [if_pos h7] at h
    cases hf : fourO s (k + 1) with
    | none => rw [hf] at h; cases h
    | some a =>
      rw [hf] at h
      have ha := fourO_some hf
      simp only at h
      by_cases g1 : 56320 ≤ a ∧ a ≤ 57343
      · rw [if_pos g1] at h; cases h
      rw [if_neg g1] at h
      by_cases g2 : 55296 ≤ a ∧ a ≤ 56319
      · rw [if_neg (by simpa using g2)] at h
        by_cases g3 : bt s (k + 5) = 92 ∧ bt s (k + 6) = 117
        · rw [if_pos g3] at h
          cases hg : fourO s (k + 7) with
          | none => rw [hg] at h; cases h
          | some b =>
            rw [hg] at h
            have hb := fourO_some hg
            simp only at h
            by_cases g4 : 56320 ≤ b ∧ b ≤ 57343
            · rw [if_pos g4] at h
              simp only [Option.some.injEq, Prod.mk.injEq] at h
              omega
            · rw [if_neg g4] at h; cases h
        · rw [if_neg g3] at h; cases h
      · rw [if_pos g2] at h; cases h; omega
  · rw [if_neg h7] at h; cases h

/-- The code point at k of a quoted text, and where the next one begins. -/
def stepO (s : ByteArray) (k : Nat) : Option (Nat × Nat) :=
  if bt s k = 92 then escO s (k + 1) else if badD (Utf8.decode s k) = true ∨ (Utf8.decode s k).1 < 32 then none else some ((Utf8.decode s k).1, k + (Utf8.decode s k).2)
theorem stepO_some {s : ByteArray} {k n k' : Nat} (hk : k < s.size) (h : stepO s k = some (n, k')) : k < k' ∧ k' ≤ s.size ∧ n ≤ 1114111 := by
  unfold stepO at h
  split at h
  · have := escO_some h; omega
  · split at h
    · cases h
    · rename_i hn
      have hb : badD (Utf8.decode s k) = false := by
        cases hb : badD (Utf8.decode s k)
        · rfl
        · exact absurd (.inl hb) hn
      have ho := (dec_bytes s k hk hb).2
      simp only [runeOkN, Bool.and_eq_true, decide_eq_true_eq] at ho
      cases h
      have := Lib.decode_width_pos s k hk
      have := width_le s k hk
      omega
/-- The text from k on, behind acc, as far as its closing quote. -/
def rq (s : ByteArray) : Nat → Nat → List UInt8 → Option (List UInt8 × Nat)
  | 0, _, _ => none
  | f + 1, k, acc => if s.size ≤ k then none else if bt s k = 34 then some (acc, k + 1) else
    match stepO s k with
    | none => none
    | some (n, k') => rq s f k' (acc ++ rtext (n : Int))
theorem rq_out {s : ByteArray} {f k : Nat} {acc : List UInt8} (h : s.size ≤ k) : rq s f k acc = none := by
  cases f with
  | zero => rfl
  | succ f => rw [rq, if_pos h]
theorem rq_quote {s : ByteArray} {f k : Nat} {acc : List UInt8} (h : k < s.size) (hf : s.size < k + f) (hq : bt s k = 34) : rq s f k acc = some (acc, k + 1) := by
  cases f with
  | zero => omega
  | succ f => rw [rq, if_neg (by omega), if_pos hq]
theorem rq_bad {s : ByteArray} {f k : Nat} {acc : List UInt8} (h : k < s.size) (hq : bt s k ≠ 34) (hb : stepO s k = none) : rq s f k acc = none := by
  cases f with
  | zero => rfl
  | succ f => rw [rq, if_neg (by omega), if_neg hq, hb]
theorem rq_step {s : ByteArray} {f k n k' : Nat} {acc : List UInt8} (h : k < s.size) (hf : s.size < k + f) (hq : bt s k ≠ 34) (hb : stepO s k = some (n, k')) :
    ∃ f', s.size < k' + f' ∧ rq s f' k' (acc ++ rtext (n : Int)) = rq s f k acc := by
  cases f with
  | zero => omega
  | succ f =>
    have := stepO_some h hb
    exact ⟨f, by omega, by rw [rq, if_neg (by omega), if_neg hq, hb]⟩

def readQ (s : ByteArray) (p : Int) : Option (List UInt8 × Nat) := if 0 ≤ p ∧ p < s.size ∧ bt s p.toNat = 34 then rq s (s.size + 1) (p.toNat + 1) [] else none
def qText : Option (List UInt8 × Nat) → ByteArray
  | none => ⟨#[]⟩
  | some (l, _) => ⟨l.toArray⟩
def qEnd : Option (List UInt8 × Nat) → Int
  | none => -1
  | some (_, k) => k
theorem rq_end_le {s : ByteArray} : ∀ f k acc l e, rq s f k acc = some (l, e) → k < e ∧ e ≤ s.size
  | 0, _, _, _, _, h => by cases h
  | f + 1, k, acc, l, e, h => by
    rw [rq] at h
    by_cases h1 : s.size ≤ k
    · rw [if_pos h1] at h; cases h
    rw [if_neg h1] at h
    by_cases h2 : bt s k = 34
    · rw [if_pos h2] at h; cases h; omega
    rw [if_neg h2] at h
    cases hs : stepO s k with
    | none => rw [hs] at h; cases h
    | some x =>
      obtain ⟨n, k'⟩ := x
      rw [hs] at h
      have h3 := stepO_some (by omega) hs
      have h4 := rq_end_le f k' _ l e h
      omega

end Go.Proofs.YtpcojfcbomkgpaaDoor
