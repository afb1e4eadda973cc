/- Rq, RqS, RqE, RqR, SignP, SignsP, QuoB, WhoR, WhoT, WhoU, merged. -/
import Derived.Test.YtkifacpanipfhaaDoorLI
import Derived.Test.YtkifacpanipfhaaDoorBuf
import Derived.Test.YtkifacpanipfhaaDoorLA
import Derived.Deep.DeepCutAuto
namespace Go.Proofs.YtkifacpanipfhaaDoor

def hexO (b : Nat) : Option Nat := if 48 ≤ b ∧ b ≤ 57 then some (b - 48) else if 65 ≤ b ∧ b ≤ 70 then some (b - 55) else if 97 ≤ b ∧ b ≤ 102 then some (b - 87) else none
/-- The number that i hexadecimal digits at k tell. -/
def hexTo (s : ByteArray) (k : Nat) : Nat → Option Nat
  | 0 => some 0
  | i + 1 => (hexTo s k i).bind fun n => (hexO (bt s (k + i))).map fun d => 16 * n + d
theorem hexO_lt {b d : Nat} (h : hexO b = some d) : d < 16 := by
  unfold hexO at h
  split at h
  · cases h; omega
  split at h
  · cases h; omega
  split at h
  · cases h; omega
  · cases h
theorem hexTo_lt (s : ByteArray) (k : Nat) : ∀ i n, hexTo s k i = some n → n < 16 ^ i
  | 0, n, h => by cases h; simp
  | i + 1, n, h => by
    simp only [hexTo, Option.bind_eq_some_iff, Option.map_eq_some_iff] at h
    obtain ⟨m, hm, d, hd, rfl⟩ := h
    have := hexTo_lt s k i m hm
    have := hexO_lt hd
    rw [Nat.pow_succ]; omega
theorem hexTo_none {s : ByteArray} {k i : Nat} (h : hexO (bt s (k + i)) = none) : ∀ j, i < j → hexTo s k j = none
  | 0, hj => by omega
  | j + 1, hj => by
    rcases Nat.lt_or_ge i j with h1 | h1
    · rw [hexTo, hexTo_none h j h1]; rfl
    · obtain rfl : i = j := by omega
      rw [hexTo, h]
      cases hexTo s k i <;> rfl
def fourO (s : ByteArray) (k : Nat) : Option Nat := if s.size < k + 4 then none else hexTo s k 4
theorem fourO_some {s : ByteArray} {k n : Nat} (h : fourO s k = some n) : k + 4 ≤ s.size ∧ n < 65536 := by
  unfold fourO at h
  split at h
  · cases h
  · exact ⟨by omega, hexTo_lt s k 4 n h⟩

/-- What stands behind a backslash that stands ahead of k: the code point, and where it ends. -/
def escO (s : ByteArray) (k : Nat) : Option (Nat × Nat) :=
  if s.size ≤ k then none
  else if bt s k = 34 ∨ bt s k = 92 ∨ bt s k = 47 then some (bt s k, k + 1)
  else if bt s k = 98 then some (8, k + 1)
  else if bt s k = 102 then some (12, k + 1)
  else if bt s k = 110 then some (10, k + 1)
  else if bt s k = 114 then some (13, k + 1)
  else if bt s k = 116 then some (9, k + 1)
  else if bt s k = 117 then
    match fourO s (k + 1) with
    | none => none
    | some n =>
      if 56320 ≤ n ∧ n ≤ 57343 then none
      else if ¬ (55296 ≤ n ∧ n ≤ 56319) then some (n, k + 5)
      else if bt s (k + 5) = 92 ∧ bt s (k + 6) = 117 then
        match fourO s (k + 7) with
        | none => none
        | some m => if 56320 ≤ m ∧ m ≤ 57343 then some (65536 + 1024 * (n - 55296) + (m - 56320), k + 11) else none
      else none
  else none
theorem escO_some {s : ByteArray} {k n k' : Nat} (h : escO s k = some (n, k')) : k < k' ∧ k' ≤ s.size ∧ n ≤ 1114111 := by
  unfold escO at h
  by_cases h0 : s.size ≤ k
  · rw [if_pos h0] at h; cases h
  rw [if_neg h0] at h
  by_cases h1 : bt s k = 34 ∨ bt s k = 92 ∨ bt s k = 47
  · rw [if_pos h1] at h; cases h; omega
  rw [if_neg h1] at h
  by_cases h2 : bt s k = 98
  · rw [if_pos h2] at h; cases h; omega
  rw [if_neg h2] at h
  by_cases h3 : bt s k = 102
  · rw [if_pos h3] at h; cases h; omega
  rw [if_neg h3] at h
  by_cases h4 : bt s k = 110
  · rw [if_pos h4] at h; cases h; omega
  rw [if_neg h4] at h
  by_cases h5 : bt s k = 114
  · rw [if_pos h5] at h; cases h; omega
  rw [if_neg h5] at h
  by_cases h6 : bt s k = 116
  · rw [if_pos h6] at h; cases h; omega
  rw [if_neg h6] at h
  by_cases h7 : bt s k = 117
  · rw [if_pos h7] at h
    cases hf : fourO s (k + 1) with
    | none => rw [hf] at h; cases h
    | some a =>
      rw [hf] at h
      have ha := fourO_some hf
      simp only at h
      by_cases g1 : 56320 ≤ a ∧ a ≤ 57343
      · rw [if_pos g1] at h; cases h
      rw [if_neg g1] at h
      by_cases g2 : 55296 ≤ a ∧ a ≤ 56319
      · rw [if_neg (by simpa using g2)] at h
        by_cases g3 : bt s (k + 5) = 92 ∧ bt s (k + 6) = 117
        · rw [if_pos g3] at h
          cases hg : fourO s (k + 7) with
          | none => rw [hg] at h; cases h
          | some b =>
            rw [hg] at h
            have hb := fourO_some hg
            simp only at h
            by_cases g4 : 56320 ≤ b ∧ b ≤ 57343
            · rw [if_pos g4] at h
              simp only [Option.some.injEq, Prod.mk.injEq] at h
              omega
            · rw [if_neg g4] at h; cases h
        · rw [if_neg g3] at h; cases h
      · rw [if_pos g2] at h; cases h; omega
  · rw [if_neg h7] at h; cases h

/-- The code point at k of a quoted text, and where the next one begins. -/
def stepO (s : ByteArray) (k : Nat) : Option (Nat × Nat) :=
  if bt s k = 92 then escO s (k + 1) else if badD (Utf8.decode s k) = true ∨ (Utf8.decode s k).1 < 32 then none else some ((Utf8.decode s k).1, k + (Utf8.decode s k).2)
theorem stepO_some {s : ByteArray} {k n k' : Nat} (hk : k < s.size) (h : stepO s k = some (n, k')) : k < k' ∧ k' ≤ s.size ∧ n ≤ 1114111 := by
  unfold stepO at h
  split at h
  · have := escO_some h; omega
  · split at h
    · cases h
    · rename_i hn
      have hb : badD (Utf8.decode s k) = false := by
        cases hb : badD (Utf8.decode s k)
        · rfl
        · exact absurd (.inl hb) hn
      have ho := (dec_bytes s k hk hb).2
      simp only [runeOkN, Bool.and_eq_true, decide_eq_true_eq] at ho
      cases h
      have := Lib.decode_width_pos s k hk
      have := width_le s k hk
      omega
/-- The text from k on, behind acc, as far as its closing quote. -/
def rq (s : ByteArray) : Nat → Nat → List UInt8 → Option (List UInt8 × Nat)
  | 0, _, _ => none
  | f + 1, k, acc => if s.size ≤ k then none else if bt s k = 34 then some (acc, k + 1) else
    match stepO s k with
    | none => none
    | some (n, k') => rq s f k' (acc ++ rtext (n : Int))
theorem rq_out {s : ByteArray} {f k : Nat} {acc : List UInt8} (h : s.size ≤ k) : rq s f k acc = none := by
  cases f with
  | zero => rfl
  | succ f => rw [rq, if_pos h]
theorem rq_quote {s : ByteArray} {f k : Nat} {acc : List UInt8} (h : k < s.size) (hf : s.size < k + f) (hq : bt s k = 34) : rq s f k acc = some (acc, k + 1) := by
  cases f with
  | zero => omega
  | succ f => rw [rq, if_neg (by omega), if_pos hq]
theorem rq_bad {s : ByteArray} {f k : Nat} {acc : List UInt8} (h : k < s.size) (hq : bt s k ≠ 34) (hb : stepO s k = none) : rq s f k acc = none := by
  cases f with
  | zero => rfl
  | succ f => rw [rq, if_neg (by omega), if_neg hq, hb]
theorem rq_step {s : ByteArray} {f k n k' : Nat} {acc : List UInt8} (h : k < s.size) (hf : s.size < k + f) (hq : bt s k ≠ 34) (hb : stepO s k = some (n, k')) :
    ∃ f', s.size < k' + f' ∧ rq s f' k' (acc ++ rtext (n : Int)) = rq s f k acc := by
  cases f with
  | zero => omega
  | succ f =>
    have := stepO_some h hb
    exact ⟨f, by omega, by rw [rq, if_neg (by omega), if_neg hq, hb]⟩

def readQ (s : ByteArray) (p : Int) : Option (List UInt8 × Nat) := if 0 ≤ p ∧ p < s.size ∧ bt s p.toNat = 34 then rq s (s.size + 1) (p.toNat + 1) [] else none
def qText : Option (List UInt8 × Nat) → ByteArray
  | none => ⟨#[]⟩
  | some (l, _) => ⟨l.toArray⟩
def qEnd : Option (List UInt8 × Nat) → Int
  | none => -1
  | some (_, k) => k
theorem rq_end_le {s : ByteArray} : ∀ f k acc l e, rq s f k acc = some (l, e) → k < e ∧ e ≤ s.size
  | 0, _, _, _, _, h => by cases h
  | f + 1, k, acc, l, e, h => by
    rw [rq] at h
    by_cases h1 : s.size ≤ k
    · rw [if_pos h1] at h; cases h
    rw [if_neg h1] at h
    by_cases h2 : bt s k = 34
    · rw [if_pos h2] at h; cases h; omega
    rw [if_neg h2] at h
    cases hs : stepO s k with
    | none => rw [hs] at h; cases h
    | some x =>
      obtain ⟨n, k'⟩ := x
      rw [hs] at h
      have h3 := stepO_some (by omega) hs
      have h4 := rq_end_le f k' _ l e h
      omega

end Go.Proofs.YtkifacpanipfhaaDoor
namespace Go.Proofs.YtkifacpanipfhaaDoor
open Go.RowKit

def fourZ (s : ByteArray) (k : Nat) : Int := match fourO s k with | none => -1 | some n => (n : Int)
theorem fourZ_none {s : ByteArray} {k : Nat} (h : fourO s k = none) : fourZ s k = -1 := by rw [fourZ, h]
theorem fourZ_some {s : ByteArray} {k n : Nat} (h : fourO s k = some n) : fourZ s k = n := by rw [fourZ, h]

end Go.Proofs.YtkifacpanipfhaaDoor
namespace Go.Proofs.YtkifacpanipfhaaDoor
open Go.RowKit

def stN : Option (Nat × Nat) → Int
  | none => 0
  | some (n, _) => n
def stE : Option (Nat × Nat) → Int
  | none => -1
  | some (_, e) => e

theorem esc_out {s : ByteArray} {k : Nat} (h : s.size ≤ k) : escO s k = none := by rw [escO, if_pos h]
theorem esc_lit {s : ByteArray} {k b : Nat} (h : k < s.size) (hb : bt s k = b) (h1 : b = 34 ∨ b = 92 ∨ b = 47) : escO s k = some (b, k + 1) := by
  rw [escO, if_neg (by omega), hb, if_pos h1]
theorem esc_ctl {s : ByteArray} {k b c : Nat} (h : k < s.size) (hb : bt s k = b) (h1 : (b = 98 ∧ c = 8) ∨ (b = 102 ∧ c = 12) ∨ (b = 110 ∧ c = 10) ∨ (b = 114 ∧ c = 13) ∨ (b = 116 ∧ c = 9)) : escO s k = some (c, k + 1) := by
  rw [escO, if_neg (by omega), hb]
  rcases h1 with ⟨rfl, rfl⟩ | ⟨rfl, rfl⟩ | ⟨rfl, rfl⟩ | ⟨rfl, rfl⟩ | ⟨rfl, rfl⟩ <;> rfl
theorem esc_other {s : ByteArray} {k : Nat} (h : bt s k ≠ 34 ∧ bt s k ≠ 92 ∧ bt s k ≠ 47 ∧ bt s k ≠ 98 ∧ bt s k ≠ 102 ∧ bt s k ≠ 110 ∧ bt s k ≠ 114 ∧ bt s k ≠ 116 ∧ bt s k ≠ 117) : escO s k = none := by
  by_cases h0 : s.size ≤ k
  · exact esc_out h0
  · rw [escO, if_neg h0, if_neg (by omega), if_neg (by omega), if_neg (by omega), if_neg (by omega), if_neg (by omega), if_neg (by omega), if_neg (by omega)]
theorem esc_u {s : ByteArray} {k : Nat} (h : k < s.size) (hb : bt s k = 117) : escO s k =
    match fourO s (k + 1) with
    | none => none
    | some n =>
      if 56320 ≤ n ∧ n ≤ 57343 then none
      else if ¬ (55296 ≤ n ∧ n ≤ 56319) then some (n, k + 5)
      else if bt s (k + 5) = 92 ∧ bt s (k + 6) = 117 then
        match fourO s (k + 7) with
        | none => none
        | some m => if 56320 ≤ m ∧ m ≤ 57343 then some (65536 + 1024 * (n - 55296) + (m - 56320), k + 11) else none
      else none := by
  rw [escO, if_neg (by omega), hb]
  rfl
theorem esc_u0 {s : ByteArray} {k : Nat} (h : k < s.size) (hb : bt s k = 117) (hf : fourO s (k + 1) = none) : escO s k = none := by rw [esc_u h hb, hf]
theorem esc_u1 {s : ByteArray} {k n : Nat} (h : k < s.size) (hb : bt s k = 117) (hf : fourO s (k + 1) = some n) (h1 : 56320 ≤ n ∧ n ≤ 57343) : escO s k = none := by
  rw [esc_u h hb, hf]; exact if_pos h1
theorem esc_u2 {s : ByteArray} {k n : Nat} (h : k < s.size) (hb : bt s k = 117) (hf : fourO s (k + 1) = some n) (h1 : ¬ (56320 ≤ n ∧ n ≤ 57343)) (h2 : ¬ (55296 ≤ n ∧ n ≤ 56319)) : escO s k = some (n, k + 5) := by
  rw [esc_u h hb, hf]; exact (if_neg h1).trans (if_pos h2)
theorem esc_u3 {s : ByteArray} {k n : Nat} (h : k < s.size) (hb : bt s k = 117) (hf : fourO s (k + 1) = some n) (h2 : 55296 ≤ n ∧ n ≤ 56319) (h3 : ¬ (bt s (k + 5) = 92 ∧ bt s (k + 6) = 117) ∨ fourO s (k + 7) = none) : escO s k = none := by
  rw [esc_u h hb, hf]
  refine (if_neg (by omega)).trans ((if_neg (by omega)).trans ?_)
  split
  · rcases h3 with h3 | h3
    · exact absurd (by assumption) h3
    · rw [h3]
  · rfl
theorem esc_u4 {s : ByteArray} {k n m : Nat} (h : k < s.size) (hb : bt s k = 117) (hf : fourO s (k + 1) = some n) (h2 : 55296 ≤ n ∧ n ≤ 56319) (h3 : bt s (k + 5) = 92 ∧ bt s (k + 6) = 117) (hg : fourO s (k + 7) = some m) (h4 : ¬ (56320 ≤ m ∧ m ≤ 57343)) : escO s k = none := by
  rw [esc_u h hb, hf]
  refine (if_neg (by omega)).trans ((if_neg (by omega)).trans ((if_pos h3).trans ?_))
  rw [hg]; exact if_neg h4
theorem esc_u5 {s : ByteArray} {k n m : Nat} (h : k < s.size) (hb : bt s k = 117) (hf : fourO s (k + 1) = some n) (h2 : 55296 ≤ n ∧ n ≤ 56319) (h3 : bt s (k + 5) = 92 ∧ bt s (k + 6) = 117) (hg : fourO s (k + 7) = some m) (h4 : 56320 ≤ m ∧ m ≤ 57343) : escO s k = some (65536 + 1024 * (n - 55296) + (m - 56320), k + 11) := by
  rw [esc_u h hb, hf]
  refine (if_neg (by omega)).trans ((if_neg (by omega)).trans ((if_pos h3).trans ?_))
  rw [hg]; exact if_pos h4

end Go.Proofs.YtkifacpanipfhaaDoor
namespace Go.Proofs.YtkifacpanipfhaaDoor
open Go.RowKit

theorem readQ_out {s : ByteArray} {p : Int} (h : betweenB p 0 ((s.size : Int) - 1) = false) : readQ s p = none := by
  rw [readQ, if_neg]
  simp [betweenB] at h; omega
theorem readQ_not {s : ByteArray} {k : Nat} (h : bt s k ≠ 34) : readQ s (k : Int) = none := by
  rw [readQ, if_neg]
  rintro ⟨_, _, h3⟩
  exact h (by simpa using h3)
theorem readQ_in {s : ByteArray} {k : Nat} (hk : k < s.size) (h : bt s k = 34) : readQ s (k : Int) = rq s (s.size + 1) (k + 1) [] := by
  rw [readQ, if_pos ⟨by omega, by omega, by simpa using h⟩]
  simp
theorem ret_sq {a b : ByteArray} {c d : Int} (h : a = b) (k : c = d) : Ending.returned (.tuple #[.string a, .int .i64 c]) = .returned (.tuple #[.string b, .int .i64 d]) := by rw [h, k]
theorem step_bad {s : ByteArray} {k : Nat} (h92 : bt s k ≠ 92) (hb : badD (Utf8.decode s k) = true ∨ (Utf8.decode s k).1 < 32) : stepO s k = none := by
  rw [stepO, if_neg h92, if_pos hb]
theorem step_good {s : ByteArray} {k : Nat} (h92 : bt s k ≠ 92) (hb : badD (Utf8.decode s k) = false) (h : ¬ (Utf8.decode s k).1 < 32) : stepO s k = some ((Utf8.decode s k).1, k + (Utf8.decode s k).2) := by
  rw [stepO, if_neg h92, if_neg (by rw [hb]; simp; omega)]
theorem step_esc {s : ByteArray} {k : Nat} (h92 : bt s k = 92) : stepO s k = escO s (k + 1) := by rw [stepO, if_pos h92]
theorem rtext_size (n : Nat) : (rtext (n : Int)).length ≤ 4 := rtext_len n

end Go.Proofs.YtkifacpanipfhaaDoor
namespace Go.Proofs.YtkifacpanipfhaaDoor
open Go.RowKit

def markB : ByteArray := ⟨#[123, 125, 91, 93, 58, 44]⟩
def markI (c : Nat) : Int := if c = 123 then 0 else if c = 125 then 1 else if c = 91 then 2 else if c = 93 then 3 else if c = 58 then 4 else if c = 44 then 5 else -1
theorem mark_at {c j : Nat} (h : j < 6) (e : bt markB j = c) : markI c = j := by
  subst e
  rcases j with _ | _ | _ | _ | _ | _ | j
  all_goals first | rfl | omega
theorem mark_no {c : Nat} (h : ∀ j, j < 6 → bt markB j ≠ c) : markI c = -1 := by
  have h0 := h 0 (by omega); have h1 := h 1 (by omega); have h2 := h 2 (by omega); have h3 := h 3 (by omega); have h4 := h 4 (by omega); have h5 := h 5 (by omega)
  have e0 : bt markB 0 = 123 := rfl
  have e1 : bt markB 1 = 125 := rfl
  have e2 : bt markB 2 = 91 := rfl
  have e3 : bt markB 3 = 93 := rfl
  have e4 : bt markB 4 = 58 := rfl
  have e5 : bt markB 5 = 44 := rfl
  rw [e0] at h0; rw [e1] at h1; rw [e2] at h2; rw [e3] at h3; rw [e4] at h4; rw [e5] at h5
  rw [markI, if_neg (Ne.symm h0), if_neg (Ne.symm h1), if_neg (Ne.symm h2), if_neg (Ne.symm h3), if_neg (Ne.symm h4), if_neg (Ne.symm h5)]

def wordB : Nat → ByteArray
  | 0 => ⟨#[116, 114, 117, 101]⟩
  | 1 => ⟨#[102, 97, 108, 115, 101]⟩
  | _ => ⟨#[110, 117, 108, 108]⟩
def hasW (s : ByteArray) (k : Nat) (w : ByteArray) : Bool := decide (k + w.size ≤ s.size) && ((s.extract k (k + w.size)).toList == w.toList)
structure Sg where
  kind : Int
  text : ByteArray
  num : Int
  fin : Nat
def emptyB : ByteArray := ⟨#[]⟩
def wordO (s : ByteArray) (k : Nat) : Option Sg :=
  if hasW s k (wordB 0) = true then some ⟨9, emptyB, 0, k + 4⟩ else if hasW s k (wordB 1) = true then some ⟨10, emptyB, 0, k + 5⟩ else if hasW s k (wordB 2) = true then some ⟨11, emptyB, 0, k + 4⟩ else none
def quoteO (s : ByteArray) (k : Nat) : Option Sg := match readQ s k with
  | none => none
  | some (l, e) => some ⟨7, ⟨l.toArray⟩, 0, e⟩
def numO (s : ByteArray) (k : Nat) : Option Sg := match whoQ s k with
  | none => none
  | some (n, e) => some ⟨8, emptyB, n, e⟩
def signO (s : ByteArray) (k : Nat) : Option Sg :=
  if 0 ≤ markI (bt s k) then some ⟨markI (bt s k) + 1, emptyB, 0, k + 1⟩
  else if bt s k = 34 then quoteO s k
  else if bt s k = 45 ∨ dgAt s k = true then numO s k
  else wordO s k
def signQ (s : ByteArray) (p : Int) : Option Sg := if 0 ≤ p ∧ p < s.size then signO s p.toNat else none
def sgK : Option Sg → Int | none => 0 | some x => x.kind
def sgT : Option Sg → ByteArray | none => emptyB | some x => x.text
def sgN : Option Sg → Int | none => 0 | some x => x.num
def sgA (p : Int) : Option Sg → Int | none => 0 | some _ => p
def sgE : Option Sg → Int | none => -1 | some x => x.fin
/-- The answer of SignAt. -/
def SignP (s : ByteArray) (p : Int) (w : World) (e : Ending) (w' : World) : Prop :=
  e = .returned (.tuple #[.agg #[.int .i64 (sgK (signQ s p)), .string (sgT (signQ s p)), .int .i64 (sgN (signQ s p)), .int .i64 (sgA p (signQ s p))], .int .i64 (sgE (signQ s p))]) ∧ Below w.heap.size w w'
theorem sign_out {s : ByteArray} {p : Int} (h : ¬ (0 ≤ p ∧ p < s.size)) : signQ s p = none := if_neg h
theorem sign_in {s : ByteArray} {k : Nat} (h : k < s.size) : signQ s (k : Int) = signO s k := by
  rw [signQ, if_pos ⟨by omega, by omega⟩]; rfl
theorem signP_none {s : ByteArray} {p : Int} {w w' : World} (h : signQ s p = none) (hb : Below w.heap.size w w') :
    SignP s p w (.returned (.tuple #[.agg #[.int .i64 0, .string ⟨#[]⟩, .int .i64 0, .int .i64 0], .int .i64 (-1)])) w' := by
  refine ⟨?_, hb⟩; rw [h]; rfl
theorem signP_some {s : ByteArray} {p : Int} {w w' : World} {x : Sg} (h : signQ s p = some x) (hb : Below w.heap.size w w') {a b c : Int} {t : ByteArray} (ha : a = x.kind) (ht : t = x.text) (hn : b = x.num) (he : c = x.fin) :
    SignP s p w (.returned (.tuple #[.agg #[.int .i64 a, .string t, .int .i64 b, .int .i64 p], .int .i64 c])) w' := by
  subst ha ht hn he
  refine ⟨?_, hb⟩; rw [h]; rfl
theorem sign_mark {s : ByteArray} {k j : Nat} (hk : k < s.size) (hj : j < 6) (e : bt markB j = bt s k) : signQ s (k : Int) = some ⟨(j : Int) + 1, emptyB, 0, k + 1⟩ := by
  have hm := mark_at hj e
  rw [sign_in hk, signO, hm, if_pos (by omega)]
/-- A word stands where neither a mark nor a quote nor a number begins. -/
theorem word_first {s : ByteArray} {k : Nat} {w : ByteArray} (h : hasW s k w = true) (h0 : 0 < w.size) : bt s k = bt w 0 := by
  simp only [hasW, Bool.and_eq_true, decide_eq_true_eq, beq_iff_eq] at h
  obtain ⟨h1, h2⟩ := h
  have e : s.extract k (k + w.size) = w := by
    apply ByteArray.ext; apply Array.ext'
    rw [← ByteArray.toList_eq, ← ByteArray.toList_eq, h2]
  have hs : (s.extract k (k + w.size)).size = w.size := by rw [e]
  have h3 : bt (s.extract k (k + w.size)) 0 = bt s k := by
    rw [bt_eq _ 0 (by omega), bt_eq s k (by omega)]
    simp [ByteArray.getElem_extract]
  rw [← h3, e]
theorem word_some {s : ByteArray} {k : Nat} {x : Sg} (h : wordO s k = some x) : bt s k = 116 ∨ bt s k = 102 ∨ bt s k = 110 := by
  rw [wordO] at h
  by_cases h1 : hasW s k (wordB 0) = true
  · left; exact word_first h1 (by decide)
  rw [if_neg h1] at h
  by_cases h2 : hasW s k (wordB 1) = true
  · right; left; exact word_first h2 (by decide)
  rw [if_neg h2] at h
  by_cases h3 : hasW s k (wordB 2) = true
  · right; right; exact word_first h3 (by decide)
  rw [if_neg h3] at h; cases h
theorem mark_none {s : ByteArray} {k : Nat} (h : ∀ j, j < 6 → bt markB j ≠ bt s k) : ¬ 0 ≤ markI (bt s k) := by rw [mark_no h]; omega
theorem sign_word {s : ByteArray} {k : Nat} {x : Sg} (hk : k < s.size) (h : wordO s k = some x) : signQ s (k : Int) = some x := by
  have hw := word_some h
  have hm : ¬ 0 ≤ markI (bt s k) := by rcases hw with e | e | e <;> rw [e] <;> decide
  have hq : bt s k ≠ 34 := by omega
  have hd : ¬ (bt s k = 45 ∨ dgAt s k = true) := by
    rw [dgAt_iff]; omega
  rw [sign_in hk, signO, if_neg hm, if_neg hq, if_neg hd, h]
theorem sign_quote {s : ByteArray} {k : Nat} (hk : k < s.size) (h : bt s k = 34) : signQ s (k : Int) = quoteO s k := by
  rw [sign_in hk, signO, if_neg (by rw [h]; decide), if_pos h]
theorem who_none {s : ByteArray} {k : Nat} (hk : k < s.size) (h : ¬ (bt s k = 45 ∨ dgAt s k = true)) : whoQ s (k : Int) = none := by
  have h1 : bt s k ≠ 45 := fun e => h (Or.inl e)
  have h2 : ¬ dgAt s k = true := fun e => h (Or.inr e)
  have hf : whoFrom s k = k := if_neg h1
  have he : Ends s k k := ⟨Nat.le_refl _, Nat.le_of_lt hk, fun i h3 h4 => by omega, fun _ => by cases h3 : dgAt s k with | false => rfl | true => exact absurd h3 h2⟩
  rw [who_in hk]
  exact who_bad hf he (Or.inl rfl)
/-- Where neither a mark, nor a word, nor a quote stands, a number does, or nothing. -/
theorem sign_num {s : ByteArray} {k : Nat} (hk : k < s.size) (hm : ∀ j, j < 6 → bt markB j ≠ bt s k) (hw : wordO s k = none) (hq : bt s k ≠ 34) : signQ s (k : Int) = numO s k := by
  rw [sign_in hk, signO, if_neg (mark_none hm), if_neg hq]
  by_cases h : bt s k = 45 ∨ dgAt s k = true
  · rw [if_pos h]
  · rw [if_neg h, hw, numO, who_none hk h]
theorem sign_dig {s : ByteArray} {k : Nat} (hk : k < s.size) (h : bt s k = 45 ∨ dgAt s k = true) : signQ s (k : Int) = numO s k := by
  have h' : bt s k = 45 ∨ (48 ≤ bt s k ∧ bt s k ≤ 57) := by rw [← dgAt_iff]; exact h
  have hm : ¬ 0 ≤ markI (bt s k) := by
    rw [markI]
    repeat' split
    all_goals omega
  rw [sign_in hk, signO, if_neg hm, if_neg (by omega), if_pos h]
theorem sign_rest {s : ByteArray} {k : Nat} (hk : k < s.size) (hm : markI (bt s k) = -1) (hq : bt s k ≠ 34) (hd : ¬ (bt s k = 45 ∨ dgAt s k = true)) : signQ s (k : Int) = wordO s k := by
  rw [sign_in hk, signO, if_neg (by rw [hm]; omega), if_neg hq, if_neg hd]
/-- What the last word that fits says. -/
theorem word_excl {s : ByteArray} {k : Nat} {i j : Nat} (hi : hasW s k (wordB i) = true) (hj : hasW s k (wordB j) = true) (h : i < 3) (h' : j < 3) : i = j := by
  have hw : ∀ i, i < 3 → 0 < (wordB i).size := by intro i hi; rcases i with _ | _ | _ | i <;> first | decide | omega
  have a := word_first hi (hw i h)
  have b := word_first hj (hw j h')
  rw [a] at b
  rcases i with _ | _ | _ | i <;> rcases j with _ | _ | _ | j <;> first | rfl | omega | (exact absurd b (by decide))

end Go.Proofs.YtkifacpanipfhaaDoor
namespace Go.Proofs.YtkifacpanipfhaaDoor
open Go.RowKit

theorem dgEnd_ge (s : ByteArray) : ∀ f k, k ≤ dgEnd s f k ∧ (k ≤ s.size → dgEnd s f k ≤ s.size)
  | 0, k => by rw [dgEnd]; exact ⟨Nat.le_refl _, fun h => h⟩
  | f + 1, k => by
    rw [dgEnd]
    have ih := dgEnd_ge s f (k + 1)
    by_cases h : k < s.size ∧ dgAt s k = true
    · rw [if_pos h]; exact ⟨by omega, fun _ => ih.2 (by omega)⟩
    · rw [if_neg h]; exact ⟨Nat.le_refl _, fun h => h⟩
theorem who_some {s : ByteArray} {k e : Nat} {n : Int} (hk : k < s.size) (h : whoO s k = some (n, e)) : k < e ∧ e ≤ s.size := by
  have hg := dgEnd_ge s (s.size - whoFrom s k) (whoFrom s k)
  have hw : k ≤ whoFrom s k ∧ whoFrom s k ≤ s.size := by unfold whoFrom; split <;> omega
  rw [whoO] at h
  change k < e ∧ e ≤ s.size
  have hfe : fend s (whoFrom s k) = dgEnd s (s.size - whoFrom s k) (whoFrom s k) := rfl
  rw [← hfe] at hg
  have hg2 := hg.2 hw.2
  by_cases c1 : fend s (whoFrom s k) = whoFrom s k ∨ (bt s (whoFrom s k) = 48 ∧ whoFrom s k + 1 < fend s (whoFrom s k)) ∨ stopB s (fend s (whoFrom s k)) = true
  · rw [if_pos c1] at h; cases h
  rw [if_neg c1] at h
  have hne : fend s (whoFrom s k) ≠ whoFrom s k := fun e => c1 (Or.inl e)
  have he : e = fend s (whoFrom s k) := by
    split at h
    · split at h
      · simp only [Option.some.injEq, Prod.mk.injEq] at h; exact h.2.symm
      · cases h
    · split at h
      · simp only [Option.some.injEq, Prod.mk.injEq] at h; exact h.2.symm
      · cases h
  omega
theorem readQ_some {s : ByteArray} {k e : Nat} {l : List UInt8} (h : readQ s (k : Int) = some (l, e)) : k < e ∧ e ≤ s.size := by
  unfold readQ at h
  split at h
  · have := rq_end_le _ _ _ _ _ h
    rw [Int.toNat_natCast] at this
    omega
  · cases h
theorem hasW_fit {s w : ByteArray} {k : Nat} (h : hasW s k w = true) : k + w.size ≤ s.size := by
  simp only [hasW, Bool.and_eq_true, decide_eq_true_eq] at h; exact h.1
theorem sign_fin {s : ByteArray} {k : Nat} {x : Sg} (hk : k < s.size) (h : signO s k = some x) : k < x.fin ∧ x.fin ≤ s.size := by
  rw [signO] at h
  by_cases h1 : 0 ≤ markI (bt s k)
  · rw [if_pos h1] at h; cases h; exact ⟨Nat.lt_succ_self k, hk⟩
  rw [if_neg h1] at h
  by_cases h2 : bt s k = 34
  · rw [if_pos h2, quoteO] at h
    cases hr : readQ s k with
    | none => rw [hr] at h; cases h
    | some y => obtain ⟨l, e⟩ := y; rw [hr] at h; cases h; exact readQ_some hr
  rw [if_neg h2] at h
  by_cases h3 : bt s k = 45 ∨ dgAt s k = true
  · rw [if_pos h3, numO, who_in hk] at h
    cases hr : whoO s k with
    | none => rw [hr] at h; cases h
    | some y => obtain ⟨l, e⟩ := y; rw [hr] at h; cases h; exact who_some hk hr
  rw [if_neg h3, wordO] at h
  have w0 : (wordB 0).size = 4 := rfl
  have w1 : (wordB 1).size = 5 := rfl
  have w2 : (wordB 2).size = 4 := rfl
  by_cases g0 : hasW s k (wordB 0) = true
  · rw [if_pos g0] at h; cases h
    have := hasW_fit g0; rw [w0] at this
    exact ⟨show k < k + 4 by omega, this⟩
  rw [if_neg g0] at h
  by_cases g1 : hasW s k (wordB 1) = true
  · rw [if_pos g1] at h; cases h
    have := hasW_fit g1; rw [w1] at this
    exact ⟨show k < k + 5 by omega, this⟩
  rw [if_neg g1] at h
  by_cases g2 : hasW s k (wordB 2) = true
  · rw [if_pos g2] at h; cases h
    have := hasW_fit g2; rw [w2] at this
    exact ⟨show k < k + 4 by omega, this⟩
  rw [if_neg g2] at h; cases h

/-! ### Where no code point stands -/
def badFrom (s : ByteArray) : Nat → Nat → Option Nat
  | 0, _ => none
  | f + 1, k => if s.size ≤ k then none else if badD (Utf8.decode s k) = true then some k else badFrom s f (k + (Utf8.decode s k).2)
def badA (s : ByteArray) : Option Nat := badFrom s (s.size + 1) 0
def BadAt (s : ByteArray) (r : Option Nat) (k : Nat) : Prop := ∃ f, s.size < k + f ∧ badFrom s f k = r
theorem badAt_start (s : ByteArray) : BadAt s (badA s) 0 := ⟨s.size + 1, by omega, rfl⟩
theorem badAt_end {s : ByteArray} {r : Option Nat} {k : Nat} (h : BadAt s r k) (hk : s.size ≤ k) : r = none := by
  obtain ⟨f, hf, e⟩ := h
  cases f with
  | zero => exact e.symm
  | succ f => rw [badFrom, if_pos hk] at e; exact e.symm
theorem badAt_bad {s : ByteArray} {r : Option Nat} {k : Nat} (h : BadAt s r k) (hk : k < s.size) (hb : badD (Utf8.decode s k) = true) : r = some k := by
  obtain ⟨f, hf, e⟩ := h
  cases f with
  | zero => omega
  | succ f => rw [badFrom, if_neg (by omega), if_pos hb] at e; exact e.symm
theorem badAt_step {s : ByteArray} {r : Option Nat} {k : Nat} (h : BadAt s r k) (hk : k < s.size) (hb : badD (Utf8.decode s k) = false) : BadAt s r (k + (Utf8.decode s k).2) := by
  obtain ⟨f, hf, e⟩ := h
  cases f with
  | zero => omega
  | succ f =>
    have := Lib.decode_width_pos s k hk
    rw [badFrom, if_neg (by omega), if_neg (by simp [hb])] at e
    exact ⟨f, by omega, e⟩
/-- The fault of a text, whatever it is: its code and its place. -/
def ftO (s : ByteArray) : Option (Int × Int) := if 20000 < s.size then some (1, 0) else match badA s with
  | none => none
  | some k => some (2, k)
theorem ft_long {s : ByteArray} (h : 20000 < s.size) : ftO s = some (1, 0) := if_pos h
theorem ft_bad {s : ByteArray} {k : Nat} (h : ¬ 20000 < s.size) (hb : badA s = some k) : ftO s = some (2, (k : Int)) := by rw [ftO, if_neg h, hb]
theorem ft_none {s : ByteArray} (h : ¬ 20000 < s.size) (hb : badA s = none) : ftO s = none := by rw [ftO, if_neg h, hb]
theorem ft_short {s : ByteArray} (h : ftO s = none) : s.size ≤ 20000 := by
  rcases Nat.lt_or_ge 20000 s.size with g | g
  · rw [ft_long g] at h; cases h
  · exact g
def ftC : Option (Int × Int) → Int | none => 0 | some x => x.1
def ftP : Option (Int × Int) → Int | none => 0 | some x => x.2
theorem ft_code {s : ByteArray} : (ftC (ftO s) = 0 ∧ ftO s = none) ∨ (0 < ftC (ftO s) ∧ ftC (ftO s) ≤ 2 ∧ ∃ x, ftO s = some x) := by
  rcases Nat.lt_or_ge 20000 s.size with g | g
  · right; rw [ft_long g]; exact ⟨by decide, by decide, _, rfl⟩
  · cases hb : badA s with
    | none => left; rw [ft_none (by omega) hb]; exact ⟨rfl, rfl⟩
    | some k => right; rw [ft_bad (by omega) hb]; exact ⟨by show (0 : Int) < 2; decide, by show (2 : Int) ≤ 2; decide, _, rfl⟩
theorem ft_place {s : ByteArray} (hs : s.size ≤ 1048576) : 0 ≤ ftP (ftO s) ∧ ftP (ftO s) ≤ 1048576 := by
  rcases Nat.lt_or_ge 20000 s.size with g | g
  · rw [ft_long g]; exact ⟨by decide, by decide⟩
  · cases hb : badA s with
    | none => rw [ft_none (by omega) hb]; exact ⟨by decide, by decide⟩
    | some k =>
      rw [ft_bad (by omega) hb]
      have : ∀ f k r, badFrom s f k = some r → r < s.size := by
        intro f
        induction f with
        | zero => intro k r h; cases h
        | succ f ih =>
          intro k r h
          rw [badFrom] at h
          by_cases h1 : s.size ≤ k
          · rw [if_pos h1] at h; cases h
          rw [if_neg h1] at h
          by_cases h2 : badD (Utf8.decode s k) = true
          · rw [if_pos h2] at h; cases h; omega
          · rw [if_neg h2] at h; exact ih _ _ h
      have := this _ _ _ hb
      exact ⟨by show (0 : Int) ≤ (k : Int); omega, by show (k : Int) ≤ 1048576; omega⟩

/-! ### The signs -/
def wsN (b : Nat) : Bool := b == 32 || (b == 9 || (b == 10 || b == 13))
def tgo (s : ByteArray) : Nat → Nat → List (Sg × Nat) → List (Sg × Nat) × Option Nat
  | 0, _, acc => (acc, none)
  | f + 1, k, acc => if s.size ≤ k then (acc, none) else if wsN (bt s k) = true then tgo s f (k + 1) acc else match signO s k with
    | none => ([], some k)
    | some x => tgo s f x.fin (acc ++ [(x, k)])
def TgAt (s : ByteArray) (R : List (Sg × Nat) × Option Nat) (k : Nat) (acc : List (Sg × Nat)) : Prop := ∃ f, s.size < k + f ∧ tgo s f k acc = R
def toksR (s : ByteArray) : List (Sg × Nat) × Option Nat := tgo s (s.size + 1) 0 []
theorem tgAt_start (s : ByteArray) : TgAt s (toksR s) 0 [] := ⟨s.size + 1, by omega, rfl⟩
theorem tgAt_end {s : ByteArray} {R : List (Sg × Nat) × Option Nat} {k : Nat} {acc : List (Sg × Nat)} (h : TgAt s R k acc) (hk : s.size ≤ k) : R = (acc, none) := by
  obtain ⟨f, hf, e⟩ := h
  cases f with
  | zero => exact e.symm
  | succ f => rw [tgo, if_pos hk] at e; exact e.symm
theorem tgAt_ws {s : ByteArray} {R : List (Sg × Nat) × Option Nat} {k : Nat} {acc : List (Sg × Nat)} (h : TgAt s R k acc) (hk : k < s.size) (hw : wsN (bt s k) = true) : TgAt s R (k + 1) acc := by
  obtain ⟨f, hf, e⟩ := h
  cases f with
  | zero => omega
  | succ f => rw [tgo, if_neg (by omega), if_pos hw] at e; exact ⟨f, by omega, e⟩
theorem tgAt_bad {s : ByteArray} {R : List (Sg × Nat) × Option Nat} {k : Nat} {acc : List (Sg × Nat)} (h : TgAt s R k acc) (hk : k < s.size) (hw : wsN (bt s k) = false) (hs : signO s k = none) : R = ([], some k) := by
  obtain ⟨f, hf, e⟩ := h
  cases f with
  | zero => omega
  | succ f => rw [tgo, if_neg (by omega), if_neg (by simp [hw]), hs] at e; exact e.symm
theorem tgAt_step {s : ByteArray} {R : List (Sg × Nat) × Option Nat} {k : Nat} {acc : List (Sg × Nat)} {x : Sg} (h : TgAt s R k acc) (hk : k < s.size) (hw : wsN (bt s k) = false) (hs : signO s k = some x) : TgAt s R x.fin (acc ++ [(x, k)]) := by
  obtain ⟨f, hf, e⟩ := h
  have hx := sign_fin hk hs
  cases f with
  | zero => omega
  | succ f => rw [tgo, if_neg (by omega), if_neg (by simp [hw]), hs] at e; exact ⟨f, by omega, e⟩
theorem tgo_len (s : ByteArray) : ∀ f k acc, acc.length ≤ k → k ≤ s.size → (tgo s f k acc).1.length ≤ s.size
  | 0, k, acc, h, hk => by rw [tgo]; exact Nat.le_trans h hk
  | f + 1, k, acc, h, hk => by
    rw [tgo]
    by_cases h1 : s.size ≤ k
    · rw [if_pos h1]; exact Nat.le_trans h hk
    rw [if_neg h1]
    by_cases h2 : wsN (bt s k) = true
    · rw [if_pos h2]; exact tgo_len s f _ _ (by omega) (by omega)
    rw [if_neg h2]
    cases hs : signO s k with
    | none => simp
    | some x =>
      have hx := sign_fin (by omega) hs
      exact tgo_len s f _ _ (by simp; omega) hx.2
/-- What SignsOf says: the signs, and the fault's code and place. -/
def sgsL (s : ByteArray) : List (Sg × Nat) := match ftO s with | some _ => [] | none => (toksR s).1
def sgsC (s : ByteArray) : Int := match ftO s with | some x => x.1 | none => match (toksR s).2 with | some _ => 3 | none => 0
def sgsP (s : ByteArray) : Int := match ftO s with | some x => x.2 | none => match (toksR s).2 with | some k => k | none => 0
theorem sgs_fault {s : ByteArray} {c p : Int} (h : ftO s = some (c, p)) : sgsL s = [] ∧ sgsC s = c ∧ sgsP s = p := by
  simp only [sgsL, sgsC, sgsP, h, and_self]
theorem sgs_bad {s : ByteArray} {k : Nat} (h : ftO s = none) (hr : toksR s = ([], some k)) : sgsL s = [] ∧ sgsC s = 3 ∧ sgsP s = k := by
  simp only [sgsL, sgsC, sgsP, h, hr, and_self]
theorem sgs_good {s : ByteArray} {L : List (Sg × Nat)} (h : ftO s = none) (hr : toksR s = (L, none)) : sgsL s = L ∧ sgsC s = 0 ∧ sgsP s = 0 := by
  simp only [sgsL, sgsC, sgsP, h, hr, and_self]
theorem sgs_len (s : ByteArray) : (sgsL s).length ≤ s.size := by
  unfold sgsL
  split
  · simp
  · exact tgo_len s _ _ _ (by simp) (by omega)

end Go.Proofs.YtkifacpanipfhaaDoor
namespace Go.Proofs.YtkifacpanipfhaaDoor

theorem bt_drop {T : ByteArray} {k : Nat} {l R : List UInt8} (h : T.data.toList.drop k = l ++ R) : k + l.length + R.length = T.size ∨ (l = [] ∧ R = [] ∧ T.size ≤ k) := by
  have := congrArg List.length h
  simp only [List.length_drop, List.length_append] at this
  have hs : T.data.toList.length = T.size := by simp
  rw [hs] at this
  rcases Nat.lt_or_ge k T.size with h1 | h1
  · left; omega
  · right
    exact ⟨List.eq_nil_of_length_eq_zero (by omega), List.eq_nil_of_length_eq_zero (by omega), h1⟩
theorem bt_at {T : ByteArray} {k i : Nat} {l R : List UInt8} (h : T.data.toList.drop k = l ++ R) (hi : i < l.length) : bt T (k + i) = (l.getD i 0).toNat := by
  have hsz : k + l.length ≤ T.size := by
    rcases bt_drop h with h1 | ⟨h1, _, _⟩
    · omega
    · rw [h1] at hi; simp at hi
  have h2 : T.data.toList[k + i]? = l[i]? := by
    rw [← List.getElem?_drop, h, List.getElem?_append_left hi]
  have h3 : T.data.toList[k + i]? = some T[k + i] := by
    rw [List.getElem?_eq_getElem (by simp; omega)]; rfl
  rw [bt_eq T (k + i) (by omega), List.getD_eq_getElem?_getD, ← h2, h3]
  rfl
theorem drop_more {T : ByteArray} {k : Nat} {l R : List UInt8} (h : T.data.toList.drop k = l ++ R) : T.data.toList.drop (k + l.length) = R := by
  rw [← List.drop_drop, h]; simp
theorem fig_hex (x : Nat) (h : x < 16) : hexO (figB x).toNat = some x := by
  unfold figB hexO
  split
  · have e : (UInt8.ofNat (48 + x)).toNat = 48 + x := by simp; omega
    rw [e, if_pos (by omega)]; congr 1; omega
  · have e : (UInt8.ofNat (87 + x)).toNat = 87 + x := by simp; omega
    rw [e, if_neg (by omega), if_neg (by omega), if_pos (by omega)]; congr 1; omega

theorem step_two {T : ByteArray} {k b n : Nat} (hk : k + 1 < T.size) (h0 : bt T k = 92) (h1 : bt T (k + 1) = b) (hb : ((b = 34 ∨ b = 92 ∨ b = 47) ∧ n = b) ∨ (b = 98 ∧ n = 8) ∨ (b = 102 ∧ n = 12) ∨ (b = 110 ∧ n = 10) ∨ (b = 114 ∧ n = 13) ∨ (b = 116 ∧ n = 9)) :
    bt T k ≠ 34 ∧ k < T.size ∧ stepO T k = some (n, k + 2) := by
  refine ⟨by omega, by omega, ?_⟩
  rw [step_esc h0]
  rcases hb with ⟨hb, rfl⟩ | hb
  · exact esc_lit hk h1 hb
  · exact esc_ctl hk h1 hb
/-- One code point, told in quotes, is read. -/
theorem step_back {T : ByteArray} {k n : Nat} {R : List UInt8} (ho : runeOkN n = true) (h : T.data.toList.drop k = escR n ++ R) : bt T k ≠ 34 ∧ k < T.size ∧ stepO T k = some (n, k + (escR n).length) := by
  have two : ∀ b : UInt8, escR n = [92, b] → (((b.toNat = 34 ∨ b.toNat = 92 ∨ b.toNat = 47) ∧ n = b.toNat) ∨ (b.toNat = 98 ∧ n = 8) ∨ (b.toNat = 102 ∧ n = 12) ∨ (b.toNat = 110 ∧ n = 10) ∨ (b.toNat = 114 ∧ n = 13) ∨ (b.toNat = 116 ∧ n = 9)) → bt T k ≠ 34 ∧ k < T.size ∧ stepO T k = some (n, k + (escR n).length) := by
    intro b e hb
    rw [e] at h ⊢
    have h0 := bt_at (i := 0) h (by simp)
    have h1 := bt_at (i := 1) h (by simp)
    have hsz := bt_drop h
    simp only [Nat.add_zero, List.getD_cons_zero, List.getD_cons_succ, List.length_cons, List.length_nil] at h0 h1 hsz
    exact step_two (by rcases hsz with h2 | ⟨h2, _⟩ <;> first | omega | cases h2) h0 h1 hb
  by_cases g1 : n = 34
  · subst g1; exact two 34 (by decide) (by decide)
  by_cases g2 : n = 92
  · subst g2; exact two 92 (by decide) (by decide)
  by_cases g3 : n = 8
  · subst g3; exact two 98 (by decide) (by decide)
  by_cases g4 : n = 12
  · subst g4; exact two 102 (by decide) (by decide)
  by_cases g5 : n = 10
  · subst g5; exact two 110 (by decide) (by decide)
  by_cases g6 : n = 13
  · subst g6; exact two 114 (by decide) (by decide)
  by_cases g7 : n = 9
  · subst g7; exact two 116 (by decide) (by decide)
  by_cases g8 : n < 32
  · have e := escR_ctl g8 g3 g4 g5 g6 g7
    rw [e] at h ⊢
    have b0 := bt_at (i := 0) h (by simp)
    have b1 := bt_at (i := 1) h (by simp)
    have b2 := bt_at (i := 2) h (by simp)
    have b3 := bt_at (i := 3) h (by simp)
    have b4 := bt_at (i := 4) h (by simp)
    have b5 := bt_at (i := 5) h (by simp)
    have hsz := bt_drop h
    simp only [Nat.add_zero, List.getD_cons_zero, List.getD_cons_succ, List.length_cons, List.length_nil] at b0 b1 b2 b3 b4 b5 hsz ⊢
    have hk : k + 6 ≤ T.size := by rcases hsz with h2 | ⟨h2, _⟩ <;> first | omega | cases h2
    have h92 : bt T k = 92 := b0
    have h117 : bt T (k + 1) = 117 := b1
    refine ⟨by omega, by omega, ?_⟩
    rw [step_esc h92]
    have hf : fourO T (k + 1 + 1) = some n := by
      rw [fourO, if_neg (by omega)]
      have c2 : hexO (bt T (k + 2)) = some 0 := by rw [b2]; rfl
      have c3 : hexO (bt T (k + 3)) = some 0 := by rw [b3]; rfl
      have c4 : hexO (bt T (k + 4)) = some (n / 16) := by rw [b4]; exact fig_hex _ (by omega)
      have c5 : hexO (bt T (k + 5)) = some (n % 16) := by rw [b5]; exact fig_hex _ (by omega)
      simp only [hexTo, Nat.add_zero]
      have a2 : k + 1 + 1 = k + 2 := by omega
      have a3 : k + 2 + 1 = k + 3 := by omega
      have a4 : k + 2 + 2 = k + 4 := by omega
      have a5 : k + 2 + 3 = k + 5 := by omega
      rw [a2, a3, a4, a5, c2, c3, c4, c5]
      simp
      omega
    have := esc_u2 (k := k + 1) (by omega) h117 hf (by omega) (by omega)
    rw [this]
  · have e := escR_plain (by omega : 32 ≤ n) g1 g2
    rw [e] at h ⊢
    have hp := runeBytes_pos ho
    have hlen : ((runeBytes n).map UInt8.ofNat).length = (runeBytes n).length := List.length_map ..
    have hsz := bt_drop h
    have hk : k + (runeBytes n).length ≤ T.size := by
      rcases hsz with h2 | ⟨h2, _⟩
      · omega
      · rw [h2] at hlen; simp at hlen; omega
    have hb : btake T k (runeBytes n).length = runeBytes n := by
      refine btake_of_list T k (runeBytes n) (runeBytes_lt n) ?_
      rw [h, List.take_left' (by simp)]
    have hd := decode_of_bytes T k n ho hb hk
    have hg := runeOk_good ho rfl
    have h0 := btake_get T k (runeBytes n).length 0 (by omega)
    rw [hb, Nat.add_zero] at h0
    have hne : bt T k ≠ 34 ∧ bt T k ≠ 92 := by
      rw [← h0]
      have ho2 := ho
      simp only [runeOkN, Bool.and_eq_true, decide_eq_true_eq] at ho2
      unfold runeBytes
      rw [if_pos ho]
      split
      · simp; omega
      split
      · simp; omega
      split
      · simp; omega
      · simp; omega
    refine ⟨hne.1, by omega, ?_⟩
    rw [step_good hne.2 (by rw [hd]; exact hg) (by rw [hd]; exact g8), hd, hlen]

theorem rq_back {T : ByteArray} : ∀ (L : List Nat) (f k : Nat) (acc R : List UInt8), (∀ n ∈ L, runeOkN n = true) → T.data.toList.drop k = L.flatMap escR ++ 34 :: R → T.size < k + f →
    rq T f k acc = some (acc ++ rtexts (L.map (Nat.cast : Nat → Int)), k + (L.flatMap escR).length + 1)
  | [], f, k, acc, R, _, h, hf => by
    have h' : T.data.toList.drop k = [34] ++ R := h
    have h0 := bt_at (i := 0) h' (by simp)
    have hsz := bt_drop h'
    have hk : k < T.size := by rcases hsz with h2 | ⟨h2, _⟩ <;> first | (simp at h2; omega) | cases h2
    rw [rq_quote hk hf (by simpa using h0)]
    simp [rtexts]
  | n :: L, f, k, acc, R, ho, h, hf => by
    have hon := ho n (by simp)
    have e1 : (n :: L).flatMap escR = escR n ++ L.flatMap escR := by simp
    rw [e1, List.append_assoc] at h
    obtain ⟨h34, hk, hst⟩ := step_back hon h
    obtain ⟨f', hf', he⟩ := rq_step (acc := acc) hk hf h34 hst
    rw [← he, rq_back L f' (k + (escR n).length) (acc ++ rtext (n : Int)) R (fun m hm => ho m (by simp [hm])) (drop_more h) hf', e1]
    simp [rtexts]
    omega
theorem rq_open {T : ByteArray} : ∀ (L : List Nat) (f k : Nat) (acc : List UInt8), (∀ n ∈ L, runeOkN n = true) → T.data.toList.drop k = L.flatMap escR → T.size < k + f → rq T f k acc = none
  | [], f, k, acc, _, h, _ => by
    have : T.size ≤ k := by
      have := congrArg List.length h
      simp at this; omega
    exact rq_out this
  | n :: L, f, k, acc, ho, h, hf => by
    have e1 : (n :: L).flatMap escR = escR n ++ L.flatMap escR := by simp
    rw [e1] at h
    obtain ⟨h34, hk, hst⟩ := step_back (ho n (by simp)) h
    obtain ⟨f', hf', he⟩ := rq_step (acc := acc) hk hf h34 hst
    rw [← he]
    exact rq_open L f' _ _ (fun m hm => ho m (by simp [hm])) (drop_more h) hf'

theorem rgo_ok (s : ByteArray) : ∀ f k acc L, rgo s f k acc = some L → (∀ n ∈ acc, runeOkN n = true) → ∀ n ∈ L, runeOkN n = true
  | 0, _, _, _, h, _ => by cases h
  | f + 1, k, acc, L, h, ha => by
    rw [rgo] at h
    by_cases h1 : s.size ≤ k
    · rw [if_pos h1] at h; cases h; exact ha
    · rw [if_neg h1] at h
      split at h
      · cases h
      · rename_i hb
        refine rgo_ok s f _ _ L h fun n hn => ?_
        rw [List.mem_append, List.mem_singleton] at hn
        rcases hn with hn | rfl
        · exact ha n hn
        · exact (dec_bytes s k (by omega) (by simpa using hb)).2
theorem esc_flat {s : ByteArray} {L : List Nat} (h : runesO s = some L) : s.data.toList.flatMap escB = L.flatMap escR := by
  have ho := rgo_ok s _ 0 [] L h (by simp)
  rw [← runes_text h, rtexts, List.flatMap_map, List.flatMap_assoc]
  have : ∀ l : List Nat, (l.flatMap fun (n : Nat) => (rtext ((n : Nat) : Int)).flatMap escB) = l.flatMap escR := by
    intro l
    refine congrArg (fun g => List.flatMap g l) (funext fun n => ?_)
    rw [rtext_nat]; rfl
  exact this L
/-- What stands in quotes ahead of R, behind P, comes back. -/
theorem quote_back {s : ByteArray} (h : (runesO s).isSome = true) (P R : List UInt8) (T : ByteArray) (hT : T.data.toList = P ++ ((escTo s s.size ++ [34]) ++ R)) :
    readQ T (P.length : Int) = some (s.data.toList, P.length + (escTo s s.size ++ [34]).length) := by
  obtain ⟨L, hL⟩ := Option.isSome_iff_exists.1 h
  have ho := rgo_ok s _ 0 [] L hL (by simp)
  have he : escTo s s.size = 34 :: L.flatMap escR := by
    rw [escTo, List.take_of_length_le (by simp), esc_flat hL]
  rw [he] at hT ⊢
  have hd : T.data.toList.drop P.length = [34] ++ (L.flatMap escR ++ 34 :: R) := by
    rw [hT]; simp
  have h0 := bt_at (i := 0) hd (by simp)
  have hsz := bt_drop hd
  have hk : P.length < T.size := by rcases hsz with h2 | ⟨h2, _⟩ <;> first | (simp at h2; omega) | cases h2
  have hd2 := drop_more hd
  have hb := rq_back L (T.size + 1) (P.length + 1) [] R ho hd2 (by omega)
  rw [readQ_in hk (by simpa using h0), hb, runes_text hL]
  simp
  omega
theorem quote_open {s : ByteArray} (h : (runesO s).isSome = true) (T : ByteArray) (hT : T.data.toList = escTo s s.size) : readQ T 0 = none := by
  obtain ⟨L, hL⟩ := Option.isSome_iff_exists.1 h
  have ho := rgo_ok s _ 0 [] L hL (by simp)
  have he : escTo s s.size = 34 :: L.flatMap escR := by
    rw [escTo, List.take_of_length_le (by simp), esc_flat hL]
  rw [he] at hT
  have hd : T.data.toList.drop 0 = [34] ++ L.flatMap escR := by rw [hT]; simp
  have h0 := bt_at (i := 0) hd (by simp)
  have hsz := bt_drop hd
  have hk : 0 < T.size := by rcases hsz with h2 | ⟨h2, _⟩ <;> first | (simp at h2; omega) | cases h2
  have h2 : readQ T ((0 : Nat) : Int) = rq T (T.size + 1) (0 + 1) [] := readQ_in hk (by simpa using h0)
  rw [show ((0 : Nat) : Int) = 0 from rfl] at h2
  rw [h2]
  exact rq_open L _ _ _ ho (drop_more hd) (by omega)

end Go.Proofs.YtkifacpanipfhaaDoor
namespace Go.Proofs.YtkifacpanipfhaaDoor
open Go.RowKit

def riZ (v : Nat) : Int := if v ≤ 9223372036854775807 then (v : Int) else 0
theorem riZ_yes {v : Nat} (h : v ≤ 9223372036854775807) : riZ v = v := if_pos h
theorem riZ_no {v : Nat} (h : ¬ v ≤ 9223372036854775807) : riZ v = 0 := if_neg h
def riB (v : Nat) : Bool := decide (v ≤ 9223372036854775807)
theorem byteAt_toNat (t : ByteArray) (j : Nat) (h : j < t.size) : (t.data.toList.getD j 0).toNat = t[j].toNat := by
  have : t.data.toList[j]? = some t[j] := by
    rw [List.getElem?_eq_getElem (by simpa using h)]; rfl
  rw [List.getD_eq_getElem?_getD, this]; rfl

end Go.Proofs.YtkifacpanipfhaaDoor
namespace Go.Proofs.YtkifacpanipfhaaDoor
open Go.RowKit

def minB : ByteArray := ⟨#[57, 50, 50, 51, 51, 55, 50, 48, 51, 54, 56, 53, 52, 55, 55, 53, 56, 48, 56]⟩
theorem minB_val : valFrom 0 minB.data.toList = 9223372036854775808 := by decide +kernel
theorem minB_dec : Lib.decDigits 9223372036854775808 = minB.data.toList := by
  have hc : Canon minB.data.toList := ⟨by simp [minB], by decide +kernel, by decide +kernel⟩
  have := dec_val _ _ rfl hc
  rw [minB_val] at this
  exact this
/-- The one number whose figures have no int of their own. -/
theorem min_iff {l : List UInt8} (h : Canon l) : (l = minB.data.toList) ↔ valFrom 0 l = 9223372036854775808 := by
  constructor
  · intro e; rw [e]; exact minB_val
  · intro e
    have := dec_val _ _ rfl h
    rw [e, minB_dec] at this
    exact this.symm
theorem data_toList (t : ByteArray) : t.toList = t.data.toList := ByteArray.toList_eq t

/-- What stands behind the figures of s from f to e. -/
structure Fig (s : ByteArray) (f e : Nat) (F : ByteArray) : Prop where
  ends : Ends s f e
  size : F.size = e - f
  list : F.data.toList = figs s f e
theorem Fig.mk' {s : ByteArray} {f e : Nat} (h : Ends s f e) : Fig s f e (s.extract f e) :=
  ⟨h, by rw [ByteArray.size_extract]; have := h.top; omega, rfl⟩
theorem fig_head {s : ByteArray} {f e : Nat} {F : ByteArray} (h : Fig s f e F) (hne : f < e) (h0 : 0 < F.size) : F[0].toNat = bt s f := by
  have h1 := figs_get s f e 0 (by omega) h.ends.top
  rw [← h.list, byteAt_toNat F 0 h0, Nat.add_zero] at h1
  exact h1
theorem fig_empty {s : ByteArray} {f e : Nat} {F : ByteArray} (h : Fig s f e F) : F.toList.isEmpty = decide (e = f) := by
  have hl : F.toList.length = e - f := by
    rw [data_toList, h.list, figs_len s f e h.ends.le h.ends.top]
  have := h.ends.le
  rw [Bool.eq_iff_iff, List.isEmpty_iff, decide_eq_true_eq]
  constructor
  · intro hq; rw [hq] at hl; simp at hl; omega
  · intro hq; exact List.eq_nil_of_length_eq_zero (by omega)

end Go.Proofs.YtkifacpanipfhaaDoor
namespace Go.Proofs.YtkifacpanipfhaaDoor
open Go.RowKit

end Go.Proofs.YtkifacpanipfhaaDoor
