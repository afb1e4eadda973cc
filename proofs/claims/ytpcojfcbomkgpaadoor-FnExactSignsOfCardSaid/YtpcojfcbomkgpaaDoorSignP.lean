/- The sign at a place of a text, as data. -/
import Derived.Test.YtpcojfcbomkgpaaDoorRqR
import Derived.Test.YtpcojfcbomkgpaaDoorWhoP
namespace Go.Proofs.YtpcojfcbomkgpaaDoor
open Go.RowKit

def markB : ByteArray := ⟨#[123, 125, 91, 93, 58, 44]⟩
def markI (c : Nat) : Int := if c = 123 then 0 else if c = 125 then 1 else if c = 91 then 2 else if c = 93 then 3 else if c = 58 then 4 else if c = 44 then 5 else -1
theorem mark_at {c j : Nat} (h : j < 6) (e : bt markB j = c) : markI c = j := by
  subst e
  rcases j with _ | _ | _ | _ | _ | _ | j
  all_goals first | rfl | omega
theorem mark_no {c : Nat} (h : ∀ j, j < 6 → bt markB j ≠ c) : markI c = -1 := by
  have h0 := h 0 (by omega); have h1 := h 1 (by omega); have h2 := h 2 (by omega); have h3 := h 3 (by omega); have h4 := h 4 (by omega); have h5 := h 5 (by omega)
  have e0 : bt markB 0 = 123 := rfl
  have e1 : bt markB 1 = 125 := rfl
  have e2 : bt markB 2 = 91 := rfl
  have e3 : bt markB 3 = 93 := rfl
  have e4 : bt markB 4 = 58 := rfl
  have e5 : bt markB 5 = 44 := rfl
  rw [e0] at h0; rw [e1] at h1; rw [e2] at h2; rw [e3] at h3; rw [e4] at h4; rw [e5] at h5
  rw [markI, if_neg (Ne.symm h0), if_neg (Ne.symm h1), if_neg (Ne.symm h2), if_neg (Ne.symm h3), if_neg (Ne.symm h4), if_neg (Ne.symm h5)]

def wordB : Nat → ByteArray
  | 0 => ⟨#[116, 114, 117, 101]⟩
  | 1 => ⟨#[102, 97, 108, 115, 101]⟩
  | _ => ⟨#[110, 117, 108, 108]⟩
def hasW (s : ByteArray) (k : Nat) (w : ByteArray) : Bool := decide (k + w.size ≤ s.size) && ((s.extract k (k + w.size)).toList == w.toList)
structure Sg where
  kind : Int
  text : ByteArray
  num : Int
  fin : Nat
def emptyB : ByteArray := ⟨#[]⟩
def wordO (s : ByteArray) (k : Nat) : Option Sg :=
  if hasW s k (wordB 0) = true then some ⟨9, emptyB, 0, k + 4⟩ else if hasW s k (wordB 1) = true then some ⟨10, emptyB, 0, k + 5⟩ else if hasW s k (wordB 2) = true then some ⟨11, emptyB, 0, k + 4⟩ else none
def quoteO (s : ByteArray) (k : Nat) : Option Sg := match readQ s k with
  | none => none
  | some (l, e) => some ⟨7, ⟨l.toArray⟩, 0, e⟩
def numO (s : ByteArray) (k : Nat) : Option Sg := match whoQ s k with
  | none => none
  | some (n, e) => some ⟨8, emptyB, n, e⟩
def signO (s : ByteArray) (k : Nat) : Option Sg :=
  if 0 ≤ markI (bt s k) then some ⟨markI (bt s k) + 1, emptyB, 0, k + 1⟩
  else if bt s k = 34 then quoteO s k
  else if bt s k = 45 ∨ dgAt s k = true then numO s k
  else wordO s k
def signQ (s : ByteArray) (p : Int) : Option Sg := if 0 ≤ p ∧ p < s.size then signO s p.toNat else none
def sgK : Option Sg → Int | none => 0 | some x => x.kind
def sgT : Option Sg → ByteArray | none => emptyB | some x => x.text
def sgN : Option Sg → Int | none => 0 | some x => x.num
def sgA (p : Int) : Option Sg → Int | none => 0 | some _ => p
def sgE : Option Sg → Int | none => -1 | some x => x.fin
/-- The answer of SignAt. -/
def SignP (s : ByteArray) (p : Int) (w : World) (e : Ending) (w' : World) : Prop :=
  e = .returned (.tuple #[.agg #[.int .i64 (sgK (signQ s p)), .string (sgT (signQ s p)), .int .i64 (sgN (signQ s p)), .int .i64 (sgA p (signQ s p))], .int .i64 (sgE (signQ s p))]) ∧ Below w.heap.size w w'
theorem sign_out {s : ByteArray} {p : Int} (h : ¬ (0 ≤ p ∧ p < s.size)) : signQ s p = none := if_neg h
theorem sign_in {s : ByteArray} {k : Nat} (h : k < s.size) : signQ s (k : Int) = signO s k := by
  rw [signQ, if_pos ⟨by omega, by omega⟩]; rfl
theorem signP_none {s : ByteArray} {p : Int} {w w' : World} (h : signQ s p = none) (hb : Below w.heap.size w w') :
    SignP s p w (.returned (.tuple #[.agg #[.int .i64 0, .string ⟨#[]⟩, .int .i64 0, .int .i64 0], .int .i64 (-1)])) w' := by
  refine ⟨?_, hb⟩; rw [h]; rfl
theorem signP_some {s : ByteArray} {p : Int} {w w' : World} {x : Sg} (h : signQ s p = some x) (hb : Below w.heap.size w w') {a b c : Int} {t : ByteArray} (ha : a = x.kind) (ht : t = x.text) (hn : b = x.num) (he : c = x.fin) :
    SignP s p w (.returned (.tuple #[.agg #[.int .i64 a, .string t, .int .i64 b, .int .i64 p], .int .i64 c])) w' := by
  subst ha ht hn he
  refine ⟨?_, hb⟩; rw [h]; rfl
theorem sign_mark {s : ByteArray} {k j : Nat} (hk : k < s.size) (hj : j < 6) (e : bt markB j = bt s k) : signQ s (k : Int) = some ⟨(j : Int) + 1, emptyB, 0, k + 1⟩ := by
  have hm := mark_at hj e
  rw [sign_in hk, signO, hm, if_pos (by omega)]
/-- A word stands where neither a mark nor a quote nor a number begins. -/
theorem word_first {s : ByteArray} {k : Nat} {w : ByteArray} (h : hasW s k w = true) (h0 : 0 < w.size) : bt s k = bt w 0 := by
  simp only [hasW, Bool.and_eq_true, decide_eq_true_eq, beq_iff_eq] at h
  obtain ⟨h1, h2⟩ := h
  have e : s.extract k (k + w.size) = w := by
    apply ByteArray.ext; apply Array.ext'
    rw [← ByteArray.toList_eq, ← ByteArray.toList_eq, h2]
  have hs : (s.extract k (k + w.size)).size = w.size := by rw [e]
  have h3 : bt (s.extract k (k + w.size)) 0 = bt s k := by
    rw [bt_eq _ 0 (by omega), bt_eq s k (by omega)]
    simp [ByteArray.getElem_extract]
  rw [← h3, e]
theorem word_some {s : ByteArray} {k : Nat} {x : Sg} (h : wordO s k = some x) : bt s k = 116 ∨ bt s k = 102 ∨ bt s k = 110 := by
  rw [wordO] at h
  by_cases h1 : hasW s k (wordB 0) = true
  · left; exact word_first h1 (by decide)
  rw [if_neg h1] at h
  by_cases h2 : hasW s k (wordB 1) = true
  · right; left; exact word_first h2 (by decide)
  rw [if_neg h2] at h
  by_cases h3 : hasW s k (wordB 2) = true
  · right; right; exact word_first h3 (by decide)
  rw [if_neg h3] at h; cases h
theorem mark_none {s : ByteArray} {k : Nat} (h : ∀ j, j < 6 → bt markB j ≠ bt s k) : ¬ 0 ≤ markI (bt s k) := by rw [mark_no h]; omega
theorem sign_word {s : ByteArray} {k : Nat} {x : Sg} (hk : k < s.size) (h : wordO s k = some x) : signQ s (k : Int) = some x := by
  have hw := word_some h
  have hm : ¬ 0 ≤ markI (bt s k) := by rcases hw with e | e | e <;> rw [e] <;> decide
  have hq : bt s k ≠ 34 := by omega
  have hd : ¬ (bt s k = 45 ∨ dgAt s k = true) := by
    rw [dgAt_iff]; omega
  rw [sign_in hk, signO, if_neg hm, if_neg hq, if_neg hd, h]
theorem sign_quote {s : ByteArray} {k : Nat} (hk : k < s.size) (h : bt s k = 34) : signQ s (k : Int) = quoteO s k := by
  rw [sign_in hk, signO, if_neg (by rw [h]; decide), if_pos h]
theorem who_none {s : ByteArray} {k : Nat} (hk : k < s.size) (h : ¬ (bt s k = 45 ∨ dgAt s k = true)) : whoQ s (k : Int) = none := by
  have h1 : bt s k ≠ 45 := fun e => h (Or.inl e)
  have h2 : ¬ dgAt s k = true := fun e => h (Or.inr e)
  have hf : whoFrom s k = k := if_neg h1
  have he : Ends s k k := ⟨Nat.le_refl _, Nat.le_of_lt hk, fun i h3 h4 => by omega, fun _ => by cases h3 : dgAt s k with | false => rfl | true => exact absurd h3 h2⟩
  rw [who_in hk]
  exact who_bad hf he (Or.inl rfl)
/-- Where neither a mark, nor a word, nor a quote stands, a number does, or nothing. -/
theorem sign_num {s : ByteArray} {k : Nat} (hk : k < s.size) (hm : ∀ j, j < 6 → bt markB j ≠ bt s k) (hw : wordO s k = none) (hq : bt s k ≠ 34) : signQ s (k : Int) = numO s k := by
  rw [sign_in hk, signO, if_neg (mark_none hm), if_neg hq]
  by_cases h : bt s k = 45 ∨ dgAt s k = true
  · rw [if_pos h]
  · rw [if_neg h, hw, numO, who_none hk h]
theorem sign_dig {s : ByteArray} {k : Nat} (hk : k < s.size) (h : bt s k = 45 ∨ dgAt s k = true) : signQ s (k : Int) = numO s k := by
  have h' : bt s k = 45 ∨ (48 ≤ bt s k ∧ bt s k ≤ 57) := by rw [← dgAt_iff]; exact h
  have hm : ¬ 0 ≤ markI (bt s k) := by
    rw [markI]
    repeat' split
    all_goals omega
  rw [sign_in hk, signO, if_neg hm, if_neg (by omega), if_pos h]
theorem sign_rest {s : ByteArray} {k : Nat} (hk : k < s.size) (hm : markI (bt s k) = -1) (hq : bt s k ≠ 34) (hd : ¬ (bt s k = 45 ∨ dgAt s k = true)) : signQ s (k : Int) = wordO s k := by
  rw [sign_in hk, signO, if_neg (by rw [hm]; omega), if_neg hq, if_neg hd]
/-- What the last word that fits says. -/
theorem word_excl {s : ByteArray} {k : Nat} {i j : Nat} (hi : hasW s k (wordB i) = true) (hj : hasW s k (wordB j) = true) (h : i < 3) (h' : j < 3) : i = j := by
  have hw : ∀ i, i < 3 → 0 < (wordB i).size := by intro i hi; rcases i with _ | _ | _ | i <;> first | decide | omega
  have a := word_first hi (hw i h)
  have b := word_first hj (hw j h')
  rw [a] at b
  rcases i with _ | _ | _ | i <;> rcases j with _ | _ | _ | j <;> first | rfl | omega | (exact absurd b (by decide))

end Go.Proofs.YtpcojfcbomkgpaaDoor
