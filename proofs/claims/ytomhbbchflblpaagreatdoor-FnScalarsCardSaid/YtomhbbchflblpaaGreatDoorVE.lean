/- SignP, SignsP, Zero, SignS, TokP, merged. -/
import Derived.Test.YtomhbbchflblpaaGreatDoorVB
import Derived.Test.YtomhbbchflblpaaGreatDoorVA
import Derived.Test.YtomhbbchflblpaaGreatDoorTreeT
import Derived.Deep.QuietTactic
import Derived.BigQuiet
import Derived.RegionTactic
namespace Go.Proofs.YtomhbbchflblpaaGreatDoor
open Go.RowKit

def markB : ByteArray := ⟨#[123, 125, 91, 93, 58, 44]⟩
def markI (c : Nat) : Int := if c = 123 then 0 else if c = 125 then 1 else if c = 91 then 2 else if c = 93 then 3 else if c = 58 then 4 else if c = 44 then 5 else -1
theorem mark_at {c j : Nat} (h : j < 6) (e : bt markB j = c) : markI c = j := by
  subst e
  rcases j with _ | _ | _ | _ | _ | _ | j
  all_goals first | rfl | omega
theorem mark_no {c : Nat} (h : ∀ j, j < 6 → bt markB j ≠ c) : markI c = -1 := by
  have h0 := h 0 (by omega); have h1 := h 1 (by omega); have h2 := h 2 (by omega); have h3 := h 3 (by omega); have h4 := h 4 (by omega); have h5 := h 5 (by omega)
  have e0 : bt markB 0 = 123 := rfl
  have e1 : bt markB 1 = 125 := rfl
  have e2 : bt markB 2 = 91 := rfl
  have e3 : bt markB 3 = 93 := rfl
  have e4 : bt markB 4 = 58 := rfl
  have e5 : bt markB 5 = 44 := rfl
  rw [e0] at h0; rw [e1] at h1; rw [e2] at h2; rw [e3] at h3; rw [e4] at h4; rw [e5] at h5
  rw [markI, if_neg (Ne.symm h0), if_neg (Ne.symm h1), if_neg (Ne.symm h2), if_neg (Ne.symm h3), if_neg (Ne.symm h4), if_neg (Ne.symm h5)]

def wordB : Nat → ByteArray
  | 0 => ⟨#[116, 114, 117, 101]⟩
  | 1 => ⟨#[102, 97, 108, 115, 101]⟩
  | _ => ⟨#[110, 117, 108, 108]⟩
def hasW (s : ByteArray) (k : Nat) (w : ByteArray) : Bool := decide (k + w.size ≤ s.size) && ((s.extract k (k + w.size)).toList == w.toList)
structure Sg where
  kind : Int
  text : ByteArray
  num : Int
  fin : Nat
def emptyB : ByteArray := ⟨#[]⟩
def wordO (s : ByteArray) (k : Nat) : Option Sg :=
  if hasW s k (wordB 0) = true then some ⟨9, emptyB, 0, k + 4⟩ else if hasW s k (wordB 1) = true then some ⟨10, emptyB, 0, k + 5⟩ else if hasW s k (wordB 2) = true then some ⟨11, emptyB, 0, k + 4⟩ else none
def quoteO (s : ByteArray) (k : Nat) : Option Sg := match readQ s k with
  | none => none
  | some (l, e) => some ⟨7, ⟨l.toArray⟩, 0, e⟩
def numO (s : ByteArray) (k : Nat) : Option Sg := match whoQ s k with
  | none => none
  | some (n, e) => some ⟨8, emptyB, n, e⟩
def signO (s : ByteArray) (k : Nat) : Option Sg :=
  if 0 ≤ markI (bt s k) then some ⟨markI (bt s k) + 1, emptyB, 0, k + 1⟩
  else if bt s k = 34 then quoteO s k
  else if bt s k = 45 ∨ dgAt s k = true then numO s k
  else wordO s k
def signQ (s : ByteArray) (p : Int) : Option Sg := if 0 ≤ p ∧ p < s.size then signO s p.toNat else none
def sgK : Option Sg → Int | none => 0 | some x => x.kind
def sgT : Option Sg → ByteArray | none => emptyB | some x => x.text
def sgN : Option Sg → Int | none => 0 | some x => x.num
def sgA (p : Int) : Option Sg → Int | none => 0 | some _ => p
def sgE : Option Sg → Int | none => -1 | some x => x.fin
/-- The answer of SignAt. -/
def SignP (s : ByteArray) (p : Int) (w : World) (e : Ending) (w' : World) : Prop :=
  e = .returned (.tuple #[.agg #[.int .i64 (sgK (signQ s p)), .string (sgT (signQ s p)), .int .i64 (sgN (signQ s p)), .int .i64 (sgA p (signQ s p))], .int .i64 (sgE (signQ s p))]) ∧ Below w.heap.size w w'
theorem sign_out {s : ByteArray} {p : Int} (h : ¬ (0 ≤ p ∧ p < s.size)) : signQ s p = none := if_neg h
theorem sign_in {s : ByteArray} {k : Nat} (h : k < s.size) : signQ s (k : Int) = signO s k := by
  rw [signQ, if_pos ⟨by omega, by omega⟩]; rfl
theorem signP_none {s : ByteArray} {p : Int} {w w' : World} (h : signQ s p = none) (hb : Below w.heap.size w w') :
    SignP s p w (.returned (.tuple #[.agg #[.int .i64 0, .string ⟨#[]⟩, .int .i64 0, .int .i64 0], .int .i64 (-1)])) w' := by
  refine ⟨?_, hb⟩; rw [h]; rfl
theorem signP_some {s : ByteArray} {p : Int} {w w' : World} {x : Sg} (h : signQ s p = some x) (hb : Below w.heap.size w w') {a b c : Int} {t : ByteArray} (ha : a = x.kind) (ht : t = x.text) (hn : b = x.num) (he : c = x.fin) :
    SignP s p w (.returned (.tuple #[.agg #[.int .i64 a, .string t, .int .i64 b, .int .i64 p], .int .i64 c])) w' := by
  subst ha ht hn he
  refine ⟨?_, hb⟩; rw [h]; rfl
theorem sign_mark {s : ByteArray} {k j : Nat} (hk : k < s.size) (hj : j < 6) (e : bt markB j = bt s k) : signQ s (k : Int) = some ⟨(j : Int) + 1, emptyB, 0, k + 1⟩ := by
  have hm := mark_at hj e
  rw [sign_in hk, signO, hm, if_pos (by omega)]
/-- A word stands where neither a mark nor a quote nor a number begins. -/
theorem word_first {s : ByteArray} {k : Nat} {w : ByteArray} (h : hasW s k w = true) (h0 : 0 < w.size) : bt s k = bt w 0 := by
  simp only [hasW, Bool.and_eq_true, decide_eq_true_eq, beq_iff_eq] at h
  obtain ⟨h1, h2⟩ := h
  have e : s.extract k (k + w.size) = w := by
    apply ByteArray.ext; apply Array.ext'
    rw [← ByteArray.toList_eq, ← ByteArray.toList_eq, h2]
  have hs : (s.extract k (k + w.size)).size = w.size := by rw [e]
  have h3 : bt (s.extract k (k + w.size)) 0 = bt s k := by
    rw [bt_eq _ 0 (by omega), bt_eq s k (by omega)]
    simp [ByteArray.getElem_extract]
  rw [← h3, e]
theorem word_some {s : ByteArray} {k : Nat} {x : Sg} (h : wordO s k = some x) : bt s k = 116 ∨ bt s k = 102 ∨ bt s k = 110 := by
  rw [wordO] at h
  by_cases h1 : hasW s k (wordB 0) = true
  · left; exact word_first h1 (by decide)
  rw [if_neg h1] at h
  by_cases h2 : hasW s k (wordB 1) = true
  · right; left; exact word_first h2 (by decide)
  rw [if_neg h2] at h
  by_cases h3 : hasW s k (wordB 2) = true
  · right; right; exact word_first h3 (by decide)
  rw [if_neg h3] at h; cases h
theorem mark_none {s : ByteArray} {k : Nat} (h : ∀ j, j < 6 → bt markB j ≠ bt s k) : ¬ 0 ≤ markI (bt s k) := by rw [mark_no h]; omega
theorem sign_word {s : ByteArray} {k : Nat} {x : Sg} (hk : k < s.size) (h : wordO s k = some x) : signQ s (k : Int) = some x := by
  have hw := word_some h
  have hm : ¬ 0 ≤ markI (bt s k) := by rcases hw with e | e | e <;> rw [e] <;> decide
  have hq : bt s k ≠ 34 := by omega
  have hd : ¬ (bt s k = 45 ∨ dgAt s k = true) := by
    rw [dgAt_iff]; omega
  rw [sign_in hk, signO, if_neg hm, if_neg hq, if_neg hd, h]
theorem sign_quote {s : ByteArray} {k : Nat} (hk : k < s.size) (h : bt s k = 34) : signQ s (k : Int) = quoteO s k := by
  rw [sign_in hk, signO, if_neg (by rw [h]; decide), if_pos h]
theorem who_none {s : ByteArray} {k : Nat} (hk : k < s.size) (h : ¬ (bt s k = 45 ∨ dgAt s k = true)) : whoQ s (k : Int) = none := by
  have h1 : bt s k ≠ 45 := fun e => h (Or.inl e)
  have h2 : ¬ dgAt s k = true := fun e => h (Or.inr e)
  have hf : whoFrom s k = k := if_neg h1
  have he : Ends s k k := ⟨Nat.le_refl _, Nat.le_of_lt hk, fun i h3 h4 => by omega, fun _ => by cases h3 : dgAt s k with | false => rfl | true => exact absurd h3 h2⟩
  rw [who_in hk]
  exact who_bad hf he (Or.inl rfl)
/-- Where neither a mark, nor a word, nor a quote stands, a number does, or nothing. -/
theorem sign_num {s : ByteArray} {k : Nat} (hk : k < s.size) (hm : ∀ j, j < 6 → bt markB j ≠ bt s k) (hw : wordO s k = none) (hq : bt s k ≠ 34) : signQ s (k : Int) = numO s k := by
  rw [sign_in hk, signO, if_neg (mark_none hm), if_neg hq]
  by_cases h : bt s k = 45 ∨ dgAt s k = true
  · rw [if_pos h]
  · rw [if_neg h, hw, numO, who_none hk h]
theorem sign_dig {s : ByteArray} {k : Nat} (hk : k < s.size) (h : bt s k = 45 ∨ dgAt s k = true) : signQ s (k : Int) = numO s k := by
  have h' : bt s k = 45 ∨ (48 ≤ bt s k ∧ bt s k ≤ 57) := by rw [← dgAt_iff]; exact h
  have hm : ¬ 0 ≤ markI (bt s k) := by
    rw [markI]
    repeat' split
    all_goals omega
  rw [sign_in hk, signO, if_neg hm, if_neg (by omega), if_pos h]
theorem sign_rest {s : ByteArray} {k : Nat} (hk : k < s.size) (hm : markI (bt s k) = -1) (hq : bt s k ≠ 34) (hd : ¬ (bt s k = 45 ∨ dgAt s k = true)) : signQ s (k : Int) = wordO s k := by
  rw [sign_in hk, signO, if_neg (by rw [hm]; omega), if_neg hq, if_neg hd]
/-- What the last word that fits says. -/
theorem word_excl {s : ByteArray} {k : Nat} {i j : Nat} (hi : hasW s k (wordB i) = true) (hj : hasW s k (wordB j) = true) (h : i < 3) (h' : j < 3) : i = j := by
  have hw : ∀ i, i < 3 → 0 < (wordB i).size := by intro i hi; rcases i with _ | _ | _ | i <;> first | decide | omega
  have a := word_first hi (hw i h)
  have b := word_first hj (hw j h')
  rw [a] at b
  rcases i with _ | _ | _ | i <;> rcases j with _ | _ | _ | j <;> first | rfl | omega | (exact absurd b (by decide))

end Go.Proofs.YtomhbbchflblpaaGreatDoor
namespace Go.Proofs.YtomhbbchflblpaaGreatDoor
open Go.RowKit

theorem dgEnd_ge (s : ByteArray) : ∀ f k, k ≤ dgEnd s f k ∧ (k ≤ s.size → dgEnd s f k ≤ s.size)
  | 0, k => by rw [dgEnd]; exact ⟨Nat.le_refl _, fun h => h⟩
  | f + 1, k => by
    rw [dgEnd]
    have ih := dgEnd_ge s f (k + 1)
    by_cases h : k < s.size ∧ dgAt s k = true
    · rw [if_pos h]; exact ⟨by omega, fun _ => ih.2 (by omega)⟩
    · rw [if_neg h]; exact ⟨Nat.le_refl _, fun h => h⟩
theorem who_some {s : ByteArray} {k e : Nat} {n : Int} (hk : k < s.size) (h : whoO s k = some (n, e)) : k < e ∧ e ≤ s.size := by
  have hg := dgEnd_ge s (s.size - whoFrom s k) (whoFrom s k)
  have hw : k ≤ whoFrom s k ∧ whoFrom s k ≤ s.size := by unfold whoFrom; split <;> omega
  rw [whoO] at h
  change k < e ∧ e ≤ s.size
  have hfe : fend s (whoFrom s k) = dgEnd s (s.size - whoFrom s k) (whoFrom s k) := rfl
  rw [← hfe] at hg
  have hg2 := hg.2 hw.2
  by_cases c1 : fend s (whoFrom s k) = whoFrom s k ∨ (bt s (whoFrom s k) = 48 ∧ whoFrom s k + 1 < fend s (whoFrom s k)) ∨ stopB s (fend s (whoFrom s k)) = true
  · rw [if_pos c1] at h; cases h
  rw [if_neg c1] at h
  have hne : fend s (whoFrom s k) ≠ whoFrom s k := fun e => c1 (Or.inl e)
  have he : e = fend s (whoFrom s k) := by
    split at h
    · split at h
      · simp only [Option.some.injEq, Prod.mk.injEq] at h; exact h.2.symm
      · cases h
    · split at h
      · simp only [Option.some.injEq, Prod.mk.injEq] at h; exact h.2.symm
      · cases h
  omega
theorem readQ_some {s : ByteArray} {k e : Nat} {l : List UInt8} (h : readQ s (k : Int) = some (l, e)) : k < e ∧ e ≤ s.size := by
  unfold readQ at h
  split at h
  · have := rq_end_le _ _ _ _ _ h
    rw [Int.toNat_natCast] at this
    omega
  · cases h
theorem hasW_fit {s w : ByteArray} {k : Nat} (h : hasW s k w = true) : k + w.size ≤ s.size := by
  simp only [hasW, Bool.and_eq_true, decide_eq_true_eq] at h; exact h.1
theorem sign_fin {s : ByteArray} {k : Nat} {x : Sg} (hk : k < s.size) (h : signO s k = some x) : k < x.fin ∧ x.fin ≤ s.size := by
  rw [signO] at h
  by_cases h1 : 0 ≤ markI (bt s k)
  · rw [if_pos h1] at h; cases h; exact ⟨Nat.lt_succ_self k, hk⟩
  rw [if_neg h1] at h
  by_cases h2 : bt s k = 34
  · rw [if_pos h2, quoteO] at h
    cases hr : readQ s k with
    | none => rw [hr] at h; cases h
    | some y => obtain ⟨l, e⟩ := y; rw [hr] at h; cases h; exact readQ_some hr
  rw [if_neg h2] at h
  by_cases h3 : bt s k = 45 ∨ dgAt s k = true
  · rw [if_pos h3, numO, who_in hk] at h
    cases hr : whoO s k with
    | none => rw [hr] at h; cases h
    | some y => obtain ⟨l, e⟩ := y; rw [hr] at h; cases h; exact who_some hk hr
  rw [if_neg h3, wordO] at h
  have w0 : (wordB 0).size = 4 := rfl
  have w1 : (wordB 1).size = 5 := rfl
  have w2 : (wordB 2).size = 4 := rfl
  by_cases g0 : hasW s k (wordB 0) = true
  · rw [if_pos g0] at h; cases h
    have := hasW_fit g0; rw [w0] at this
    exact ⟨show k < k + 4 by omega, this⟩
  rw [if_neg g0] at h
  by_cases g1 : hasW s k (wordB 1) = true
  · rw [if_pos g1] at h; cases h
    have := hasW_fit g1; rw [w1] at this
    exact ⟨show k < k + 5 by omega, this⟩
  rw [if_neg g1] at h
  by_cases g2 : hasW s k (wordB 2) = true
  · rw [if_pos g2] at h; cases h
    have := hasW_fit g2; rw [w2] at this
    exact ⟨show k < k + 4 by omega, this⟩
  rw [if_neg g2] at h; cases h

/-! ### Where no code point stands -/
def badFrom (s : ByteArray) : Nat → Nat → Option Nat
  | 0, _ => none
  | f + 1, k => if s.size ≤ k then none else if badD (Utf8.decode s k) = true then some k else badFrom s f (k + (Utf8.decode s k).2)
def badA (s : ByteArray) : Option Nat := badFrom s (s.size + 1) 0
def BadAt (s : ByteArray) (r : Option Nat) (k : Nat) : Prop := ∃ f, s.size < k + f ∧ badFrom s f k = r
theorem badAt_start (s : ByteArray) : BadAt s (badA s) 0 := ⟨s.size + 1, by omega, rfl⟩
theorem badAt_end {s : ByteArray} {r : Option Nat} {k : Nat} (h : BadAt s r k) (hk : s.size ≤ k) : r = none := by
  obtain ⟨f, hf, e⟩ := h
  cases f with
  | zero => exact e.symm
  | succ f => rw [badFrom, if_pos hk] at e; exact e.symm
theorem badAt_bad {s : ByteArray} {r : Option Nat} {k : Nat} (h : BadAt s r k) (hk : k < s.size) (hb : badD (Utf8.decode s k) = true) : r = some k := by
  obtain ⟨f, hf, e⟩ := h
  cases f with
  | zero => omega
  | succ f => rw [badFrom, if_neg (by omega), if_pos hb] at e; exact e.symm
theorem badAt_step {s : ByteArray} {r : Option Nat} {k : Nat} (h : BadAt s r k) (hk : k < s.size) (hb : badD (Utf8.decode s k) = false) : BadAt s r (k + (Utf8.decode s k).2) := by
  obtain ⟨f, hf, e⟩ := h
  cases f with
  | zero => omega
  | succ f =>
    have := Lib.decode_width_pos s k hk
    rw [badFrom, if_neg (by omega), if_neg (by simp [hb])] at e
    exact ⟨f, by omega, e⟩
/-- The fault of a text, whatever it is: its code and its place. -/
def ftO (s : ByteArray) : Option (Int × Int) := if 20000 < s.size then some (1, 0) else match badA s with
  | none => none
  | some k => some (2, k)
theorem ft_long {s : ByteArray} (h : 20000 < s.size) : ftO s = some (1, 0) := if_pos h
theorem ft_bad {s : ByteArray} {k : Nat} (h : ¬ 20000 < s.size) (hb : badA s = some k) : ftO s = some (2, (k : Int)) := by rw [ftO, if_neg h, hb]
theorem ft_none {s : ByteArray} (h : ¬ 20000 < s.size) (hb : badA s = none) : ftO s = none := by rw [ftO, if_neg h, hb]
theorem ft_short {s : ByteArray} (h : ftO s = none) : s.size ≤ 20000 := by
  rcases Nat.lt_or_ge 20000 s.size with g | g
  · rw [ft_long g] at h; cases h
  · exact g
def ftC : Option (Int × Int) → Int | none => 0 | some x => x.1
def ftP : Option (Int × Int) → Int | none => 0 | some x => x.2
theorem ft_code {s : ByteArray} : (ftC (ftO s) = 0 ∧ ftO s = none) ∨ (0 < ftC (ftO s) ∧ ftC (ftO s) ≤ 2 ∧ ∃ x, ftO s = some x) := by
  rcases Nat.lt_or_ge 20000 s.size with g | g
  · right; rw [ft_long g]; exact ⟨by decide, by decide, _, rfl⟩
  · cases hb : badA s with
    | none => left; rw [ft_none (by omega) hb]; exact ⟨rfl, rfl⟩
    | some k => right; rw [ft_bad (by omega) hb]; exact ⟨by show (0 : Int) < 2; decide, by show (2 : Int) ≤ 2; decide, _, rfl⟩
theorem ft_place {s : ByteArray} (hs : s.size ≤ 1048576) : 0 ≤ ftP (ftO s) ∧ ftP (ftO s) ≤ 1048576 := by
  rcases Nat.lt_or_ge 20000 s.size with g | g
  · rw [ft_long g]; exact ⟨by decide, by decide⟩
  · cases hb : badA s with
    | none => rw [ft_none (by omega) hb]; exact ⟨by decide, by decide⟩
    | some k =>
      rw [ft_bad (by omega) hb]
      have : ∀ f k r, badFrom s f k = some r → r < s.size := by
        intro f
        induction f with
        | zero => intro k r h; cases h
        | succ f ih =>
          intro k r h
          rw [badFrom] at h
          by_cases h1 : s.size ≤ k
          · rw [if_pos h1] at h; cases h
          rw [if_neg h1] at h
          by_cases h2 : badD (Utf8.decode s k) = true
          · rw [if_pos h2] at h; cases h; omega
          · rw [if_neg h2] at h; exact ih _ _ h
      have := this _ _ _ hb
      exact ⟨by show (0 : Int) ≤ (k : Int); omega, by show (k : Int) ≤ 1048576; omega⟩

/-! ### The signs -/
def wsN (b : Nat) : Bool := b == 32 || (b == 9 || (b == 10 || b == 13))
def tgo (s : ByteArray) : Nat → Nat → List (Sg × Nat) → List (Sg × Nat) × Option Nat
  | 0, _, acc => (acc, none)
  | f + 1, k, acc => if s.size ≤ k then (acc, none) else if wsN (bt s k) = true then tgo s f (k + 1) acc else match signO s k with
    | none => ([], some k)
    | some x => tgo s f x.fin (acc ++ [(x, k)])
def TgAt (s : ByteArray) (R : List (Sg × Nat) × Option Nat) (k : Nat) (acc : List (Sg × Nat)) : Prop := ∃ f, s.size < k + f ∧ tgo s f k acc = R
def toksR (s : ByteArray) : List (Sg × Nat) × Option Nat := tgo s (s.size + 1) 0 []
theorem tgAt_start (s : ByteArray) : TgAt s (toksR s) 0 [] := ⟨s.size + 1, by omega, rfl⟩
theorem tgAt_end {s : ByteArray} {R : List (Sg × Nat) × Option Nat} {k : Nat} {acc : List (Sg × Nat)} (h : TgAt s R k acc) (hk : s.size ≤ k) : R = (acc, none) := by
  obtain ⟨f, hf, e⟩ := h
  cases f with
  | zero => exact e.symm
  | succ f => rw [tgo, if_pos hk] at e; exact e.symm
theorem tgAt_ws {s : ByteArray} {R : List (Sg × Nat) × Option Nat} {k : Nat} {acc : List (Sg × Nat)} (h : TgAt s R k acc) (hk : k < s.size) (hw : wsN (bt s k) = true) : TgAt s R (k + 1) acc := by
  obtain ⟨f, hf, e⟩ := h
  cases f with
  | zero => omega
  | succ f => rw [tgo, if_neg (by omega), if_pos hw] at e; exact ⟨f, by omega, e⟩
theorem tgAt_bad {s : ByteArray} {R : List (Sg × Nat) × Option Nat} {k : Nat} {acc : List (Sg × Nat)} (h : TgAt s R k acc) (hk : k < s.size) (hw : wsN (bt s k) = false) (hs : signO s k = none) : R = ([], some k) := by
  obtain ⟨f, hf, e⟩ := h
  cases f with
  | zero => omega
  | succ f => rw [tgo, if_neg (by omega), if_neg (by simp [hw]), hs] at e; exact e.symm
theorem tgAt_step {s : ByteArray} {R : List (Sg × Nat) × Option Nat} {k : Nat} {acc : List (Sg × Nat)} {x : Sg} (h : TgAt s R k acc) (hk : k < s.size) (hw : wsN (bt s k) = false) (hs : signO s k = some x) : TgAt s R x.fin (acc ++ [(x, k)]) := by
  obtain ⟨f, hf, e⟩ := h
  have hx := sign_fin hk hs
  cases f with
  | zero => omega
  | succ f => rw [tgo, if_neg (by omega), if_neg (by simp [hw]), hs] at e; exact ⟨f, by omega, e⟩
theorem tgo_len (s : ByteArray) : ∀ f k acc, acc.length ≤ k → k ≤ s.size → (tgo s f k acc).1.length ≤ s.size
  | 0, k, acc, h, hk => by rw [tgo]; exact Nat.le_trans h hk
  | f + 1, k, acc, h, hk => by
    rw [tgo]
    by_cases h1 : s.size ≤ k
    · rw [if_pos h1]; exact Nat.le_trans h hk
    rw [if_neg h1]
    by_cases h2 : wsN (bt s k) = true
    · rw [if_pos h2]; exact tgo_len s f _ _ (by omega) (by omega)
    rw [if_neg h2]
    cases hs : signO s k with
    | none => simp
    | some x =>
      have hx := sign_fin (by omega) hs
      exact tgo_len s f _ _ (by simp; omega) hx.2
/-- What SignsOf says: the signs, and the fault's code and place. -/
def sgsL (s : ByteArray) : List (Sg × Nat) := match ftO s with | some _ => [] | none => (toksR s).1
def sgsC (s : ByteArray) : Int := match ftO s with | some x => x.1 | none => match (toksR s).2 with | some _ => 3 | none => 0
def sgsP (s : ByteArray) : Int := match ftO s with | some x => x.2 | none => match (toksR s).2 with | some k => k | none => 0
theorem sgs_fault {s : ByteArray} {c p : Int} (h : ftO s = some (c, p)) : sgsL s = [] ∧ sgsC s = c ∧ sgsP s = p := by
  simp only [sgsL, sgsC, sgsP, h, and_self]
theorem sgs_bad {s : ByteArray} {k : Nat} (h : ftO s = none) (hr : toksR s = ([], some k)) : sgsL s = [] ∧ sgsC s = 3 ∧ sgsP s = k := by
  simp only [sgsL, sgsC, sgsP, h, hr, and_self]
theorem sgs_good {s : ByteArray} {L : List (Sg × Nat)} (h : ftO s = none) (hr : toksR s = (L, none)) : sgsL s = L ∧ sgsC s = 0 ∧ sgsP s = 0 := by
  simp only [sgsL, sgsC, sgsP, h, hr, and_self]
theorem sgs_len (s : ByteArray) : (sgsL s).length ≤ s.size := by
  unfold sgsL
  split
  · simp
  · exact tgo_len s _ _ _ (by simp) (by omega)

end Go.Proofs.YtomhbbchflblpaaGreatDoor
namespace Go.Proofs.YtomhbbchflblpaaGreatDoor
open Go.RowKit

def ZTl (v0 v1 v2 v3 v4 v5 : Value) : Nat → Value | 0 => v0 | 1 => v1 | 2 => v2 | 3 => v3 | 4 => v4 | _ => v5
theorem ZTl_get (v0 v1 v2 v3 v4 v5 : Value) : ∀ i, i < (#[v0, v1, v2, v3, v4, v5] : Array Value).size → (#[v0, v1, v2, v3, v4, v5] : Array Value)[i]? = some (ZTl v0 v1 v2 v3 v4 v5 i)
  | 0, _ | 1, _ | 2, _ | 3, _ | 4, _ | 5, _ => rfl
  | i + 6, h => by simp at h; omega
/-- A fresh local of type impl.Tree, made in world w0. -/
def ZT (w0 w : World) : Prop := w.rowIs w0.heap.size 28 6 (ZTl (.int .i64 0) (.bool false) (.int .i64 0) (.string ⟨#[]⟩) (.slice none 0 0) (.slice none 0 0)) ∧ Below w0.heap.size w0 w
theorem ZT.new (w : World) : ZT w (w.alloc (.cells #[.int .i64 0, .bool false, .int .i64 0, .string ⟨#[]⟩, .slice none 0 0, .slice none 0 0] 28)) := ⟨World.rowIs_alloc w #[.int .i64 0, .bool false, .int .i64 0, .string ⟨#[]⟩, .slice none 0 0, .slice none 0 0] 28 (ZTl (.int .i64 0) (.bool false) (.int .i64 0) (.string ⟨#[]⟩) (.slice none 0 0) (.slice none 0 0)) (ZTl_get _ _ _ _ _ _), (Below.refl _ _).alloc (Nat.le_refl _) _⟩
theorem ZT.keep {w0 w w' : World} (h : ZT w0 w) (hb : Below w.heap.size w w') : ZT w0 w' := ⟨rowIs_keep h.1 hb, bnext h.2 hb⟩
theorem ZT.cells {w0 w : World} (h : ZT w0 w) : w.cell? ⟨w0.heap.size, 0, none⟩ = some (.int .i64 0) ∧ w.cell? ⟨w0.heap.size, 1, none⟩ = some (.bool false) ∧ w.cell? ⟨w0.heap.size, 2, none⟩ = some (.int .i64 0) ∧ w.cell? ⟨w0.heap.size, 3, none⟩ = some (.string ⟨#[]⟩) ∧ w.cell? ⟨w0.heap.size, 4, none⟩ = some (.slice none 0 0) ∧ w.cell? ⟨w0.heap.size, 5, none⟩ = some (.slice none 0 0) := by
  have g := h.1
  exact ⟨g.cell (by omega), g.cell (by omega), g.cell (by omega), g.cell (by omega), g.cell (by omega), g.cell (by omega)⟩
theorem ZT.frozen {w0 w : World} (h : ZT w0 w) : w.frozen? ⟨w0.heap.size, 0, none⟩ = false ∧ w.frozen? ⟨w0.heap.size, 1, none⟩ = false ∧ w.frozen? ⟨w0.heap.size, 2, none⟩ = false ∧ w.frozen? ⟨w0.heap.size, 3, none⟩ = false ∧ w.frozen? ⟨w0.heap.size, 4, none⟩ = false ∧ w.frozen? ⟨w0.heap.size, 5, none⟩ = false := by
  have g := h.1
  exact ⟨g.frozen 0, g.frozen 1, g.frozen 2, g.frozen 3, g.frozen 4, g.frozen 5⟩
theorem ZT.lt {w0 w : World} (h : ZT w0 w) : w0.heap.size < w.heap.size := World.rowIs.lt h.1

def ZSl (v0 v1 v2 v3 : Value) : Nat → Value | 0 => v0 | 1 => v1 | 2 => v2 | _ => v3
theorem ZSl_get (v0 v1 v2 v3 : Value) : ∀ i, i < (#[v0, v1, v2, v3] : Array Value).size → (#[v0, v1, v2, v3] : Array Value)[i]? = some (ZSl v0 v1 v2 v3 i)
  | 0, _ | 1, _ | 2, _ | 3, _ => rfl
  | i + 4, h => by simp at h; omega
/-- A fresh local of type impl.Sign, made in world w0. -/
def ZS (w0 w : World) : Prop := w.rowIs w0.heap.size 37 4 (ZSl (.int .i64 0) (.string ⟨#[]⟩) (.int .i64 0) (.int .i64 0)) ∧ Below w0.heap.size w0 w
theorem ZS.new (w : World) : ZS w (w.alloc (.cells #[.int .i64 0, .string ⟨#[]⟩, .int .i64 0, .int .i64 0] 37)) := ⟨World.rowIs_alloc w #[.int .i64 0, .string ⟨#[]⟩, .int .i64 0, .int .i64 0] 37 (ZSl (.int .i64 0) (.string ⟨#[]⟩) (.int .i64 0) (.int .i64 0)) (ZSl_get _ _ _ _), (Below.refl _ _).alloc (Nat.le_refl _) _⟩
theorem ZS.keep {w0 w w' : World} (h : ZS w0 w) (hb : Below w.heap.size w w') : ZS w0 w' := ⟨rowIs_keep h.1 hb, bnext h.2 hb⟩
theorem ZS.cells {w0 w : World} (h : ZS w0 w) : w.cell? ⟨w0.heap.size, 0, none⟩ = some (.int .i64 0) ∧ w.cell? ⟨w0.heap.size, 1, none⟩ = some (.string ⟨#[]⟩) ∧ w.cell? ⟨w0.heap.size, 2, none⟩ = some (.int .i64 0) ∧ w.cell? ⟨w0.heap.size, 3, none⟩ = some (.int .i64 0) := by
  have g := h.1
  exact ⟨g.cell (by omega), g.cell (by omega), g.cell (by omega), g.cell (by omega)⟩
theorem ZS.frozen {w0 w : World} (h : ZS w0 w) : w.frozen? ⟨w0.heap.size, 0, none⟩ = false ∧ w.frozen? ⟨w0.heap.size, 1, none⟩ = false ∧ w.frozen? ⟨w0.heap.size, 2, none⟩ = false ∧ w.frozen? ⟨w0.heap.size, 3, none⟩ = false := by
  have g := h.1
  exact ⟨g.frozen 0, g.frozen 1, g.frozen 2, g.frozen 3⟩
theorem ZS.lt {w0 w : World} (h : ZS w0 w) : w0.heap.size < w.heap.size := World.rowIs.lt h.1

def ZFl (v0 v1 v2 : Value) : Nat → Value | 0 => v0 | 1 => v1 | _ => v2
theorem ZFl_get (v0 v1 v2 : Value) : ∀ i, i < (#[v0, v1, v2] : Array Value).size → (#[v0, v1, v2] : Array Value)[i]? = some (ZFl v0 v1 v2 i)
  | 0, _ | 1, _ | 2, _ => rfl
  | i + 3, h => by simp at h; omega
/-- A fresh local of type impl.Fault, made in world w0. -/
def ZF (w0 w : World) : Prop := w.rowIs w0.heap.size 32 3 (ZFl (.int .i64 0) (.int .i64 0) (.string ⟨#[]⟩)) ∧ Below w0.heap.size w0 w
theorem ZF.new (w : World) : ZF w (w.alloc (.cells #[.int .i64 0, .int .i64 0, .string ⟨#[]⟩] 32)) := ⟨World.rowIs_alloc w #[.int .i64 0, .int .i64 0, .string ⟨#[]⟩] 32 (ZFl (.int .i64 0) (.int .i64 0) (.string ⟨#[]⟩)) (ZFl_get _ _ _), (Below.refl _ _).alloc (Nat.le_refl _) _⟩
theorem ZF.keep {w0 w w' : World} (h : ZF w0 w) (hb : Below w.heap.size w w') : ZF w0 w' := ⟨rowIs_keep h.1 hb, bnext h.2 hb⟩
theorem ZF.cells {w0 w : World} (h : ZF w0 w) : w.cell? ⟨w0.heap.size, 0, none⟩ = some (.int .i64 0) ∧ w.cell? ⟨w0.heap.size, 1, none⟩ = some (.int .i64 0) ∧ w.cell? ⟨w0.heap.size, 2, none⟩ = some (.string ⟨#[]⟩) := by
  have g := h.1
  exact ⟨g.cell (by omega), g.cell (by omega), g.cell (by omega)⟩
theorem ZF.frozen {w0 w : World} (h : ZF w0 w) : w.frozen? ⟨w0.heap.size, 0, none⟩ = false ∧ w.frozen? ⟨w0.heap.size, 1, none⟩ = false ∧ w.frozen? ⟨w0.heap.size, 2, none⟩ = false := by
  have g := h.1
  exact ⟨g.frozen 0, g.frozen 1, g.frozen 2⟩
theorem ZF.lt {w0 w : World} (h : ZF w0 w) : w0.heap.size < w.heap.size := World.rowIs.lt h.1

end Go.Proofs.YtomhbbchflblpaaGreatDoor
namespace Go.Proofs.YtomhbbchflblpaaGreatDoor
open Go.RowKit

theorem sWord (s : ByteArray) (k : Nat) (W : ByteArray) (w : World) (hk : k ≤ 1048576) (hW : W.size ≤ 5) (_hs : s.size ≤ 1048576) :
    Calls Tryz.prog 62 #[.string s, .int .i64 k, .string W] w fun e w' => e = .returned (.bool (hasW s k W)) ∧ w = w' := by
  have HH : Hid (hasW s k W = (decide (k + W.size ≤ s.size) && ((s.extract k (k + W.size)).toList == W.toList))) := rfl
  by_cases h : k + W.size ≤ s.size
  · have h1 : (k : Int) + (W.size : Int) ≤ (s.size : Int) := by omega
    have h2 : decide ((k : Int) + (W.size : Int) ≤ (s.size : Int)) = true := decide_eq_true h1
    go_enter Tryz.func62, Tryz.ntmps62
    go_wp2
    go_ret
    exact ⟨ret_bool (by rw [HH.out, decide_eq_true h]; simp), rfl⟩
  · have h2 : decide ((k : Int) + (W.size : Int) ≤ (s.size : Int)) = false := decide_eq_false (by omega)
    go_enter Tryz.func62, Tryz.ntmps62
    go_wp2
    go_ret
    exact ⟨ret_bool (by rw [HH.out, decide_eq_false h]; rfl), rfl⟩

theorem below_n {p : Nat → Prop} {k : Nat} (h : ∀ m, m < k → p m) (hk : p k) : ∀ m, m < k + 1 → p m := fun m hm => by
  rcases Nat.lt_or_ge m k with g | g
  · exact h m g
  · obtain rfl : m = k := by omega
    exact hk
theorem mark_miss {s : ByteArray} {k j b : Nat} {c : UInt8} (hB : bt s k = c.toNat) (hj : bt markB j = b) (hc : ((b : Int) == (c.toNat : Int)) = false) : bt markB j ≠ bt s k := by
  rw [hB, hj]; intro e
  rw [beq_eq_false_iff_ne] at hc
  exact hc (by rw [e])
theorem mark_hit {s : ByteArray} {k j b : Nat} {c : UInt8} (hB : bt s k = c.toNat) (hj : bt markB j = b) (hc : ((b : Int) == (c.toNat : Int)) = true) : bt markB j = bt s k := by
  rw [hB, hj]
  rw [beq_iff_eq] at hc
  omega
theorem word_0 {s : ByteArray} {k : Nat} (h : hasW s k (wordB 0) = true) : wordO s k = some ⟨9, emptyB, 0, k + 4⟩ := if_pos h
theorem word_1 {s : ByteArray} {k : Nat} (h : ∀ m, m < 1 → hasW s k (wordB m) = false) (h1 : hasW s k (wordB 1) = true) : wordO s k = some ⟨10, emptyB, 0, k + 5⟩ := by
  rw [wordO, h 0 (by omega), h1]; rfl
theorem word_2 {s : ByteArray} {k : Nat} (h : ∀ m, m < 2 → hasW s k (wordB m) = false) (h1 : hasW s k (wordB 2) = true) : wordO s k = some ⟨11, emptyB, 0, k + 4⟩ := by
  rw [wordO, h 0 (by omega), h 1 (by omega), h1]; rfl
theorem word_no {s : ByteArray} {k : Nat} (h : ∀ m, m < 3 → hasW s k (wordB m) = false) : wordO s k = none := by
  rw [wordO, h 0 (by omega), h 1 (by omega), h 2 (by omega)]; rfl

set_option maxRecDepth 100000 in
set_option maxHeartbeats 4000000 in
theorem sSignAt (s : ByteArray) (p : Int) (w : World) (hs : s.size ≤ 1048576) : Calls Tryz.prog 27 #[.string s, .int .i64 p] w (SignP s p w) := by
  have HZ := Lib.hid (ZS.new w)
  cases hbt : betweenB p 0 ((s.size : Int) - 1)
  · have H := Lib.hid (sign_out (s := s) (p := p) (by simp [betweenB] at hbt; omega))
    go_enter Tryz.func27, Tryz.ntmps27
    obtain ⟨r0, r1, r2, r3⟩ := HZ.out.cells
    obtain ⟨g0, g1, g2, g3⟩ := HZ.out.frozen
    go_wp2_with (go_at_call 46; refine (l01In_any _ _ _ _).mono ?_; rintro e w' ⟨rfl, rfl⟩)
    refine bodyPost_ret (v := .tuple #[.agg #[.int .i64 0, .string ⟨#[]⟩, .int .i64 0, .int .i64 0], .int .i64 (-1)]) (by simp [results, Tryz.results27, go_sem]) rfl ?_
    exact signP_none H.out ((Below.refl _ _).alloc (Nat.le_refl _) _)
  have hr : 0 ≤ p ∧ p < s.size := by simp [betweenB] at hbt; omega
  obtain ⟨k, rfl⟩ := Int.eq_ofNat_of_zero_le hr.1
  have hk : k < s.size := by omega
  clear hr
  have HBT := Lib.hid (bt_eq s k hk)
  go_enter Tryz.func27, Tryz.ntmps27
  go_wp2_with (go_at_call 46; refine (l01In_any _ _ _ _).mono ?_; rintro e w' ⟨rfl, rfl⟩)
  clear hbt
  go_loopw [7] (fun i wr => ∃ (z : Int) (j : Nat), i = .int .i64 z ∧ z = j ∧ j ≤ 6 ∧ Hid (ZS w wr) ∧ Hid (∀ m, m < j → bt markB m ≠ bt s k)) (fun i _ => 6 - (intOf i).toNat)
  case atStart => exact ⟨0, 0, rfl, rfl, by omega, HZ, Lib.hid (fun m hm => by omega)⟩
  case round =>
    obtain ⟨z, j, rfl, hz, hj, HZ, HM⟩ := hrel
    have hj6 : j = 0 ∨ j = 1 ∨ j = 2 ∨ j = 3 ∨ j = 4 ∨ j = 5 ∨ j = 6 := by omega
    clear hj
    rcases hj6 with rfl | rfl | rfl | rfl | rfl | rfl | rfl
    · obtain rfl : z = 0 := by omega
      clear hz
      cases hc : ((123 : Int) == (s[k].toNat : Int))
      · have HM2 := Lib.hid (below_n HM.out (mark_miss (j := 0) (b := 123) HBT.out rfl hc))
        have hc2 : ((((⟨#[123, 125, 91, 93, 58, 44]⟩ : ByteArray)[0]'(by decide)).toNat : Int) == (s[k].toNat : Int)) = false := hc
        go_wp2
        go_quiet (fail)
        have HZ := Lib.hid (HZ.out.keep ((Drew.refl _).more nq).below)
        go_wp2
        go_roundw
        case rel => exact ⟨1, 1, by go_num, rfl, by omega, HZ, HM2⟩
        case measure => simp [intOf]
      · have H := Lib.hid (sign_mark (j := 0) hk (by omega) (mark_hit (b := 123) HBT.out rfl hc))
        have hc2 : ((((⟨#[123, 125, 91, 93, 58, 44]⟩ : ByteArray)[0]'(by decide)).toNat : Int) == (s[k].toNat : Int)) = true := hc
        clear HM
        go_wp2
        go_quiet (fail)
        have HZ := Lib.hid (HZ.out.keep ((Drew.refl _).more nq).below)
        obtain ⟨r0, r1, r2, r3⟩ := HZ.out.cells
        obtain ⟨g0, g1, g2, g3⟩ := HZ.out.frozen
        go_wp2
        refine bodyPost_ret (v := .tuple #[.agg #[.int .i64 1, .string ⟨#[]⟩, .int .i64 0, .int .i64 k], .int .i64 ((k : Int) + 1)]) (by simp [results, Tryz.results27, go_sem, HZ.out.cells]) rfl ?_
        exact signP_some H.out ((((HZ.out.2.setCell (p := ⟨w.heap.size, 0, none⟩) (Nat.le_refl _) _).setCell (p := ⟨w.heap.size, 1, none⟩) (Nat.le_refl _) _).setCell (p := ⟨w.heap.size, 2, none⟩) (Nat.le_refl _) _).setCell (p := ⟨w.heap.size, 3, none⟩) (Nat.le_refl _) _) (by rfl) rfl rfl (by rfl)
    · obtain rfl : z = 1 := by omega
      clear hz
      cases hc : ((125 : Int) == (s[k].toNat : Int))
      · have HM2 := Lib.hid (below_n HM.out (mark_miss (j := 1) (b := 125) HBT.out rfl hc))
        have hc2 : ((((⟨#[123, 125, 91, 93, 58, 44]⟩ : ByteArray)[1]'(by decide)).toNat : Int) == (s[k].toNat : Int)) = false := hc
        go_wp2
        go_quiet (fail)
        have HZ := Lib.hid (HZ.out.keep ((Drew.refl _).more nq).below)
        go_wp2
        go_roundw
        case rel => exact ⟨2, 2, by go_num, rfl, by omega, HZ, HM2⟩
        case measure => simp [intOf]
      · have H := Lib.hid (sign_mark (j := 1) hk (by omega) (mark_hit (b := 125) HBT.out rfl hc))
        have hc2 : ((((⟨#[123, 125, 91, 93, 58, 44]⟩ : ByteArray)[1]'(by decide)).toNat : Int) == (s[k].toNat : Int)) = true := hc
        clear HM
        go_wp2
        go_quiet (fail)
        have HZ := Lib.hid (HZ.out.keep ((Drew.refl _).more nq).below)
        obtain ⟨r0, r1, r2, r3⟩ := HZ.out.cells
        obtain ⟨g0, g1, g2, g3⟩ := HZ.out.frozen
        go_wp2
        refine bodyPost_ret (v := .tuple #[.agg #[.int .i64 2, .string ⟨#[]⟩, .int .i64 0, .int .i64 k], .int .i64 ((k : Int) + 1)]) (by simp [results, Tryz.results27, go_sem, HZ.out.cells]) rfl ?_
        exact signP_some H.out ((((HZ.out.2.setCell (p := ⟨w.heap.size, 0, none⟩) (Nat.le_refl _) _).setCell (p := ⟨w.heap.size, 1, none⟩) (Nat.le_refl _) _).setCell (p := ⟨w.heap.size, 2, none⟩) (Nat.le_refl _) _).setCell (p := ⟨w.heap.size, 3, none⟩) (Nat.le_refl _) _) (by rfl) rfl rfl (by rfl)
    · obtain rfl : z = 2 := by omega
      clear hz
      cases hc : ((91 : Int) == (s[k].toNat : Int))
      · have HM2 := Lib.hid (below_n HM.out (mark_miss (j := 2) (b := 91) HBT.out rfl hc))
        have hc2 : ((((⟨#[123, 125, 91, 93, 58, 44]⟩ : ByteArray)[2]'(by decide)).toNat : Int) == (s[k].toNat : Int)) = false := hc
        go_wp2
        go_quiet (fail)
        have HZ := Lib.hid (HZ.out.keep ((Drew.refl _).more nq).below)
        go_wp2
        go_roundw
        case rel => exact ⟨3, 3, by go_num, rfl, by omega, HZ, HM2⟩
        case measure => simp [intOf]
      · have H := Lib.hid (sign_mark (j := 2) hk (by omega) (mark_hit (b := 91) HBT.out rfl hc))
        have hc2 : ((((⟨#[123, 125, 91, 93, 58, 44]⟩ : ByteArray)[2]'(by decide)).toNat : Int) == (s[k].toNat : Int)) = true := hc
        clear HM
        go_wp2
        go_quiet (fail)
        have HZ := Lib.hid (HZ.out.keep ((Drew.refl _).more nq).below)
        obtain ⟨r0, r1, r2, r3⟩ := HZ.out.cells
        obtain ⟨g0, g1, g2, g3⟩ := HZ.out.frozen
        go_wp2
        refine bodyPost_ret (v := .tuple #[.agg #[.int .i64 3, .string ⟨#[]⟩, .int .i64 0, .int .i64 k], .int .i64 ((k : Int) + 1)]) (by simp [results, Tryz.results27, go_sem, HZ.out.cells]) rfl ?_
        exact signP_some H.out ((((HZ.out.2.setCell (p := ⟨w.heap.size, 0, none⟩) (Nat.le_refl _) _).setCell (p := ⟨w.heap.size, 1, none⟩) (Nat.le_refl _) _).setCell (p := ⟨w.heap.size, 2, none⟩) (Nat.le_refl _) _).setCell (p := ⟨w.heap.size, 3, none⟩) (Nat.le_refl _) _) (by rfl) rfl rfl (by rfl)
    · obtain rfl : z = 3 := by omega
      clear hz
      cases hc : ((93 : Int) == (s[k].toNat : Int))
      · have HM2 := Lib.hid (below_n HM.out (mark_miss (j := 3) (b := 93) HBT.out rfl hc))
        have hc2 : ((((⟨#[123, 125, 91, 93, 58, 44]⟩ : ByteArray)[3]'(by decide)).toNat : Int) == (s[k].toNat : Int)) = false := hc
        go_wp2
        go_quiet (fail)
        have HZ := Lib.hid (HZ.out.keep ((Drew.refl _).more nq).below)
        go_wp2
        go_roundw
        case rel => exact ⟨4, 4, by go_num, rfl, by omega, HZ, HM2⟩
        case measure => simp [intOf]
      · have H := Lib.hid (sign_mark (j := 3) hk (by omega) (mark_hit (b := 93) HBT.out rfl hc))
        have hc2 : ((((⟨#[123, 125, 91, 93, 58, 44]⟩ : ByteArray)[3]'(by decide)).toNat : Int) == (s[k].toNat : Int)) = true := hc
        clear HM
        go_wp2
        go_quiet (fail)
        have HZ := Lib.hid (HZ.out.keep ((Drew.refl _).more nq).below)
        obtain ⟨r0, r1, r2, r3⟩ := HZ.out.cells
        obtain ⟨g0, g1, g2, g3⟩ := HZ.out.frozen
        go_wp2
        refine bodyPost_ret (v := .tuple #[.agg #[.int .i64 4, .string ⟨#[]⟩, .int .i64 0, .int .i64 k], .int .i64 ((k : Int) + 1)]) (by simp [results, Tryz.results27, go_sem, HZ.out.cells]) rfl ?_
        exact signP_some H.out ((((HZ.out.2.setCell (p := ⟨w.heap.size, 0, none⟩) (Nat.le_refl _) _).setCell (p := ⟨w.heap.size, 1, none⟩) (Nat.le_refl _) _).setCell (p := ⟨w.heap.size, 2, none⟩) (Nat.le_refl _) _).setCell (p := ⟨w.heap.size, 3, none⟩) (Nat.le_refl _) _) (by rfl) rfl rfl (by rfl)
    · obtain rfl : z = 4 := by omega
      clear hz
      cases hc : ((58 : Int) == (s[k].toNat : Int))
      · have HM2 := Lib.hid (below_n HM.out (mark_miss (j := 4) (b := 58) HBT.out rfl hc))
        have hc2 : ((((⟨#[123, 125, 91, 93, 58, 44]⟩ : ByteArray)[4]'(by decide)).toNat : Int) == (s[k].toNat : Int)) = false := hc
        go_wp2
        go_quiet (fail)
        have HZ := Lib.hid (HZ.out.keep ((Drew.refl _).more nq).below)
        go_wp2
        go_roundw
        case rel => exact ⟨5, 5, by go_num, rfl, by omega, HZ, HM2⟩
        case measure => simp [intOf]
      · have H := Lib.hid (sign_mark (j := 4) hk (by omega) (mark_hit (b := 58) HBT.out rfl hc))
        have hc2 : ((((⟨#[123, 125, 91, 93, 58, 44]⟩ : ByteArray)[4]'(by decide)).toNat : Int) == (s[k].toNat : Int)) = true := hc
        clear HM
        go_wp2
        go_quiet (fail)
        have HZ := Lib.hid (HZ.out.keep ((Drew.refl _).more nq).below)
        obtain ⟨r0, r1, r2, r3⟩ := HZ.out.cells
        obtain ⟨g0, g1, g2, g3⟩ := HZ.out.frozen
        go_wp2
        refine bodyPost_ret (v := .tuple #[.agg #[.int .i64 5, .string ⟨#[]⟩, .int .i64 0, .int .i64 k], .int .i64 ((k : Int) + 1)]) (by simp [results, Tryz.results27, go_sem, HZ.out.cells]) rfl ?_
        exact signP_some H.out ((((HZ.out.2.setCell (p := ⟨w.heap.size, 0, none⟩) (Nat.le_refl _) _).setCell (p := ⟨w.heap.size, 1, none⟩) (Nat.le_refl _) _).setCell (p := ⟨w.heap.size, 2, none⟩) (Nat.le_refl _) _).setCell (p := ⟨w.heap.size, 3, none⟩) (Nat.le_refl _) _) (by rfl) rfl rfl (by rfl)
    · obtain rfl : z = 5 := by omega
      clear hz
      cases hc : ((44 : Int) == (s[k].toNat : Int))
      · have HM2 := Lib.hid (below_n HM.out (mark_miss (j := 5) (b := 44) HBT.out rfl hc))
        have hc2 : ((((⟨#[123, 125, 91, 93, 58, 44]⟩ : ByteArray)[5]'(by decide)).toNat : Int) == (s[k].toNat : Int)) = false := hc
        go_wp2
        go_quiet (fail)
        have HZ := Lib.hid (HZ.out.keep ((Drew.refl _).more nq).below)
        go_wp2
        go_roundw
        case rel => exact ⟨6, 6, by go_num, rfl, by omega, HZ, HM2⟩
        case measure => simp [intOf]
      · have H := Lib.hid (sign_mark (j := 5) hk (by omega) (mark_hit (b := 44) HBT.out rfl hc))
        have hc2 : ((((⟨#[123, 125, 91, 93, 58, 44]⟩ : ByteArray)[5]'(by decide)).toNat : Int) == (s[k].toNat : Int)) = true := hc
        clear HM
        go_wp2
        go_quiet (fail)
        have HZ := Lib.hid (HZ.out.keep ((Drew.refl _).more nq).below)
        obtain ⟨r0, r1, r2, r3⟩ := HZ.out.cells
        obtain ⟨g0, g1, g2, g3⟩ := HZ.out.frozen
        go_wp2
        refine bodyPost_ret (v := .tuple #[.agg #[.int .i64 6, .string ⟨#[]⟩, .int .i64 0, .int .i64 k], .int .i64 ((k : Int) + 1)]) (by simp [results, Tryz.results27, go_sem, HZ.out.cells]) rfl ?_
        exact signP_some H.out ((((HZ.out.2.setCell (p := ⟨w.heap.size, 0, none⟩) (Nat.le_refl _) _).setCell (p := ⟨w.heap.size, 1, none⟩) (Nat.le_refl _) _).setCell (p := ⟨w.heap.size, 2, none⟩) (Nat.le_refl _) _).setCell (p := ⟨w.heap.size, 3, none⟩) (Nat.le_refl _) _) (by rfl) rfl rfl (by rfl)
    · obtain rfl : z = 6 := by omega
      clear hz
      have HW0 := Lib.hid (fun w0 => sWord s k (wordB 0) w0 (by omega) (by decide) hs)
      have HW1 := Lib.hid (fun w0 => sWord s k (wordB 1) w0 (by omega) (by decide) hs)
      have HW2 := Lib.hid (fun w0 => sWord s k (wordB 2) w0 (by omega) (by decide) hs)
      have z0 : wordB 0 = ⟨#[116, 114, 117, 101]⟩ := rfl
      have z1 : wordB 1 = ⟨#[102, 97, 108, 115, 101]⟩ := rfl
      have z2 : wordB 2 = ⟨#[110, 117, 108, 108]⟩ := rfl
      have HH0 : Hid (∀ m, m < 0 → hasW s k (wordB m) = false) := Lib.hid (fun m hm => by omega)
      have HH := Lib.hid (fun b => (show wr.heap.size = b → True from fun _ => trivial)); clear HH
      obtain ⟨B, hB⟩ : ∃ B, B = wr.heap.size := ⟨_, rfl⟩
      have hBlt : w.heap.size < B := by rw [hB]; exact HZ.out.lt
      have HL := Lib.hid (show ∀ v0 v1 v2 : Value, (wr.alloc (.cells #[v0, v1, v2] 9)).cell? ⟨B, 0, none⟩ = some v0 ∧ (wr.alloc (.cells #[v0, v1, v2] 9)).cell? ⟨B, 1, none⟩ = some v1 ∧ (wr.alloc (.cells #[v0, v1, v2] 9)).cell? ⟨B, 2, none⟩ = some v2 from fun v0 v1 v2 => by clear hBlt; subst hB; exact ⟨by go_simp, by go_simp, by go_simp⟩)
      go_wp2
      rw [← hB]
      clear hB
      go_loopw [9] (fun i wv => ∃ (z : Int) (j : Nat), i = .int .i64 z ∧ z = j ∧ j ≤ 3 ∧ Hid (ZS w wv) ∧ Hid (∀ m, m < j → hasW s k (wordB m) = false) ∧ wv.cell? ⟨B, 0, none⟩ = some (.string ⟨#[116, 114, 117, 101]⟩) ∧ wv.cell? ⟨B, 1, none⟩ = some (.string ⟨#[102, 97, 108, 115, 101]⟩) ∧ wv.cell? ⟨B, 2, none⟩ = some (.string ⟨#[110, 117, 108, 108]⟩)) (fun i _ => 3 - (intOf i).toNat)
      case atStart => exact ⟨0, 0, rfl, rfl, by omega, Lib.hid (HZ.out.keep ((Below.refl _ _).alloc (Nat.le_refl _) _)), HH0, (HL.out _ _ _).1, (HL.out _ _ _).2.1, (HL.out _ _ _).2.2⟩
      case round =>
        obtain ⟨z, j, rfl, hz, hj, HZ, HW, b0, b1, b2⟩ := hrel
        have hj3 : j = 0 ∨ j = 1 ∨ j = 2 ∨ j = 3 := by omega
        clear hj
        rcases hj3 with rfl | rfl | rfl | rfl
        · obtain rfl : z = 0 := by omega
          clear hz
          cases hc : hasW s k (wordB 0)
          · have HW' := Lib.hid (below_n (p := fun m => hasW s k (wordB m) = false) HW.out hc)
            rw [hc, z0] at HW0
            clear hc
            go_wp2_with (go_at_call 62; refine (HW0.out _).mono ?_; rintro e w2 ⟨rfl, rfl⟩)
            go_roundw
            case rel => exact ⟨1, 1, by go_num, rfl, by omega, HZ, HW', b0, b1, b2⟩
            case measure => simp [intOf]
          · have H := Lib.hid (sign_word hk (word_0 hc))
            rw [hc, z0] at HW0
            clear hc
            obtain ⟨r0, r1, r2, r3⟩ := HZ.out.cells
            obtain ⟨g0, g1, g2, g3⟩ := HZ.out.frozen
            go_wp2_with (go_at_call 62; refine (HW0.out _).mono ?_; rintro e w2 ⟨rfl, rfl⟩)
            go_region
            all_goals
              go_wp2
              refine bodyPost_ret (v := .tuple #[.agg #[.int .i64 9, .string ⟨#[]⟩, .int .i64 0, .int .i64 k], .int .i64 ((k : Int) + 4)]) (by simp [results, Tryz.results27, go_sem, HZ.out.cells]) rfl ?_
              exact signP_some H.out (by (repeat (with_reducible refine Below.drew ?_)); exact ((((HZ.out.2.setCell (p := ⟨w.heap.size, 0, none⟩) (Nat.le_refl _) _).setCell (p := ⟨w.heap.size, 1, none⟩) (Nat.le_refl _) _).setCell (p := ⟨w.heap.size, 2, none⟩) (Nat.le_refl _) _).setCell (p := ⟨w.heap.size, 3, none⟩) (Nat.le_refl _) _)) (by rfl) rfl rfl (by rfl)
        · obtain rfl : z = 1 := by omega
          clear hz
          cases hc : hasW s k (wordB 1)
          · have HW' := Lib.hid (below_n (p := fun m => hasW s k (wordB m) = false) HW.out hc)
            rw [hc, z1] at HW1
            clear hc
            go_wp2_with (go_at_call 62; refine (HW1.out _).mono ?_; rintro e w2 ⟨rfl, rfl⟩)
            go_roundw
            case rel => exact ⟨2, 2, by go_num, rfl, by omega, HZ, HW', b0, b1, b2⟩
            case measure => simp [intOf]
          · have H := Lib.hid (sign_word hk (word_1 HW.out hc))
            rw [hc, z1] at HW1
            clear hc
            obtain ⟨r0, r1, r2, r3⟩ := HZ.out.cells
            obtain ⟨g0, g1, g2, g3⟩ := HZ.out.frozen
            go_wp2_with (go_at_call 62; refine (HW1.out _).mono ?_; rintro e w2 ⟨rfl, rfl⟩)
            go_region
            all_goals
              go_wp2
              refine bodyPost_ret (v := .tuple #[.agg #[.int .i64 10, .string ⟨#[]⟩, .int .i64 0, .int .i64 k], .int .i64 ((k : Int) + 5)]) (by simp [results, Tryz.results27, go_sem, HZ.out.cells]) rfl ?_
              exact signP_some H.out (by (repeat (with_reducible refine Below.drew ?_)); exact ((((HZ.out.2.setCell (p := ⟨w.heap.size, 0, none⟩) (Nat.le_refl _) _).setCell (p := ⟨w.heap.size, 1, none⟩) (Nat.le_refl _) _).setCell (p := ⟨w.heap.size, 2, none⟩) (Nat.le_refl _) _).setCell (p := ⟨w.heap.size, 3, none⟩) (Nat.le_refl _) _)) (by rfl) rfl rfl (by rfl)
        · obtain rfl : z = 2 := by omega
          clear hz
          cases hc : hasW s k (wordB 2)
          · have HW' := Lib.hid (below_n (p := fun m => hasW s k (wordB m) = false) HW.out hc)
            rw [hc, z2] at HW2
            clear hc
            go_wp2_with (go_at_call 62; refine (HW2.out _).mono ?_; rintro e w2 ⟨rfl, rfl⟩)
            go_roundw
            case rel => exact ⟨3, 3, by go_num, rfl, by omega, HZ, HW', b0, b1, b2⟩
            case measure => simp [intOf]
          · have H := Lib.hid (sign_word hk (word_2 HW.out hc))
            rw [hc, z2] at HW2
            clear hc
            obtain ⟨r0, r1, r2, r3⟩ := HZ.out.cells
            obtain ⟨g0, g1, g2, g3⟩ := HZ.out.frozen
            go_wp2_with (go_at_call 62; refine (HW2.out _).mono ?_; rintro e w2 ⟨rfl, rfl⟩)
            go_region
            all_goals
              go_wp2
              refine bodyPost_ret (v := .tuple #[.agg #[.int .i64 11, .string ⟨#[]⟩, .int .i64 0, .int .i64 k], .int .i64 ((k : Int) + 4)]) (by simp [results, Tryz.results27, go_sem, HZ.out.cells]) rfl ?_
              exact signP_some H.out (by (repeat (with_reducible refine Below.drew ?_)); exact ((((HZ.out.2.setCell (p := ⟨w.heap.size, 0, none⟩) (Nat.le_refl _) _).setCell (p := ⟨w.heap.size, 1, none⟩) (Nat.le_refl _) _).setCell (p := ⟨w.heap.size, 2, none⟩) (Nat.le_refl _) _).setCell (p := ⟨w.heap.size, 3, none⟩) (Nat.le_refl _) _)) (by rfl) rfl rfl (by rfl)
        · obtain rfl : z = 3 := by omega
          clear hz HL HW0 HW1 HW2 z0 z1 z2 b0 b1 b2 HH0
          have HWN := Lib.hid (word_no HW.out)
          clear HW
          cases hq : ((s[k].toNat : Int) == 34)
          rotate_left
          · have HSQ := Lib.hid (sign_quote hk (show bt s k = 34 by rw [HBT.out]; rw [beq_iff_eq] at hq; omega))
            have HR := Lib.hid (fun w0 => sReadQuoted s k w0 hs)
            cases hr : readQ s k with
            | none =>
              have H := Lib.hid (show signQ s (k : Int) = none by rw [HSQ.out, quoteO, hr])
              rw [hr] at HR
              simp only [qText, qEnd] at HR
              clear hr
              go_wp2_with fail
              refine (HR.out _).mono ?_; rintro e w1 ⟨rfl, hb1⟩
              have HZ := Lib.hid (HZ.out.keep hb1); clear hb1
              obtain ⟨r0, r1, r2, r3⟩ := HZ.out.cells
              obtain ⟨g0, g1, g2, g3⟩ := HZ.out.frozen
              go_wp2
              refine bodyPost_ret (v := .tuple #[.agg #[.int .i64 0, .string ⟨#[]⟩, .int .i64 0, .int .i64 0], .int .i64 (-1)]) (by simp [results, Tryz.results27, go_sem, HZ.out.cells]) rfl ?_
              exact signP_none H.out ((((HZ.out.2.setCell (p := ⟨w.heap.size, 0, none⟩) (Nat.le_refl _) _).setCell (p := ⟨w.heap.size, 1, none⟩) (Nat.le_refl _) _).setCell (p := ⟨w.heap.size, 2, none⟩) (Nat.le_refl _) _).setCell (p := ⟨w.heap.size, 3, none⟩) (Nat.le_refl _) _)
            | some x =>
              obtain ⟨l, e0⟩ := x
              obtain ⟨key, hkey⟩ : ∃ key : ByteArray, key = ⟨l.toArray⟩ := ⟨_, rfl⟩
              have H := Lib.hid (show signQ s (k : Int) = some ⟨7, key, 0, e0⟩ by rw [HSQ.out, quoteO, hr, hkey])
              rw [hr] at HR
              simp only [qText, qEnd] at HR
              rw [← hkey] at HR
              have hd : decide ((e0 : Int) < 0) = false := decide_eq_false (by omega)
              clear hr hkey
              go_wp2_with fail
              refine (HR.out _).mono ?_; rintro e w1 ⟨rfl, hb1⟩
              have HZ := Lib.hid (HZ.out.keep hb1); clear hb1
              obtain ⟨r0, r1, r2, r3⟩ := HZ.out.cells
              obtain ⟨g0, g1, g2, g3⟩ := HZ.out.frozen
              go_wp2
              refine bodyPost_ret (v := .tuple #[.agg #[.int .i64 7, .string key, .int .i64 0, .int .i64 k], .int .i64 (e0 : Int)]) (by simp [results, Tryz.results27, go_sem, HZ.out.cells]) rfl ?_
              exact signP_some H.out ((((HZ.out.2.setCell (p := ⟨w.heap.size, 0, none⟩) (Nat.le_refl _) _).setCell (p := ⟨w.heap.size, 1, none⟩) (Nat.le_refl _) _).setCell (p := ⟨w.heap.size, 2, none⟩) (Nat.le_refl _) _).setCell (p := ⟨w.heap.size, 3, none⟩) (Nat.le_refl _) _) (by rfl) rfl rfl (by rfl)
          · have HSN := Lib.hid (sign_num hk HM.out HWN.out (show bt s k ≠ 34 by rw [HBT.out]; rw [beq_eq_false_iff_ne] at hq; omega))
            have HR := Lib.hid (fun w0 => sReadWhole s k w0 hs)
            cases hr : whoQ s k with
            | none =>
              have H := Lib.hid (show signQ s (k : Int) = none by rw [HSN.out, numO, hr])
              rw [hr] at HR
              simp only [whoN, whoE] at HR
              clear hr
              go_wp2_with fail
              refine (HR.out _).mono ?_; rintro e w1 ⟨rfl, hb1⟩
              have HZ := Lib.hid (HZ.out.keep hb1); clear hb1
              obtain ⟨r0, r1, r2, r3⟩ := HZ.out.cells
              obtain ⟨g0, g1, g2, g3⟩ := HZ.out.frozen
              go_wp2
              refine bodyPost_ret (v := .tuple #[.agg #[.int .i64 0, .string ⟨#[]⟩, .int .i64 0, .int .i64 0], .int .i64 (-1)]) (by simp [results, Tryz.results27, go_sem, HZ.out.cells]) rfl ?_
              exact signP_none H.out ((((HZ.out.2.setCell (p := ⟨w.heap.size, 0, none⟩) (Nat.le_refl _) _).setCell (p := ⟨w.heap.size, 1, none⟩) (Nat.le_refl _) _).setCell (p := ⟨w.heap.size, 2, none⟩) (Nat.le_refl _) _).setCell (p := ⟨w.heap.size, 3, none⟩) (Nat.le_refl _) _)
            | some x =>
              obtain ⟨n, e0⟩ := x
              have H := Lib.hid (show signQ s (k : Int) = some ⟨8, emptyB, n, e0⟩ by rw [HSN.out, numO, hr])
              rw [hr] at HR
              simp only [whoN, whoE] at HR
              have hd : decide ((e0 : Int) < 0) = false := decide_eq_false (by omega)
              clear hr
              go_wp2_with fail
              refine (HR.out _).mono ?_; rintro e w1 ⟨rfl, hb1⟩
              have HZ := Lib.hid (HZ.out.keep hb1); clear hb1
              obtain ⟨r0, r1, r2, r3⟩ := HZ.out.cells
              obtain ⟨g0, g1, g2, g3⟩ := HZ.out.frozen
              go_wp2
              refine bodyPost_ret (v := .tuple #[.agg #[.int .i64 8, .string ⟨#[]⟩, .int .i64 n, .int .i64 k], .int .i64 (e0 : Int)]) (by simp [results, Tryz.results27, go_sem, HZ.out.cells]) rfl ?_
              exact signP_some H.out ((((HZ.out.2.setCell (p := ⟨w.heap.size, 0, none⟩) (Nat.le_refl _) _).setCell (p := ⟨w.heap.size, 1, none⟩) (Nat.le_refl _) _).setCell (p := ⟨w.heap.size, 2, none⟩) (Nat.le_refl _) _).setCell (p := ⟨w.heap.size, 3, none⟩) (Nat.le_refl _) _) (by rfl) rfl rfl (by rfl)

end Go.Proofs.YtomhbbchflblpaaGreatDoor
namespace Go.Proofs.YtomhbbchflblpaaGreatDoor
open Go.RowKit

theorem tk_drop {T : ByteArray} {P R : List UInt8} (h : T.data.toList = P ++ R) : T.data.toList.drop P.length = R := by rw [h]; simp
theorem tk_size {T : ByteArray} {L : List UInt8} (h : T.data.toList = L) : T.size = L.length := by rw [← h]; simp
theorem tk_bt {T : ByteArray} {P R : List UInt8} (h : T.data.toList = P ++ R) (i : Nat) (hi : i < R.length) : bt T (P.length + i) = (R.getD i 0).toNat :=
  bt_at (R := []) (by rw [tk_drop h, List.append_nil]) hi

/-! ### Texts of code points -/
def ValidL (l : List UInt8) : Prop := ∃ L : List Int, l = rtexts L
theorem ValidL.nil : ValidL [] := ⟨[], rfl⟩
theorem ValidL.app {a b : List UInt8} (h : ValidL a) (k : ValidL b) : ValidL (a ++ b) := by
  obtain ⟨L, rfl⟩ := h; obtain ⟨M, rfl⟩ := k
  exact ⟨L ++ M, by simp [rtexts]⟩
theorem rune_one (b : UInt8) (h : b.toNat < 128) : rtext (b.toNat : Int) = [b] := by
  rw [rtext_nat]
  have ho : runeOkN b.toNat = true := by simp only [runeOkN, Bool.and_eq_true, decide_eq_true_eq, Bool.not_eq_true', Bool.and_eq_false_iff, decide_eq_false_iff_not]; omega
  rw [runeBytes, if_pos ho, if_pos h]
  show [UInt8.ofNat b.toNat] = [b]
  rw [UInt8.ofNat_toNat]
theorem ValidL.low : ∀ {l : List UInt8}, (∀ b ∈ l, b.toNat < 128) → ValidL l
  | [], _ => ValidL.nil
  | b :: l, h => by
    have h1 : ValidL [b] := ⟨[(b.toNat : Int)], by simp [rtexts, rune_one b (h b (by simp))]⟩
    exact h1.app (ValidL.low (l := l) (fun x hx => h x (by simp [hx])))
theorem ValidL.rune (n : Nat) : ValidL ((runeBytes n).map UInt8.ofNat) := ⟨[(n : Int)], by simp [rtexts, rtext_nat]⟩
theorem ValidL.some {T : ByteArray} (h : ValidL T.data.toList) : (runesO T).isSome = true := by
  obtain ⟨L, hL⟩ := h
  have : T = ⟨(rtexts L).toArray⟩ := by apply ByteArray.ext; rw [← hL]
  rw [this]; exact rtexts_some L
theorem ValidL.of {s : ByteArray} (h : (runesO s).isSome = true) : ValidL s.data.toList := by
  obtain ⟨L, hL⟩ := Option.isSome_iff_exists.1 h
  exact ⟨_, (runes_text hL).symm⟩
theorem fig_low (x : Nat) (h : x < 16) : (figB x).toNat < 128 := by
  unfold figB
  split
  · simp; omega
  · simp; omega
theorem esc_low {b : UInt8} (h : b.toNat < 128) : ∀ x ∈ escB b, x.toNat < 128 := by
  intro x hx
  have h1 := fig_low (b.toNat / 16) (by omega)
  have h2 := fig_low (b.toNat % 16) (by omega)
  unfold escB at hx
  repeat' split at hx
  all_goals
    simp only [List.mem_cons, List.mem_nil_iff, or_false] at hx
    rcases hx with rfl | hx
    · first | decide | omega
    all_goals first | (subst hx; first | decide | omega) | (rcases hx with rfl | rfl | rfl | rfl | rfl <;> first | decide | omega)
theorem ValidL.esc (n : Nat) : ValidL (escR n) := by
  by_cases h : n < 128
  · rw [escR_low h]
    exact ValidL.low (esc_low (by simp <;> omega))
  · rw [escR_high (by omega)]
    exact ValidL.rune n
theorem ValidL.flat : ∀ L : List Nat, ValidL (L.flatMap escR)
  | [] => ValidL.nil
  | n :: L => by rw [List.flatMap_cons]; exact (ValidL.esc n).app (ValidL.flat L)
theorem qL_eq {s : ByteArray} (h : (runesO s).isSome = true) : qL s = escTo s s.size ++ [34] := by
  rw [qL, quotedB, if_pos h]
theorem ValidL.q {s : ByteArray} (h : (runesO s).isSome = true) : ValidL (qL s) := by
  obtain ⟨L, hL⟩ := Option.isSome_iff_exists.1 h
  rw [qL_eq h, escTo, List.take_of_length_le (by simp), esc_flat hL]
  have h34 : ValidL [34] := ValidL.low (by simp)
  exact (h34.app (ValidL.flat L)).app h34
/-- No code point lacks. -/
theorem bad_none (s : ByteArray) : ∀ f k acc, s.size < k + f → (rgo s f k acc).isSome = true → badFrom s f k = none
  | 0, k, acc, h, hr => rfl
  | f + 1, k, acc, h, hr => by
    rw [badFrom]
    by_cases h1 : s.size ≤ k
    · rw [if_pos h1]
    rw [if_neg h1]
    rw [rgo, if_neg h1] at hr
    by_cases h2 : badD (Utf8.decode s k) = true
    · rw [if_pos h2] at hr; cases hr
    · rw [if_neg h2] at hr ⊢
      have := Lib.decode_width_pos s k (by omega)
      exact bad_none s f _ _ (by omega) hr
theorem ft_valid {s : ByteArray} (h : ValidL s.data.toList) (hs : s.size ≤ 20000) : ftO s = none :=
  ft_none (by omega) (bad_none s _ 0 [] (by omega) h.some)

/-! ### Numbers in the midst of a text -/
/-- What may stand behind a number. -/
def NumEnd (R : List UInt8) : Prop := (R.getD 0 0).toNat ≠ 46 ∧ (R.getD 0 0).toNat ≠ 101 ∧ (R.getD 0 0).toNat ≠ 69 ∧ ¬ (48 ≤ (R.getD 0 0).toNat ∧ (R.getD 0 0).toNat ≤ 57)
theorem numEnd_one (b : UInt8) (h : b.toNat ≠ 46 ∧ b.toNat ≠ 101 ∧ b.toNat ≠ 69 ∧ ¬ (48 ≤ b.toNat ∧ b.toNat ≤ 57)) {R : List UInt8} : NumEnd (b :: R) := h
theorem figs_mid {T : ByteArray} {P D R : List UInt8} (h : T.data.toList = P ++ (D ++ R)) : figs T P.length (P.length + D.length) = D := by
  unfold figs
  rw [Lib.extract_data, h]
  simp
theorem who_mid (n : Int) (h1 : -9223372036854775808 ≤ n) (h2 : n ≤ 9223372036854775807) {T : ByteArray} {P R : List UInt8} (hT : T.data.toList = P ++ (Lib.itoa n ++ R)) (hR : NumEnd R) :
    whoQ T (P.length : Int) = some (n, P.length + (Lib.itoa n).length) ∧ (bt T P.length = 45 ∨ dgAt T P.length = true) ∧ P.length < T.size := by
  have hsz := tk_size hT
  simp only [List.length_append] at hsz
  have hat : ∀ i, i < (Lib.itoa n).length → bt T (P.length + i) = ((Lib.itoa n).getD i 0).toNat := fun i hi => by
    rw [tk_bt hT i (by simp; omega), List.getD_eq_getElem?_getD, List.getElem?_append_left hi, ← List.getD_eq_getElem?_getD]
  have hend : P.length + (Lib.itoa n).length < T.size → bt T (P.length + (Lib.itoa n).length) = (R.getD 0 0).toNat := fun hi => by
    rw [tk_bt hT _ (by simp; omega), List.getD_eq_getElem?_getD, List.getElem?_append_right (Nat.le_refl _), Nat.sub_self, ← List.getD_eq_getElem?_getD]
  obtain ⟨r1, r2, r3, r4⟩ := hR
  by_cases hn : n < 0
  · obtain ⟨m, hm⟩ := Int.eq_ofNat_of_zero_le (show 0 ≤ -n by omega)
    obtain rfl : n = -(m : Int) := by omega
    have hi := itoa_neg m (by omega)
    obtain ⟨hc, hv, -⟩ := dec_canon m m (Nat.le_refl _)
    rw [hi] at hsz hat hend hT ⊢
    generalize Lib.decDigits m = D at hc hv hsz hat hend hT
    have hpos : 0 < D.length := List.length_pos_iff.2 hc.ne
    simp only [List.length_cons] at hsz hat hend ⊢
    have h45 : bt T P.length = 45 := by have := hat 0 (by omega); simpa using this
    have hf : whoFrom T P.length = P.length + 1 := by rw [whoFrom, if_pos h45]
    have hdg : ∀ j, j < D.length → dgAt T (P.length + (j + 1)) = true := fun j hj => by
      rw [dgAt_iff, hat (j + 1) (by omega)]
      have hm2 : D.getD j 0 ∈ D := by
        rw [List.getD_eq_getElem?_getD, List.getElem?_eq_getElem hj]; exact List.getElem_mem _
      exact isDg_iff.1 (hc.dg _ hm2)
    have hE : Ends T (P.length + 1) (P.length + (D.length + 1)) := by
      refine ⟨by omega, by omega, fun i i1 i2 => ?_, fun hlt => ?_⟩
      · obtain ⟨j, rfl⟩ : ∃ j, i = P.length + (j + 1) := ⟨i - P.length - 1, by omega⟩
        exact hdg j (by omega)
      · cases hq : dgAt T (P.length + (D.length + 1))
        · rfl
        · have := dgAt_iff.1 hq; rw [hend hlt] at this; exact absurd this r4
    have hfig : figs T (P.length + 1) (P.length + (D.length + 1)) = D := by
      have := figs_mid (T := T) (P := P ++ [45]) (D := D) (R := R) (by rw [hT]; simp)
      have e1 : (P ++ [45]).length = P.length + 1 := by simp
      have e2 : P.length + 1 + D.length = P.length + (D.length + 1) := by omega
      rw [e1, e2] at this
      exact this
    have hst : ¬ (P.length + (D.length + 1) = P.length + 1 ∨ (bt T (P.length + 1) = 48 ∧ P.length + 1 + 1 < P.length + (D.length + 1)) ∨ stopB T (P.length + (D.length + 1)) = true) := by
      rintro (h | ⟨h, h'⟩ | h)
      · omega
      · have h3 := hat 1 (by omega)
        have h4 := hc.hd (by omega)
        simp only [List.getD_cons_succ] at h3
        omega
      · simp only [stopB, Bool.and_eq_true, decide_eq_true_eq, Bool.or_eq_true, beq_iff_eq] at h
        rw [hend h.1] at h
        omega
    refine ⟨?_, .inl h45, by omega⟩
    rw [who_in (by omega), who_neg hf hE hst h45, hfig, hv, if_pos (by omega)]
  · obtain ⟨m, rfl⟩ := Int.eq_ofNat_of_zero_le (show 0 ≤ n by omega)
    have hi := itoa_pos m
    obtain ⟨hc, hv, -⟩ := dec_canon m m (Nat.le_refl _)
    rw [hi] at hsz hat hend hT ⊢
    generalize Lib.decDigits m = D at hc hv hsz hat hend hT
    have hpos : 0 < D.length := List.length_pos_iff.2 hc.ne
    have hdg0 : ∀ j, j < D.length → dgAt T (P.length + j) = true := fun j hj => by
      rw [dgAt_iff, hat j hj]
      have hm2 : D.getD j 0 ∈ D := by
        rw [List.getD_eq_getElem?_getD, List.getElem?_eq_getElem hj]; exact List.getElem_mem _
      exact isDg_iff.1 (hc.dg _ hm2)
    have hd00 := hdg0 0 hpos
    rw [Nat.add_zero] at hd00
    have h45 : bt T P.length ≠ 45 := by have := dgAt_iff.1 hd00; omega
    have hf : whoFrom T P.length = P.length := by rw [whoFrom, if_neg h45]
    have hE : Ends T P.length (P.length + D.length) := by
      refine ⟨by omega, by omega, fun i i1 i2 => ?_, fun hlt => ?_⟩
      · obtain ⟨j, rfl⟩ : ∃ j, i = P.length + j := ⟨i - P.length, by omega⟩
        exact hdg0 j (by omega)
      · cases hq : dgAt T (P.length + D.length)
        · rfl
        · have := dgAt_iff.1 hq; rw [hend hlt] at this; exact absurd this r4
    have hfig : figs T P.length (P.length + D.length) = D := figs_mid hT
    have hst : ¬ (P.length + D.length = P.length ∨ (bt T P.length = 48 ∧ P.length + 1 < P.length + D.length) ∨ stopB T (P.length + D.length) = true) := by
      rintro (h | ⟨h, h'⟩ | h)
      · omega
      · have h3 := hat 0 hpos
        have h4 := hc.hd (by omega)
        rw [Nat.add_zero] at h3
        omega
      · simp only [stopB, Bool.and_eq_true, decide_eq_true_eq, Bool.or_eq_true, beq_iff_eq] at h
        rw [hend h.1] at h
        omega
    refine ⟨?_, .inr hd00, by omega⟩
    rw [who_in (by omega), who_pos hf hE hst h45, hfig, hv, if_pos (by omega)]

/-! ### Tokens -/
structure Tk where
  bs : List UInt8
  kind : Int
  text : ByteArray
  num : Int
def tkSg (x : Tk) (k : Nat) : Sg := ⟨x.kind, x.text, x.num, k + x.bs.length⟩
/-- The token is read where it stands ahead of R. -/
def Lexes (x : Tk) (R : List UInt8) : Prop := x.bs ≠ [] ∧ wsN (x.bs.getD 0 0).toNat = false ∧ ∀ (T : ByteArray) (P : List UInt8), T.data.toList = P ++ (x.bs ++ R) → signO T P.length = some (tkSg x P.length)
theorem lex_mark (j : Nat) (hj : j < 6) (b : UInt8) (hb : bt markB j = b.toNat) (hw : wsN b.toNat = false) (R : List UInt8) : Lexes ⟨[b], (j : Int) + 1, emptyB, 0⟩ R := by
  refine ⟨by simp, by simpa using hw, fun T P hT => ?_⟩
  have hsz := tk_size hT
  simp only [List.length_append, List.length_cons, List.length_nil] at hsz
  have h0 := tk_bt hT 0 (by simp)
  simp only [Nat.add_zero, List.cons_append, List.getD_cons_zero] at h0
  have hk : P.length < T.size := by omega
  have := sign_mark hk hj (hb.trans h0.symm)
  rw [sign_in hk] at this
  exact this
theorem lex_text {s : ByteArray} (h : (runesO s).isSome = true) (R : List UInt8) : Lexes ⟨qL s, 7, s, 0⟩ R := by
  have hq := qL_eq h
  have hq0 : (qL s).getD 0 0 = 34 := by rw [hq]; rfl
  refine ⟨by rw [hq]; simp [escTo], by show wsN ((qL s).getD 0 0).toNat = false; rw [hq0]; decide, fun T P hT => ?_⟩
  have hT' : T.data.toList = P ++ ((escTo s s.size ++ [34]) ++ R) := by rw [hT, ← hq]
  have hb := quote_back h P R T hT'
  have hsz := tk_size hT'
  simp only [List.length_append, List.length_cons, List.length_nil] at hsz
  have h0 := tk_bt hT' 0 (by simp; omega)
  rw [Nat.add_zero, ← hq, List.getD_eq_getElem?_getD, List.getElem?_append_left (by rw [hq]; simp), ← List.getD_eq_getElem?_getD, hq0] at h0
  have hk : P.length < T.size := by omega
  have := sign_quote hk h0
  rw [sign_in hk, quoteO, hb] at this
  rw [this, tkSg, hq]
theorem lex_num (n : Int) (h1 : -9223372036854775808 ≤ n) (h2 : n ≤ 9223372036854775807) {R : List UInt8} (hR : NumEnd R) : Lexes ⟨Lib.itoa n, 8, emptyB, n⟩ R := by
  have hlex : ∀ (T : ByteArray) (P : List UInt8), T.data.toList = P ++ (Lib.itoa n ++ R) → signO T P.length = some (tkSg ⟨Lib.itoa n, 8, emptyB, n⟩ P.length) := fun T P hT => by
    obtain ⟨hw, hd, hk⟩ := who_mid n h1 h2 hT hR
    have := sign_dig hk hd
    rw [sign_in hk, numO, hw] at this
    rw [this]; rfl
  have hne : Lib.itoa n ≠ [] := fun e => by
    obtain ⟨-, hd, hk⟩ := who_mid n h1 h2 (T := ⟨(Lib.itoa n ++ R).toArray⟩) (P := []) (R := R) (by simp) hR
    have := hlex ⟨([] ++ (Lib.itoa n ++ R)).toArray⟩ [] (by simp)
    rw [e] at hd hk
    simp only [List.nil_append, List.length_nil] at hd hk
    have hs : (⟨R.toArray⟩ : ByteArray).size = R.length := by show R.toArray.size = _; simp
    have h0 := tk_bt (T := ⟨R.toArray⟩) (P := []) (R := R) (by simp) 0 (by omega)
    simp only [List.length_nil, Nat.add_zero] at h0
    obtain ⟨r1, r2, r3, r4⟩ := hR
    have hR2 : Lib.itoa n = [] → False := fun e => by
      by_cases hn : n < 0
      · obtain ⟨m, hm⟩ := Int.eq_ofNat_of_zero_le (show 0 ≤ -n by omega)
        obtain rfl : n = -(m : Int) := by omega
        rw [itoa_neg m (by omega)] at e; cases e
      · obtain ⟨m, rfl⟩ := Int.eq_ofNat_of_zero_le (show 0 ≤ n by omega)
        rw [itoa_pos m] at e
        exact (dec_canon m m (Nat.le_refl _)).1.ne e
    exact hR2 e
  refine ⟨hne, ?_, hlex⟩
  obtain ⟨-, hd, hk⟩ := who_mid n h1 h2 (T := ⟨(Lib.itoa n ++ R).toArray⟩) (P := []) (R := R) (by simp) hR
  have hpos : 0 < (Lib.itoa n).length := List.length_pos_iff.2 hne
  have h0 := tk_bt (T := ⟨(Lib.itoa n ++ R).toArray⟩) (P := []) (R := Lib.itoa n ++ R) (by simp) 0 (by simp; omega)
  simp only [List.length_nil, Nat.add_zero] at h0 hd
  rw [List.getD_eq_getElem?_getD, List.getElem?_append_left hpos, ← List.getD_eq_getElem?_getD] at h0
  rw [dgAt_iff, h0] at hd
  show wsN ((Lib.itoa n).getD 0 0).toNat = false
  simp only [wsN, Bool.or_eq_false_iff, beq_eq_false_iff_ne]
  omega
theorem has_mid {T w : ByteArray} {P R : List UInt8} (hT : T.data.toList = P ++ (w.data.toList ++ R)) : hasW T P.length w = true := by
  have hsz := tk_size hT
  have hw : w.data.toList.length = w.size := by simp
  simp only [List.length_append] at hsz
  rw [hasW, decide_eq_true (by omega), Bool.true_and, beq_iff_eq, ByteArray.toList_eq, ByteArray.toList_eq, Lib.extract_data, hT, ← hw]
  simp
theorem lex_word (j : Nat) (hj : j < 3) {b : List UInt8} (hb : b = (wordB j).data.toList) (R : List UInt8) : Lexes ⟨b, (j : Int) + 9, emptyB, 0⟩ R := by
  subst hb
  refine ⟨?_, ?_, fun T P hT => ?_⟩
  · rcases (show j = 0 ∨ j = 1 ∨ j = 2 by omega) with rfl | rfl | rfl <;> decide
  · rcases (show j = 0 ∨ j = 1 ∨ j = 2 by omega) with rfl | rfl | rfl <;> decide
  · have hm := has_mid hT
    have hsz := tk_size hT
    have hw : (wordB j).data.toList.length = (wordB j).size := by simp
    have hpos : 0 < (wordB j).size := by rcases (show j = 0 ∨ j = 1 ∨ j = 2 by omega) with rfl | rfl | rfl <;> decide
    simp only [List.length_append] at hsz
    have hk : P.length < T.size := by omega
    have hno : ∀ m, m < j → hasW T P.length (wordB m) = false := fun m hmj => by
      cases hq : hasW T P.length (wordB m)
      · rfl
      · have := word_excl hq hm (by omega) hj; omega
    have hO : wordO T P.length = some (tkSg ⟨(wordB j).data.toList, (j : Int) + 9, emptyB, 0⟩ P.length) := by
      rcases (show j = 0 ∨ j = 1 ∨ j = 2 by omega) with rfl | rfl | rfl
      · rw [word_0 hm]; rfl
      · rw [word_1 hno hm]; rfl
      · rw [word_2 hno hm]; rfl
    have := sign_word hk hO
    rw [sign_in hk] at this
    exact this

def tOpen : Tk := ⟨[123], 1, emptyB, 0⟩
def tClose : Tk := ⟨[125], 2, emptyB, 0⟩
def tBegin : Tk := ⟨[91], 3, emptyB, 0⟩
def tEnd : Tk := ⟨[93], 4, emptyB, 0⟩
def tColon : Tk := ⟨[58], 5, emptyB, 0⟩
def tComma : Tk := ⟨[44], 6, emptyB, 0⟩
def tText (s : ByteArray) : Tk := ⟨qL s, 7, s, 0⟩
def leafTk (k : Int) (f : Bool) (n : Int) (s : ByteArray) : Tk :=
  if k = 1 then ⟨nullL, 11, emptyB, 0⟩ else if k = 2 then (if f = true then ⟨trueL, 9, emptyB, 0⟩ else ⟨falseL, 10, emptyB, 0⟩) else if k = 3 then ⟨Lib.itoa n, 8, emptyB, n⟩ else tText s
def headTk (m : Bool) (keys : List ByteArray) (i : Nat) : List Tk := (if 0 < i then [tComma] else []) ++ (if m = true then [tText (strAt keys i), tColon] else [])
mutual
def tokT : Tr → List Tk
  | .mk k f n s keys kids => if k < 5 then [leafTk k f n s] else (if k = 6 then tOpen else tBegin) :: (tokK (k == 6) keys 0 kids ++ [if k = 6 then tClose else tEnd])
def tokK (m : Bool) (keys : List ByteArray) (i : Nat) : List Tr → List Tk
  | [] => []
  | t :: ts => headTk m keys i ++ (tokT t ++ tokK m keys (i + 1) ts)
end
/-- Tokens, each behind the gap g. -/
def spr (g : List UInt8) (L : List Tk) : List UInt8 := L.flatMap fun x => g ++ x.bs
theorem spr_app (g : List UInt8) (L M : List Tk) : spr g (L ++ M) = spr g L ++ spr g M := by simp [spr]
theorem spr_cons (g : List UInt8) (x : Tk) (L : List Tk) : spr g (x :: L) = (g ++ x.bs) ++ spr g L := by simp [spr]
theorem spr_nil (g : List UInt8) : spr g [] = [] := rfl
theorem spr_len (g : List UInt8) (L : List Tk) : (spr g L).length = g.length * L.length + (spr [] L).length := by
  induction L with
  | nil => rfl
  | cons x L ih =>
    rw [spr_cons, spr_cons]
    simp only [List.length_append, List.length_cons, List.length_nil, Nat.mul_add, Nat.mul_one]
    omega
theorem leaf_tk (k : Int) (f : Bool) (n : Int) (s : ByteArray) : (leafTk k f n s).bs = leafL k f n s := by
  unfold leafTk leafL
  split
  · rfl
  split
  · split <;> rfl
  split <;> rfl
theorem head_tk (m : Bool) (keys : List ByteArray) (i : Nat) : spr [] (headTk m keys i) = headK m keys i := by
  unfold headTk headK
  rw [spr_app]
  congr 1
  · split <;> rfl
  · split
    · simp [spr, tText, tColon]
    · rfl
mutual
/-- The braced text is its tokens. -/
theorem say_tok : ∀ t : Tr, spr [] (tokT t) = sayB t
  | .mk k f n s keys kids => by
    rw [tokT, sayB]
    by_cases h : k < 5
    · rw [if_pos h, if_pos h, spr_cons, leaf_tk]; simp [spr_nil]
    · rw [if_neg h, if_neg h, spr_cons, spr_app, say_tokK, spr_cons, spr_nil]
      by_cases h6 : k = 6
      · rw [if_pos h6, if_pos h6, if_pos h6, if_pos h6]; rfl
      · rw [if_neg h6, if_neg h6, if_neg h6, if_neg h6]; rfl
theorem say_tokK (m : Bool) (keys : List ByteArray) : ∀ (l : List Tr) (i : Nat), spr [] (tokK m keys i l) = sayK m keys i l
  | [], i => rfl
  | t :: ts, i => by
    rw [tokK, sayK, spr_app, spr_app, head_tk, say_tok t, say_tokK m keys ts (i + 1)]
end

/-- Each token is read ahead of what stands behind it. -/
def Goods (g tail : List UInt8) : List Tk → Prop
  | [] => True
  | x :: L => Lexes x (spr g L ++ tail) ∧ Goods g tail L
def GapOk (g : List UInt8) : Prop := g = [] ∨ (g ≠ [] ∧ NumEnd g)
theorem numEnd_gap {g : List UInt8} (hg : GapOk g) {x : Tk} {M R : List UInt8} (hx : x.bs ≠ [] ∧ NumEnd x.bs) : NumEnd (((g ++ x.bs) ++ M) ++ R) := by
  have key : ∀ (a b : List UInt8), a ≠ [] → NumEnd a → NumEnd (a ++ b) := fun a b ha h => by
    cases a with
    | nil => exact absurd rfl ha
    | cons c r => exact h
  rcases hg with rfl | ⟨h1, h2⟩
  · rw [List.nil_append, List.append_assoc]; exact key _ _ hx.1 hx.2
  · rw [List.append_assoc, List.append_assoc]; exact key _ _ h1 h2
theorem lex_leaf {k : Int} {f : Bool} {n : Int} {s : ByteArray} {R : List UInt8} (hn : -9223372036854775808 ≤ n ∧ n ≤ 9223372036854775807) (hs : (runesO s).isSome = true) (hR : NumEnd R) : Lexes (leafTk k f n s) R := by
  unfold leafTk
  split
  · exact lex_word 2 (by omega) (b := nullL) rfl R
  split
  · split
    · exact lex_word 0 (by omega) (b := trueL) rfl R
    · exact lex_word 1 (by omega) (b := falseL) rfl R
  split
  · exact lex_num n hn.1 hn.2 hR
  · exact lex_text hs R
theorem lex_open (R : List UInt8) : Lexes tOpen R := lex_mark 0 (by omega) 123 rfl (by decide) R
theorem lex_close (R : List UInt8) : Lexes tClose R := lex_mark 1 (by omega) 125 rfl (by decide) R
theorem lex_begin (R : List UInt8) : Lexes tBegin R := lex_mark 2 (by omega) 91 rfl (by decide) R
theorem lex_end (R : List UInt8) : Lexes tEnd R := lex_mark 3 (by omega) 93 rfl (by decide) R
theorem lex_colon (R : List UInt8) : Lexes tColon R := lex_mark 4 (by omega) 58 rfl (by decide) R
theorem lex_comma (R : List UInt8) : Lexes tComma R := lex_mark 5 (by omega) 44 rfl (by decide) R
theorem ok_text {s : ByteArray} (h : textOkB s = true) : (runesO s).isSome = true := by
  simp only [textOkB, Bool.and_eq_true] at h; exact h.2
theorem ok_key {l : List ByteArray} (h : keysOkB l = true) {i : Nat} (hi : i < l.length) : (runesO (strAt l i)).isSome = true := by
  rw [keysOkB, List.all_eq_true] at h
  have := h i (List.mem_range.2 hi)
  rw [keyOkAt, Bool.and_eq_true] at this
  exact ok_text this.1
theorem goods_head {g tail : List UInt8} {m : Bool} {keys : List ByteArray} {i : Nat} {L : List Tk} (hk : m = true → (runesO (strAt keys i)).isSome = true) (h : Goods g tail L) : Goods g tail (headTk m keys i ++ L) := by
  unfold headTk
  by_cases h0 : 0 < i
  · rw [if_pos h0]
    cases m
    · exact ⟨lex_comma _, h⟩
    · exact ⟨lex_comma _, lex_text (hk rfl) _, lex_colon _, h⟩
  · rw [if_neg h0]
    cases m
    · exact h
    · exact ⟨lex_text (hk rfl) _, lex_colon _, h⟩
mutual
theorem goods_tok {g tail : List UInt8} (hg : GapOk g) : ∀ (t : Tr), shapeB t = true → t.nums → ∀ (L : List Tk), Goods g tail L → NumEnd (spr g L ++ tail) → Goods g tail (tokT t ++ L)
  | .mk k f n s keys kids, h, hn, L, hL, hE => by
    obtain ⟨h1, h2, h3⟩ := shape_parts h
    obtain ⟨a1, a2, a3, a4, a5, a6⟩ := head_kind h1
    simp only [Tr.kind, Tr.text, Tr.keys, Tr.kids] at a1 a2 a3 a4 a5 a6 h2 h3
    have hb := nums_bd hn
    simp only [Tr.num] at hb
    simp only [Tr.nums] at hn
    rw [tokT]
    by_cases hk : k < 5
    · rw [if_pos hk]
      exact ⟨lex_leaf hb (ok_text a3) hE, hL⟩
    · rw [if_neg hk]
      have hkeys : (k == 6) = true → keys.length = kids.length := fun e => a4 (by simpa using e)
      by_cases h6 : k = 6
      · rw [if_pos h6, if_pos h6]
        rw [List.cons_append, List.append_assoc]
        exact ⟨lex_open _, goods_tokK hg (k == 6) keys kids 0 (fun e j hj => ok_key h2 (by have := hkeys e; omega)) h3 hn.2 _ ⟨lex_close _, hL⟩ (numEnd_gap hg ⟨by simp [tClose], numEnd_one 125 (by decide)⟩)⟩
      · rw [if_neg h6, if_neg h6]
        rw [List.cons_append, List.append_assoc]
        exact ⟨lex_begin _, goods_tokK hg (k == 6) keys kids 0 (fun e j hj => ok_key h2 (by have := hkeys e; omega)) h3 hn.2 _ ⟨lex_end _, hL⟩ (numEnd_gap hg ⟨by simp [tEnd], numEnd_one 93 (by decide)⟩)⟩
theorem goods_tokK {g tail : List UInt8} (hg : GapOk g) (m : Bool) (keys : List ByteArray) : ∀ (l : List Tr) (i : Nat), (m = true → ∀ j, j < i + l.length → (runesO (strAt keys j)).isSome = true) → shapeL l = true → numsL l → ∀ (L : List Tk), Goods g tail L → NumEnd (spr g L ++ tail) → Goods g tail (tokK m keys i l ++ L)
  | [], i, hk, h, hn, L, hL, hE => by rw [tokK]; exact hL
  | t :: ts, i, hk, h, hn, L, hL, hE => by
    rw [shapeL, Bool.and_eq_true] at h
    simp only [numsL] at hn
    simp only [List.length_cons] at hk
    rw [tokK, List.append_assoc, List.append_assoc]
    refine goods_head (fun e => hk e i (by omega)) (goods_tok hg t h.1 hn.1 _ (goods_tokK hg m keys ts (i + 1) (fun e j hj => hk e j (by omega)) h.2 hn.2 L hL hE) ?_)
    cases ts with
    | nil => rw [tokK]; exact hE
    | cons u us =>
      rw [tokK, headTk, if_pos (by omega)]
      simp only [List.append_assoc, List.cons_append, List.nil_append]
      rw [spr_cons]
      exact numEnd_gap hg ⟨by simp [tComma], numEnd_one 44 (by decide)⟩
end

def places (g : List UInt8) (p : Nat) : List Tk → List (Sg × Nat)
  | [] => []
  | x :: L => (tkSg x (p + g.length), p + g.length) :: places g (p + g.length + x.bs.length) L
theorem ws_skip {T : ByteArray} {R : List (Sg × Nat) × Option Nat} {acc : List (Sg × Nat)} : ∀ (ws P rest : List UInt8), (∀ b ∈ ws, wsN b.toNat = true) → T.data.toList = P ++ (ws ++ rest) → TgAt T R P.length acc → TgAt T R (P.length + ws.length) acc
  | [], P, rest, _, _, h => h
  | b :: ws, P, rest, hw, hT, h => by
    have hsz := tk_size hT
    simp only [List.length_append, List.length_cons] at hsz
    have h0 := tk_bt hT 0 (by simp)
    simp only [Nat.add_zero, List.cons_append, List.getD_cons_zero] at h0
    have h1 := tgAt_ws h (by omega) (by rw [h0]; exact hw b (by simp))
    have := ws_skip ws (P ++ [b]) rest (fun x hx => hw x (by simp [hx])) (by rw [hT]; simp) (by simpa using h1)
    simp only [List.length_append, List.length_cons, List.length_nil] at this ⊢
    rw [show P.length + (ws.length + 1) = P.length + (0 + 1) + ws.length by omega]
    exact this
theorem tgo_spread {T : ByteArray} {g tail : List UInt8} {R : List (Sg × Nat) × Option Nat} (hg : ∀ b ∈ g, wsN b.toNat = true) (ht : ∀ b ∈ tail, wsN b.toNat = true) :
    ∀ (L : List Tk) (P : List UInt8) (acc : List (Sg × Nat)), Goods g tail L → T.data.toList = P ++ (spr g L ++ tail) → TgAt T R P.length acc → R = (acc ++ places g P.length L, none)
  | [], P, acc, _, hT, h => by
    have h1 := ws_skip tail P [] ht (by rw [hT]; simp [spr_nil]) h
    have hsz := tk_size hT
    simp only [spr_nil, List.nil_append, List.length_append] at hsz
    rw [places, List.append_nil]
    exact tgAt_end h1 (by omega)
  | x :: L, P, acc, ⟨hx, hL⟩, hT, h => by
    rw [spr_cons] at hT
    have hT1 : T.data.toList = P ++ (g ++ (x.bs ++ (spr g L ++ tail))) := by rw [hT]; simp only [List.append_assoc]
    have hT2 : T.data.toList = (P ++ g) ++ (x.bs ++ (spr g L ++ tail)) := by rw [hT1]; simp only [List.append_assoc]
    have hT3 : T.data.toList = ((P ++ g) ++ x.bs) ++ (spr g L ++ tail) := by rw [hT1]; simp only [List.append_assoc]
    have h1 := ws_skip g P _ hg hT1 h
    obtain ⟨x1, x2, x3⟩ := hx
    have hpos : 0 < x.bs.length := List.length_pos_iff.2 x1
    have hsz := tk_size hT2
    simp only [List.length_append] at hsz
    have h0 := tk_bt hT2 0 (by simp; omega)
    rw [Nat.add_zero, List.getD_eq_getElem?_getD, List.getElem?_append_left hpos, ← List.getD_eq_getElem?_getD] at h0
    have hs := x3 T (P ++ g) hT2
    have h2 := tgAt_step (k := (P ++ g).length) (by simpa using h1) (by simp; omega) (by rw [h0]; exact x2) hs
    have h3 := tgo_spread hg ht L ((P ++ g) ++ x.bs) (acc ++ [(tkSg x (P ++ g).length, (P ++ g).length)]) hL hT3 (by
      have e : (tkSg x (P ++ g).length).fin = ((P ++ g) ++ x.bs).length := by rw [tkSg, List.length_append (bs := x.bs)]
      rw [← e]; exact h2)
    rw [h3, places]
    simp only [List.length_append, List.append_assoc, List.cons_append, List.nil_append, Nat.add_assoc]
theorem toks_spread {T : ByteArray} {g tail : List UInt8} {L : List Tk} (hg : ∀ b ∈ g, wsN b.toNat = true) (ht : ∀ b ∈ tail, wsN b.toNat = true) (hL : Goods g tail L) (hT : T.data.toList = spr g L ++ tail) : toksR T = (places g 0 L, none) := by
  have := tgo_spread hg ht L [] [] hL hT (tgAt_start T)
  simpa using this
theorem places_len (g : List UInt8) : ∀ (L : List Tk) (p : Nat), (places g p L).length = L.length
  | [], _ => rfl
  | x :: L, p => by rw [places, List.length_cons, places_len g L, List.length_cons]
def noTk : Tk := ⟨[], 0, emptyB, 0⟩
def tkAt (L : List Tk) (i : Nat) : Tk := L.getD i noTk
theorem places_at (g : List UInt8) : ∀ (L : List Tk) (p i : Nat), i < L.length → (places g p L)[i]? = some (tkSg (tkAt L i) (p + (spr g (L.take i)).length + g.length), p + (spr g (L.take i)).length + g.length)
  | [], _, _, h => by simp at h
  | x :: L, p, 0, _ => by rw [places]; simp [spr_nil, tkAt]
  | x :: L, p, i + 1, h => by
    rw [places, List.getElem?_cons_succ, places_at g L _ i (by simpa using h), List.take_succ_cons, spr_cons]
    simp only [List.length_append, tkAt, List.getD_cons_succ]
    rw [show p + g.length + x.bs.length + (spr g (L.take i)).length + g.length = p + (g.length + x.bs.length + (spr g (L.take i)).length) + g.length by omega]
/-- The bytes of token i of a text of tokens. -/
theorem spr_take (g : List UInt8) (L : List Tk) (i : Nat) (h : i < L.length) : spr g (L.take (i + 1)) = spr g (L.take i) ++ (g ++ (tkAt L i).bs) := by
  rw [List.take_succ_eq_append_getElem h, spr_app, spr_cons, spr_nil, List.append_nil]
  congr 2
  rw [tkAt, List.getD_eq_getElem?_getD, List.getElem?_eq_getElem h]; rfl
theorem spr_drop (g : List UInt8) (L : List Tk) (i : Nat) : spr g L = spr g (L.take i) ++ spr g (L.drop i) := by
  rw [← spr_app, List.take_append_drop]
theorem tok_pos : ∀ t : Tr, 0 < (tokT t).length
  | .mk k f n s keys kids => by
    rw [tokT]
    split <;> simp

end Go.Proofs.YtomhbbchflblpaaGreatDoor
