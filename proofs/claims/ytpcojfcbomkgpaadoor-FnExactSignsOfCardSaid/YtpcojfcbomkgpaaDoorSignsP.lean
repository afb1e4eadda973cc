/- The signs of a text and its faults, as data. No program. -/
import Derived.Test.YtpcojfcbomkgpaaDoorSignP
namespace Go.Proofs.YtpcojfcbomkgpaaDoor
open Go.RowKit

theorem dgEnd_ge (s : ByteArray) : ∀ f k, k ≤ dgEnd s f k ∧ (k ≤ s.size → dgEnd s f k ≤ s.size)
  | 0, k => by rw [dgEnd]; exact ⟨Nat.le_refl _, fun h => h⟩
  | f + 1, k => by
    rw [dgEnd]
    have ih := dgEnd_ge s f (k + 1)
    by_cases h : k < s.size ∧ dgAt s k = true
    · rw [if_pos h]; exact ⟨by omega, fun _ => ih.2 (by omega)⟩
    · rw [if_neg h]; exact ⟨Nat.le_refl _, fun h => h⟩
theorem who_some {s : ByteArray} {k e : Nat} {n : Int} (hk : k < s.size) (h : whoO s k = some (n, e)) : k < e ∧ e ≤ s.size := by
  have hg := dgEnd_ge s (s.size - whoFrom s k) (whoFrom s k)
  have hw : k ≤ whoFrom s k ∧ whoFrom s k ≤ s.size := by unfold whoFrom; split <;> omega
  rw [whoO] at h
  change k < e ∧ e ≤ s.size
  have hfe : fend s (whoFrom s k) = dgEnd s (s.size - whoFrom s k) (whoFrom s k) := rfl
  rw [← hfe] at hg
  have hg2 := hg.2 hw.2
  by_cases c1 : fend s (whoFrom s k) = whoFrom s k ∨ (bt s (whoFrom s k) = 48 ∧ whoFrom s k + 1 < fend s (whoFrom s k)) ∨ stopB s (fend s (whoFrom s k)) = true
  · rw [if_pos c1] at h; cases h
  rw [if_neg c1] at h
  have hne : fend s (whoFrom s k) ≠ whoFrom s k := fun e => c1 (Or.inl e)
  have he : e = fend s (whoFrom s k) := by
    split at h
    · split at h
      · simp only [Option.some.injEq, Prod.mk.injEq] at h; exact h.2.symm
      · cases h
    · split at h
      · simp only [Option.some.injEq, Prod.mk.injEq] at h; exact h.2.symm
      · cases h
  omega
theorem readQ_some {s : ByteArray} {k e : Nat} {l : List UInt8} (h : readQ s (k : Int) = some (l, e)) : k < e ∧ e ≤ s.size := by
  unfold readQ at h
  split at h
  · have := rq_end_le _ _ _ _ _ h
    rw [Int.toNat_natCast] at this
    omega
  · cases h
theorem hasW_fit {s w : ByteArray} {k : Nat} (h : hasW s k w = true) : k + w.size ≤ s.size := by
  simp only [hasW, Bool.and_eq_true, decide_eq_true_eq] at h; exact h.1
theorem sign_fin {s : ByteArray} {k : Nat} {x : Sg} (hk : k < s.size) (h : signO s k = some x) : k < x.fin ∧ x.fin ≤ s.size := by
  rw [signO] at h
  by_cases h1 : 0 ≤ markI (bt s k)
  · rw [if_pos h1] at h; cases h; exact ⟨Nat.lt_succ_self k, hk⟩
  rw [if_neg h1] at h
  by_cases h2 : bt s k = 34
  · rw [if_pos h2, quoteO] at h
    cases hr : readQ s k with
    | none => rw [hr] at h; cases h
    | some y => obtain ⟨l, e⟩ := y; rw [hr] at h; cases h; exact readQ_some hr
  rw [if_neg h2] at h
  by_cases h3 : bt s k = 45 ∨ dgAt s k = true
  · rw [if_pos h3, numO, who_in hk] at h
    cases hr : whoO s k with
    | none => rw [hr] at h; cases h
    | some y => obtain ⟨l, e⟩ := y; rw [hr] at h; cases h; exact who_some hk hr
  rw [if_neg h3, wordO] at h
  have w0 : (wordB 0).size = 4 := rfl
  have w1 : (wordB 1).size = 5 := rfl
  have w2 : (wordB 2).size = 4 := rfl
  by_cases g0 : hasW s k (wordB 0) = true
  · rw [if_pos g0] at h; cases h
    have := hasW_fit g0; rw [w0] at this
    exact ⟨show k < k + 4 by omega, this⟩
  rw [if_neg g0] at h
  by_cases g1 : hasW s k (wordB 1) = true
  · rw [if_pos g1] at h; cases h
    have := hasW_fit g1; rw [w1] at this
    exact ⟨show k < k + 5 by omega, this⟩
  rw [if_neg g1] at h
  by_cases g2 : hasW s k (wordB 2) = true
  · rw [if_pos g2] at h; cases h
    have := hasW_fit g2; rw [w2] at this
    exact ⟨show k < k + 4 by omega, this⟩
  rw [if_neg g2] at h; cases h

/-! ### Where no code point stands -/
def badFrom (s : ByteArray) : Nat → Nat → Option Nat
  | 0, _ => none
  | f + 1, k => if s.size ≤ k then none else if badD (Utf8.decode s k) = true then some k else badFrom s f (k + (Utf8.decode s k).2)
def badA (s : ByteArray) : Option Nat := badFrom s (s.size + 1) 0
def BadAt (s : ByteArray) (r : Option Nat) (k : Nat) : Prop := ∃ f, s.size < k + f ∧ badFrom s f k = r
theorem badAt_start (s : ByteArray) : BadAt s (badA s) 0 := ⟨s.size + 1, by omega, rfl⟩
theorem badAt_end {s : ByteArray} {r : Option Nat} {k : Nat} (h : BadAt s r k) (hk : s.size ≤ k) : r = none := by
  obtain ⟨f, hf, e⟩ := h
  cases f with
  | zero => exact e.symm
  | succ f => rw [badFrom, if_pos hk] at e; exact e.symm
theorem badAt_bad {s : ByteArray} {r : Option Nat} {k : Nat} (h : BadAt s r k) (hk : k < s.size) (hb : badD (Utf8.decode s k) = true) : r = some k := by
  obtain ⟨f, hf, e⟩ := h
  cases f with
  | zero => omega
  | succ f => rw [badFrom, if_neg (by omega), if_pos hb] at e; exact e.symm
theorem badAt_step {s : ByteArray} {r : Option Nat} {k : Nat} (h : BadAt s r k) (hk : k < s.size) (hb : badD (Utf8.decode s k) = false) : BadAt s r (k + (Utf8.decode s k).2) := by
  obtain ⟨f, hf, e⟩ := h
  cases f with
  | zero => omega
  | succ f =>
    have := Lib.decode_width_pos s k hk
    rw [badFrom, if_neg (by omega), if_neg (by simp [hb])] at e
    exact ⟨f, by omega, e⟩
/-- The fault of a text, whatever it is: its code and its place. -/
def ftO (s : ByteArray) : Option (Int × Int) := if 20000 < s.size then some (1, 0) else match badA s with
  | none => none
  | some k => some (2, k)
theorem ft_long {s : ByteArray} (h : 20000 < s.size) : ftO s = some (1, 0) := if_pos h
theorem ft_bad {s : ByteArray} {k : Nat} (h : ¬ 20000 < s.size) (hb : badA s = some k) : ftO s = some (2, (k : Int)) := by rw [ftO, if_neg h, hb]
theorem ft_none {s : ByteArray} (h : ¬ 20000 < s.size) (hb : badA s = none) : ftO s = none := by rw [ftO, if_neg h, hb]
theorem ft_short {s : ByteArray} (h : ftO s = none) : s.size ≤ 20000 := by
  rcases Nat.lt_or_ge 20000 s.size with g | g
  · rw [ft_long g] at h; cases h
  · exact g
def ftC : Option (Int × Int) → Int | none => 0 | some x => x.1
def ftP : Option (Int × Int) → Int | none => 0 | some x => x.2
theorem ft_code {s : ByteArray} : (ftC (ftO s) = 0 ∧ ftO s = none) ∨ (0 < ftC (ftO s) ∧ ftC (ftO s) ≤ 2 ∧ ∃ x, ftO s = some x) := by
  rcases Nat.lt_or_ge 20000 s.size with g | g
  · right; rw [ft_long g]; exact ⟨by decide, by decide, _, rfl⟩
  · cases hb : badA s with
    | none => left; rw [ft_none (by omega) hb]; exact ⟨rfl, rfl⟩
    | some k => right; rw [ft_bad (by omega) hb]; exact ⟨by show (0 : Int) < 2; decide, by show (2 : Int) ≤ 2; decide, _, rfl⟩
theorem ft_place {s : ByteArray} (hs : s.size ≤ 1048576) : 0 ≤ ftP (ftO s) ∧ ftP (ftO s) ≤ 1048576 := by
  rcases Nat.lt_or_ge 20000 s.size with g | g
  · rw [ft_long g]; exact ⟨by decide, by decide⟩
  · cases hb : badA s with
    | none => rw [ft_none (by omega) hb]; exact ⟨by decide, by decide⟩
    | some k =>
      rw [ft_bad (by omega) hb]
      have : ∀ f k r, badFrom s f k = some r → r < s.size := by
        intro f
        induction f with
        | zero => intro k r h; cases h
        | succ f ih =>
          intro k r h
          rw [badFrom] at h
          by_cases h1 : s.size ≤ k
          · rw [if_pos h1] at h; cases h
          rw [if_neg h1] at h
          by_cases h2 : badD (Utf8.decode s k) = true
          · rw [if_pos h2] at h; cases h; omega
          · rw [if_neg h2] at h; exact ih _ _ h
      have := this _ _ _ hb
      exact ⟨by show (0 : Int) ≤ (k : Int); omega, by show (k : Int) ≤ 1048576; omega⟩

/-! ### The signs -/
def wsN (b : Nat) : Bool := b == 32 || (b == 9 || (b == 10 || b == 13))
def tgo (s : ByteArray) : Nat → Nat → List (Sg × Nat) → List (Sg × Nat) × Option Nat
  | 0, _, acc => (acc, none)
  | f + 1, k, acc => if s.size ≤ k then (acc, none) else if wsN (bt s k) = true then tgo s f (k + 1) acc else match signO s k with
    | none => ([], some k)
    | some x => tgo s f x.fin (acc ++ [(x, k)])
def TgAt (s : ByteArray) (R : List (Sg × Nat) × Option Nat) (k : Nat) (acc : List (Sg × Nat)) : Prop := ∃ f, s.size < k + f ∧ tgo s f k acc = R
def toksR (s : ByteArray) : List (Sg × Nat) × Option Nat := tgo s (s.size + 1) 0 []
theorem tgAt_start (s : ByteArray) : TgAt s (toksR s) 0 [] := ⟨s.size + 1, by omega, rfl⟩
theorem tgAt_end {s : ByteArray} {R : List (Sg × Nat) × Option Nat} {k : Nat} {acc : List (Sg × Nat)} (h : TgAt s R k acc) (hk : s.size ≤ k) : R = (acc, none) := by
  obtain ⟨f, hf, e⟩ := h
  cases f with
  | zero => exact e.symm
  | succ f => rw [tgo, if_pos hk] at e; exact e.symm
theorem tgAt_ws {s : ByteArray} {R : List (Sg × Nat) × Option Nat} {k : Nat} {acc : List (Sg × Nat)} (h : TgAt s R k acc) (hk : k < s.size) (hw : wsN (bt s k) = true) : TgAt s R (k + 1) acc := by
  obtain ⟨f, hf, e⟩ := h
  cases f with
  | zero => omega
  | succ f => rw [tgo, if_neg (by omega), if_pos hw] at e; exact ⟨f, by omega, e⟩
theorem tgAt_bad {s : ByteArray} {R : List (Sg × Nat) × Option Nat} {k : Nat} {acc : List (Sg × Nat)} (h : TgAt s R k acc) (hk : k < s.size) (hw : wsN (bt s k) = false) (hs : signO s k = none) : R = ([], some k) := by
  obtain ⟨f, hf, e⟩ := h
  cases f with
  | zero => omega
  | succ f => rw [tgo, if_neg (by omega), if_neg (by simp [hw]), hs] at e; exact e.symm
theorem tgAt_step {s : ByteArray} {R : List (Sg × Nat) × Option Nat} {k : Nat} {acc : List (Sg × Nat)} {x : Sg} (h : TgAt s R k acc) (hk : k < s.size) (hw : wsN (bt s k) = false) (hs : signO s k = some x) : TgAt s R x.fin (acc ++ [(x, k)]) := by
  obtain ⟨f, hf, e⟩ := h
  have hx := sign_fin hk hs
  cases f with
  | zero => omega
  | succ f => rw [tgo, if_neg (by omega), if_neg (by simp [hw]), hs] at e; exact ⟨f, by omega, e⟩
theorem tgo_len (s : ByteArray) : ∀ f k acc, acc.length ≤ k → k ≤ s.size → (tgo s f k acc).1.length ≤ s.size
  | 0, k, acc, h, hk => by rw [tgo]; exact Nat.le_trans h hk
  | f + 1, k, acc, h, hk => by
    rw [tgo]
    by_cases h1 : s.size ≤ k
    · rw [if_pos h1]; exact Nat.le_trans h hk
    rw [if_neg h1]
    by_cases h2 : wsN (bt s k) = true
    · rw [if_pos h2]; exact tgo_len s f _ _ (by omega) (by omega)
    rw [if_neg h2]
    cases hs : signO s k with
    | none => simp
    | some x =>
      have hx := sign_fin (by omega) hs
      exact tgo_len s f _ _ (by simp; omega) hx.2
/-- What SignsOf says: the signs, and the fault's code and place. -/
def sgsL (s : ByteArray) : List (Sg × Nat) := match ftO s with | some _ => [] | none => (toksR s).1
def sgsC (s : ByteArray) : Int := match ftO s with | some x => x.1 | none => match (toksR s).2 with | some _ => 3 | none => 0
def sgsP (s : ByteArray) : Int := match ftO s with | some x => x.2 | none => match (toksR s).2 with | some k => k | none => 0
theorem sgs_fault {s : ByteArray} {c p : Int} (h : ftO s = some (c, p)) : sgsL s = [] ∧ sgsC s = c ∧ sgsP s = p := by
  simp only [sgsL, sgsC, sgsP, h, and_self]
theorem sgs_bad {s : ByteArray} {k : Nat} (h : ftO s = none) (hr : toksR s = ([], some k)) : sgsL s = [] ∧ sgsC s = 3 ∧ sgsP s = k := by
  simp only [sgsL, sgsC, sgsP, h, hr, and_self]
theorem sgs_good {s : ByteArray} {L : List (Sg × Nat)} (h : ftO s = none) (hr : toksR s = (L, none)) : sgsL s = L ∧ sgsC s = 0 ∧ sgsP s = 0 := by
  simp only [sgsL, sgsC, sgsP, h, hr, and_self]
theorem sgs_len (s : ByteArray) : (sgsL s).length ≤ s.size := by
  unfold sgsL
  split
  · simp
  · exact tgo_len s _ _ _ (by simp) (by omega)

end Go.Proofs.YtpcojfcbomkgpaaDoor
