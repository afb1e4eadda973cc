/- The lines of a text, as data. No program. -/
import Derived.Test.YtpcojfcbomkgpaaDoorSignsP
import Derived.Test.YtpcojfcbomkgpaaDoorCutB
import Derived.Test.YtpcojfcbomkgpaaDoorBare
namespace Go.Proofs.YtpcojfcbomkgpaaDoor
open Go.RowKit

structure Ln where
  pre : Nat
  text : ByteArray
  row : Nat
def ctlB (p : ByteArray) : Bool := p.data.toList.any fun b => decide (b.toNat < 32)
theorem ctl_at {p : ByteArray} {k : Nat} (hk : k < p.size) (h : p[k].toNat < 32) : ctlB p = true := by
  rw [ctlB, List.any_eq_true]
  exact ⟨p[k], List.getElem_mem (l := p.data.toList) (n := k) (by simpa using hk), by simpa using h⟩
theorem ctl_no {p : ByteArray} (h : ∀ k (hk : k < p.size), ¬ p[k].toNat < 32) : ctlB p = false := by
  rw [ctlB, List.any_eq_false]
  intro b hb
  obtain ⟨k, hk, rfl⟩ := List.getElem_of_mem hb
  have hk' : k < p.size := by simpa using hk
  have := h k hk'
  rw [decide_eq_true_eq]
  exact this
def lnOf (p : ByteArray) (i : Nat) : Ln := ⟨ind (bareB p).data.toList, (bareB p).extract (ind (bareB p).data.toList) (bareB p).size, i + 1⟩
def lgo : List ByteArray → Nat → List Ln → List Ln × Option Nat
  | [], _, acc => (acc, none)
  | p :: ps, i, acc => if ctlB p = true then ([], some (i + 1)) else if (bareB p).toList.isEmpty = true then lgo ps (i + 1) acc else lgo ps (i + 1) (acc ++ [lnOf p i])
def LgAt (P : List ByteArray) (R : List Ln × Option Nat) (k : Nat) (acc : List Ln) : Prop := lgo (P.drop k) k acc = R
def linesR (s : ByteArray) : List Ln × Option Nat := lgo (partsL 10 s) 0 []
theorem lgAt_start (s : ByteArray) : LgAt (partsL 10 s) (linesR s) 0 [] := rfl
theorem drop_at {P : List ByteArray} {k : Nat} (hk : k < P.length) : P.drop k = strAt P k :: P.drop (k + 1) := by
  rw [strAt, List.getD_eq_getElem?_getD, List.getElem?_eq_getElem hk]
  exact List.drop_eq_getElem_cons hk
theorem lgAt_end {P : List ByteArray} {R : List Ln × Option Nat} {k : Nat} {acc : List Ln} (h : LgAt P R k acc) (hk : P.length ≤ k) : R = (acc, none) := by
  rw [LgAt, List.drop_of_length_le hk] at h; exact h.symm
theorem lgAt_bad {P : List ByteArray} {R : List Ln × Option Nat} {k : Nat} {acc : List Ln} (h : LgAt P R k acc) (hk : k < P.length) (hc : ctlB (strAt P k) = true) : R = ([], some (k + 1)) := by
  rw [LgAt, drop_at hk, lgo, if_pos hc] at h; exact h.symm
theorem lgAt_empty {P : List ByteArray} {R : List Ln × Option Nat} {k : Nat} {acc : List Ln} (h : LgAt P R k acc) (hk : k < P.length) (hc : ctlB (strAt P k) = false) (he : (bareB (strAt P k)).toList.isEmpty = true) : LgAt P R (k + 1) acc := by
  rw [LgAt, drop_at hk, lgo, if_neg (by simp [hc]), if_pos he] at h; exact h
theorem lgAt_step {P : List ByteArray} {R : List Ln × Option Nat} {k : Nat} {acc : List Ln} (h : LgAt P R k acc) (hk : k < P.length) (hc : ctlB (strAt P k) = false) (he : (bareB (strAt P k)).toList.isEmpty = false) : LgAt P R (k + 1) (acc ++ [lnOf (strAt P k) k]) := by
  rw [LgAt, drop_at hk, lgo, if_neg (by simp [hc]), if_neg (by simp [he])] at h; exact h
theorem lgo_len : ∀ (P : List ByteArray) (i : Nat) (acc : List Ln), (lgo P i acc).1.length ≤ acc.length + P.length
  | [], i, acc => by rw [lgo]; simp
  | p :: ps, i, acc => by
    rw [lgo]
    by_cases h1 : ctlB p = true
    · rw [if_pos h1]; simp
    rw [if_neg h1]
    have a := lgo_len ps (i + 1) acc
    have b := lgo_len ps (i + 1) (acc ++ [lnOf p i])
    by_cases h2 : (bareB p).toList.isEmpty = true
    · rw [if_pos h2]; simp only [List.length_cons]; omega
    · rw [if_neg h2]; simp only [List.length_cons, List.length_append, List.length_nil] at b ⊢; omega
/-- What LinesIn says. -/
def lnsL (s : ByteArray) : List Ln := match ftO s with | some _ => [] | none => (linesR s).1
def lnsC (s : ByteArray) : Int := match ftO s with | some x => x.1 | none => match (linesR s).2 with | some _ => 3 | none => 0
def lnsP (s : ByteArray) : Int := match ftO s with | some x => x.2 | none => match (linesR s).2 with | some k => k | none => 0
theorem lns_fault {s : ByteArray} {c p : Int} (h : ftO s = some (c, p)) : lnsL s = [] ∧ lnsC s = c ∧ lnsP s = p := by
  simp only [lnsL, lnsC, lnsP, h, and_self]
theorem lns_bad {s : ByteArray} {k : Nat} (h : ftO s = none) (hr : linesR s = ([], some k)) : lnsL s = [] ∧ lnsC s = 3 ∧ lnsP s = k := by
  simp only [lnsL, lnsC, lnsP, h, hr, and_self]
theorem lns_good {s : ByteArray} {L : List Ln} (h : ftO s = none) (hr : linesR s = (L, none)) : lnsL s = L ∧ lnsC s = 0 ∧ lnsP s = 0 := by
  simp only [lnsL, lnsC, lnsP, h, hr, and_self]
theorem lns_len (s : ByteArray) : (lnsL s).length ≤ s.size + 1 := by
  unfold lnsL
  split
  · simp
  · have := lgo_len (partsL 10 s) 0 []
    have := parts_len 10 s
    simp at *; unfold linesR; omega

end Go.Proofs.YtpcojfcbomkgpaaDoor
