/- Plain law: blanks ahead of a text, a key and what stands behind it; IndentOf (spec). -/
import Derived.Test.YtoaakbaijklhhaaDoorRqR
import Derived.Test.YtoaakbaijklhhaaDoorPlainT
import Derived.Test.YtoaakbaijklhhaaDoorInd
namespace Go.Proofs.YtoaakbaijklhhaaDoor
open Go.RowKit

def feFrom (s : ByteArray) : Nat → Nat → Option Nat
  | 0, _ => none
  | f + 1, k => if s.size ≤ k then none else if endsB s k = true then some k else feFrom s f (k + 1)
def firstEnd (s : ByteArray) : Option Nat := feFrom s (s.size + 1) 0
theorem fe_out {s : ByteArray} {f k : Nat} (h : s.size ≤ k) : feFrom s f k = none := by
  cases f with
  | zero => rfl
  | succ f => rw [feFrom, if_pos h]
theorem fe_hit {s : ByteArray} {f k : Nat} (h : k < s.size) (hf : s.size < k + f) (he : endsB s k = true) : feFrom s f k = some k := by
  cases f with
  | zero => omega
  | succ f => rw [feFrom, if_neg (by omega), if_pos he]
theorem fe_step {s : ByteArray} {f k : Nat} (h : k < s.size) (hf : s.size < k + f) (he : endsB s k = false) : ∃ f', s.size < k + 1 + f' ∧ feFrom s f' (k + 1) = feFrom s f k := by
  cases f with
  | zero => omega
  | succ f => exact ⟨f, by omega, by rw [feFrom, if_neg (by omega), if_neg (by rw [he]; simp)]⟩
/-- The key of a line, and what stands behind it. -/
def keyO (s : ByteArray) : Option (ByteArray × ByteArray) :=
  if 0 < s.size ∧ bt s 0 = 34 then
    (match readQ s 0 with
    | none => none
    | some (l, e) => if e < s.size ∧ endsB s e = true then some (⟨l.toArray⟩, restB s (e + 1)) else none)
  else
    (match firstEnd s with
    | none => none
    | some i => if plainAll (s.extract 0 i) = true then some (s.extract 0 i, restB s (i + 1)) else none)
def koA : Option (ByteArray × ByteArray) → ByteArray
  | none => ⟨#[]⟩
  | some (a, _) => a
def koB : Option (ByteArray × ByteArray) → ByteArray
  | none => ⟨#[]⟩
  | some (_, b) => b
theorem key_q0 {s : ByteArray} (h0 : 0 < s.size) (h : bt s 0 = 34) (hr : readQ s 0 = none) : keyO s = none := by
  rw [keyO, if_pos ⟨h0, h⟩, hr]
theorem key_q1 {s : ByteArray} {l : List UInt8} {e : Nat} (h0 : 0 < s.size) (h : bt s 0 = 34) (hr : readQ s 0 = some (l, e)) (he : ¬ (e < s.size ∧ endsB s e = true)) : keyO s = none := by
  rw [keyO, if_pos ⟨h0, h⟩, hr]; exact if_neg he
theorem key_q2 {s : ByteArray} {l : List UInt8} {e : Nat} (h0 : 0 < s.size) (h : bt s 0 = 34) (hr : readQ s 0 = some (l, e)) (he : e < s.size ∧ endsB s e = true) : keyO s = some (⟨l.toArray⟩, restB s (e + 1)) := by
  rw [keyO, if_pos ⟨h0, h⟩, hr]; exact if_pos he
theorem key_p0 {s : ByteArray} (h : ¬ (0 < s.size ∧ bt s 0 = 34)) (hr : firstEnd s = none) : keyO s = none := by
  rw [keyO, if_neg h, hr]
theorem key_p1 {s : ByteArray} {i : Nat} (h : ¬ (0 < s.size ∧ bt s 0 = 34)) (hr : firstEnd s = some i) (hp : plainAll (s.extract 0 i) = false) : keyO s = none := by
  rw [keyO, if_neg h, hr]; exact if_neg (by rw [hp]; simp)
theorem key_p2 {s : ByteArray} {i : Nat} (h : ¬ (0 < s.size ∧ bt s 0 = 34)) (hr : firstEnd s = some i) (hp : plainAll (s.extract 0 i) = true) : keyO s = some (s.extract 0 i, restB s (i + 1)) := by
  rw [keyO, if_neg h, hr]; exact if_pos hp

end Go.Proofs.YtoaakbaijklhhaaDoor
