/- Plain law: blanks ahead of a text, a key and what stands behind it; IndentOf (spec). -/
import Derived.Test.YtoaakbaijklhhaaDoorRqR
import Derived.Test.YtoaakbaijklhhaaDoorPlainT
import Derived.Lib.TrimByte
namespace Go.Proofs.YtoaakbaijklhhaaDoor
open Go.RowKit

def ind (l : List UInt8) : Nat := (l.takeWhile (· == 32)).length
theorem ind_eq : ∀ (l : List UInt8) (j : Nat), j ≤ l.length → (∀ i, i < j → l.getD i 0 = 32) → (j < l.length → l.getD j 0 ≠ 32) → ind l = j
  | [], j, hj, _, _ => by
    simp at hj; subst hj; rfl
  | b :: r, 0, _, _, h => by
    have h1 : b ≠ 32 := h (by simp)
    simp [ind, h1]
  | b :: r, j + 1, hj, ha, h => by
    have h1 : b = 32 := ha 0 (by omega)
    have ih := ind_eq r j (by simpa using hj) (fun i hi => ha (i + 1) (by omega)) (fun hl => h (by simpa using hl))
    subst h1
    simp only [ind] at ih ⊢
    simp [ih]
theorem ind_le (l : List UInt8) : ind l ≤ l.length := (List.takeWhile_sublist _).length_le
theorem trim_drop : ∀ l : List UInt8, Lib.trimLeftB l 32 = l.drop (ind l)
  | [] => rfl
  | b :: r => by
    have ih := trim_drop r
    unfold Lib.trimLeftB ind at ih ⊢
    by_cases h : b = 32
    · subst h; simp; exact ih
    · simp [h]
theorem ext_drop (t : ByteArray) (n : Nat) : t.extract n t.size = ⟨(t.data.toList.drop n).toArray⟩ := by
  apply ByteArray.ext
  apply Array.ext'
  have h := Lib.extract_data t n t.size
  rw [h, List.take_of_length_le (by simp)]
/-- What stands behind place k, without the blanks ahead of it. -/
def restB (s : ByteArray) (k : Nat) : ByteArray := ⟨((s.extract k s.size).data.toList.drop (ind (s.extract k s.size).data.toList)).toArray⟩
def feFrom (s : ByteArray) : Nat → Nat → Option Nat
  | 0, _ => none
  | f + 1, k => if s.size ≤ k then none else if endsB s k = true then some k else feFrom s f (k + 1)
def firstEnd (s : ByteArray) : Option Nat := feFrom s (s.size + 1) 0
theorem fe_out {s : ByteArray} {f k : Nat} (h : s.size ≤ k) : feFrom s f k = none := by
  cases f with
  | zero => rfl
  | succ f => rw [feFrom, if_pos h]
theorem fe_hit {s : ByteArray} {f k : Nat} (h : k < s.size) (hf : s.size < k + f) (he : endsB s k = true) : feFrom s f k = some k := by
  cases f with
  | zero => omega
  | succ f => rw [feFrom, if_neg (by omega), if_pos he]
theorem fe_step {s : ByteArray} {f k : Nat} (h : k < s.size) (hf : s.size < k + f) (he : endsB s k = false) : ∃ f', s.size < k + 1 + f' ∧ feFrom s f' (k + 1) = feFrom s f k := by
  cases f with
  | zero => omega
  | succ f => exact ⟨f, by omega, by rw [feFrom, if_neg (by omega), if_neg (by rw [he]; simp)]⟩
/-- The key of a line, and what stands behind it. -/
def keyO (s : ByteArray) : Option (ByteArray × ByteArray) :=
  if 0 < s.size ∧ bt s 0 = 34 then
    (match readQ s 0 with
    | none => none
    | some (l, e) => if e < s.size ∧ endsB s e = true then some (⟨l.toArray⟩, restB s (e + 1)) else none)
  else
    (match firstEnd s with
    | none => none
    | some i => if plainAll (s.extract 0 i) = true then some (s.extract 0 i, restB s (i + 1)) else none)
def koA : Option (ByteArray × ByteArray) → ByteArray
  | none => ⟨#[]⟩
  | some (a, _) => a
def koB : Option (ByteArray × ByteArray) → ByteArray
  | none => ⟨#[]⟩
  | some (_, b) => b
theorem key_q0 {s : ByteArray} (h0 : 0 < s.size) (h : bt s 0 = 34) (hr : readQ s 0 = none) : keyO s = none := by
  rw [keyO, if_pos ⟨h0, h⟩, hr]
theorem key_q1 {s : ByteArray} {l : List UInt8} {e : Nat} (h0 : 0 < s.size) (h : bt s 0 = 34) (hr : readQ s 0 = some (l, e)) (he : ¬ (e < s.size ∧ endsB s e = true)) : keyO s = none := by
  rw [keyO, if_pos ⟨h0, h⟩, hr]; exact if_neg he
theorem key_q2 {s : ByteArray} {l : List UInt8} {e : Nat} (h0 : 0 < s.size) (h : bt s 0 = 34) (hr : readQ s 0 = some (l, e)) (he : e < s.size ∧ endsB s e = true) : keyO s = some (⟨l.toArray⟩, restB s (e + 1)) := by
  rw [keyO, if_pos ⟨h0, h⟩, hr]; exact if_pos he
theorem key_p0 {s : ByteArray} (h : ¬ (0 < s.size ∧ bt s 0 = 34)) (hr : firstEnd s = none) : keyO s = none := by
  rw [keyO, if_neg h, hr]
theorem key_p1 {s : ByteArray} {i : Nat} (h : ¬ (0 < s.size ∧ bt s 0 = 34)) (hr : firstEnd s = some i) (hp : plainAll (s.extract 0 i) = false) : keyO s = none := by
  rw [keyO, if_neg h, hr]; exact if_neg (by rw [hp]; simp)
theorem key_p2 {s : ByteArray} {i : Nat} (h : ¬ (0 < s.size ∧ bt s 0 = 34)) (hr : firstEnd s = some i) (hp : plainAll (s.extract 0 i) = true) : keyO s = some (s.extract 0 i, restB s (i + 1)) := by
  rw [keyO, if_neg h, hr]; exact if_pos hp

theorem sIndentOf (t : ByteArray) (w : World) (hs : t.size ≤ 1048576) : Calls Tryd.prog 70 #[.string t] w fun e w' => e = .returned (.int .i64 (ind t.data.toList)) ∧ w = w' := by
  have hlen : t.data.toList.length = t.size := by simp
  have HL := Lib.hid hlen; clear hlen
  go_enter Tryd.func70, Tryd.ntmps70
  go_wp2
  go_loop [3] (fun i => ∃ j : Nat, j ≤ t.size ∧ i = .int .i64 (j : Int) ∧ ∀ i, i < j → t.data.toList.getD i 0 = 32) (fun i => t.size - (intOf i).toNat)
  case atStart => exact ⟨0, by omega, rfl, fun i hi => by omega⟩
  case round =>
    obtain ⟨j, hj, rfl, hall⟩ := hrel
    have HA := Lib.hid hall; clear hall
    by_cases hlt : j < t.size
    · have HB := Lib.hid (show t.data.toList.getD j 0 = t[j] by
        have : t.data.toList[j]? = some t[j] := by
          rw [List.getElem?_eq_getElem (by simpa using hlt)]; rfl
        rw [List.getD_eq_getElem?_getD, this]; rfl)
      cases hc : ((t[j].toNat : Int) == 32)
      · have H := Lib.hid (ind_eq t.data.toList j (by rw [HL.out]; exact hj) HA.out (fun _ => by rw [HB.out]; intro e; rw [e] at hc; cases hc))
        go_wp2
        go_ret
        exact ⟨ret_int (by rw [H.out]), rfl⟩
      · have H := Lib.hid (show t[j] = 32 from UInt8.toNat_inj.1 (by have g := hc; rw [beq_iff_eq] at g; show t[j].toNat = 32; omega))
        go_wp2
        go_round
        case rel => exact ⟨j + 1, by omega, by go_num, fun i hi => by
          rcases Nat.lt_or_ge i j with h | h
          · exact HA.out i h
          · obtain rfl : i = j := by omega
            rw [HB.out, H.out]⟩
        case measure => simp [intOf]; omega
    · obtain rfl : j = t.size := by omega
      have H := Lib.hid (ind_eq t.data.toList t.size (by rw [HL.out]; exact Nat.le_refl _) HA.out (fun h => by rw [HL.out] at h; omega))
      go_wp2
      go_ret
      exact ⟨ret_int (by rw [H.out]), rfl⟩

end Go.Proofs.YtoaakbaijklhhaaDoor
