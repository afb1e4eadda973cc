/- NameOk: the contracts of both texts, and the law's walk. -/
import Derived.Test.YtomhbbchflblpaaDoorSmall
namespace Go.Proofs.YtomhbbchflblpaaDoor
open Go.RowKit

def nameB (c : Int) : Bool := lowerB c || digitB c || c == 45
/-- The byte at a place, 0 where there is none. -/
def byt (s : ByteArray) (i : Nat) : Int := ((s.data.toList.getD i 0).toNat : Int)
theorem byt_eq (s : ByteArray) (i : Nat) (h : i < s.size) : byt s i = (s[i].toNat : Int) := by
  unfold byt
  rw [List.getD_eq_getElem?_getD, List.getElem?_eq_getElem (by simpa using h)]; rfl
/-- What NameOk says of a list of bytes. -/
def nameOkL (s : ByteArray) : Bool := betweenB s.size 1 20 && !(byt s 0 == 45) && !(byt s (s.size - 1) == 45) && s.data.toList.all fun c => nameB c.toNat

theorem take_snoc (s : ByteArray) (k : Nat) (h : k < s.size) : s.data.toList.take (k + 1) = s.data.toList.take k ++ [s[k]] := by
  rw [List.take_succ_eq_append_getElem (by simpa using h)]; rfl
theorem all_snoc (s : ByteArray) (p : UInt8 → Bool) (k : Nat) (h : k < s.size) : (s.data.toList.take (k + 1)).all p = ((s.data.toList.take k).all p && p s[k]) := by
  rw [take_snoc s k h]; simp
theorem all_stop (s : ByteArray) (p : UInt8 → Bool) (k : Nat) (h : k < s.size) (hp : p s[k] = false) : s.data.toList.all p = false := by
  rw [List.all_eq_false]; exact ⟨s[k], by have : s[k] = s.data.toList[k]'(by simpa using h) := rfl
                                          rw [this]; exact List.getElem_mem _, by simp [hp]⟩
theorem all_end (s : ByteArray) (p : UInt8 → Bool) (h : (s.data.toList.take s.size).all p = true) : s.data.toList.all p = true := by
  rwa [List.take_of_length_le (by simp)] at h

theorem isNameOk (s : ByteArray) (w : World) (hs : s.size ≤ 1048576) : Calls Tryd.prog 9 #[.string s] w fun e w' => e = .returned (.bool (nameOkL s)) ∧ w = w' := by
  go_enter Tryd.func9, Tryd.ntmps9
  go_wp2_with fail
  go_loop [7] (fun i => ∃ k : Nat, k ≤ s.size ∧ i = .int .i64 k ∧ (s.data.toList.take k).all (fun c => nameB c.toNat) = true) (fun i => s.size - (intOf i).toNat)
  case atStart => exact ⟨0, Nat.zero_le _, rfl, rfl⟩
  case round =>
    obtain ⟨k, hk, rfl, hall⟩ := hrel
    have HA := Lib.hid hall; clear hall
    by_cases hlt : k < s.size
    · cases hl : lowerB (s[k].toNat : Int) <;> cases hd : digitB (s[k].toNat : Int) <;> cases hm : ((s[k].toNat : Int) == 45)
      all_goals
        go_wp2_with (first | (go_at_call 22; refine (isLower_any _ _).mono ?_; rintro e w' ⟨rfl, rfl⟩) | (go_at_call 23; refine (isDigit_any _ _).mono ?_; rintro e w' ⟨rfl, rfl⟩))
      · go_ret
        refine ⟨ret_bool ?_, rfl⟩
        have := all_stop s (fun c => nameB c.toNat) k hlt (by simp [nameB, hl, hd, hm])
        simp [nameOkL, this]
      all_goals
        go_round
        case rel => exact ⟨k + 1, by omega, by go_num, by rw [all_snoc s _ k hlt, HA.out]; simp only [nameB, hl, hd, hm]; rfl⟩
        case measure => simp [intOf]; omega
    · obtain rfl : k = s.size := by omega
      cases hb : betweenB (s.size : Int) 1 20
      · go_wp2_with (go_at_call 24; refine (within_any _ _ _ _).mono ?_; rintro e w' ⟨rfl, rfl⟩)
        go_ret
        exact ⟨ret_bool (by simp [nameOkL, hb]), rfl⟩
      · have h0 : 0 < s.size := by simp [betweenB] at hb; omega
        go_wp2_with (go_at_call 24; refine (within_any _ _ _ _).mono ?_; rintro e w' ⟨rfl, rfl⟩)
        all_goals
          go_ret
          refine ⟨ret_bool ?_, rfl⟩
          rw [nameOkL, hb, byt_eq s 0 h0, byt_eq s (s.size - 1) (by omega), all_end s _ HA.out]
          simp [*, bne]

theorem name_alnum (c : Int) : nameB c = (alnumB c && !(decide (65 ≤ c) && decide (c ≤ 90)) || c == 45) := by
  rw [Bool.eq_iff_iff]
  simp [nameB, alnumB, letterB, lowerB, upperB, digitB]
  omega

theorem l14Letter_any (c : Int) (w : World) : Calls Tryd.prog 64 #[.int .u8 c] w fun e w' => e = .returned (.bool (alnumB c)) ∧ w = w' := by
  have H : Hid (alnumB c = (decide (97 ≤ c) && decide (c ≤ 122) || decide (65 ≤ c) && decide (c ≤ 90) || decide (48 ≤ c) && decide (c ≤ 57))) := rfl
  by_cases h1 : 97 ≤ c <;> by_cases h2 : c ≤ 122 <;> by_cases h3 : 65 ≤ c <;> by_cases h4 : c ≤ 90 <;> by_cases h5 : 48 ≤ c <;> by_cases h6 : c ≤ 57
  all_goals first | (exfalso; omega) | skip
  all_goals
    go_enter Tryd.func64, Tryd.ntmps64
    go_wp2
    go_ret
    exact ⟨ret_bool (by rw [H.out]; simp [h1, h2, h3, h4, h5, h6]), rfl⟩

end Go.Proofs.YtomhbbchflblpaaDoor
