/- LabelKeyOk and LabelValueOk: the contracts of both texts, and the two laws' walks. -/
import Derived.Test.YtomhbbchflblpaaDoorNames
import Derived.Test.YtomhbbchflblpaaDoorLay
import Derived.Lib.IndexLaws
namespace Go.Proofs.YtomhbbchflblpaaDoor
open Go.RowKit

/-- strings.IndexByte, under a name of my own. -/
def idx (o : ByteArray) (c : UInt8) : Int := Lib.indexByte o.data.toList c
theorem idx_neg (o : ByteArray) (c : UInt8) : decide (idx o c < 0) = !o.data.toList.contains c := by
  unfold idx
  rw [Bool.eq_iff_iff]
  simp only [decide_eq_true_eq, Bool.not_eq_true', List.contains_eq_mem, decide_eq_false_iff_not]
  constructor
  · intro h hm
    have h1 : Lib.indexByte o.data.toList c = -1 := by have := Lib.indexByte_ge o.data.toList c; omega
    obtain ⟨k, hk, he⟩ := List.getElem_of_mem hm
    exact Lib.indexByte_none h1 k (by rw [List.getElem?_eq_getElem hk, he])
  · intro h
    rcases Int.lt_or_le (Lib.indexByte o.data.toList c) 0 with h1 | h1
    · exact h1
    · obtain ⟨n, hn⟩ := Int.eq_ofNat_of_zero_le h1
      exact absurd (List.mem_of_getElem? (Lib.indexByte_some hn).1) h

theorem indexByte_u8 (o : ByteArray) (c : UInt8) (w : World) : Calls Tryd.prog 62 #[.string o, .int .u8 (c.toNat : Int)] w fun e w' => e = .returned (.int .i64 (idx o c)) ∧ w = w' :=
  (Tryd.strings_IndexByte o (c.toNat : Int) w).mono fun e w' ⟨he, hw⟩ => ⟨by rw [he, idx]; simp, hw.symm⟩

def wordB (o : ByteArray) (c : UInt8) : Bool := alnumB c.toNat || o.data.toList.contains c
/-- What wordOk says of a text that is not empty. -/
def wordOkL (s o : ByteArray) : Bool := alnumB (byt s 0) && alnumB (byt s (s.size - 1)) && s.data.toList.all (wordB o)

theorem isLetter_any (c : Int) (w : World) : Calls Tryd.prog 61 #[.int .u8 c] w fun e w' => e = .returned (.bool (letterB c)) ∧ w = w' := by
  have H : Hid (letterB c = (lowerB c || decide (65 ≤ c) && decide (c ≤ 90))) := rfl
  cases hl : lowerB c <;> by_cases h1 : 65 ≤ c <;> by_cases h2 : c ≤ 90
  all_goals first | (exfalso; omega) | skip
  all_goals
    go_enter Tryd.func61, Tryd.ntmps61
    go_wp2_with (go_at_call 22; refine (isLower_any _ _).mono ?_; rintro e w' ⟨rfl, rfl⟩)
    go_ret
    exact ⟨ret_bool (by rw [H.out]; simp [hl, h1, h2]), rfl⟩

theorem plain_any (c : Int) (w : World) : Calls Tryd.prog 60 #[.int .u8 c] w fun e w' => e = .returned (.bool (alnumB c)) ∧ w = w' := by
  have H : Hid (alnumB c = (letterB c || digitB c)) := rfl
  cases hl : letterB c <;> cases hd : digitB c
  all_goals
    go_enter Tryd.func60, Tryd.ntmps60
    go_wp2_with (first | (go_at_call 61; refine (isLetter_any _ _).mono ?_; rintro e w' ⟨rfl, rfl⟩) | (go_at_call 23; refine (isDigit_any _ _).mono ?_; rintro e w' ⟨rfl, rfl⟩))
    go_ret
    exact ⟨ret_bool (by rw [H.out]; simp [hl, hd]), rfl⟩

set_option maxHeartbeats 400000 in
theorem iwordOk (s o : ByteArray) (w : World) (h0 : 0 < s.size) (hs : s.size ≤ 1048576) : Calls Tryd.prog 47 #[.string s, .string o] w fun e w' => e = .returned (.bool (wordOkL s o)) ∧ w = w' := by
  have LN : Hid (wordOkL s o = (alnumB (byt s 0) && alnumB (byt s (s.size - 1)) && s.data.toList.all (wordB o))) := rfl
  have hl : s.size - 1 < s.size := by omega
  go_enter Tryd.func47, Tryd.ntmps47
  go_wp2_with fail
  go_loop [9] (fun i => ∃ k : Nat, k ≤ s.size ∧ i = .int .i64 k ∧ (s.data.toList.take k).all (wordB o) = true) (fun i => s.size - (intOf i).toNat)
  case atStart => exact ⟨0, Nat.zero_le _, rfl, rfl⟩
  case round =>
    obtain ⟨k, hk, rfl, hall⟩ := hrel
    have HA := Lib.hid hall; clear hall
    by_cases hlt : k < s.size
    · cases ha : alnumB (s[k].toNat : Int) <;> cases hx : decide (idx o s[k] < 0)
      all_goals
        go_wp2_with (first | (go_at_call 60; refine (plain_any _ _).mono ?_; rintro e w' ⟨rfl, rfl⟩) | (go_at_call 62; refine (indexByte_u8 _ _ _).mono ?_; rintro e w' ⟨rfl, rfl⟩))
      all_goals first
        | (go_ret
           refine ⟨ret_bool ?_, rfl⟩
           have := all_stop s (wordB o) k hlt (by rw [idx_neg] at hx; simp [wordB, ha]; simpa using hx)
           rw [LN.out, this]; simp
           done)
        | (go_round
           case rel => exact ⟨k + 1, by omega, by go_num, by rw [all_snoc s _ k hlt, HA.out]; rw [idx_neg] at hx; simp [wordB, ha]; try simpa using hx⟩
           case measure => simp [intOf]; omega)
    · obtain rfl : k = s.size := by omega
      cases h1 : alnumB (s[0].toNat : Int) <;> cases h2 : alnumB (s[s.size - 1].toNat : Int)
      all_goals
        go_wp2_with (go_at_call 60; refine (plain_any _ _).mono ?_; rintro e w' ⟨rfl, rfl⟩)
        go_ret
        exact ⟨ret_bool (by rw [LN.out, byt_eq s 0 h0, byt_eq s (s.size - 1) hl, all_end s _ HA.out, h1, h2]; rfl), rfl⟩

def wordOkB (s o : ByteArray) : Bool := decide (0 < s.size) && wordOkL s o

theorem contains_snoc (o : ByteArray) (j : Nat) (h : j < o.size) (c : UInt8) : (o.data.toList.take (j + 1)).contains c = ((o.data.toList.take j).contains c || c == o[j]) := by
  rw [take_snoc o j h, Bool.eq_iff_iff]; simp
theorem u8_int (a b : UInt8) : ((a.toNat : Int) == (b.toNat : Int)) = (a == b) := by
  rw [Bool.eq_iff_iff]; simp only [beq_iff_eq]; rw [Int.ofNat_inj, UInt8.toNat_inj]

/-- What the inner loop has gathered after j of the others. -/
def uptoB (o : ByteArray) (c : UInt8) (j : Nat) : Bool := alnumB c.toNat || (o.data.toList.take j).contains c
theorem uptoB_zero (o : ByteArray) (c : UInt8) : uptoB o c 0 = alnumB c.toNat := by simp [uptoB]
theorem uptoB_snoc (o : ByteArray) (c : UInt8) (j : Nat) (h : j < o.size) : uptoB o c (j + 1) = (uptoB o c j || ((c.toNat : Int) == (o[j].toNat : Int))) := by
  rw [uptoB, contains_snoc o j h c, ← Bool.or_assoc, u8_int]; rfl
theorem uptoB_end (o : ByteArray) (c : UInt8) : uptoB o c o.size = wordB o c := by
  rw [uptoB, wordB, List.take_of_length_le (by simp)]

set_option maxHeartbeats 1000000 in
theorem sl14Word (s o : ByteArray) (w : World) (hs : s.size ≤ 1048576) (ho : o.size ≤ 1000) : Calls Tryd.prog 53 #[.string s, .string o] w fun e w' => e = .returned (.bool (wordOkB s o)) ∧ Drew w w' := by
  have LN : Hid (wordOkB s o = (decide (0 < s.size) && (alnumB (byt s 0) && alnumB (byt s (s.size - 1)) && s.data.toList.all (wordB o)))) := rfl
  by_cases h0 : 0 < s.size
  rotate_left
  · have he : ((s.size : Int) == 0) = true := by rw [beq_iff_eq]; omega
    go_enter Tryd.func53, Tryd.ntmps53
    go_wp2
    go_ret
    exact ⟨ret_bool (by rw [LN.out]; simp [h0]), Drew.refl _⟩
  have he : ((s.size : Int) == 0) = false := by rw [beq_eq_false_iff_ne]; omega
  have hl : s.size - 1 < s.size := by omega
  have he2 : (1 : Int) ≤ (s.size : Int) := by omega
  cases h1 : alnumB (s[0].toNat : Int)
  · go_enter Tryd.func53, Tryd.ntmps53
    go_wp2_with (go_at_call 64; refine (l14Letter_any _ _).mono ?_; rintro e w' ⟨rfl, rfl⟩)
    go_ret
    exact ⟨ret_bool (by rw [LN.out, byt_eq s 0 h0, h1]; simp), Drew.refl _⟩
  cases h2 : alnumB (s[s.size - 1].toNat : Int)
  · go_enter Tryd.func53, Tryd.ntmps53
    go_wp2_with (go_at_call 64; refine (l14Letter_any _ _).mono ?_; rintro e w' ⟨rfl, rfl⟩)
    go_ret
    exact ⟨ret_bool (by rw [LN.out, byt_eq s _ hl, h2]; simp), Drew.refl _⟩
  go_enter Tryd.func53, Tryd.ntmps53
  go_wp2_with (go_at_call 64; refine (l14Letter_any _ _).mono ?_; rintro e w' ⟨rfl, rfl⟩)
  go_loopw [5] (fun i wr => ∃ k : Nat, k ≤ s.size ∧ i = .int .i64 k ∧ (s.data.toList.take k).all (wordB o) = true ∧ Drew w wr) (fun i _ => s.size - (intOf i).toNat)
  case atStart => exact ⟨0, Nat.zero_le _, rfl, rfl, Drew.refl _⟩
  case round =>
    obtain ⟨k, hk, rfl, hall, hd⟩ := hrel
    have HA := Lib.hid hall; clear hall
    by_cases hlt : k < s.size
    · go_wp2_with (go_at_call 64; refine (l14Letter_any _ _).mono ?_; rintro e w' ⟨rfl, rfl⟩)
      obtain ⟨wo, hwo⟩ : ∃ wo : World, wo = wr := ⟨_, rfl⟩
      subst hwo
      have H0 := Lib.hid (uptoB_zero o s[k])
      go_loopw [6, 7] (fun b i wr => ∃ j : Nat, j ≤ o.size ∧ i = .int .i64 j ∧ b = .bool (uptoB o s[k] j) ∧ Drew w wr) (fun _ i _ => o.size - (intOf i).toNat)
      case atStart => exact ⟨0, Nat.zero_le _, rfl, by rw [H0.out], hd⟩
      case round =>
        obtain ⟨j, hj, rfl, rfl, hd2⟩ := hrel
        by_cases hjlt : j < o.size
        · have HS := Lib.hid (uptoB_snoc o s[k] j hjlt)
          cases hb : uptoB o s[k] j
          all_goals
            have HB := Lib.hid hb
            go_wp2_with fail
            go_quiet (fail)
            go_wp2
            go_roundw
            case rel => exact ⟨j + 1, by omega, by go_num, by rw [HS.out, HB.out]; rfl, hd2.more _⟩
            case measure => simp [intOf]; omega
        · obtain rfl : j = o.size := by omega
          have HE := Lib.hid (uptoB_end o s[k])
          cases hb : uptoB o s[k] o.size
          all_goals
            have HB := Lib.hid hb
            go_wp2
          · go_ret
            exact ⟨ret_bool (by rw [LN.out, all_stop s (wordB o) k hlt (by rw [← HE.out, HB.out])]; simp), hd2⟩
          · go_roundw
            case rel => exact ⟨k + 1, by omega, by go_num, by rw [all_snoc s _ k hlt, HA.out, ← HE.out, HB.out]; rfl, hd2⟩
            case measure => simp [intOf]; omega
    · obtain rfl : k = s.size := by omega
      go_wp2
      go_ret
      exact ⟨ret_bool (by rw [LN.out, byt_eq s 0 h0, byt_eq s (s.size - 1) hl, all_end s _ HA.out, h1, h2]; simp [h0]), hd⟩

end Go.Proofs.YtomhbbchflblpaaDoor
