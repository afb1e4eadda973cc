/- Plain law: four hexadecimal digits behind the library's lower case. No program. -/
import Derived.Test.YtpcojfcbomkgpaaDoorRq
import Derived.Test.YtpcojfcbomkgpaaDoorQuoI
import Derived.Shelf.Strings.CaseAny
namespace Go.Proofs.YtpcojfcbomkgpaaDoor

theorem idx_spec (T : Array Lib.CaseRow) (r : Int) : ∀ f lo hi i, Lib.lookupIdx T r f lo hi = some i → ((T.getD i (0, 0, 0, 0, 0)).1 : Int) ≤ r ∧ r ≤ ((T.getD i (0, 0, 0, 0, 0)).2.1 : Int)
  | 0, _, _, _, h => by cases h
  | f + 1, lo, hi, i, h => by
    rw [Lib.lookupIdx] at h
    split at h
    · split at h
      · cases h; assumption
      · split at h
        · exact idx_spec T r f _ _ i h
        · exact idx_spec T r f _ _ i h
    · cases h
def rowFar (x : Lib.CaseRow) : Bool := decide (x.2.1 < 128) || (decide (128 ≤ x.1) && (decide (x.delta 1 > 1114111) || decide ((103 : Int) ≤ (x.1 : Int) + x.delta 1)))
theorem rows_far : Lib.caseA.all rowFar = true := by decide +kernel
theorem lower_far (r : Int) (h : 128 ≤ r) : 103 ≤ Lib.toLowerU r := by
  rw [Lib.toLowerU, if_neg (by omega)]
  unfold Lib.toR
  cases hl : Lib.lookupGo Lib.caseA r (Lib.caseA.size + 1) 0 Lib.caseA.size with
  | none => show 103 ≤ r; omega
  | some x =>
    show 103 ≤ Lib.convertR 1 r x
    simp only [Lib.lookupGo, Option.map_eq_some_iff] at hl
    obtain ⟨i, hi, rfl⟩ := hl
    have hs := idx_spec _ _ _ _ _ _ hi
    have hin : i < Lib.caseA.size := by
      rcases Nat.lt_or_ge i Lib.caseA.size with h1 | h1
      · exact h1
      · rw [Array.getD_eq_getD_getElem?, Array.getElem?_eq_none h1] at hs
        simp at hs; omega
    have hf := Array.all_eq_true.1 rows_far i hin
    have e : Lib.caseA.getD i (0, 0, 0, 0, 0) = Lib.caseA[i] := by simp [Array.getD, hin]
    rw [e] at hs ⊢
    generalize Lib.caseA[i] = x at hs hf
    simp only [rowFar, Bool.or_eq_true, Bool.and_eq_true, decide_eq_true_eq] at hf
    unfold Lib.convertR
    rcases hf with hf | ⟨h1, hf⟩
    · omega
    · split
      · have : ((1 % 2 : Nat) : Int) = 1 := rfl
        rw [this]; omega
      · rcases hf with hf | hf
        · omega
        · omega

def hv (c : UInt8) : Int := Lib.indexByte hexDig.data.toList c
theorem u8_all {P : UInt8 → Prop} (h : ∀ n : Fin 256, P (UInt8.ofNat n.val)) (c : UInt8) : P c := by
  have := h ⟨c.toNat, UInt8.toNat_lt c⟩
  simpa using this
theorem hv_low (c : UInt8) : (if hv (Lib.lowerB c) < 0 then none else some (hv (Lib.lowerB c)).toNat) = hexO c.toNat :=
  u8_all (P := fun c => (if hv (Lib.lowerB c) < 0 then none else some (hv (Lib.lowerB c)).toNat) = hexO c.toNat) (by decide +kernel) c
theorem hv_far (c : UInt8) (h : 103 ≤ c.toNat) : hv c = -1 :=
  u8_all (P := fun c => 103 ≤ c.toNat → hv c = -1) (by decide +kernel) c h
theorem hv_bd (c : UInt8) : -1 ≤ hv c ∧ hv c < 16 :=
  u8_all (P := fun c => -1 ≤ hv c ∧ hv c < 16) (by decide +kernel) c

theorem enc_far (x : Int) (h : 103 ≤ x) : ∃ c l, Lib.encodeRune x = c :: l ∧ 103 ≤ c.toNat := by
  unfold Lib.encodeRune Lib.encodeRuneZ
  split
  · refine ⟨_, _, rfl, ?_⟩
    simp; omega
  split
  · refine ⟨_, _, rfl, ?_⟩
    simp; omega
  split
  · refine ⟨_, _, rfl, ?_⟩
    simp; omega
  split
  · refine ⟨_, _, rfl, ?_⟩
    simp; omega
  · exact ⟨_, _, rfl, by decide⟩

theorem decL_far (b : UInt8) (t : List UInt8) (h : 128 ≤ b.toNat) : 128 ≤ (Lib.decodeL (b :: t)).1 := by
  unfold Lib.decodeL
  rw [decode_eq]
  have hb : bt ⟨(b :: t).toArray⟩ 0 = b.toNat := rfl
  rw [hb, if_neg (by omega)]
  simp only [Nat.zero_add]
  split
  · split
    · rename_i h1; show 128 ≤ _; omega
    · show 128 ≤ 65533; omega
  split
  · split
    · rename_i h1
      simp only [Bool.and_eq_true, decide_eq_true_eq] at h1
      show 128 ≤ _; omega
    · show 128 ≤ 65533; omega
  split
  · split
    · rename_i h1
      simp only [Bool.and_eq_true, decide_eq_true_eq] at h1
      show 128 ≤ _; omega
    · show 128 ≤ 65533; omega
  · show 128 ≤ 65533; omega

/-- Where a byte beyond ASCII stands the lower case has a byte that is no hexadecimal digit, no further behind. -/
theorem low_bad : ∀ n (l : List UInt8), l.length ≤ n → (∃ b ∈ l, 128 ≤ b.toNat) → ∃ q, q < l.length ∧ q < (Lib.mapGoD Lib.toLowerU n l).length ∧ hv ((Lib.mapGoD Lib.toLowerU n l).getD q 0) = -1
  | 0, l, hn, h => by
    obtain ⟨b, hb, _⟩ := h
    have : l = [] := List.eq_nil_of_length_eq_zero (by omega)
    subst this
    simp at hb
  | n + 1, [], hn, h => by
    obtain ⟨b, hb, _⟩ := h
    simp at hb
  | n + 1, b :: t, hn, h => by
    rw [Lib.mapGoD, if_neg (by simp)]
    by_cases hb : b.toNat < 128
    · rw [Lib.decodeL_ascii b t hb]
      have h0 : 0 ≤ Lib.toLowerU ((b.toNat, 1) : Nat × Nat).1 ∧ Lib.toLowerU ((b.toNat, 1) : Nat × Nat).1 ≤ 127 := by
        show 0 ≤ Lib.toLowerU (b.toNat : Int) ∧ Lib.toLowerU (b.toNat : Int) ≤ 127
        unfold Lib.toLowerU
        rw [if_pos (by omega)]
        split <;> omega
      have he : (Lib.encodeRune (Lib.toLowerU ((b.toNat, 1) : Nat × Nat).1)).length = 1 := by
        unfold Lib.encodeRune
        rw [Lib.encodeRuneZ_one h0.1 h0.2]; rfl
      have ht : ∃ c ∈ t, 128 ≤ c.toNat := by
        obtain ⟨c, hc, hc2⟩ := h
        rw [List.mem_cons] at hc
        rcases hc with rfl | hc
        · omega
        · exact ⟨c, hc, hc2⟩
      obtain ⟨q, h1, h2, h3⟩ := low_bad n t (by simp at hn; omega) ht
      have hd : (b :: t).drop ((b.toNat, 1) : Nat × Nat).2 = t := rfl
      rw [if_pos h0.1, hd]
      refine ⟨q + 1, by simp; omega, by rw [List.length_append, he]; omega, ?_⟩
      rw [List.getD_eq_getElem?_getD, List.getElem?_append_right (by omega), he, Nat.add_sub_cancel, ← List.getD_eq_getElem?_getD]
      exact h3
    · have hf := lower_far ((Lib.decodeL (b :: t)).1 : Int) (by have := decL_far b t (by omega); omega)
      obtain ⟨c, l, he, hc⟩ := enc_far _ hf
      rw [if_pos (by omega), he]
      exact ⟨0, by simp, by simp, hv_far c hc⟩

/-- The number that the first i bytes tell. -/
def accL (l : List UInt8) : Nat → Option Nat
  | 0 => some 0
  | i + 1 => (accL l i).bind fun n => if hv (l.getD i 0) < 0 then none else some (16 * n + (hv (l.getD i 0)).toNat)
theorem accL_lt (l : List UInt8) : ∀ i n, accL l i = some n → n < 16 ^ i
  | 0, n, h => by cases h; simp
  | i + 1, n, h => by
    simp only [accL, Option.bind_eq_some_iff] at h
    obtain ⟨m, hm, h⟩ := h
    split at h
    · cases h
    · cases h
      have := accL_lt l i m hm
      have := hv_bd (l.getD i 0)
      rw [Nat.pow_succ]; omega
theorem accL_none {l : List UInt8} {i : Nat} (h : hv (l.getD i 0) < 0) : ∀ j, i < j → accL l j = none
  | 0, hj => by omega
  | j + 1, hj => by
    rcases Nat.lt_or_ge i j with h1 | h1
    · rw [accL, accL_none h j h1]; rfl
    · obtain rfl : i = j := by omega
      rw [accL]
      cases accL l i with
      | none => rfl
      | some n => exact if_pos h

def lowL (s : ByteArray) (k : Nat) : List UInt8 := Lib.toLowerD (s.extract k (k + 4)).data.toList
theorem four_at (s : ByteArray) (k : Nat) (h : k + 4 ≤ s.size) (i : Nat) (hi : i < 4) : ((s.extract k (k + 4)).data.toList.getD i 0).toNat = bt s (k + i) := by
  rw [bt_eq s (k + i) (by omega)]
  have : (s.extract k (k + 4)).data.toList[i]? = some s[k + i] := by
    rw [Lib.extract_data]
    rw [Nat.add_sub_cancel_left, List.getElem?_take_of_lt hi, List.getElem?_drop, List.getElem?_eq_getElem (by simp; omega)]
    rfl
  rw [List.getD_eq_getElem?_getD, this]; rfl
theorem four_len (s : ByteArray) (k : Nat) (h : k + 4 ≤ s.size) : (s.extract k (k + 4)).data.toList.length = 4 := by
  rw [Lib.extract_data]; simp; omega
theorem low_cases (s : ByteArray) (k : Nat) (h : k + 4 ≤ s.size) :
    ((lowL s k).length = 4 ∧ ∀ i, i ≤ 4 → accL (lowL s k) i = hexTo s k i) ∨ (fourO s k = none ∧ ∃ q, q < 4 ∧ q < (lowL s k).length ∧ hv ((lowL s k).getD q 0) = -1) := by
  have hl := four_len s k h
  have ha := four_at s k h
  generalize ht : (s.extract k (k + 4)).data.toList = t at hl ha
  have hL : lowL s k = Lib.toLowerD t := by rw [lowL, ht]
  rw [hL]
  by_cases hb : ∃ b ∈ t, 128 ≤ b.toNat
  · right
    constructor
    · obtain ⟨b, hm, hb⟩ := hb
      obtain ⟨i, hi, rfl⟩ := List.getElem_of_mem hm
      have h1 := ha i (by omega)
      rw [List.getD_eq_getElem?_getD, List.getElem?_eq_getElem hi] at h1
      change t[i].toNat = bt s (k + i) at h1
      have h2 : hexO (bt s (k + i)) = none := by
        unfold hexO
        rw [if_neg (by omega), if_neg (by omega), if_neg (by omega)]
      rw [fourO, if_neg (by omega)]
      exact hexTo_none h2 4 (by omega)
    · obtain ⟨q, h1, h2, h3⟩ := low_bad t.length t (Nat.le_refl _) hb
      exact ⟨q, by omega, h2, h3⟩
  · left
    have hasc : ∀ b ∈ t, b.toNat < 128 := fun b hm => by
      rcases Nat.lt_or_ge b.toNat 128 with h1 | h1
      · exact h1
      · exact absurd ⟨b, hm, h1⟩ hb
    rw [Lib.toLowerD_ascii t hasc]
    unfold Lib.toLowerA
    refine ⟨by simpa using hl, ?_⟩
    intro i
    induction i with
    | zero => intro _; rfl
    | succ i ih =>
      intro hi
      have hg : (t.map Lib.lowerB).getD i 0 = Lib.lowerB (t.getD i 0) := by
        have hi2 : i < t.length := by omega
        simp [List.getD_eq_getElem?_getD, List.getElem?_eq_getElem hi2]
      rw [accL, hexTo, ih (by omega), hg, ← ha i (by omega), ← hv_low]
      cases hexTo s k i with
      | none => rfl
      | some n =>
        show (if hv (Lib.lowerB (t.getD i 0)) < 0 then none else some _) = Option.map _ (if hv (Lib.lowerB (t.getD i 0)) < 0 then none else some _)
        split <;> rfl
theorem low_bound {s : ByteArray} {k j : Nat} (h : k + 4 ≤ s.size) (hj : j < (lowL s k).length) (hg : ∀ i, i ≤ j → 0 ≤ hv ((lowL s k).getD i 0)) : j < 4 := by
  rcases low_cases s k h with ⟨h1, _⟩ | ⟨_, q, h1, h2, h3⟩
  · omega
  · rcases Nat.lt_or_ge j q with h4 | h4
    · omega
    · have := hg q h4; omega
theorem low_bad_at {s : ByteArray} {k j : Nat} (h : k + 4 ≤ s.size) (hj : j < (lowL s k).length) (hb : hv ((lowL s k).getD j 0) < 0) : fourO s k = none := by
  rcases low_cases s k h with ⟨h1, h2⟩ | ⟨h1, _⟩
  · rw [fourO, if_neg (by omega), ← h2 4 (by omega)]
    exact accL_none hb 4 (by omega)
  · exact h1
theorem low_end {s : ByteArray} {k n : Nat} (h : k + 4 ≤ s.size) (ha : accL (lowL s k) (lowL s k).length = some n) : fourO s k = some n := by
  rcases low_cases s k h with ⟨h1, h2⟩ | ⟨_, q, h1, h2, h3⟩
  · rw [fourO, if_neg (by omega), ← h2 4 (by omega)]
    rw [h1] at ha; exact ha
  · rw [accL_none (by omega) _ h2] at ha; cases ha

end Go.Proofs.YtpcojfcbomkgpaaDoor
