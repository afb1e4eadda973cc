/- Low, RqD, RqI, RqJ, RqL, WhoI, WhoL, merged. -/
import Derived.Test.YtomhbbchflblpaaGreatDoorVB
import Derived.Shelf.Strings.CaseAny
import Derived.Lib.ConvBytes
import Derived.Lib.LaidCase
import Derived.PinnedBridge
import Derived.WalkSmall
import Derived.Lib.LaidU8
import Derived.ProofKit
namespace Go.Proofs.YtomhbbchflblpaaGreatDoor

theorem idx_spec (T : Array Lib.CaseRow) (r : Int) : ∀ f lo hi i, Lib.lookupIdx T r f lo hi = some i → ((T.getD i (0, 0, 0, 0, 0)).1 : Int) ≤ r ∧ r ≤ ((T.getD i (0, 0, 0, 0, 0)).2.1 : Int)
  | 0, _, _, _, h => by cases h
  | f + 1, lo, hi, i, h => by
    rw [Lib.lookupIdx] at h
    split at h
    · split at h
      · cases h; assumption
      · split at h
        · exact idx_spec T r f _ _ i h
        · exact idx_spec T r f _ _ i h
    · cases h
def rowFar (x : Lib.CaseRow) : Bool := decide (x.2.1 < 128) || (decide (128 ≤ x.1) && (decide (x.delta 1 > 1114111) || decide ((103 : Int) ≤ (x.1 : Int) + x.delta 1)))
theorem rows_far : Lib.caseA.all rowFar = true := by decide +kernel
theorem lower_far (r : Int) (h : 128 ≤ r) : 103 ≤ Lib.toLowerU r := by
  rw [Lib.toLowerU, if_neg (by omega)]
  unfold Lib.toR
  cases hl : Lib.lookupGo Lib.caseA r (Lib.caseA.size + 1) 0 Lib.caseA.size with
  | none => show 103 ≤ r; omega
  | some x =>
    show 103 ≤ Lib.convertR 1 r x
    simp only [Lib.lookupGo, Option.map_eq_some_iff] at hl
    obtain ⟨i, hi, rfl⟩ := hl
    have hs := idx_spec _ _ _ _ _ _ hi
    have hin : i < Lib.caseA.size := by
      rcases Nat.lt_or_ge i Lib.caseA.size with h1 | h1
      · exact h1
      · rw [Array.getD_eq_getD_getElem?, Array.getElem?_eq_none h1] at hs
        simp at hs; omega
    have hf := Array.all_eq_true.1 rows_far i hin
    have e : Lib.caseA.getD i (0, 0, 0, 0, 0) = Lib.caseA[i] := by simp [Array.getD, hin]
    rw [e] at hs ⊢
    generalize Lib.caseA[i] = x at hs hf
    simp only [rowFar, Bool.or_eq_true, Bool.and_eq_true, decide_eq_true_eq] at hf
    unfold Lib.convertR
    rcases hf with hf | ⟨h1, hf⟩
    · omega
    · split
      · have : ((1 % 2 : Nat) : Int) = 1 := rfl
        rw [this]; omega
      · rcases hf with hf | hf
        · omega
        · omega

def hv (c : UInt8) : Int := Lib.indexByte hexDig.data.toList c
theorem u8_all {P : UInt8 → Prop} (h : ∀ n : Fin 256, P (UInt8.ofNat n.val)) (c : UInt8) : P c := by
  have := h ⟨c.toNat, UInt8.toNat_lt c⟩
  simpa using this
theorem hv_low (c : UInt8) : (if hv (Lib.lowerB c) < 0 then none else some (hv (Lib.lowerB c)).toNat) = hexO c.toNat :=
  u8_all (P := fun c => (if hv (Lib.lowerB c) < 0 then none else some (hv (Lib.lowerB c)).toNat) = hexO c.toNat) (by decide +kernel) c
theorem hv_far (c : UInt8) (h : 103 ≤ c.toNat) : hv c = -1 :=
  u8_all (P := fun c => 103 ≤ c.toNat → hv c = -1) (by decide +kernel) c h
theorem hv_bd (c : UInt8) : -1 ≤ hv c ∧ hv c < 16 :=
  u8_all (P := fun c => -1 ≤ hv c ∧ hv c < 16) (by decide +kernel) c

theorem enc_far (x : Int) (h : 103 ≤ x) : ∃ c l, Lib.encodeRune x = c :: l ∧ 103 ≤ c.toNat := by
  unfold Lib.encodeRune Lib.encodeRuneZ
  split
  · refine ⟨_, _, rfl, ?_⟩
    simp; omega
  split
  · refine ⟨_, _, rfl, ?_⟩
    simp; omega
  split
  · refine ⟨_, _, rfl, ?_⟩
    simp; omega
  split
  · refine ⟨_, _, rfl, ?_⟩
    simp; omega
  · exact ⟨_, _, rfl, by decide⟩

theorem decL_far (b : UInt8) (t : List UInt8) (h : 128 ≤ b.toNat) : 128 ≤ (Lib.decodeL (b :: t)).1 := by
  unfold Lib.decodeL
  rw [decode_eq]
  have hb : bt ⟨(b :: t).toArray⟩ 0 = b.toNat := rfl
  rw [hb, if_neg (by omega)]
  simp only [Nat.zero_add]
  split
  · split
    · rename_i h1; show 128 ≤ _; omega
    · show 128 ≤ 65533; omega
  split
  · split
    · rename_i h1
      simp only [Bool.and_eq_true, decide_eq_true_eq] at h1
      show 128 ≤ _; omega
    · show 128 ≤ 65533; omega
  split
  · split
    · rename_i h1
      simp only [Bool.and_eq_true, decide_eq_true_eq] at h1
      show 128 ≤ _; omega
    · show 128 ≤ 65533; omega
  · show 128 ≤ 65533; omega

/-- Where a byte beyond ASCII stands the lower case has a byte that is no hexadecimal digit, no further behind. -/
theorem low_bad : ∀ n (l : List UInt8), l.length ≤ n → (∃ b ∈ l, 128 ≤ b.toNat) → ∃ q, q < l.length ∧ q < (Lib.mapGoD Lib.toLowerU n l).length ∧ hv ((Lib.mapGoD Lib.toLowerU n l).getD q 0) = -1
  | 0, l, hn, h => by
    obtain ⟨b, hb, _⟩ := h
    have : l = [] := List.eq_nil_of_length_eq_zero (by omega)
    subst this
    simp at hb
  | n + 1, [], hn, h => by
    obtain ⟨b, hb, _⟩ := h
    simp at hb
  | n + 1, b :: t, hn, h => by
    rw [Lib.mapGoD, if_neg (by simp)]
    by_cases hb : b.toNat < 128
    · rw [Lib.decodeL_ascii b t hb]
      have h0 : 0 ≤ Lib.toLowerU ((b.toNat, 1) : Nat × Nat).1 ∧ Lib.toLowerU ((b.toNat, 1) : Nat × Nat).1 ≤ 127 := by
        show 0 ≤ Lib.toLowerU (b.toNat : Int) ∧ Lib.toLowerU (b.toNat : Int) ≤ 127
        unfold Lib.toLowerU
        rw [if_pos (by omega)]
        split <;> omega
      have he : (Lib.encodeRune (Lib.toLowerU ((b.toNat, 1) : Nat × Nat).1)).length = 1 := by
        unfold Lib.encodeRune
        rw [Lib.encodeRuneZ_one h0.1 h0.2]; rfl
      have ht : ∃ c ∈ t, 128 ≤ c.toNat := by
        obtain ⟨c, hc, hc2⟩ := h
        rw [List.mem_cons] at hc
        rcases hc with rfl | hc
        · omega
        · exact ⟨c, hc, hc2⟩
      obtain ⟨q, h1, h2, h3⟩ := low_bad n t (by simp at hn; omega) ht
      have hd : (b :: t).drop ((b.toNat, 1) : Nat × Nat).2 = t := rfl
      rw [if_pos h0.1, hd]
      refine ⟨q + 1, by simp; omega, by rw [List.length_append, he]; omega, ?_⟩
      rw [List.getD_eq_getElem?_getD, List.getElem?_append_right (by omega), he, Nat.add_sub_cancel, ← List.getD_eq_getElem?_getD]
      exact h3
    · have hf := lower_far ((Lib.decodeL (b :: t)).1 : Int) (by have := decL_far b t (by omega); omega)
      obtain ⟨c, l, he, hc⟩ := enc_far _ hf
      rw [if_pos (by omega), he]
      exact ⟨0, by simp, by simp, hv_far c hc⟩

/-- The number that the first i bytes tell. -/
def accL (l : List UInt8) : Nat → Option Nat
  | 0 => some 0
  | i + 1 => (accL l i).bind fun n => if hv (l.getD i 0) < 0 then none else some (16 * n + (hv (l.getD i 0)).toNat)
theorem accL_lt (l : List UInt8) : ∀ i n, accL l i = some n → n < 16 ^ i
  | 0, n, h => by cases h; simp
  | i + 1, n, h => by
    simp only [accL, Option.bind_eq_some_iff] at h
    obtain ⟨m, hm, h⟩ := h
    split at h
    · cases h
    · cases h
      have := accL_lt l i m hm
      have := hv_bd (l.getD i 0)
      rw [Nat.pow_succ]; omega
theorem accL_none {l : List UInt8} {i : Nat} (h : hv (l.getD i 0) < 0) : ∀ j, i < j → accL l j = none
  | 0, hj => by omega
  | j + 1, hj => by
    rcases Nat.lt_or_ge i j with h1 | h1
    · rw [accL, accL_none h j h1]; rfl
    · obtain rfl : i = j := by omega
      rw [accL]
      cases accL l i with
      | none => rfl
      | some n => exact if_pos h

def lowL (s : ByteArray) (k : Nat) : List UInt8 := Lib.toLowerD (s.extract k (k + 4)).data.toList
theorem four_at (s : ByteArray) (k : Nat) (h : k + 4 ≤ s.size) (i : Nat) (hi : i < 4) : ((s.extract k (k + 4)).data.toList.getD i 0).toNat = bt s (k + i) := by
  rw [bt_eq s (k + i) (by omega)]
  have : (s.extract k (k + 4)).data.toList[i]? = some s[k + i] := by
    rw [Lib.extract_data]
    rw [Nat.add_sub_cancel_left, List.getElem?_take_of_lt hi, List.getElem?_drop, List.getElem?_eq_getElem (by simp; omega)]
    rfl
  rw [List.getD_eq_getElem?_getD, this]; rfl
theorem four_len (s : ByteArray) (k : Nat) (h : k + 4 ≤ s.size) : (s.extract k (k + 4)).data.toList.length = 4 := by
  rw [Lib.extract_data]; simp; omega
theorem low_cases (s : ByteArray) (k : Nat) (h : k + 4 ≤ s.size) :
    ((lowL s k).length = 4 ∧ ∀ i, i ≤ 4 → accL (lowL s k) i = hexTo s k i) ∨ (fourO s k = none ∧ ∃ q, q < 4 ∧ q < (lowL s k).length ∧ hv ((lowL s k).getD q 0) = -1) := by
  have hl := four_len s k h
  have ha := four_at s k h
  generalize ht : (s.extract k (k + 4)).data.toList = t at hl ha
  have hL : lowL s k = Lib.toLowerD t := by rw [lowL, ht]
  rw [hL]
  by_cases hb : ∃ b ∈ t, 128 ≤ b.toNat
  · right
    constructor
    · obtain ⟨b, hm, hb⟩ := hb
      obtain ⟨i, hi, rfl⟩ := List.getElem_of_mem hm
      have h1 := ha i (by omega)
      rw [List.getD_eq_getElem?_getD, List.getElem?_eq_getElem hi] at h1
      change t[i].toNat = bt s (k + i) at h1
      have h2 : hexO (bt s (k + i)) = none := by
        unfold hexO
        rw [if_neg (by omega), if_neg (by omega), if_neg (by omega)]
      rw [fourO, if_neg (by omega)]
      exact hexTo_none h2 4 (by omega)
    · obtain ⟨q, h1, h2, h3⟩ := low_bad t.length t (Nat.le_refl _) hb
      exact ⟨q, by omega, h2, h3⟩
  · left
    have hasc : ∀ b ∈ t, b.toNat < 128 := fun b hm => by
      rcases Nat.lt_or_ge b.toNat 128 with h1 | h1
      · exact h1
      · exact absurd ⟨b, hm, h1⟩ hb
    rw [Lib.toLowerD_ascii t hasc]
    unfold Lib.toLowerA
    refine ⟨by simpa using hl, ?_⟩
    intro i
    induction i with
    | zero => intro _; rfl
    | succ i ih =>
      intro hi
      have hg : (t.map Lib.lowerB).getD i 0 = Lib.lowerB (t.getD i 0) := by
        have hi2 : i < t.length := by omega
        simp [List.getD_eq_getElem?_getD, List.getElem?_eq_getElem hi2]
      rw [accL, hexTo, ih (by omega), hg, ← ha i (by omega), ← hv_low]
      cases hexTo s k i with
      | none => rfl
      | some n =>
        show (if hv (Lib.lowerB (t.getD i 0)) < 0 then none else some _) = Option.map _ (if hv (Lib.lowerB (t.getD i 0)) < 0 then none else some _)
        split <;> rfl
theorem low_bound {s : ByteArray} {k j : Nat} (h : k + 4 ≤ s.size) (hj : j < (lowL s k).length) (hg : ∀ i, i ≤ j → 0 ≤ hv ((lowL s k).getD i 0)) : j < 4 := by
  rcases low_cases s k h with ⟨h1, _⟩ | ⟨_, q, h1, h2, h3⟩
  · omega
  · rcases Nat.lt_or_ge j q with h4 | h4
    · omega
    · have := hg q h4; omega
theorem low_bad_at {s : ByteArray} {k j : Nat} (h : k + 4 ≤ s.size) (hj : j < (lowL s k).length) (hb : hv ((lowL s k).getD j 0) < 0) : fourO s k = none := by
  rcases low_cases s k h with ⟨h1, h2⟩ | ⟨h1, _⟩
  · rw [fourO, if_neg (by omega), ← h2 4 (by omega)]
    exact accL_none hb 4 (by omega)
  · exact h1
theorem low_end {s : ByteArray} {k n : Nat} (h : k + 4 ≤ s.size) (ha : accL (lowL s k) (lowL s k).length = some n) : fourO s k = some n := by
  rcases low_cases s k h with ⟨h1, h2⟩ | ⟨_, q, h1, h2, h3⟩
  · rw [fourO, if_neg (by omega), ← h2 4 (by omega)]
    rw [h1] at ha; exact ha
  · rw [accL_none (by omega) _ h2] at ha; cases ha

end Go.Proofs.YtomhbbchflblpaaGreatDoor
namespace Go.Proofs.YtomhbbchflblpaaGreatDoor
open Go.RowKit

/-- unicode.CaseRanges lies where the library reads it. -/
def Cases (w : World) : Prop := Lib.CaseVar (Tryz.lays204_ren.g 13) Lib.caseA w
theorem cases_keep {w w' : World} (h : Cases w) (hb : Below w.heap.size w w') : Cases w' := Lib.CaseVar_below h hb

theorem conv_bytes (w1 : World) (L : List UInt8) : ∃ W cap, (convert 9 22 (.string ⟨L.toArray⟩)).run Tryz.prog w1 = .ok (.slice (some ⟨w1.heap.size, 0, none⟩) L.length cap) W ∧ Below w1.heap.size w1 W ∧
    ∀ j, j < L.length → W.cell? ⟨w1.heap.size, j, none⟩ = some (.int .u8 (L.getD j 0).toNat) :=
  ⟨Lib.bytesWorld w1 5 ⟨L.toArray⟩, _, Lib.run_convert_string_bytes w1 _ _ _ ⟨L.toArray⟩ Tryz.underlying9 Tryz.underlying22 Tryz.underlying5,
    ⟨rfl, rfl, rfl, by rw [Lib.bytesWorld_size]; omega, fun k hk => Lib.bytesWorld_at_old _ _ _ _ hk⟩,
    fun j hj => Lib.bytesWorld_cell w1 5 ⟨L.toArray⟩ j hj⟩

def fdN (o : Option Nat) : Int := match o with | none => 0 | some n => (n : Int)
theorem ret_nb {a b : Int} {c d : Bool} (h : a = b) (k : c = d) : Ending.returned (.tuple #[.int .i64 a, .bool c]) = .returned (.tuple #[.int .i64 b, .bool d]) := by rw [h, k]

set_option maxHeartbeats 1000000 in
theorem iFour (s : ByteArray) (k : Nat) (p : Int) (w : World) (hs : s.size ≤ 1048576) (hk : k ≤ 2000000) (hp : p = (k : Int)) (hT : Tabs w) (hV : Cases w) :
    Calls Tryz.prog 98 #[.string s, .int .i64 p] w fun e w' => e = .returned (.tuple #[.int .i64 (fdN (fourO s k)), .bool (fourO s k).isSome]) ∧ Below w.heap.size w w' := by
  subst hp
  by_cases hin : s.size < k + 4
  · have H := Lib.hid (show fourO s k = none by rw [fourO, if_pos hin])
    have hd : decide ((s.size : Int) - 4 < (k : Int)) = true := decide_eq_true (by omega)
    clear hin hT hV
    go_enter Tryz.func98, Tryz.ntmps98
    go_wp2
    go_ret2
    exact ⟨by rw [H.out]; rfl, Below.refl _ _⟩
  have hd : decide ((s.size : Int) - 4 < (k : Int)) = false := decide_eq_false (by omega)
  have hin2 : k + 4 ≤ s.size := by omega
  have hf1 : (k : Int) + 4 ≤ s.size := by omega
  have hf2 : (0 : Int) ≤ (k : Int) + 4 := by omega
  have hf3 : (k : Int) ≤ (k : Int) + 4 := by omega
  clear hin
  have hc : Calls Tryz.prog 116 #[.string (s.extract k (k + 4))] w fun e w' => e = .returned (.string ⟨(lowL s k).toArray⟩) ∧ Below w.heap.size w w' :=
    Tryz.strings_ToLower_any (s.extract k (k + 4)) w (by rw [ByteArray.size_extract]; omega) hV hT
  have HB := Lib.hid (fun j => low_bound (j := j) hin2)
  have HN := Lib.hid (fun j => low_bad_at (j := j) hin2)
  have HE := Lib.hid (fun n => low_end (n := n) hin2)
  generalize lowL s k = L at hc HB HN HE
  have HC := Lib.hid hc
  clear hc hT hV
  go_enter Tryz.func98, Tryz.ntmps98
  go_wp2_with (go_at_call 116; refine HC.out.mono ?_; rintro e w1 ⟨rfl, hb1⟩; obtain ⟨W, cap, hcv, hbW, hcW⟩ := conv_bytes w1 L)
  have hbel := Lib.hid (bnext hb1 hbW)
  have HCW := Lib.hid hcW
  clear hb1 hbW hcW hcv hd hf1 hf2 hf3
  go_loop [6, 23] (fun n i => ∃ j m : Nat, j ≤ L.length ∧ j ≤ 4 ∧ i = .int .i64 j ∧ n = .int .i64 m ∧ accL L j = some m ∧ ∀ q, q < j → 0 ≤ hv (L.getD q 0)) (fun _ i => L.length - (intOf i).toNat)
  case atStart => exact ⟨0, 0, by omega, by omega, rfl, rfl, rfl, fun q hq => by omega⟩
  case round =>
    obtain ⟨j, m, hj, hj4, rfl, rfl, hx, hall⟩ := hrel
    have hm : m ≤ 1048576 := by
      have h1 := accL_lt L j m hx
      have h2 : (16 : Nat) ^ j ≤ 16 ^ 4 := Nat.pow_le_pow_right (by omega) (by omega)
      have h3 : (16 : Nat) ^ 4 = 65536 := rfl
      omega
    have HX := Lib.hid hx; have HA := Lib.hid hall
    clear hx hall
    by_cases hlt : j < L.length
    · have c0 := HCW.out j hlt
      have hcx : ∀ w0 : World, Calls Tryz.prog 25 #[.string hexDig, .int .u8 ((L.getD j 0).toNat : Int)] w0 fun e w' => e = .returned (.int .i64 (hv (L.getD j 0))) ∧ w0 = w' := fun w0 => by
        have := Tryz.strings_IndexByte hexDig ((L.getD j 0).toNat : Int) w0
        refine this.mono fun e w' ⟨h1, h2⟩ => ⟨by simpa [hv] using h1, h2.symm⟩
      have hbd := hv_bd (L.getD j 0)
      have HS : Hid (accL L (j + 1) = (accL L j).bind fun n => if hv (L.getD j 0) < 0 then none else some (16 * n + (hv (L.getD j 0)).toNat)) := rfl
      have HB' := Lib.hid (HB.out j hlt); have HN' := Lib.hid (HN.out j hlt)
      have hall' : 0 ≤ hv (L.getD j 0) → ∀ q, q < j + 1 → 0 ≤ hv (L.getD q 0) := fun h q hq => by
        rcases Nat.lt_or_ge q j with h1 | h1
        · exact HA.out q h1
        · obtain rfl : q = j := by omega
          exact h
      have HA' := Lib.hid hall'
      generalize hv (L.getD j 0) = z at hcx hbd HS HN' HA'
      generalize (L.getD j 0).toNat = cb at c0 hcx
      have HC := Lib.hid hcx
      clear hcx hall'
      by_cases hz : z < 0
      · have H := Lib.hid (HN'.out hz)
        go_wp2_with (go_at_call 25; refine (HC.out _).mono ?_; rintro e w2 ⟨rfl, rfl⟩)
        go_ret2
        exact ⟨by rw [H.out]; rfl, hbel.out⟩
      · have hz0 : 0 ≤ z := by omega
        have hz1 : z ≤ 15 := by omega
        obtain ⟨d, rfl⟩ := Int.eq_ofNat_of_zero_le hz0
        have hd : decide ((d : Int) < 0) = false := decide_eq_false (by omega)
        have hj5 := HB'.out (fun q hq => HA'.out hz0 q (by omega))
        clear hz hbd
        go_wp2_with (go_at_call 25; refine (HC.out _).mono ?_; rintro e w2 ⟨rfl, rfl⟩)
        go_round
        case rel => exact ⟨j + 1, 16 * m + d, by omega, by omega, by go_num, by go_num, by rw [HS.out, HX.out]; simp, HA'.out hz0⟩
        case measure => simp [intOf]; omega
    · obtain rfl : j = L.length := by omega
      have H := Lib.hid (HE.out m HX.out)
      go_wp2
      go_ret2
      exact ⟨by rw [H.out]; rfl, hbel.out⟩

end Go.Proofs.YtomhbbchflblpaaGreatDoor
namespace Go.Proofs.YtomhbbchflblpaaGreatDoor
open Go.RowKit

def escLet : ByteArray := ⟨#[98, 102, 110, 114, 116]⟩
theorem let_none (c : UInt8) (h : c.toNat ≠ 98 ∧ c.toNat ≠ 102 ∧ c.toNat ≠ 110 ∧ c.toNat ≠ 114 ∧ c.toNat ≠ 116) : Lib.indexByte escLet.data.toList c = -1 :=
  u8_all (P := fun c => (c.toNat ≠ 98 ∧ c.toNat ≠ 102 ∧ c.toNat ≠ 110 ∧ c.toNat ≠ 114 ∧ c.toNat ≠ 116) → Lib.indexByte escLet.data.toList c = -1) (by decide +kernel) c h
theorem let_at (c : UInt8) (b : Nat) (h : c.toNat = b) (i : Int) (hi : Lib.indexByte escLet.data.toList (UInt8.ofNat b) = i) : Lib.indexByte escLet.data.toList c = i := by
  have : c = UInt8.ofNat b := by rw [← h]; simp
  rw [this, hi]
theorem iLet (c : UInt8) (w0 : World) : Calls Tryz.prog 25 #[.string escLet, .int .u8 (c.toNat : Int)] w0 fun e w' => e = .returned (.int .i64 (Lib.indexByte escLet.data.toList c)) ∧ w0 = w' := by
  refine (Tryz.strings_IndexByte escLet (c.toNat : Int) w0).mono fun e w' ⟨h1, h2⟩ => ⟨by simpa using h1, h2.symm⟩

set_option maxHeartbeats 4000000 in
set_option maxRecDepth 100000 in
theorem iEscape (s : ByteArray) (k : Nat) (p : Int) (w : World) (hs : s.size ≤ 1048576) (hk : k ≤ 1048577) (hp : p = (k : Int)) (hT : Tabs w) (hV : Cases w) :
    Calls Tryz.prog 65 #[.string s, .int .i64 p] w fun e w' => e = .returned (.tuple #[.int .i64 (stN (escO s k)), .int .i64 (stE (escO s k))]) ∧ Below w.heap.size w w' := by
  subst hp
  have HTV := Lib.hid (And.intro hT hV); clear hT hV
  by_cases hin : s.size ≤ k
  · have H := Lib.hid (esc_out hin)
    go_enter Tryz.func65, Tryz.ntmps65
    go_wp2
    go_ret2
    exact ⟨by rw [H.out]; rfl, Below.refl _ _⟩
  have hks : k < s.size := by omega
  clear hin
  have hbt := bt_eq s k hks
  have h255 : (s[k].toNat : Int) ≤ 255 := by have := UInt8.toNat_lt s[k]; omega
  have hix := iLet s[k]
  by_cases c34 : s[k].toNat = 34
  · have H := Lib.hid (esc_lit hks (hbt.trans c34) (by omega))
    have d34 : ((s[k].toNat : Int) == 34) = true := by simp; omega
    have hc := Lib.hid (show (s[k].toNat : Int) = 34 by omega)
    clear c34 hbt hix
    go_enter Tryz.func65, Tryz.ntmps65
    go_wp2
    go_ret2
    exact ⟨by rw [H.out]; exact ret_at hc.out rfl, Below.refl _ _⟩
  have d34 : ((s[k].toNat : Int) == 34) = false := by simp; omega
  by_cases c92 : s[k].toNat = 92
  · have H := Lib.hid (esc_lit hks (hbt.trans c92) (by omega))
    have d92 : ((s[k].toNat : Int) == 92) = true := by simp; omega
    have hc := Lib.hid (show (s[k].toNat : Int) = 92 by omega)
    clear c92 hbt hix
    go_enter Tryz.func65, Tryz.ntmps65
    go_wp2
    go_ret2
    exact ⟨by rw [H.out]; exact ret_at hc.out rfl, Below.refl _ _⟩
  have d92 : ((s[k].toNat : Int) == 92) = false := by simp; omega
  by_cases c47 : s[k].toNat = 47
  · have H := Lib.hid (esc_lit hks (hbt.trans c47) (by omega))
    have d47 : ((s[k].toNat : Int) == 47) = true := by simp; omega
    have hc := Lib.hid (show (s[k].toNat : Int) = 47 by omega)
    clear c47 hbt hix
    go_enter Tryz.func65, Tryz.ntmps65
    go_wp2
    go_ret2
    exact ⟨by rw [H.out]; exact ret_at hc.out rfl, Below.refl _ _⟩
  have d47 : ((s[k].toNat : Int) == 47) = false := by simp; omega
  by_cases c98 : s[k].toNat = 98
  · have H := Lib.hid (esc_ctl (c := 8) hks (hbt.trans c98) (by omega))
    rw [let_at s[k] 98 c98 0 rfl] at hix
    have HIX := Lib.hid hix
    clear hbt hix c34 c92 c47 c98
    go_enter Tryz.func65, Tryz.ntmps65
    go_wp2_with (go_at_call 25; refine (HIX.out _).mono ?_; rintro e w' ⟨rfl, rfl⟩)
    go_ret2
    exact ⟨by rw [H.out]; exact ret_at (show _ = ((8 : Nat) : Int) by decide +kernel) rfl, Below.refl _ _⟩
  by_cases c102 : s[k].toNat = 102
  · have H := Lib.hid (esc_ctl (c := 12) hks (hbt.trans c102) (by omega))
    rw [let_at s[k] 102 c102 1 rfl] at hix
    have HIX := Lib.hid hix
    clear hbt hix c34 c92 c47 c98 c102
    go_enter Tryz.func65, Tryz.ntmps65
    go_wp2_with (go_at_call 25; refine (HIX.out _).mono ?_; rintro e w' ⟨rfl, rfl⟩)
    go_ret2
    exact ⟨by rw [H.out]; exact ret_at (show _ = ((12 : Nat) : Int) by decide +kernel) rfl, Below.refl _ _⟩
  by_cases c110 : s[k].toNat = 110
  · have H := Lib.hid (esc_ctl (c := 10) hks (hbt.trans c110) (by omega))
    rw [let_at s[k] 110 c110 2 rfl] at hix
    have HIX := Lib.hid hix
    clear hbt hix c34 c92 c47 c98 c102 c110
    go_enter Tryz.func65, Tryz.ntmps65
    go_wp2_with (go_at_call 25; refine (HIX.out _).mono ?_; rintro e w' ⟨rfl, rfl⟩)
    go_ret2
    exact ⟨by rw [H.out]; exact ret_at (show _ = ((10 : Nat) : Int) by decide +kernel) rfl, Below.refl _ _⟩
  by_cases c114 : s[k].toNat = 114
  · have H := Lib.hid (esc_ctl (c := 13) hks (hbt.trans c114) (by omega))
    rw [let_at s[k] 114 c114 3 rfl] at hix
    have HIX := Lib.hid hix
    clear hbt hix c34 c92 c47 c98 c102 c110 c114
    go_enter Tryz.func65, Tryz.ntmps65
    go_wp2_with (go_at_call 25; refine (HIX.out _).mono ?_; rintro e w' ⟨rfl, rfl⟩)
    go_ret2
    exact ⟨by rw [H.out]; exact ret_at (show _ = ((13 : Nat) : Int) by decide +kernel) rfl, Below.refl _ _⟩
  by_cases c116 : s[k].toNat = 116
  · have H := Lib.hid (esc_ctl (c := 9) hks (hbt.trans c116) (by omega))
    rw [let_at s[k] 116 c116 4 rfl] at hix
    have HIX := Lib.hid hix
    clear hbt hix c34 c92 c47 c98 c102 c110 c114 c116
    go_enter Tryz.func65, Tryz.ntmps65
    go_wp2_with (go_at_call 25; refine (HIX.out _).mono ?_; rintro e w' ⟨rfl, rfl⟩)
    go_ret2
    exact ⟨by rw [H.out]; exact ret_at (show _ = ((9 : Nat) : Int) by decide +kernel) rfl, Below.refl _ _⟩
  rw [let_none s[k] ⟨c98, c102, c110, c114, c116⟩] at hix
  have HIX := Lib.hid hix
  have HF1 := Lib.hid (fun w0 hT hV => iFour s (k + 1) ((k : Int) + 1) w0 hs (by omega) (by omega) hT hV)
  clear hix
  by_cases c9 : s[k].toNat = 117
  rotate_left
  · have H := Lib.hid (esc_other (s := s) (k := k) (by omega))
    have d9 : ((s[k].toNat : Int) != 117) = true := by simp; omega
    generalize fdN (fourO s (k + 1)) = z1 at HF1
    generalize (fourO s (k + 1)).isSome = z2 at HF1
    clear hbt c34 c92 c47 c98 c102 c110 c114 c116 c9
    go_enter Tryz.func65, Tryz.ntmps65
    go_wp2_with (first | (go_at_call 25; refine (HIX.out _).mono ?_; rintro e w' ⟨rfl, rfl⟩) | (go_at_call 98; (with_reducible refine (HF1.out _ HTV.out.1 HTV.out.2).mono ?_); rintro e w1 ⟨rfl, hb1⟩))
    go_ret2
    exact ⟨by rw [H.out]; rfl, hb1⟩
  have hb := Lib.hid (hbt.trans c9)
  have e9 : ((s[k].toNat : Int) != 117) = false := by rw [c9]; rfl
  clear hbt c34 c92 c47 c98 c102 c110 c114 c116 c9

  cases hf : fourO s (k + 1) with
  | none =>
    have H := Lib.hid (esc_u0 hks hb.out hf)
    rw [hf] at HF1
    simp only [fdN, Option.isSome_none] at HF1
    clear hf
    go_enter Tryz.func65, Tryz.ntmps65
    go_wp2_with (first | (go_at_call 25; refine (HIX.out _).mono ?_; rintro e w' ⟨rfl, rfl⟩) | (go_at_call 98; (with_reducible refine (HF1.out _ HTV.out.1 HTV.out.2).mono ?_); rintro e w1 ⟨rfl, hb1⟩) | (go_at_call 77; refine (within_any _ _ _ _).mono ?_; rintro e w' ⟨rfl, rfl⟩))
    go_ret2
    exact ⟨by rw [H.out]; rfl, hb1⟩
  | some n =>
    have hn := (fourO_some hf).2
    have hn4 := (fourO_some hf).1
    rw [hf] at HF1
    simp only [fdN, Option.isSome_some] at HF1
    by_cases g1 : 56320 ≤ n ∧ n ≤ 57343
    · have H := Lib.hid (esc_u1 hks hb.out hf g1)
      have hbw : betweenB (n : Int) 56320 57343 = true := by simp [betweenB]; omega
      clear hf
      go_enter Tryz.func65, Tryz.ntmps65
      go_wp2_with (first | (go_at_call 25; refine (HIX.out _).mono ?_; rintro e w' ⟨rfl, rfl⟩) | (go_at_call 98; (with_reducible refine (HF1.out _ HTV.out.1 HTV.out.2).mono ?_); rintro e w1 ⟨rfl, hb1⟩) | (go_at_call 77; refine (within_any _ _ _ _).mono ?_; rintro e w' ⟨rfl, rfl⟩))
      go_ret2
      exact ⟨by rw [H.out]; rfl, hb1⟩
    have hbw : betweenB (n : Int) 56320 57343 = false := by simp [betweenB]; omega
    by_cases g2 : 55296 ≤ n ∧ n ≤ 56319
    rotate_left
    · have H := Lib.hid (esc_u2 hks hb.out hf g1 g2)
      have hbw2 : betweenB (n : Int) 55296 56319 = false := by simp [betweenB]; omega
      clear hf g1 g2
      go_enter Tryz.func65, Tryz.ntmps65
      go_wp2_with (first | (go_at_call 25; refine (HIX.out _).mono ?_; rintro e w' ⟨rfl, rfl⟩) | (go_at_call 98; (with_reducible refine (HF1.out _ HTV.out.1 HTV.out.2).mono ?_); rintro e w1 ⟨rfl, hb1⟩) | (go_at_call 77; refine (within_any _ _ _ _).mono ?_; rintro e w' ⟨rfl, rfl⟩))
      go_ret2
      exact ⟨by rw [H.out]; exact ret_at rfl rfl, hb1⟩
    have hbw2 : betweenB (n : Int) 55296 56319 = true := by simp [betweenB]; omega
    have hn1 : (55296 : Int) ≤ n := by omega
    have hn2 : (n : Int) ≤ 56319 := by omega
    have HU3 := Lib.hid (esc_u3 hks hb.out hf g2)
    have HU4 := Lib.hid (fun m => esc_u4 (m := m) hks hb.out hf g2)
    have HU5 := Lib.hid (fun m => esc_u5 (m := m) hks hb.out hf g2)
    clear hf g1 g2
    have HF7 := Lib.hid (fun w0 hT hV => iFour s (k + 7) ((k : Int) + 7) w0 hs (by omega) (by omega) hT hV)
    cases hg : fourO s (k + 7) with
    | none =>
      have H := Lib.hid (HU3.out (.inr hg))
      rw [hg] at HF7
      simp only [fdN, Option.isSome_none] at HF7
      clear hg
      go_enter Tryz.func65, Tryz.ntmps65
      go_wp2_with (first | (go_at_call 25; refine (HIX.out _).mono ?_; rintro e w' ⟨rfl, rfl⟩) | (go_at_call 98; (with_reducible refine (HF1.out _ HTV.out.1 HTV.out.2).mono ?_); rintro e w1 ⟨rfl, hb1⟩) | (go_at_call 98; (with_reducible refine (HF7.out _ (tabs_keep HTV.out.1 hb1) (cases_keep HTV.out.2 hb1)).mono ?_); rintro e w2 ⟨rfl, hb2⟩) | (go_at_call 77; refine (within_any _ _ _ _).mono ?_; rintro e w' ⟨rfl, rfl⟩))
      go_ret2
      exact ⟨by rw [H.out]; rfl, bnext hb1 hb2⟩
    | some m =>
      rw [hg] at HF7
      simp only [fdN, Option.isSome_some] at HF7
      have hm := (fourO_some hg).2
      have hm4 := (fourO_some hg).1
      have k5 : k + 5 < s.size := by omega
      have k6 : k + 6 < s.size := by omega
      have hb5 := Lib.hid (bt_eq s (k + 5) k5)
      have hb6 := Lib.hid (bt_eq s (k + 6) k6)
      by_cases g5 : s[k + 5].toNat = 92
      rotate_left
      · have H := Lib.hid (HU3.out (.inl (by rw [hb5.out]; omega)))
        have n5 : ((s[k + 5].toNat : Int) != 92) = true := by simp; omega
        clear g5 hg
        go_enter Tryz.func65, Tryz.ntmps65
        go_wp2_with (first | (go_at_call 25; refine (HIX.out _).mono ?_; rintro e w' ⟨rfl, rfl⟩) | (go_at_call 98; (with_reducible refine (HF1.out _ HTV.out.1 HTV.out.2).mono ?_); rintro e w1 ⟨rfl, hb1⟩) | (go_at_call 98; (with_reducible refine (HF7.out _ (tabs_keep HTV.out.1 hb1) (cases_keep HTV.out.2 hb1)).mono ?_); rintro e w2 ⟨rfl, hb2⟩) | (go_at_call 77; refine (within_any _ _ _ _).mono ?_; rintro e w' ⟨rfl, rfl⟩))
        go_ret2
        exact ⟨by rw [H.out]; rfl, bnext hb1 hb2⟩
      have n5 : ((s[k + 5].toNat : Int) != 92) = false := by rw [g5]; rfl
      by_cases g6 : s[k + 6].toNat = 117
      rotate_left
      · have H := Lib.hid (HU3.out (.inl (by rw [hb6.out]; omega)))
        have n6 : ((s[k + 6].toNat : Int) != 117) = true := by simp; omega
        clear g5 g6 hg
        go_enter Tryz.func65, Tryz.ntmps65
        go_wp2_with (first | (go_at_call 25; refine (HIX.out _).mono ?_; rintro e w' ⟨rfl, rfl⟩) | (go_at_call 98; (with_reducible refine (HF1.out _ HTV.out.1 HTV.out.2).mono ?_); rintro e w1 ⟨rfl, hb1⟩) | (go_at_call 98; (with_reducible refine (HF7.out _ (tabs_keep HTV.out.1 hb1) (cases_keep HTV.out.2 hb1)).mono ?_); rintro e w2 ⟨rfl, hb2⟩) | (go_at_call 77; refine (within_any _ _ _ _).mono ?_; rintro e w' ⟨rfl, rfl⟩))
        go_ret2
        exact ⟨by rw [H.out]; rfl, bnext hb1 hb2⟩
      have n6 : ((s[k + 6].toNat : Int) != 117) = false := by rw [g6]; rfl
      have HB := Lib.hid (show bt s (k + 5) = 92 ∧ bt s (k + 6) = 117 from ⟨hb5.out.trans g5, hb6.out.trans g6⟩)
      clear g5 g6
      by_cases g4 : 56320 ≤ m ∧ m ≤ 57343
      rotate_left
      · have H := Lib.hid (HU4.out m HB.out hg g4)
        have hbw3 : betweenB (m : Int) 56320 57343 = false := by simp [betweenB]; omega
        clear hg g4
        go_enter Tryz.func65, Tryz.ntmps65
        go_wp2_with (first | (go_at_call 25; refine (HIX.out _).mono ?_; rintro e w' ⟨rfl, rfl⟩) | (go_at_call 98; (with_reducible refine (HF1.out _ HTV.out.1 HTV.out.2).mono ?_); rintro e w1 ⟨rfl, hb1⟩) | (go_at_call 98; (with_reducible refine (HF7.out _ (tabs_keep HTV.out.1 hb1) (cases_keep HTV.out.2 hb1)).mono ?_); rintro e w2 ⟨rfl, hb2⟩) | (go_at_call 77; refine (within_any _ _ _ _).mono ?_; rintro e w' ⟨rfl, rfl⟩))
        go_ret2
        exact ⟨by rw [H.out]; rfl, bnext hb1 hb2⟩
      · have H := Lib.hid (HU5.out m HB.out hg g4)
        have hbw3 : betweenB (m : Int) 56320 57343 = true := by simp [betweenB]; omega
        have hm1 : (56320 : Int) ≤ m := by omega
        have hm2 : (m : Int) ≤ 57343 := by omega
        clear hg g4
        go_enter Tryz.func65, Tryz.ntmps65
        go_wp2_with (first | (go_at_call 25; refine (HIX.out _).mono ?_; rintro e w' ⟨rfl, rfl⟩) | (go_at_call 98; (with_reducible refine (HF1.out _ HTV.out.1 HTV.out.2).mono ?_); rintro e w1 ⟨rfl, hb1⟩) | (go_at_call 98; (with_reducible refine (HF7.out _ (tabs_keep HTV.out.1 hb1) (cases_keep HTV.out.2 hb1)).mono ?_); rintro e w2 ⟨rfl, hb2⟩) | (go_at_call 77; refine (within_any _ _ _ _).mono ?_; rintro e w' ⟨rfl, rfl⟩))
        go_ret2
        exact ⟨by rw [H.out]; exact ret_at (by simp only [stN]; omega) (by simp only [stE]; omega), bnext hb1 hb2⟩

end Go.Proofs.YtomhbbchflblpaaGreatDoor
namespace Go.Proofs.YtomhbbchflblpaaGreatDoor
open Go.RowKit

set_option maxHeartbeats 4000000 in
set_option maxRecDepth 100000 in
theorem iReadQuoted (s : ByteArray) (p : Int) (w : World) (hs : s.size ≤ 1048576) (hT : Tabs w) (hV : Cases w) :
    Calls Tryz.prog 28 #[.string s, .int .i64 p] w fun e w' => e = .returned (.tuple #[.string (qText (readQ s p)), .int .i64 (qEnd (readQ s p))]) ∧ Below w.heap.size w w' := by
  have HTV := Lib.hid (And.intro hT hV); clear hT hV
  by_cases h0 : p < 0
  · have H := Lib.hid (readQ_out (s := s) (p := p) (by simp [betweenB]; omega))
    go_enter Tryz.func28, Tryz.ntmps28
    go_wp2
    go_ret2
    exact ⟨by rw [H.out]; rfl, Below.refl _ _⟩
  by_cases h1 : p < (s.size : Int)
  rotate_left
  · have H := Lib.hid (readQ_out (s := s) (p := p) (by simp [betweenB]; omega))
    go_enter Tryz.func28, Tryz.ntmps28
    go_wp2
    go_ret2
    exact ⟨by rw [H.out]; rfl, Below.refl _ _⟩
  obtain ⟨k0, rfl⟩ := Int.eq_ofNat_of_zero_le (show 0 ≤ p by omega)
  have hk0 : k0 < s.size := by omega
  clear h0 h1
  have hb0 := bt_eq s k0 hk0
  by_cases c0 : s[k0].toNat = 34
  rotate_left
  · have H := Lib.hid (readQ_not (s := s) (k := k0) (by omega))
    have n0 : ((s[k0].toNat : Int) != 34) = true := by simp; omega
    clear c0 hb0
    go_enter Tryz.func28, Tryz.ntmps28
    go_wp2
    go_ret2
    exact ⟨by rw [H.out]; rfl, Below.refl _ _⟩
  have n0 : ((s[k0].toNat : Int) != 34) = false := by rw [c0]; rfl
  have HR := Lib.hid (readQ_in hk0 (hb0.trans c0))
  clear c0 hb0
  obtain ⟨R, hR⟩ : ∃ R, R = rq s (s.size + 1) (k0 + 1) [] := ⟨_, rfl⟩
  have HRR := Lib.hid hR
  have HQ := Lib.hid (HR.out.trans hR.symm)
  clear hR HR
  go_enter Tryz.func28, Tryz.ntmps28
  go_wp2
  go_loopw [1, 6] (fun a v wr => ∃ (k f : Nat) (acc : List UInt8), k ≤ s.size ∧ a = .int .i64 k ∧ s.size < k + f ∧ rq s f k acc = R ∧ acc.length ≤ 4 * k ∧ Buf w wr v acc) (fun a _ _ => s.size - (intOf a).toNat)
  case atStart => exact ⟨k0 + 1, s.size + 1, [], by omega, by go_num, by omega, HRR.out.symm, by simp, Buf.lit w [] _ 0 rfl rfl (by omega)⟩
  case round =>
    obtain ⟨k, f, acc, hk, rfl, hf, hrq, hac, hbuf⟩ := hrel
    have HB := Lib.hid hbuf; have HF := Lib.hid hf; have HRQ := Lib.hid hrq
    clear hrq hf
    by_cases hlt : k < s.size
    rotate_left
    · have H := Lib.hid (HRQ.out.symm.trans (rq_out (by omega)))
      clear hbuf
      go_wp2
      go_ret2
      exact ⟨by rw [HQ.out, H.out]; rfl, HB.out.bel⟩
    have hb := bt_eq s k hlt
    by_cases c1 : s[k].toNat = 34
    · have H := Lib.hid (HRQ.out.symm.trans (rq_quote hlt HF.out (hb.trans c1)))
      have e1 : ((s[k].toNat : Int) != 34) = false := by rw [c1]; rfl
      have ht := hbuf.text
      clear hbuf hb c1
      go_wp2
      go_ret2
      exact ⟨by rw [HQ.out, H.out]; exact ret_sq rfl (by show _ = ((k + 1 : Nat) : Int); omega), HB.out.bel⟩
    have e1 : ((s[k].toNat : Int) != 34) = true := by simp; omega
    have HNQ := Lib.hid (show bt s k ≠ 34 by omega)
    have HTV2 := Lib.hid (And.intro (tabs_keep HTV.out.1 hbuf.bel) (cases_keep HTV.out.2 hbuf.bel))
    by_cases c2 : s[k].toNat = 92
    · have e2 : ((s[k].toNat : Int) == 92) = true := by rw [c2]; rfl
      have HS := Lib.hid (step_esc (hb.trans c2))
      have HE := Lib.hid (fun w0 hT hV => iEscape s (k + 1) ((k : Int) + 1) w0 hs (by omega) (by omega) hT hV)
      clear c1 c2 hb hbuf
      cases ho : escO s (k + 1) with
      | none =>
        have H := Lib.hid (HRQ.out.symm.trans (rq_bad hlt HNQ.out (HS.out.trans ho)))
        rw [ho] at HE
        clear ho
        simp only [stN, stE] at HE
        go_wp2_with (go_at_call 65; refine (HE.out _ HTV2.out.1 HTV2.out.2).mono ?_; rintro e w4 ⟨rfl, hb4⟩)
        go_ret2
        exact ⟨by rw [HQ.out, H.out]; rfl, bnext HB.out.bel hb4⟩
      | some x =>
        obtain ⟨n, k'⟩ := x
        obtain ⟨h1, h2, h3⟩ := escO_some ho
        obtain ⟨f', hf', hrq'⟩ := rq_step (acc := acc) hlt HF.out HNQ.out (HS.out.trans ho)
        have HF' := Lib.hid hf'; have HR' := Lib.hid (hrq'.trans HRQ.out)
        have HN := Lib.hid (rtext_size n)
        rw [ho] at HE
        clear ho hf' hrq'
        simp only [stN, stE] at HE
        go_wp2_with (first | (go_at_call 65; refine (HE.out _ HTV2.out.1 HTV2.out.2).mono ?_; rintro e w4 ⟨rfl, hb4⟩) | (go_at_call 66; refine (iRuneText _ _).mono ?_; rintro e w' ⟨rfl, rfl⟩) | (at_builtin; refine wpList_bufS (by rfl) _ _ (by rfl) _ _ w _ (by rfl) (HB.out.keep hb4) _ (by rfl) (by have := HN.out; show _ + (rtext (n : Int)).length ≤ _; omega) ?_; intro v2 w2 hb2))
        go_roundw
        case rel =>
          exact ⟨_, _, _, _, ⟨k', h2, rfl, f', HF'.out, acc ++ rtext (n : Int), HR'.out, by have := HN.out; rw [List.length_append]; omega, hb2⟩, rfl, rfl, rfl, rfl⟩
        case measure => simp [intOf]; omega
    · have e2 : ((s[k].toNat : Int) == 92) = false := by simp; omega
      have HN2 := Lib.hid (show bt s k ≠ 92 by omega)
      clear c1 c2 hb hbuf
      cases hbad : badD (Utf8.decode s k)
      · have hg := rAt_good s k (Utf8.decode s k).1 (Utf8.decode s k).2 hlt rfl hbad
        have hw1 := Lib.decode_width_pos s k hlt
        have hw2 := width_le s k hlt
        have hle := decode_le s k
        have HSB := Lib.hid (fun h => step_bad HN2.out (.inr h))
        have HSG := Lib.hid (step_good HN2.out hbad)
        clear hbad
        generalize Utf8.decode s k = d at hg hw1 hw2 hle HSB HSG
        obtain ⟨n, m⟩ := d
        obtain ⟨g1, g2⟩ := hg
        simp only at hw1 hw2 hle g1 g2
        have HG := Lib.hid (And.intro g1 g2)
        clear g1 g2
        by_cases h32 : n < 32
        · have H := Lib.hid (HRQ.out.symm.trans (rq_bad hlt HNQ.out (HSB.out h32)))
          have hd : (n : Int) < 32 := by omega
          clear h32
          go_wp2_with (go_at_call 59; refine (iRuneAt _ _ _ hs HTV2.out.1).mono ?_; rw [HG.out.1, HG.out.2]; rintro e w4 ⟨rfl, hb4⟩)
          go_ret2
          exact ⟨by rw [HQ.out, H.out]; rfl, bnext HB.out.bel hb4⟩
        · obtain ⟨f', hf', hrq'⟩ := rq_step (acc := acc) hlt HF.out HNQ.out (HSG.out h32)
          have HF' := Lib.hid hf'; have HR' := Lib.hid (hrq'.trans HRQ.out)
          have HN := Lib.hid (rtext_size n)
          have hd : decide ((n : Int) < 32) = false := decide_eq_false (by omega)
          clear h32 hf' hrq'
          go_wp2_with (first | (go_at_call 59; refine (iRuneAt _ _ _ hs HTV2.out.1).mono ?_; rw [HG.out.1, HG.out.2]; rintro e w4 ⟨rfl, hb4⟩) | (go_at_call 66; refine (iRuneText _ _).mono ?_; rintro e w' ⟨rfl, rfl⟩) | (at_builtin; refine wpList_bufS (by rfl) _ _ (by rfl) _ _ w _ (by rfl) (HB.out.keep hb4) _ (by rfl) (by have := HN.out; show _ + (rtext (n : Int)).length ≤ _; omega) ?_; intro v2 w2 hb2))
          go_roundw
          case rel =>
            exact ⟨_, _, _, _, ⟨k + m, hw2, by go_num, f', HF'.out, acc ++ rtext (n : Int), HR'.out, by have := HN.out; rw [List.length_append]; omega, hb2⟩, rfl, rfl, rfl, rfl⟩
          case measure => simp [intOf]; omega
      · obtain ⟨g1, g2⟩ := rAt_bad s k hbad
        have H := Lib.hid (HRQ.out.symm.trans (rq_bad hlt HNQ.out (step_bad HN2.out (.inl hbad))))
        have HG := Lib.hid (And.intro g1 g2)
        clear g1 g2 hbad
        go_wp2_with (go_at_call 59; refine (iRuneAt _ _ _ hs HTV2.out.1).mono ?_; rw [HG.out.1, HG.out.2]; rintro e w4 ⟨rfl, hb4⟩)
        go_ret2
        exact ⟨by rw [HQ.out, H.out]; rfl, bnext HB.out.bel hb4⟩

end Go.Proofs.YtomhbbchflblpaaGreatDoor
namespace Go.Proofs.YtomhbbchflblpaaGreatDoor
open Go.RowKit

theorem cases_of {W : World} (h : Lib.VarReads Tryz.prog W "unicode.CaseRanges" Rows.laid_unicode_CaseRanges) : Cases W :=
  caseVar_of_reads (ρ := Tryz.lays204_ren) { Tryz.lays204 with } Tryz.lays204.t206 ⟨by kernel_rfl, by kernel_rfl, by kernel_rfl, by kernel_rfl, by kernel_rfl, by kernel_rfl⟩ (Pinned.caseRanges_eq ▸ h)

end Go.Proofs.YtomhbbchflblpaaGreatDoor
namespace Go.Proofs.YtomhbbchflblpaaGreatDoor
open Go.RowKit

def stopL : ByteArray := ⟨#[46, 101, 69]⟩
theorem stop_none (c : UInt8) (h : c.toNat ≠ 46 ∧ c.toNat ≠ 101 ∧ c.toNat ≠ 69) : Lib.indexByte stopL.data.toList c = -1 :=
  u8_all (P := fun c => (c.toNat ≠ 46 ∧ c.toNat ≠ 101 ∧ c.toNat ≠ 69) → Lib.indexByte stopL.data.toList c = -1) (by decide +kernel) c h
theorem stop_at (c : UInt8) (b : Nat) (h : c.toNat = b) (i : Int) (hi : Lib.indexByte stopL.data.toList (UInt8.ofNat b) = i) : Lib.indexByte stopL.data.toList c = i := by
  have : c = UInt8.ofNat b := by rw [← h]; simp
  rw [this, hi]
theorem iStop (c : UInt8) (w0 : World) : Calls Tryz.prog 25 #[.string stopL, .int .u8 (c.toNat : Int)] w0 fun e w' => e = .returned (.int .i64 (Lib.indexByte stopL.data.toList c)) ∧ w0 = w' := by
  refine (Tryz.strings_IndexByte stopL (c.toNat : Int) w0).mono fun e w' ⟨h1, h2⟩ => ⟨by simpa using h1, h2.symm⟩

/-- strconv.ErrRange holds some error. -/
def Errs (w : World) : Prop := ∃ tp pv, w.var? Tryz.prog "strconv.ErrRange" = some #[.iface tp pv]
theorem errs_keep {w w' : World} (h : Errs w) (hb : Below w.heap.size w w') : Errs w' := by
  obtain ⟨tp, pv, h⟩ := h
  refine ⟨tp, pv, ?_⟩
  unfold World.var? at h ⊢
  cases hg : Tryz.prog.globalNamed "strconv.ErrRange" with
  | none => simp [hg] at h
  | some g =>
    simp only [hg, Option.bind_some] at h ⊢
    have hlt : g < w.heap.size := by
      rcases Nat.lt_or_ge g w.heap.size with h' | h'
      · exact h'
      · simp [Array.getElem?_eq_none h'] at h
    rw [hb.block g hlt]
    exact h
theorem iAtoiOk (t : ByteArray) (v : Int) (w : World) (hs : t.size ≤ 1048576) (h : Lib.atoiAll t.data.toList = .ok v) : Calls Tryz.prog 67 #[.string t] w fun e w' => e = .returned (.tuple #[.int .i64 v, .nilIface]) ∧ Below w.heap.size w w' := by
  refine (Tryz.strconv_Atoi_ok t (by omega) v h w).mono fun e w' ⟨h1, h2⟩ => ⟨h1, ?_⟩
  rcases h2 with rfl | ⟨u, rfl⟩
  · exact Below.refl _ _
  · exact ⟨rfl, rfl, rfl, by rw [Lib.bytesWorld_size]; omega, fun k hk => Lib.bytesWorld_at_old _ _ _ _ hk⟩
theorem iAtoiRange (t : ByteArray) (w : World) (hs : t.size ≤ 1048576) (h : Lib.atoiAll t.data.toList = .range) (hE : Errs w) :
    Calls Tryz.prog 67 #[.string t] w fun e w' => ∃ N : Nat, e = .returned (.tuple #[.int .i64 (Lib.atoiSat t.data.toList), .iface 116 (.pointer (some ⟨N, 0, none⟩))]) ∧ Below w.heap.size w w' := by
  obtain ⟨tp, pv, hE⟩ := hE
  refine (Tryz.strconv_Atoi_range_var t (by omega) h tp pv w hE).mono fun e w' h => ?_
  obtain ⟨N, h1, -, -, h4⟩ := h
  exact ⟨N, h1, h4⟩
theorem minus_list {s : ByteArray} {k q : Nat} (hk : k < s.size) (h1 : k + 1 ≤ q) (_h2 : q ≤ s.size) (h45 : bt s k = 45) : (s.extract k q).data.toList = 45 :: figs s (k + 1) q := by
  unfold figs
  rw [Lib.extract_data, Lib.extract_data]
  have hb := bt_eq s k hk
  have h3 : s[k] = 45 := UInt8.toNat_inj.1 (by rw [← hb, h45]; rfl)
  have h4 : s.data.toList.drop k = s[k] :: s.data.toList.drop (k + 1) := by
    rw [List.drop_eq_getElem_cons (by simpa using hk)]; rfl
  rw [h4, h3]
  have h5 : q - k = (q - (k + 1)) + 1 := by omega
  rw [h5, List.take_succ_cons]

set_option maxHeartbeats 4000000 in
set_option maxRecDepth 100000 in
theorem iReadWholeNeg (s : ByteArray) (k : Nat) (w : World) (hs : s.size ≤ 1048576) (hk : k < s.size) (c0 : s[k].toNat = 45) (hE : Errs w) :
    Calls Tryz.prog 30 #[.string s, .int .i64 (k : Int)] w fun e w' => e = .returned (.tuple #[.int .i64 (whoN (whoQ s (k : Int))), .int .i64 (whoE (whoQ s (k : Int)))]) ∧ Below w.heap.size w w' := by
  have HERR := Lib.hid hE; clear hE
  have hk0 : decide ((k : Int) < 0) = false := decide_eq_false (by omega)
  have hk1 : decide (s.size ≤ k) = false := decide_eq_false (by omega)
  have HQ := Lib.hid (who_in hk)
  have hbk := bt_eq s k hk
  have n0 : ((s[k].toNat : Int) == 45) = true := by rw [c0]; rfl
  have H45 := Lib.hid (show bt s k = 45 by omega)
  have HWF := Lib.hid (show whoFrom s k = (k + 1) from if_pos H45.out)
  clear c0 hbk
  go_enter Tryz.func30, Tryz.ntmps30
  go_wp2
  go_loop [6] (fun i => ∃ q : Nat, (k + 1) ≤ q ∧ q ≤ s.size ∧ i = .int .i64 (q : Int) ∧ ∀ i, (k + 1) ≤ i → i < q → dgAt s i = true) (fun i => s.size - (intOf i).toNat)
  case atStart => exact ⟨(k + 1), by omega, by omega, by go_num, fun i h1 h2 => by omega⟩
  case round =>
    obtain ⟨q, hfq, hq, rfl, hall⟩ := hrel
    by_cases hqs : q < s.size
    · have hbq0 := bt_eq s q hqs
      cases hdb : digitB (s[q].toNat : Int)
      · have hnd : dgAt s q = false := by
          cases h : dgAt s q
          · rfl
          · have := dgAt_iff.1 h; simp [digitB] at hdb; omega
        clear hbq0
        go_upto_region 9 with (first | (go_at_call 29; refine (isDigit_any _ _).mono ?_; rintro e w' ⟨rfl, rfl⟩))
        have HEN := Lib.hid (show Ends s (k + 1) q from ⟨hfq, hq, hall, fun _ => hnd⟩)
        clear hall
        by_cases e0 : q = (k + 1)
        · have he : ((q : Int) == (k : Int) + 1) = true := by rw [beq_iff_eq]; omega
          have HE0 := Lib.hid e0
          clear e0
          go_wp2
          go_ret2
          exact ⟨by rw [HQ.out, who_bad HWF.out HEN.out (.inl HE0.out)]; rfl, Below.refl _ _⟩
        have he : ((q : Int) == (k : Int) + 1) = false := by rw [beq_eq_false_iff_ne]; omega
        have hfs : (k + 1) < s.size := by omega
        have HH := Lib.hid (bt_eq s (k + 1) hfs)
        by_cases z2 : s[(k + 1)].toNat = 48
        · have d2 : ((s[(k + 1)].toNat : Int) == 48) = true := by rw [z2]; rfl
          by_cases z1 : (k + 1) + 1 < q
          · have d1 : (k : Int) + 1 + 1 < (q : Int) := by omega
            have HB := Lib.hid (show bt s (k + 1) = 48 ∧ (k + 1) + 1 < q from ⟨by rw [HH.out, z2], z1⟩)
            clear z1 z2
            go_wp2
            go_ret2
            exact ⟨by rw [HQ.out, who_bad HWF.out HEN.out (.inr (.inl HB.out))]; rfl, Below.refl _ _⟩
          have d1 : decide ((k : Int) + 1 + 1 < (q : Int)) = false := decide_eq_false (by omega)
          have HZ := Lib.hid (show bt s (k + 1) = 48 → q = (k + 1) + 1 from fun _ => by omega)
          clear z2
          have dq : decide ((q : Int) < (s.size : Int)) = true := decide_eq_true (by omega)
          have hbq := Lib.hid (bt_eq s q hqs)
          have hix := iStop s[q]
          by_cases c46 : s[q].toNat = 46
          · have HB := Lib.hid (show stopB s q = true by rw [stopB, hbq.out, c46, decide_eq_true hqs]; rfl)
            rw [stop_at s[q] 46 c46 0 rfl] at hix
            have HIX := Lib.hid hix
            clear c46 hix
            go_wp2_with (go_at_call 25; refine (HIX.out _).mono ?_; rintro e w' ⟨rfl, rfl⟩)
            go_ret2
            exact ⟨by rw [HQ.out, who_bad HWF.out HEN.out (.inr (.inr HB.out))]; rfl, Below.refl _ _⟩
          by_cases c101 : s[q].toNat = 101
          · have HB := Lib.hid (show stopB s q = true by rw [stopB, hbq.out, c101, decide_eq_true hqs]; rfl)
            rw [stop_at s[q] 101 c101 1 rfl] at hix
            have HIX := Lib.hid hix
            clear c101 hix
            go_wp2_with (go_at_call 25; refine (HIX.out _).mono ?_; rintro e w' ⟨rfl, rfl⟩)
            go_ret2
            exact ⟨by rw [HQ.out, who_bad HWF.out HEN.out (.inr (.inr HB.out))]; rfl, Below.refl _ _⟩
          by_cases c69 : s[q].toNat = 69
          · have HB := Lib.hid (show stopB s q = true by rw [stopB, hbq.out, c69, decide_eq_true hqs]; rfl)
            rw [stop_at s[q] 69 c69 2 rfl] at hix
            have HIX := Lib.hid hix
            clear c69 hix
            go_wp2_with (go_at_call 25; refine (HIX.out _).mono ?_; rintro e w' ⟨rfl, rfl⟩)
            go_ret2
            exact ⟨by rw [HQ.out, who_bad HWF.out HEN.out (.inr (.inr HB.out))]; rfl, Below.refl _ _⟩
          have HST := Lib.hid (show ¬ (q = (k + 1) ∨ (bt s (k + 1) = 48 ∧ (k + 1) + 1 < q) ∨ stopB s q = true) by
            rintro (h | ⟨h1, h2⟩ | h)
            · exact e0 h
            · have := HZ.out h1; omega
            · simp [stopB, hbq.out, c46, c101, c69] at h)
          rw [stop_none s[q] ⟨c46, c101, c69⟩] at hix
          have HIX := Lib.hid hix
          clear c46 c101 c69 hix
          have hcan := Lib.hid (show Canon (figs s (k + 1) q) from figs_canon HEN.out (by omega) HZ.out)
          have HW := Lib.hid (who_neg HWF.out HEN.out HST.out H45.out)
          have HAA := Lib.hid (atoi_minus hcan.out)
          rw [← minus_list hk (by omega) HEN.out.top H45.out] at HAA
          generalize hv : valFrom 0 (figs s (k + 1) q) = v at HW HAA
          clear hv
          have hx1 : (0 : Int) ≤ (k : Int) := by omega
          have hx2 : (k : Int) ≤ (q : Int) := by omega
          have hx3 : (q : Int) ≤ (s.size : Int) := by omega
          by_cases hv : v ≤ 9223372036854775808
          · have HR := Lib.hid (show whoO s k = some (-((v : Nat) : Int), q) by rw [HW.out, if_pos hv])
            have HAT := Lib.hid (fun w0 => iAtoiOk (s.extract k q) (-((v : Nat) : Int)) w0 (by rw [ByteArray.size_extract]; omega) (by have h := HAA.out; rw [if_pos hv] at h; exact h))
            clear hv
            go_wp2_with (first | (go_at_call 25; refine (HIX.out _).mono ?_; rintro e w' ⟨rfl, rfl⟩) | (go_at_call 67; refine (HAT.out _).mono ?_; rintro e w1 ⟨rfl, hb1⟩))
            go_ret2
            exact ⟨by rw [HQ.out, HR.out]; rfl, hb1⟩
          · have HR := Lib.hid (show whoO s k = none by rw [HW.out, if_neg hv])
            have HAT := Lib.hid (fun w0 hE => iAtoiRange (s.extract k q) w0 (by rw [ByteArray.size_extract]; omega) (by have h := HAA.out; rw [if_neg hv] at h; exact h) hE)
            clear hv
            go_wp2_with (first | (go_at_call 25; refine (HIX.out _).mono ?_; rintro e w' ⟨rfl, rfl⟩) | (go_at_call 67; refine (HAT.out _ HERR.out).mono ?_; rintro e w1 ⟨N, rfl, hb1⟩))
            go_ret2
            exact ⟨by rw [HQ.out, HR.out]; rfl, hb1⟩
        · have d2 : ((s[(k + 1)].toNat : Int) == 48) = false := by rw [beq_eq_false_iff_ne]; omega
          have HZ := Lib.hid (show bt s (k + 1) = 48 → q = (k + 1) + 1 from fun h => by rw [HH.out] at h; exact absurd h z2)
          clear z2
          have dq : decide ((q : Int) < (s.size : Int)) = true := decide_eq_true (by omega)
          have hbq := Lib.hid (bt_eq s q hqs)
          have hix := iStop s[q]
          by_cases c46 : s[q].toNat = 46
          · have HB := Lib.hid (show stopB s q = true by rw [stopB, hbq.out, c46, decide_eq_true hqs]; rfl)
            rw [stop_at s[q] 46 c46 0 rfl] at hix
            have HIX := Lib.hid hix
            clear c46 hix
            go_wp2_with (go_at_call 25; refine (HIX.out _).mono ?_; rintro e w' ⟨rfl, rfl⟩)
            go_ret2
            exact ⟨by rw [HQ.out, who_bad HWF.out HEN.out (.inr (.inr HB.out))]; rfl, Below.refl _ _⟩
          by_cases c101 : s[q].toNat = 101
          · have HB := Lib.hid (show stopB s q = true by rw [stopB, hbq.out, c101, decide_eq_true hqs]; rfl)
            rw [stop_at s[q] 101 c101 1 rfl] at hix
            have HIX := Lib.hid hix
            clear c101 hix
            go_wp2_with (go_at_call 25; refine (HIX.out _).mono ?_; rintro e w' ⟨rfl, rfl⟩)
            go_ret2
            exact ⟨by rw [HQ.out, who_bad HWF.out HEN.out (.inr (.inr HB.out))]; rfl, Below.refl _ _⟩
          by_cases c69 : s[q].toNat = 69
          · have HB := Lib.hid (show stopB s q = true by rw [stopB, hbq.out, c69, decide_eq_true hqs]; rfl)
            rw [stop_at s[q] 69 c69 2 rfl] at hix
            have HIX := Lib.hid hix
            clear c69 hix
            go_wp2_with (go_at_call 25; refine (HIX.out _).mono ?_; rintro e w' ⟨rfl, rfl⟩)
            go_ret2
            exact ⟨by rw [HQ.out, who_bad HWF.out HEN.out (.inr (.inr HB.out))]; rfl, Below.refl _ _⟩
          have HST := Lib.hid (show ¬ (q = (k + 1) ∨ (bt s (k + 1) = 48 ∧ (k + 1) + 1 < q) ∨ stopB s q = true) by
            rintro (h | ⟨h1, h2⟩ | h)
            · exact e0 h
            · have := HZ.out h1; omega
            · simp [stopB, hbq.out, c46, c101, c69] at h)
          rw [stop_none s[q] ⟨c46, c101, c69⟩] at hix
          have HIX := Lib.hid hix
          clear c46 c101 c69 hix
          have hcan := Lib.hid (show Canon (figs s (k + 1) q) from figs_canon HEN.out (by omega) HZ.out)
          have HW := Lib.hid (who_neg HWF.out HEN.out HST.out H45.out)
          have HAA := Lib.hid (atoi_minus hcan.out)
          rw [← minus_list hk (by omega) HEN.out.top H45.out] at HAA
          generalize hv : valFrom 0 (figs s (k + 1) q) = v at HW HAA
          clear hv
          have hx1 : (0 : Int) ≤ (k : Int) := by omega
          have hx2 : (k : Int) ≤ (q : Int) := by omega
          have hx3 : (q : Int) ≤ (s.size : Int) := by omega
          by_cases hv : v ≤ 9223372036854775808
          · have HR := Lib.hid (show whoO s k = some (-((v : Nat) : Int), q) by rw [HW.out, if_pos hv])
            have HAT := Lib.hid (fun w0 => iAtoiOk (s.extract k q) (-((v : Nat) : Int)) w0 (by rw [ByteArray.size_extract]; omega) (by have h := HAA.out; rw [if_pos hv] at h; exact h))
            clear hv
            go_wp2_with (first | (go_at_call 25; refine (HIX.out _).mono ?_; rintro e w' ⟨rfl, rfl⟩) | (go_at_call 67; refine (HAT.out _).mono ?_; rintro e w1 ⟨rfl, hb1⟩))
            go_ret2
            exact ⟨by rw [HQ.out, HR.out]; rfl, hb1⟩
          · have HR := Lib.hid (show whoO s k = none by rw [HW.out, if_neg hv])
            have HAT := Lib.hid (fun w0 hE => iAtoiRange (s.extract k q) w0 (by rw [ByteArray.size_extract]; omega) (by have h := HAA.out; rw [if_neg hv] at h; exact h) hE)
            clear hv
            go_wp2_with (first | (go_at_call 25; refine (HIX.out _).mono ?_; rintro e w' ⟨rfl, rfl⟩) | (go_at_call 67; refine (HAT.out _ HERR.out).mono ?_; rintro e w1 ⟨N, rfl, hb1⟩))
            go_ret2
            exact ⟨by rw [HQ.out, HR.out]; rfl, hb1⟩
      · have hyd : dgAt s q = true := dgAt_iff.2 (by simp [digitB] at hdb; omega)
        have HALL := Lib.hid (show ∀ i, (k + 1) ≤ i → i < q + 1 → dgAt s i = true from fun i h1 h2 => by
          rcases Nat.lt_or_ge i q with h | h
          · exact hall i h1 h
          · obtain rfl : i = q := by omega
            exact hyd)
        clear hall hyd hbq0
        go_wp2_with (go_at_call 29; refine (isDigit_any _ _).mono ?_; rintro e w' ⟨rfl, rfl⟩)
        go_round
        case rel => first | exact ⟨q + 1, by omega, by omega, by go_num, HALL.out⟩ | exact ⟨trivial, _, _, _, _, _, _, _, _, _, _, _, _, _, ⟨q + 1, by omega, by omega, by go_num, HALL.out⟩, rfl⟩
        case measure => simp [intOf]; omega
    · have hqe : q = s.size := by omega
      subst hqe
      clear hqs
      go_upto_region 9 with fail
      have HEN := Lib.hid (show Ends s (k + 1) s.size from ⟨hfq, Nat.le_refl _, hall, fun h => absurd h (by omega)⟩)
      clear hall
      by_cases e0 : s.size = (k + 1)
      · have he : ((s.size : Int) == (k : Int) + 1) = true := by rw [beq_iff_eq]; omega
        have HE0 := Lib.hid e0
        clear e0
        go_wp2
        go_ret2
        exact ⟨by rw [HQ.out, who_bad HWF.out HEN.out (.inl HE0.out)]; rfl, Below.refl _ _⟩
      have he : ((s.size : Int) == (k : Int) + 1) = false := by rw [beq_eq_false_iff_ne]; omega
      have hfs : (k + 1) < s.size := by omega
      have HH := Lib.hid (bt_eq s (k + 1) hfs)
      by_cases z2 : s[(k + 1)].toNat = 48
      · have d2 : ((s[(k + 1)].toNat : Int) == 48) = true := by rw [z2]; rfl
        by_cases z1 : (k + 1) + 1 < s.size
        · have d1 : (k : Int) + 1 + 1 < (s.size : Int) := by omega
          have HB := Lib.hid (show bt s (k + 1) = 48 ∧ (k + 1) + 1 < s.size from ⟨by rw [HH.out, z2], z1⟩)
          clear z1 z2
          go_wp2
          go_ret2
          exact ⟨by rw [HQ.out, who_bad HWF.out HEN.out (.inr (.inl HB.out))]; rfl, Below.refl _ _⟩
        have d1 : decide ((k : Int) + 1 + 1 < (s.size : Int)) = false := decide_eq_false (by omega)
        have HZ := Lib.hid (show bt s (k + 1) = 48 → s.size = (k + 1) + 1 from fun _ => by omega)
        clear z2
        have dq : decide ((s.size : Int) < (s.size : Int)) = false := decide_eq_false (by omega)
        have HST := Lib.hid (show ¬ (s.size = (k + 1) ∨ (bt s (k + 1) = 48 ∧ (k + 1) + 1 < s.size) ∨ stopB s s.size = true) by
          rintro (h | ⟨h1, h2⟩ | h)
          · exact e0 h
          · have := HZ.out h1; omega
          · rw [stopB, decide_eq_false (by omega)] at h; cases h)
        have hcan := Lib.hid (show Canon (figs s (k + 1) s.size) from figs_canon HEN.out (by omega) HZ.out)
        have HW := Lib.hid (who_neg HWF.out HEN.out HST.out H45.out)
        have HAA := Lib.hid (atoi_minus hcan.out)
        rw [← minus_list hk (by omega) HEN.out.top H45.out] at HAA
        generalize hv : valFrom 0 (figs s (k + 1) s.size) = v at HW HAA
        clear hv
        have hx1 : (0 : Int) ≤ (k : Int) := by omega
        have hx2 : (k : Int) ≤ (s.size : Int) := by omega
        have hx3 : (s.size : Int) ≤ (s.size : Int) := by omega
        by_cases hv : v ≤ 9223372036854775808
        · have HR := Lib.hid (show whoO s k = some (-((v : Nat) : Int), s.size) by rw [HW.out, if_pos hv])
          have HAT := Lib.hid (fun w0 => iAtoiOk (s.extract k s.size) (-((v : Nat) : Int)) w0 (by rw [ByteArray.size_extract]; omega) (by have h := HAA.out; rw [if_pos hv] at h; exact h))
          clear hv
          go_wp2_with (first | (go_at_call 67; refine (HAT.out _).mono ?_; rintro e w1 ⟨rfl, hb1⟩))
          go_ret2
          exact ⟨by rw [HQ.out, HR.out]; rfl, hb1⟩
        · have HR := Lib.hid (show whoO s k = none by rw [HW.out, if_neg hv])
          have HAT := Lib.hid (fun w0 hE => iAtoiRange (s.extract k s.size) w0 (by rw [ByteArray.size_extract]; omega) (by have h := HAA.out; rw [if_neg hv] at h; exact h) hE)
          clear hv
          go_wp2_with (first | (go_at_call 67; refine (HAT.out _ HERR.out).mono ?_; rintro e w1 ⟨N, rfl, hb1⟩))
          go_ret2
          exact ⟨by rw [HQ.out, HR.out]; rfl, hb1⟩
      · have d2 : ((s[(k + 1)].toNat : Int) == 48) = false := by rw [beq_eq_false_iff_ne]; omega
        have HZ := Lib.hid (show bt s (k + 1) = 48 → s.size = (k + 1) + 1 from fun h => by rw [HH.out] at h; exact absurd h z2)
        clear z2
        have dq : decide ((s.size : Int) < (s.size : Int)) = false := decide_eq_false (by omega)
        have HST := Lib.hid (show ¬ (s.size = (k + 1) ∨ (bt s (k + 1) = 48 ∧ (k + 1) + 1 < s.size) ∨ stopB s s.size = true) by
          rintro (h | ⟨h1, h2⟩ | h)
          · exact e0 h
          · have := HZ.out h1; omega
          · rw [stopB, decide_eq_false (by omega)] at h; cases h)
        have hcan := Lib.hid (show Canon (figs s (k + 1) s.size) from figs_canon HEN.out (by omega) HZ.out)
        have HW := Lib.hid (who_neg HWF.out HEN.out HST.out H45.out)
        have HAA := Lib.hid (atoi_minus hcan.out)
        rw [← minus_list hk (by omega) HEN.out.top H45.out] at HAA
        generalize hv : valFrom 0 (figs s (k + 1) s.size) = v at HW HAA
        clear hv
        have hx1 : (0 : Int) ≤ (k : Int) := by omega
        have hx2 : (k : Int) ≤ (s.size : Int) := by omega
        have hx3 : (s.size : Int) ≤ (s.size : Int) := by omega
        by_cases hv : v ≤ 9223372036854775808
        · have HR := Lib.hid (show whoO s k = some (-((v : Nat) : Int), s.size) by rw [HW.out, if_pos hv])
          have HAT := Lib.hid (fun w0 => iAtoiOk (s.extract k s.size) (-((v : Nat) : Int)) w0 (by rw [ByteArray.size_extract]; omega) (by have h := HAA.out; rw [if_pos hv] at h; exact h))
          clear hv
          go_wp2_with (first | (go_at_call 67; refine (HAT.out _).mono ?_; rintro e w1 ⟨rfl, hb1⟩))
          go_ret2
          exact ⟨by rw [HQ.out, HR.out]; rfl, hb1⟩
        · have HR := Lib.hid (show whoO s k = none by rw [HW.out, if_neg hv])
          have HAT := Lib.hid (fun w0 hE => iAtoiRange (s.extract k s.size) w0 (by rw [ByteArray.size_extract]; omega) (by have h := HAA.out; rw [if_neg hv] at h; exact h) hE)
          clear hv
          go_wp2_with (first | (go_at_call 67; refine (HAT.out _ HERR.out).mono ?_; rintro e w1 ⟨N, rfl, hb1⟩))
          go_ret2
          exact ⟨by rw [HQ.out, HR.out]; rfl, hb1⟩

set_option maxHeartbeats 4000000 in
set_option maxRecDepth 100000 in
theorem iReadWholePos (s : ByteArray) (k : Nat) (w : World) (hs : s.size ≤ 1048576) (hk : k < s.size) (c0 : s[k].toNat ≠ 45) (hE : Errs w) :
    Calls Tryz.prog 30 #[.string s, .int .i64 (k : Int)] w fun e w' => e = .returned (.tuple #[.int .i64 (whoN (whoQ s (k : Int))), .int .i64 (whoE (whoQ s (k : Int)))]) ∧ Below w.heap.size w w' := by
  have HERR := Lib.hid hE; clear hE
  have hk0 : decide ((k : Int) < 0) = false := decide_eq_false (by omega)
  have hk1 : decide (s.size ≤ k) = false := decide_eq_false (by omega)
  have HQ := Lib.hid (who_in hk)
  have hbk := bt_eq s k hk
  have n0 : ((s[k].toNat : Int) == 45) = false := by rw [beq_eq_false_iff_ne]; omega
  have H45 := Lib.hid (show bt s k ≠ 45 by omega)
  have HWF := Lib.hid (show whoFrom s k = k from if_neg H45.out)
  clear c0 hbk
  go_enter Tryz.func30, Tryz.ntmps30
  go_wp2
  go_loop [6] (fun i => ∃ q : Nat, k ≤ q ∧ q ≤ s.size ∧ i = .int .i64 (q : Int) ∧ ∀ i, k ≤ i → i < q → dgAt s i = true) (fun i => s.size - (intOf i).toNat)
  case atStart => exact ⟨k, by omega, by omega, rfl, fun i h1 h2 => by omega⟩
  case round =>
    obtain ⟨q, hfq, hq, rfl, hall⟩ := hrel
    by_cases hqs : q < s.size
    · have hbq0 := bt_eq s q hqs
      cases hdb : digitB (s[q].toNat : Int)
      · have hnd : dgAt s q = false := by
          cases h : dgAt s q
          · rfl
          · have := dgAt_iff.1 h; simp [digitB] at hdb; omega
        clear hbq0
        go_upto_region 9 with (first | (go_at_call 29; refine (isDigit_any _ _).mono ?_; rintro e w' ⟨rfl, rfl⟩))
        have HEN := Lib.hid (show Ends s k q from ⟨hfq, hq, hall, fun _ => hnd⟩)
        clear hall
        by_cases e0 : q = k
        · have he : ((q : Int) == (k : Int)) = true := by rw [beq_iff_eq]; omega
          have HE0 := Lib.hid e0
          clear e0
          go_wp2
          go_ret2
          exact ⟨by rw [HQ.out, who_bad HWF.out HEN.out (.inl HE0.out)]; rfl, Below.refl _ _⟩
        have he : ((q : Int) == (k : Int)) = false := by rw [beq_eq_false_iff_ne]; omega
        have hfs : k < s.size := by omega
        have HH := Lib.hid (bt_eq s k hfs)
        by_cases z2 : s[k].toNat = 48
        · have d2 : ((s[k].toNat : Int) == 48) = true := by rw [z2]; rfl
          by_cases z1 : k + 1 < q
          · have d1 : (k : Int) + 1 < (q : Int) := by omega
            have HB := Lib.hid (show bt s k = 48 ∧ k + 1 < q from ⟨by rw [HH.out, z2], z1⟩)
            clear z1 z2
            go_wp2
            go_ret2
            exact ⟨by rw [HQ.out, who_bad HWF.out HEN.out (.inr (.inl HB.out))]; rfl, Below.refl _ _⟩
          have d1 : decide ((k : Int) + 1 < (q : Int)) = false := decide_eq_false (by omega)
          have HZ := Lib.hid (show bt s k = 48 → q = k + 1 from fun _ => by omega)
          clear z2
          have dq : decide ((q : Int) < (s.size : Int)) = true := decide_eq_true (by omega)
          have hbq := Lib.hid (bt_eq s q hqs)
          have hix := iStop s[q]
          by_cases c46 : s[q].toNat = 46
          · have HB := Lib.hid (show stopB s q = true by rw [stopB, hbq.out, c46, decide_eq_true hqs]; rfl)
            rw [stop_at s[q] 46 c46 0 rfl] at hix
            have HIX := Lib.hid hix
            clear c46 hix
            go_wp2_with (go_at_call 25; refine (HIX.out _).mono ?_; rintro e w' ⟨rfl, rfl⟩)
            go_ret2
            exact ⟨by rw [HQ.out, who_bad HWF.out HEN.out (.inr (.inr HB.out))]; rfl, Below.refl _ _⟩
          by_cases c101 : s[q].toNat = 101
          · have HB := Lib.hid (show stopB s q = true by rw [stopB, hbq.out, c101, decide_eq_true hqs]; rfl)
            rw [stop_at s[q] 101 c101 1 rfl] at hix
            have HIX := Lib.hid hix
            clear c101 hix
            go_wp2_with (go_at_call 25; refine (HIX.out _).mono ?_; rintro e w' ⟨rfl, rfl⟩)
            go_ret2
            exact ⟨by rw [HQ.out, who_bad HWF.out HEN.out (.inr (.inr HB.out))]; rfl, Below.refl _ _⟩
          by_cases c69 : s[q].toNat = 69
          · have HB := Lib.hid (show stopB s q = true by rw [stopB, hbq.out, c69, decide_eq_true hqs]; rfl)
            rw [stop_at s[q] 69 c69 2 rfl] at hix
            have HIX := Lib.hid hix
            clear c69 hix
            go_wp2_with (go_at_call 25; refine (HIX.out _).mono ?_; rintro e w' ⟨rfl, rfl⟩)
            go_ret2
            exact ⟨by rw [HQ.out, who_bad HWF.out HEN.out (.inr (.inr HB.out))]; rfl, Below.refl _ _⟩
          have HST := Lib.hid (show ¬ (q = k ∨ (bt s k = 48 ∧ k + 1 < q) ∨ stopB s q = true) by
            rintro (h | ⟨h1, h2⟩ | h)
            · exact e0 h
            · have := HZ.out h1; omega
            · simp [stopB, hbq.out, c46, c101, c69] at h)
          rw [stop_none s[q] ⟨c46, c101, c69⟩] at hix
          have HIX := Lib.hid hix
          clear c46 c101 c69 hix
          have hcan := Lib.hid (show Canon (figs s k q) from figs_canon HEN.out (by omega) HZ.out)
          have HW := Lib.hid (who_pos HWF.out HEN.out HST.out H45.out)
          have HAA := Lib.hid (atoi_plain hcan.out)
          generalize hv : valFrom 0 (figs s k q) = v at HW HAA
          clear hv
          have hx1 : (0 : Int) ≤ (k : Int) := by omega
          have hx2 : (k : Int) ≤ (q : Int) := by omega
          have hx3 : (q : Int) ≤ (s.size : Int) := by omega
          by_cases hv : v < 9223372036854775808
          · have HR := Lib.hid (show whoO s k = some (((v : Nat) : Int), q) by rw [HW.out, if_pos hv])
            have HAT := Lib.hid (fun w0 => iAtoiOk (s.extract k q) (((v : Nat) : Int)) w0 (by rw [ByteArray.size_extract]; omega) (by have h := HAA.out; rw [if_pos hv] at h; exact h))
            clear hv
            go_wp2_with (first | (go_at_call 25; refine (HIX.out _).mono ?_; rintro e w' ⟨rfl, rfl⟩) | (go_at_call 67; refine (HAT.out _).mono ?_; rintro e w1 ⟨rfl, hb1⟩))
            go_ret2
            exact ⟨by rw [HQ.out, HR.out]; rfl, hb1⟩
          · have HR := Lib.hid (show whoO s k = none by rw [HW.out, if_neg hv])
            have HAT := Lib.hid (fun w0 hE => iAtoiRange (s.extract k q) w0 (by rw [ByteArray.size_extract]; omega) (by have h := HAA.out; rw [if_neg hv] at h; exact h) hE)
            clear hv
            go_wp2_with (first | (go_at_call 25; refine (HIX.out _).mono ?_; rintro e w' ⟨rfl, rfl⟩) | (go_at_call 67; refine (HAT.out _ HERR.out).mono ?_; rintro e w1 ⟨N, rfl, hb1⟩))
            go_ret2
            exact ⟨by rw [HQ.out, HR.out]; rfl, hb1⟩
        · have d2 : ((s[k].toNat : Int) == 48) = false := by rw [beq_eq_false_iff_ne]; omega
          have HZ := Lib.hid (show bt s k = 48 → q = k + 1 from fun h => by rw [HH.out] at h; exact absurd h z2)
          clear z2
          have dq : decide ((q : Int) < (s.size : Int)) = true := decide_eq_true (by omega)
          have hbq := Lib.hid (bt_eq s q hqs)
          have hix := iStop s[q]
          by_cases c46 : s[q].toNat = 46
          · have HB := Lib.hid (show stopB s q = true by rw [stopB, hbq.out, c46, decide_eq_true hqs]; rfl)
            rw [stop_at s[q] 46 c46 0 rfl] at hix
            have HIX := Lib.hid hix
            clear c46 hix
            go_wp2_with (go_at_call 25; refine (HIX.out _).mono ?_; rintro e w' ⟨rfl, rfl⟩)
            go_ret2
            exact ⟨by rw [HQ.out, who_bad HWF.out HEN.out (.inr (.inr HB.out))]; rfl, Below.refl _ _⟩
          by_cases c101 : s[q].toNat = 101
          · have HB := Lib.hid (show stopB s q = true by rw [stopB, hbq.out, c101, decide_eq_true hqs]; rfl)
            rw [stop_at s[q] 101 c101 1 rfl] at hix
            have HIX := Lib.hid hix
            clear c101 hix
            go_wp2_with (go_at_call 25; refine (HIX.out _).mono ?_; rintro e w' ⟨rfl, rfl⟩)
            go_ret2
            exact ⟨by rw [HQ.out, who_bad HWF.out HEN.out (.inr (.inr HB.out))]; rfl, Below.refl _ _⟩
          by_cases c69 : s[q].toNat = 69
          · have HB := Lib.hid (show stopB s q = true by rw [stopB, hbq.out, c69, decide_eq_true hqs]; rfl)
            rw [stop_at s[q] 69 c69 2 rfl] at hix
            have HIX := Lib.hid hix
            clear c69 hix
            go_wp2_with (go_at_call 25; refine (HIX.out _).mono ?_; rintro e w' ⟨rfl, rfl⟩)
            go_ret2
            exact ⟨by rw [HQ.out, who_bad HWF.out HEN.out (.inr (.inr HB.out))]; rfl, Below.refl _ _⟩
          have HST := Lib.hid (show ¬ (q = k ∨ (bt s k = 48 ∧ k + 1 < q) ∨ stopB s q = true) by
            rintro (h | ⟨h1, h2⟩ | h)
            · exact e0 h
            · have := HZ.out h1; omega
            · simp [stopB, hbq.out, c46, c101, c69] at h)
          rw [stop_none s[q] ⟨c46, c101, c69⟩] at hix
          have HIX := Lib.hid hix
          clear c46 c101 c69 hix
          have hcan := Lib.hid (show Canon (figs s k q) from figs_canon HEN.out (by omega) HZ.out)
          have HW := Lib.hid (who_pos HWF.out HEN.out HST.out H45.out)
          have HAA := Lib.hid (atoi_plain hcan.out)
          generalize hv : valFrom 0 (figs s k q) = v at HW HAA
          clear hv
          have hx1 : (0 : Int) ≤ (k : Int) := by omega
          have hx2 : (k : Int) ≤ (q : Int) := by omega
          have hx3 : (q : Int) ≤ (s.size : Int) := by omega
          by_cases hv : v < 9223372036854775808
          · have HR := Lib.hid (show whoO s k = some (((v : Nat) : Int), q) by rw [HW.out, if_pos hv])
            have HAT := Lib.hid (fun w0 => iAtoiOk (s.extract k q) (((v : Nat) : Int)) w0 (by rw [ByteArray.size_extract]; omega) (by have h := HAA.out; rw [if_pos hv] at h; exact h))
            clear hv
            go_wp2_with (first | (go_at_call 25; refine (HIX.out _).mono ?_; rintro e w' ⟨rfl, rfl⟩) | (go_at_call 67; refine (HAT.out _).mono ?_; rintro e w1 ⟨rfl, hb1⟩))
            go_ret2
            exact ⟨by rw [HQ.out, HR.out]; rfl, hb1⟩
          · have HR := Lib.hid (show whoO s k = none by rw [HW.out, if_neg hv])
            have HAT := Lib.hid (fun w0 hE => iAtoiRange (s.extract k q) w0 (by rw [ByteArray.size_extract]; omega) (by have h := HAA.out; rw [if_neg hv] at h; exact h) hE)
            clear hv
            go_wp2_with (first | (go_at_call 25; refine (HIX.out _).mono ?_; rintro e w' ⟨rfl, rfl⟩) | (go_at_call 67; refine (HAT.out _ HERR.out).mono ?_; rintro e w1 ⟨N, rfl, hb1⟩))
            go_ret2
            exact ⟨by rw [HQ.out, HR.out]; rfl, hb1⟩
      · have hyd : dgAt s q = true := dgAt_iff.2 (by simp [digitB] at hdb; omega)
        have HALL := Lib.hid (show ∀ i, k ≤ i → i < q + 1 → dgAt s i = true from fun i h1 h2 => by
          rcases Nat.lt_or_ge i q with h | h
          · exact hall i h1 h
          · obtain rfl : i = q := by omega
            exact hyd)
        clear hall hyd hbq0
        go_wp2_with (go_at_call 29; refine (isDigit_any _ _).mono ?_; rintro e w' ⟨rfl, rfl⟩)
        go_round
        case rel => first | exact ⟨q + 1, by omega, by omega, by go_num, HALL.out⟩ | exact ⟨trivial, _, _, _, _, _, _, _, _, _, _, _, _, _, ⟨q + 1, by omega, by omega, by go_num, HALL.out⟩, rfl⟩
        case measure => simp [intOf]; omega
    · have hqe : q = s.size := by omega
      subst hqe
      clear hqs
      go_upto_region 9 with fail
      have HEN := Lib.hid (show Ends s k s.size from ⟨hfq, Nat.le_refl _, hall, fun h => absurd h (by omega)⟩)
      clear hall
      by_cases e0 : s.size = k
      · have he : ((s.size : Int) == (k : Int)) = true := by rw [beq_iff_eq]; omega
        have HE0 := Lib.hid e0
        clear e0
        go_wp2
        go_ret2
        exact ⟨by rw [HQ.out, who_bad HWF.out HEN.out (.inl HE0.out)]; rfl, Below.refl _ _⟩
      have he : ((s.size : Int) == (k : Int)) = false := by rw [beq_eq_false_iff_ne]; omega
      have hfs : k < s.size := by omega
      have HH := Lib.hid (bt_eq s k hfs)
      by_cases z2 : s[k].toNat = 48
      · have d2 : ((s[k].toNat : Int) == 48) = true := by rw [z2]; rfl
        by_cases z1 : k + 1 < s.size
        · have d1 : (k : Int) + 1 < (s.size : Int) := by omega
          have HB := Lib.hid (show bt s k = 48 ∧ k + 1 < s.size from ⟨by rw [HH.out, z2], z1⟩)
          clear z1 z2
          go_wp2
          go_ret2
          exact ⟨by rw [HQ.out, who_bad HWF.out HEN.out (.inr (.inl HB.out))]; rfl, Below.refl _ _⟩
        have d1 : decide ((k : Int) + 1 < (s.size : Int)) = false := decide_eq_false (by omega)
        have HZ := Lib.hid (show bt s k = 48 → s.size = k + 1 from fun _ => by omega)
        clear z2
        have dq : decide ((s.size : Int) < (s.size : Int)) = false := decide_eq_false (by omega)
        have HST := Lib.hid (show ¬ (s.size = k ∨ (bt s k = 48 ∧ k + 1 < s.size) ∨ stopB s s.size = true) by
          rintro (h | ⟨h1, h2⟩ | h)
          · exact e0 h
          · have := HZ.out h1; omega
          · rw [stopB, decide_eq_false (by omega)] at h; cases h)
        have hcan := Lib.hid (show Canon (figs s k s.size) from figs_canon HEN.out (by omega) HZ.out)
        have HW := Lib.hid (who_pos HWF.out HEN.out HST.out H45.out)
        have HAA := Lib.hid (atoi_plain hcan.out)
        generalize hv : valFrom 0 (figs s k s.size) = v at HW HAA
        clear hv
        have hx1 : (0 : Int) ≤ (k : Int) := by omega
        have hx2 : (k : Int) ≤ (s.size : Int) := by omega
        have hx3 : (s.size : Int) ≤ (s.size : Int) := by omega
        by_cases hv : v < 9223372036854775808
        · have HR := Lib.hid (show whoO s k = some (((v : Nat) : Int), s.size) by rw [HW.out, if_pos hv])
          have HAT := Lib.hid (fun w0 => iAtoiOk (s.extract k s.size) (((v : Nat) : Int)) w0 (by rw [ByteArray.size_extract]; omega) (by have h := HAA.out; rw [if_pos hv] at h; exact h))
          clear hv
          go_wp2_with (first | (go_at_call 67; refine (HAT.out _).mono ?_; rintro e w1 ⟨rfl, hb1⟩))
          go_ret2
          exact ⟨by rw [HQ.out, HR.out]; rfl, hb1⟩
        · have HR := Lib.hid (show whoO s k = none by rw [HW.out, if_neg hv])
          have HAT := Lib.hid (fun w0 hE => iAtoiRange (s.extract k s.size) w0 (by rw [ByteArray.size_extract]; omega) (by have h := HAA.out; rw [if_neg hv] at h; exact h) hE)
          clear hv
          go_wp2_with (first | (go_at_call 67; refine (HAT.out _ HERR.out).mono ?_; rintro e w1 ⟨N, rfl, hb1⟩))
          go_ret2
          exact ⟨by rw [HQ.out, HR.out]; rfl, hb1⟩
      · have d2 : ((s[k].toNat : Int) == 48) = false := by rw [beq_eq_false_iff_ne]; omega
        have HZ := Lib.hid (show bt s k = 48 → s.size = k + 1 from fun h => by rw [HH.out] at h; exact absurd h z2)
        clear z2
        have dq : decide ((s.size : Int) < (s.size : Int)) = false := decide_eq_false (by omega)
        have HST := Lib.hid (show ¬ (s.size = k ∨ (bt s k = 48 ∧ k + 1 < s.size) ∨ stopB s s.size = true) by
          rintro (h | ⟨h1, h2⟩ | h)
          · exact e0 h
          · have := HZ.out h1; omega
          · rw [stopB, decide_eq_false (by omega)] at h; cases h)
        have hcan := Lib.hid (show Canon (figs s k s.size) from figs_canon HEN.out (by omega) HZ.out)
        have HW := Lib.hid (who_pos HWF.out HEN.out HST.out H45.out)
        have HAA := Lib.hid (atoi_plain hcan.out)
        generalize hv : valFrom 0 (figs s k s.size) = v at HW HAA
        clear hv
        have hx1 : (0 : Int) ≤ (k : Int) := by omega
        have hx2 : (k : Int) ≤ (s.size : Int) := by omega
        have hx3 : (s.size : Int) ≤ (s.size : Int) := by omega
        by_cases hv : v < 9223372036854775808
        · have HR := Lib.hid (show whoO s k = some (((v : Nat) : Int), s.size) by rw [HW.out, if_pos hv])
          have HAT := Lib.hid (fun w0 => iAtoiOk (s.extract k s.size) (((v : Nat) : Int)) w0 (by rw [ByteArray.size_extract]; omega) (by have h := HAA.out; rw [if_pos hv] at h; exact h))
          clear hv
          go_wp2_with (first | (go_at_call 67; refine (HAT.out _).mono ?_; rintro e w1 ⟨rfl, hb1⟩))
          go_ret2
          exact ⟨by rw [HQ.out, HR.out]; rfl, hb1⟩
        · have HR := Lib.hid (show whoO s k = none by rw [HW.out, if_neg hv])
          have HAT := Lib.hid (fun w0 hE => iAtoiRange (s.extract k s.size) w0 (by rw [ByteArray.size_extract]; omega) (by have h := HAA.out; rw [if_neg hv] at h; exact h) hE)
          clear hv
          go_wp2_with (first | (go_at_call 67; refine (HAT.out _ HERR.out).mono ?_; rintro e w1 ⟨N, rfl, hb1⟩))
          go_ret2
          exact ⟨by rw [HQ.out, HR.out]; rfl, hb1⟩

theorem iReadWhole (s : ByteArray) (p : Int) (w : World) (hs : s.size ≤ 1048576) (hE : Errs w) :
    Calls Tryz.prog 30 #[.string s, .int .i64 p] w fun e w' => e = .returned (.tuple #[.int .i64 (whoN (whoQ s p)), .int .i64 (whoE (whoQ s p))]) ∧ Below w.heap.size w w' := by
  by_cases h0 : p < 0
  · have H := Lib.hid (who_out (s := s) (p := p) (by omega))
    go_enter Tryz.func30, Tryz.ntmps30
    go_wp2
    go_ret2
    exact ⟨by rw [H.out]; rfl, Below.refl _ _⟩
  by_cases h1 : p < (s.size : Int)
  rotate_left
  · have H := Lib.hid (who_out (s := s) (p := p) (by omega))
    go_enter Tryz.func30, Tryz.ntmps30
    go_wp2
    go_ret2
    exact ⟨by rw [H.out]; rfl, Below.refl _ _⟩
  obtain ⟨k, rfl⟩ := Int.eq_ofNat_of_zero_le (show 0 ≤ p by omega)
  have hk : k < s.size := by omega
  by_cases c0 : s[k].toNat = 45
  · exact iReadWholeNeg s k w hs hk c0 hE
  · exact iReadWholePos s k w hs hk c0 hE

end Go.Proofs.YtomhbbchflblpaaGreatDoor
namespace Go.Proofs.YtomhbbchflblpaaGreatDoor
open Go.RowKit

theorem iface_cell {H : Type} {enc : TypeId × Value → H} {P : Program} {w : World} {base : Nat} {sp : Nat → Bool} {held : Bool} {fuel : Nat} {t : TypeId} {cs : List Value} {nm : String} {d : DataW H} {p : List MemPlace} {ms : Array (String × TypeId)}
    (hi : P.underlying t = some (.interface ms)) (h : DataW.trod enc P w base sp held fuel t cs = some (.iface nm d, p)) : ∃ u v, cs = [.iface u v] := by
  cases fuel with
  | zero => simp [DataW.trod] at h
  | succ fuel =>
    unfold DataW.trod at h
    rw [hi] at h
    split at h
    all_goals first
      | exact ⟨_, _, rfl⟩
      | (rename_i he; cases he; done)
      | (simp at h; done)
      | (rename_i h1 h2; cases h1; done)
      | (simp_all; done)
theorem errs_of {W : World} (h : Lib.VarReads Tryz.prog W "strconv.ErrRange" Rows.laid_strconv_ErrRange) : Errs W := by
  obtain ⟨g, t, cs, fuel, p, hg, ht, hv, hd⟩ := h
  have hg2 : Tryz.prog.globalNamed "strconv.ErrRange" = some 4 := by kernel_rfl
  have ht2 : (Tryz.prog.globals[4]?).map (·.type) = some 82 := by kernel_rfl
  obtain rfl := Option.some.inj (hg2.symm.trans hg)
  obtain rfl := Option.some.inj (ht2.symm.trans ht)
  obtain ⟨u, v, he⟩ := iface_cell Tryz.underlying82 hd
  refine ⟨u, v, ?_⟩
  rw [hv]
  congr 1
  obtain ⟨l⟩ := cs
  simp only at he
  rw [he]

end Go.Proofs.YtomhbbchflblpaaGreatDoor
