/- Plain law: whole numbers told in decimal digits. No program. -/
import Derived.Test.YtpcojfcbomkgpaaDoorRuneB
import Derived.Lib.ItoaNum
import Derived.Lib.AtoiAll
namespace Go.Proofs.YtpcojfcbomkgpaaDoor

def isDg (b : UInt8) : Bool := decide (48 ≤ b.toNat) && decide (b.toNat ≤ 57)
theorem isDg_iff {b : UInt8} : isDg b = true ↔ 48 ≤ b.toNat ∧ b.toNat ≤ 57 := by simp [isDg]
def dgStep (a : Nat) (b : UInt8) : Nat := 10 * a + (b.toNat - 48)
def valFrom (acc : Nat) (l : List UInt8) : Nat := l.foldl dgStep acc
theorem valFrom_nil (acc : Nat) : valFrom acc [] = acc := rfl
theorem valFrom_cons (acc : Nat) (b : UInt8) (r : List UInt8) : valFrom acc (b :: r) = valFrom (10 * acc + (b.toNat - 48)) r := List.foldl_cons ..
theorem valFrom_ge : ∀ (l : List UInt8) (acc : Nat), acc ≤ valFrom acc l
  | [], acc => by rw [valFrom_nil]; exact Nat.le_refl _
  | b :: r, acc => by
    have := valFrom_ge r (10 * acc + (b.toNat - 48))
    rw [valFrom_cons]; omega
theorem valFrom_app : ∀ (l m : List UInt8) (acc : Nat), valFrom acc (l ++ m) = valFrom (valFrom acc l) m
  | [], m, acc => by rw [List.nil_append, valFrom_nil]
  | b :: r, m, acc => by rw [List.cons_append, valFrom_cons, valFrom_cons, valFrom_app r m]
theorem valFrom_snoc (l : List UInt8) (b : UInt8) : valFrom 0 (l ++ [b]) = 10 * valFrom 0 l + (b.toNat - 48) := by rw [valFrom_app, valFrom_cons, valFrom_nil]
theorem parse_digits : ∀ (l : List UInt8) (acc : Nat), (∀ b ∈ l, isDg b = true) → acc < 18446744073709551616 →
    Lib.parseUint10 acc l = if valFrom acc l < 18446744073709551616 then .ok (valFrom acc l) else .range
  | [], acc, _, ha => by rw [Lib.parseUint10, valFrom_nil, if_pos ha]
  | b :: r, acc, hd, ha => by
    have hb := isDg_iff.1 (hd b (by simp))
    have hge := valFrom_ge r (10 * acc + (b.toNat - 48))
    rw [Lib.parseUint10, if_pos hb, valFrom_cons]
    by_cases h1 : 1844674407370955162 ≤ acc
    · rw [if_pos h1, if_neg (by omega)]
    · rw [if_neg h1]
      have e : acc * 10 + (b.toNat - 48) = 10 * acc + (b.toNat - 48) := by omega
      rw [e]
      by_cases h2 : 18446744073709551616 ≤ 10 * acc + (b.toNat - 48)
      · rw [if_pos h2, if_neg (by omega)]
      · rw [if_neg h2]
        exact parse_digits r _ (fun c hc => hd c (by simp [hc])) (by omega)

/-- Figures as a number is told: one at least, digits only, no nought ahead of others. -/
structure Canon (l : List UInt8) : Prop where
  ne : l ≠ []
  dg : ∀ b ∈ l, isDg b = true
  hd : 1 < l.length → (l.getD 0 0).toNat ≠ 48
theorem val_pos {l : List UInt8} (h : l ≠ []) (hd : 49 ≤ (l.getD 0 0).toNat) : 1 ≤ valFrom 0 l := by
  cases l with
  | nil => exact absurd rfl h
  | cons b r =>
    have := valFrom_ge r (10 * 0 + (b.toNat - 48))
    rw [valFrom_cons]
    have : 49 ≤ b.toNat := hd
    omega
theorem dec_val : ∀ (n : Nat) (l : List UInt8), l.length = n → Canon l → Lib.decDigits (valFrom 0 l) = l
  | 0, l, hl, h => absurd (List.eq_nil_of_length_eq_zero hl) h.ne
  | n + 1, l, hl, h => by
    obtain ⟨l', b, rfl⟩ : ∃ l' b, l = l' ++ [b] := ⟨l.dropLast, l.getLast h.ne, (List.dropLast_concat_getLast h.ne).symm⟩
    have hb := isDg_iff.1 (h.dg b (by simp))
    have hbb : UInt8.ofNat (48 + (b.toNat - 48)) = b := by
      rw [Nat.add_sub_cancel' hb.1]; simp
    rw [valFrom_snoc]
    by_cases h0 : l' = []
    · subst h0
      rw [Lib.decDigits, dif_pos (show 10 * valFrom 0 [] + (b.toNat - 48) < 10 by rw [valFrom_nil]; omega), valFrom_nil, Nat.mul_zero, Nat.zero_add, hbb]
      rfl
    · have hpos : 0 < l'.length := List.length_pos_iff.2 h0
      have hg : (l' ++ [b]).getD 0 0 = l'.getD 0 0 := by
        rw [List.getD_eq_getElem?_getD, List.getElem?_append_left hpos, ← List.getD_eq_getElem?_getD]
      have hh := h.hd (by simp; omega)
      rw [hg] at hh
      have hc : Canon l' := ⟨h0, fun c hc => h.dg c (by simp [hc]), fun _ => hh⟩
      have h49 : 49 ≤ (l'.getD 0 0).toNat := by
        have hm : l'.getD 0 0 ∈ l' := by
          rw [List.getD_eq_getElem?_getD, List.getElem?_eq_getElem hpos]; exact List.getElem_mem hpos
        have := isDg_iff.1 (hc.dg _ hm)
        omega
      have hv := val_pos h0 h49
      have ih := dec_val n l' (by simpa using hl) hc
      rw [Lib.decDigits, dif_neg (by omega)]
      have e1 : (10 * valFrom 0 l' + (b.toNat - 48)) / 10 = valFrom 0 l' := by omega
      have e2 : (10 * valFrom 0 l' + (b.toNat - 48)) % 10 = b.toNat - 48 := by omega
      rw [e1, e2, ih, hbb]
theorem dec_canon : ∀ (n u : Nat), u ≤ n → Canon (Lib.decDigits u) ∧ valFrom 0 (Lib.decDigits u) = u ∧ (1 ≤ u → (Lib.decDigits u).getD 0 0 ≠ 48)
  | 0, u, h => by
    obtain rfl : u = 0 := by omega
    rw [Lib.decDigits_one (by omega)]
    exact ⟨⟨by simp, by decide, by simp⟩, by rw [valFrom_cons, valFrom_nil]; rfl, fun h => by omega⟩
  | n + 1, u, h => by
    by_cases h10 : u < 10
    · rw [Lib.decDigits_one h10]
      have e : (UInt8.ofNat (48 + u)).toNat = 48 + u := by simp; omega
      refine ⟨⟨by simp, fun b hb => ?_, by simp⟩, ?_, fun h1 hq => ?_⟩
      · simp only [List.mem_singleton] at hb
        subst hb
        exact isDg_iff.2 (by omega)
      · rw [valFrom_cons, valFrom_nil, e]; omega
      · have h2 : UInt8.ofNat (48 + u) = 48 := hq
        have := congrArg UInt8.toNat h2
        rw [e] at this
        have h3 : (48 : UInt8).toNat = 48 := rfl
        omega
    · obtain ⟨h1, h2, h3⟩ := dec_canon n (u / 10) (by omega)
      rw [Lib.decDigits, dif_neg h10]
      have e : (UInt8.ofNat (48 + u % 10)).toNat = 48 + u % 10 := by simp; omega
      have hpos : 0 < (Lib.decDigits (u / 10)).length := List.length_pos_iff.2 h1.ne
      have hg : (Lib.decDigits (u / 10) ++ [UInt8.ofNat (48 + u % 10)]).getD 0 0 = (Lib.decDigits (u / 10)).getD 0 0 := by
        rw [List.getD_eq_getElem?_getD, List.getElem?_append_left hpos, ← List.getD_eq_getElem?_getD]
      have hh := h3 (by omega)
      refine ⟨⟨by simp, fun b hb => ?_, fun _ hq => ?_⟩, ?_, fun _ => by rw [hg]; exact hh⟩
      · simp only [List.mem_append, List.mem_singleton] at hb
        rcases hb with hb | rfl
        · exact h1.dg b hb
        · exact isDg_iff.2 (by omega)
      · rw [hg] at hq
        exact hh (UInt8.toNat_inj.1 hq)
      · rw [valFrom_snoc, h2, e]; omega

/-- strconv.Atoi over a sign that may stand ahead, and figures. -/
theorem atoi_plain {l : List UInt8} (h : Canon l) : Lib.atoiAll l = if valFrom 0 l < 9223372036854775808 then .ok ((valFrom 0 l : Nat) : Int) else .range := by
  cases l with
  | nil => exact absurd rfl h.ne
  | cons c r =>
    have hc := isDg_iff.1 (h.dg c (by simp))
    have hp := parse_digits (c :: r) 0 h.dg (by omega)
    unfold Lib.atoiAll
    simp only
    rw [if_neg (show ¬ (c.toNat = 43 ∨ c.toNat = 45) by omega), Lib.parseMag, if_neg (by simp), hp]
    have hn : ¬ c.toNat = 45 := by omega
    by_cases h1 : valFrom 0 (c :: r) < 18446744073709551616
    · rw [if_pos h1]
      simp only
      by_cases h2 : valFrom 0 (c :: r) < 9223372036854775808
      · rw [if_pos h2, if_neg (by omega), if_neg (by omega), if_neg hn]
      · rw [if_neg h2, if_pos ⟨hn, by omega⟩]
    · rw [if_neg h1, if_neg (by omega)]
theorem atoi_minus {l : List UInt8} (h : Canon l) : Lib.atoiAll (45 :: l) = if valFrom 0 l ≤ 9223372036854775808 then .ok (-((valFrom 0 l : Nat) : Int)) else .range := by
  have hp := parse_digits l 0 h.dg (by omega)
  have e : Lib.atoiAll (45 :: l) = match Lib.parseMag l with | Lib.NumEnd.syntax => Lib.NumEnd.syntax | .range => .range | .ok u => if 9223372036854775808 < u then .range else .ok (-((u : Nat) : Int)) := by
    simp [Lib.atoiAll]
    cases Lib.parseMag l <;> rfl
  rw [e, Lib.parseMag, if_neg h.ne, hp]
  by_cases h1 : valFrom 0 l < 18446744073709551616
  · rw [if_pos h1]
    simp only
    by_cases h2 : valFrom 0 l ≤ 9223372036854775808
    · rw [if_pos h2, if_neg (by omega)]
    · rw [if_neg h2, if_pos (by omega)]
  · rw [if_neg h1, if_neg (by omega)]

end Go.Proofs.YtpcojfcbomkgpaaDoor
