/- Plain law: a whole number that a text tells at a place. No program. -/
import Derived.Test.YtbjialckijphiaaDoorNum
namespace Go.Proofs.YtbjialckijphiaaDoor

def dgAt (s : ByteArray) (k : Nat) : Bool := decide (48 ≤ bt s k) && decide (bt s k ≤ 57)
theorem dgAt_iff {s : ByteArray} {k : Nat} : dgAt s k = true ↔ 48 ≤ bt s k ∧ bt s k ≤ 57 := by simp [dgAt]
/-- Where the figures that begin at k end. -/
def dgEnd (s : ByteArray) : Nat → Nat → Nat
  | 0, k => k
  | f + 1, k => if k < s.size ∧ dgAt s k = true then dgEnd s f (k + 1) else k
structure Ends (s : ByteArray) (k e : Nat) : Prop where
  le : k ≤ e
  top : e ≤ s.size
  all : ∀ i, k ≤ i → i < e → dgAt s i = true
  fin : e < s.size → dgAt s e = false
theorem Ends.eq {s : ByteArray} : ∀ (f k e : Nat), Ends s k e → e ≤ k + f → dgEnd s f k = e
  | 0, k, e, h, hf => by
    have := h.le
    rw [dgEnd]; omega
  | f + 1, k, e, h, hf => by
    have hle := h.le
    rw [dgEnd]
    by_cases hk : k = e
    · subst hk
      rw [if_neg]
      rintro ⟨h1, h2⟩
      rw [h.fin h1] at h2; cases h2
    · have htop := h.top
      rw [if_pos ⟨by omega, h.all k (Nat.le_refl _) (by omega)⟩]
      exact Ends.eq f (k + 1) e ⟨by omega, h.top, fun i h1 h2 => h.all i (by omega) h2, h.fin⟩ (by omega)
def fend (s : ByteArray) (k : Nat) : Nat := dgEnd s (s.size - k) k
theorem Ends.fend {s : ByteArray} {k e : Nat} (h : Ends s k e) : fend s k = e := by
  have h1 := h.le
  have h2 := h.top
  exact h.eq _ _ _ (by omega)
def figs (s : ByteArray) (k e : Nat) : List UInt8 := (s.extract k e).data.toList
theorem figs_len (s : ByteArray) (k e : Nat) (h : k ≤ e) (he : e ≤ s.size) : (figs s k e).length = e - k := by
  unfold figs
  rw [Lib.extract_data]; simp; omega
theorem figs_get (s : ByteArray) (k e i : Nat) (h : k + i < e) (he : e ≤ s.size) : ((figs s k e).getD i 0).toNat = bt s (k + i) := by
  rw [bt_eq s (k + i) (by omega)]
  have : (figs s k e)[i]? = some s[k + i] := by
    unfold figs
    rw [Lib.extract_data, List.getElem?_take_of_lt (by omega), List.getElem?_drop, List.getElem?_eq_getElem (by simp; omega)]
    rfl
  rw [List.getD_eq_getElem?_getD, this]; rfl
theorem figs_canon {s : ByteArray} {k e : Nat} (h : Ends s k e) (hne : k < e) (h0 : bt s k = 48 → e = k + 1) : Canon (figs s k e) := by
  have hl := figs_len s k e h.le h.top
  refine ⟨fun hn => ?_, fun b hb => ?_, fun h1 hq => ?_⟩
  · rw [hn] at hl; simp at hl; omega
  · obtain ⟨i, hi, rfl⟩ := List.getElem_of_mem hb
    have hi2 : k + i < e := by omega
    have hg := figs_get s k e i hi2 h.top
    rw [List.getD_eq_getElem?_getD, List.getElem?_eq_getElem hi] at hg
    have hd := dgAt_iff.1 (h.all (k + i) (by omega) hi2)
    have hg' : (figs s k e)[i].toNat = bt s (k + i) := hg
    exact isDg_iff.2 (by omega)
  · have hg := figs_get s k e 0 (by omega) h.top
    rw [Nat.add_zero] at hg
    have := h0 (by omega)
    omega

/-- The first place of the figures. -/
def whoFrom (s : ByteArray) (k : Nat) : Nat := if bt s k = 45 then k + 1 else k
def stopB (s : ByteArray) (e : Nat) : Bool := decide (e < s.size) && (bt s e == 46 || bt s e == 101 || bt s e == 69)
/-- The whole number at k, and where it ends. -/
def whoO (s : ByteArray) (k : Nat) : Option (Int × Nat) :=
  if fend s (whoFrom s k) = whoFrom s k ∨ (bt s (whoFrom s k) = 48 ∧ whoFrom s k + 1 < fend s (whoFrom s k)) ∨ stopB s (fend s (whoFrom s k)) = true then none
  else if bt s k = 45 then (if valFrom 0 (figs s (whoFrom s k) (fend s (whoFrom s k))) ≤ 9223372036854775808 then some (-((valFrom 0 (figs s (whoFrom s k) (fend s (whoFrom s k))) : Nat) : Int), fend s (whoFrom s k)) else none)
  else (if valFrom 0 (figs s (whoFrom s k) (fend s (whoFrom s k))) < 9223372036854775808 then some (((valFrom 0 (figs s (whoFrom s k) (fend s (whoFrom s k))) : Nat) : Int), fend s (whoFrom s k)) else none)
def whoQ (s : ByteArray) (p : Int) : Option (Int × Nat) := if 0 ≤ p ∧ p < s.size then whoO s p.toNat else none
def whoN : Option (Int × Nat) → Int
  | none => 0
  | some (n, _) => n
def whoE : Option (Int × Nat) → Int
  | none => -1
  | some (_, e) => e
theorem who_bad {s : ByteArray} {k f e : Nat} (hf : whoFrom s k = f) (he : Ends s f e) (h : e = f ∨ (bt s f = 48 ∧ f + 1 < e) ∨ stopB s e = true) : whoO s k = none := by
  rw [whoO, hf, he.fend, if_pos h]
theorem who_neg {s : ByteArray} {k f e : Nat} (hf : whoFrom s k = f) (he : Ends s f e) (h : ¬ (e = f ∨ (bt s f = 48 ∧ f + 1 < e) ∨ stopB s e = true)) (h45 : bt s k = 45) :
    whoO s k = if valFrom 0 (figs s f e) ≤ 9223372036854775808 then some (-((valFrom 0 (figs s f e) : Nat) : Int), e) else none := by
  rw [whoO, hf, he.fend, if_neg h, if_pos h45]
theorem who_pos {s : ByteArray} {k f e : Nat} (hf : whoFrom s k = f) (he : Ends s f e) (h : ¬ (e = f ∨ (bt s f = 48 ∧ f + 1 < e) ∨ stopB s e = true)) (h45 : bt s k ≠ 45) :
    whoO s k = if valFrom 0 (figs s f e) < 9223372036854775808 then some (((valFrom 0 (figs s f e) : Nat) : Int), e) else none := by
  rw [whoO, hf, he.fend, if_neg h, if_neg h45]
theorem who_out {s : ByteArray} {p : Int} (h : ¬ (0 ≤ p ∧ p < s.size)) : whoQ s p = none := if_neg h
theorem who_in {s : ByteArray} {k : Nat} (h : k < s.size) : whoQ s (k : Int) = whoO s k := by
  rw [whoQ, if_pos ⟨by omega, by omega⟩]; simp

/-- The figures of a number that an int can hold are no more than 19. -/
theorem canon_len {l : List UInt8} (h : Canon l) (hl : 19 < l.length) : 10000000000000000000 ≤ valFrom 0 l := by
  have key : ∀ (n : Nat) (l : List UInt8), l.length = n + 1 → Canon l → 2 ≤ l.length → 10 ^ n ≤ valFrom 0 l := by
    intro n
    induction n with
    | zero => intro l h1 _ h2; omega
    | succ n ih =>
      intro l h1 hc h2
      obtain ⟨l', b, rfl⟩ : ∃ l' b, l = l' ++ [b] := ⟨l.dropLast, l.getLast hc.ne, (List.dropLast_concat_getLast hc.ne).symm⟩
      have hl' : l'.length = n + 1 := by simpa using h1
      have hpos : 0 < l'.length := by omega
      have hg : (l' ++ [b]).getD 0 0 = l'.getD 0 0 := by
        rw [List.getD_eq_getElem?_getD, List.getElem?_append_left hpos, ← List.getD_eq_getElem?_getD]
      have hh := hc.hd (by omega)
      rw [hg] at hh
      have hne : l' ≠ [] := List.length_pos_iff.1 hpos
      have hc' : Canon l' := ⟨hne, fun c hc2 => hc.dg c (by simp [hc2]), fun _ => hh⟩
      rw [valFrom_snoc]
      by_cases hn : 2 ≤ l'.length
      · have := ih l' hl' hc' hn
        rw [Nat.pow_succ]; omega
      · obtain rfl : n = 0 := by omega
        have h49 : 49 ≤ (l'.getD 0 0).toNat := by
          have hm : l'.getD 0 0 ∈ l' := by
            rw [List.getD_eq_getElem?_getD, List.getElem?_eq_getElem hpos]; exact List.getElem_mem hpos
          have := isDg_iff.1 (hc'.dg _ hm)
          omega
        have := val_pos hne h49
        simp; omega
  obtain ⟨n, hn⟩ : ∃ n, l.length = n + 1 := ⟨l.length - 1, by omega⟩
  have h1 := key n l hn h (by omega)
  have h2 : 10 ^ 19 ≤ 10 ^ n := Nat.pow_le_pow_right (by omega) (by omega)
  have h3 : (10 : Nat) ^ 19 = 10000000000000000000 := rfl
  omega
theorem val_take (l : List UInt8) (j : Nat) (h : j < l.length) : valFrom 0 (l.take (j + 1)) = 10 * valFrom 0 (l.take j) + ((l.getD j 0).toNat - 48) := by
  rw [List.take_succ_eq_append_getElem h, valFrom_snoc, List.getD_eq_getElem?_getD, List.getElem?_eq_getElem h]; rfl
theorem val_take_le (l : List UInt8) (j : Nat) : valFrom 0 (l.take j) ≤ valFrom 0 l := by
  have h := valFrom_app (l.take j) (l.drop j) 0
  rw [List.take_append_drop] at h
  rw [h]
  exact valFrom_ge _ _

end Go.Proofs.YtbjialckijphiaaDoor
