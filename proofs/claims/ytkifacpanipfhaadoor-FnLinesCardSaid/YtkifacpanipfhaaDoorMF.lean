/- Zero, SignS, TokP, CutB, Ind, Bare, LineP, LinQ, DrnL, merged. -/
import Derived.Test.YtkifacpanipfhaaDoorTreeT
import Derived.Test.YtkifacpanipfhaaDoorME
import Derived.Deep.QuietTactic
import Derived.BigQuiet
import Derived.RegionTactic
import Derived.Test.YtkifacpanipfhaaDoorLI
import Derived.Test.YtkifacpanipfhaaDoorStrS
import Derived.Test.YtkifacpanipfhaaDoorLay
import Derived.Lib.Join
import Derived.Lib.JoinFns
import Derived.Lib.SplitLaws
import Derived.Lib.CountLaws
import Derived.Lib.CutLaws
import Derived.Lib.IndexBytes
import Derived.Test.YtkifacpanipfhaaDoorMem
import Derived.Test.YtkifacpanipfhaaDoorConv
import Derived.Test.YtkifacpanipfhaaDoorRuneP
import Derived.Test.YtkifacpanipfhaaDoorMB
import Derived.Lib.TrimByte
import Derived.Lib.LaidU8
import Derived.Test.YtkifacpanipfhaaDoorLD
namespace Go.Proofs.YtkifacpanipfhaaDoor
open Go.RowKit

def ZTl (v0 v1 v2 v3 v4 v5 : Value) : Nat → Value | 0 => v0 | 1 => v1 | 2 => v2 | 3 => v3 | 4 => v4 | _ => v5
theorem ZTl_get (v0 v1 v2 v3 v4 v5 : Value) : ∀ i, i < (#[v0, v1, v2, v3, v4, v5] : Array Value).size → (#[v0, v1, v2, v3, v4, v5] : Array Value)[i]? = some (ZTl v0 v1 v2 v3 v4 v5 i)
  | 0, _ | 1, _ | 2, _ | 3, _ | 4, _ | 5, _ => rfl
  | i + 6, h => by simp at h; omega
/-- A fresh local of type impl.Tree, made in world w0. -/
def ZT (w0 w : World) : Prop := w.rowIs w0.heap.size 27 6 (ZTl (.int .i64 0) (.bool false) (.int .i64 0) (.string ⟨#[]⟩) (.slice none 0 0) (.slice none 0 0)) ∧ Below w0.heap.size w0 w
theorem ZT.new (w : World) : ZT w (w.alloc (.cells #[.int .i64 0, .bool false, .int .i64 0, .string ⟨#[]⟩, .slice none 0 0, .slice none 0 0] 27)) := ⟨World.rowIs_alloc w #[.int .i64 0, .bool false, .int .i64 0, .string ⟨#[]⟩, .slice none 0 0, .slice none 0 0] 27 (ZTl (.int .i64 0) (.bool false) (.int .i64 0) (.string ⟨#[]⟩) (.slice none 0 0) (.slice none 0 0)) (ZTl_get _ _ _ _ _ _), (Below.refl _ _).alloc (Nat.le_refl _) _⟩
theorem ZT.keep {w0 w w' : World} (h : ZT w0 w) (hb : Below w.heap.size w w') : ZT w0 w' := ⟨rowIs_keep h.1 hb, bnext h.2 hb⟩
theorem ZT.cells {w0 w : World} (h : ZT w0 w) : w.cell? ⟨w0.heap.size, 0, none⟩ = some (.int .i64 0) ∧ w.cell? ⟨w0.heap.size, 1, none⟩ = some (.bool false) ∧ w.cell? ⟨w0.heap.size, 2, none⟩ = some (.int .i64 0) ∧ w.cell? ⟨w0.heap.size, 3, none⟩ = some (.string ⟨#[]⟩) ∧ w.cell? ⟨w0.heap.size, 4, none⟩ = some (.slice none 0 0) ∧ w.cell? ⟨w0.heap.size, 5, none⟩ = some (.slice none 0 0) := by
  have g := h.1
  exact ⟨g.cell (by omega), g.cell (by omega), g.cell (by omega), g.cell (by omega), g.cell (by omega), g.cell (by omega)⟩
theorem ZT.frozen {w0 w : World} (h : ZT w0 w) : w.frozen? ⟨w0.heap.size, 0, none⟩ = false ∧ w.frozen? ⟨w0.heap.size, 1, none⟩ = false ∧ w.frozen? ⟨w0.heap.size, 2, none⟩ = false ∧ w.frozen? ⟨w0.heap.size, 3, none⟩ = false ∧ w.frozen? ⟨w0.heap.size, 4, none⟩ = false ∧ w.frozen? ⟨w0.heap.size, 5, none⟩ = false := by
  have g := h.1
  exact ⟨g.frozen 0, g.frozen 1, g.frozen 2, g.frozen 3, g.frozen 4, g.frozen 5⟩
theorem ZT.lt {w0 w : World} (h : ZT w0 w) : w0.heap.size < w.heap.size := World.rowIs.lt h.1

def ZFl (v0 v1 v2 : Value) : Nat → Value | 0 => v0 | 1 => v1 | _ => v2
theorem ZFl_get (v0 v1 v2 : Value) : ∀ i, i < (#[v0, v1, v2] : Array Value).size → (#[v0, v1, v2] : Array Value)[i]? = some (ZFl v0 v1 v2 i)
  | 0, _ | 1, _ | 2, _ => rfl
  | i + 3, h => by simp at h; omega
/-- A fresh local of type impl.Fault, made in world w0. -/
def ZF (w0 w : World) : Prop := w.rowIs w0.heap.size 51 3 (ZFl (.int .i64 0) (.int .i64 0) (.string ⟨#[]⟩)) ∧ Below w0.heap.size w0 w
theorem ZF.new (w : World) : ZF w (w.alloc (.cells #[.int .i64 0, .int .i64 0, .string ⟨#[]⟩] 51)) := ⟨World.rowIs_alloc w #[.int .i64 0, .int .i64 0, .string ⟨#[]⟩] 51 (ZFl (.int .i64 0) (.int .i64 0) (.string ⟨#[]⟩)) (ZFl_get _ _ _), (Below.refl _ _).alloc (Nat.le_refl _) _⟩
theorem ZF.keep {w0 w w' : World} (h : ZF w0 w) (hb : Below w.heap.size w w') : ZF w0 w' := ⟨rowIs_keep h.1 hb, bnext h.2 hb⟩
theorem ZF.cells {w0 w : World} (h : ZF w0 w) : w.cell? ⟨w0.heap.size, 0, none⟩ = some (.int .i64 0) ∧ w.cell? ⟨w0.heap.size, 1, none⟩ = some (.int .i64 0) ∧ w.cell? ⟨w0.heap.size, 2, none⟩ = some (.string ⟨#[]⟩) := by
  have g := h.1
  exact ⟨g.cell (by omega), g.cell (by omega), g.cell (by omega)⟩
theorem ZF.frozen {w0 w : World} (h : ZF w0 w) : w.frozen? ⟨w0.heap.size, 0, none⟩ = false ∧ w.frozen? ⟨w0.heap.size, 1, none⟩ = false ∧ w.frozen? ⟨w0.heap.size, 2, none⟩ = false := by
  have g := h.1
  exact ⟨g.frozen 0, g.frozen 1, g.frozen 2⟩
theorem ZF.lt {w0 w : World} (h : ZF w0 w) : w0.heap.size < w.heap.size := World.rowIs.lt h.1

end Go.Proofs.YtkifacpanipfhaaDoor
namespace Go.Proofs.YtkifacpanipfhaaDoor
open Go.RowKit

theorem below_n {p : Nat → Prop} {k : Nat} (h : ∀ m, m < k → p m) (hk : p k) : ∀ m, m < k + 1 → p m := fun m hm => by
  rcases Nat.lt_or_ge m k with g | g
  · exact h m g
  · obtain rfl : m = k := by omega
    exact hk
theorem mark_miss {s : ByteArray} {k j b : Nat} {c : UInt8} (hB : bt s k = c.toNat) (hj : bt markB j = b) (hc : ((b : Int) == (c.toNat : Int)) = false) : bt markB j ≠ bt s k := by
  rw [hB, hj]; intro e
  rw [beq_eq_false_iff_ne] at hc
  exact hc (by rw [e])
theorem mark_hit {s : ByteArray} {k j b : Nat} {c : UInt8} (hB : bt s k = c.toNat) (hj : bt markB j = b) (hc : ((b : Int) == (c.toNat : Int)) = true) : bt markB j = bt s k := by
  rw [hB, hj]
  rw [beq_iff_eq] at hc
  omega
theorem word_0 {s : ByteArray} {k : Nat} (h : hasW s k (wordB 0) = true) : wordO s k = some ⟨9, emptyB, 0, k + 4⟩ := if_pos h
theorem word_1 {s : ByteArray} {k : Nat} (h : ∀ m, m < 1 → hasW s k (wordB m) = false) (h1 : hasW s k (wordB 1) = true) : wordO s k = some ⟨10, emptyB, 0, k + 5⟩ := by
  rw [wordO, h 0 (by omega), h1]; rfl
theorem word_2 {s : ByteArray} {k : Nat} (h : ∀ m, m < 2 → hasW s k (wordB m) = false) (h1 : hasW s k (wordB 2) = true) : wordO s k = some ⟨11, emptyB, 0, k + 4⟩ := by
  rw [wordO, h 0 (by omega), h 1 (by omega), h1]; rfl
theorem word_no {s : ByteArray} {k : Nat} (h : ∀ m, m < 3 → hasW s k (wordB m) = false) : wordO s k = none := by
  rw [wordO, h 0 (by omega), h 1 (by omega), h 2 (by omega)]; rfl

end Go.Proofs.YtkifacpanipfhaaDoor
namespace Go.Proofs.YtkifacpanipfhaaDoor
open Go.RowKit

theorem tk_drop {T : ByteArray} {P R : List UInt8} (h : T.data.toList = P ++ R) : T.data.toList.drop P.length = R := by rw [h]; simp
theorem tk_size {T : ByteArray} {L : List UInt8} (h : T.data.toList = L) : T.size = L.length := by rw [← h]; simp
theorem tk_bt {T : ByteArray} {P R : List UInt8} (h : T.data.toList = P ++ R) (i : Nat) (hi : i < R.length) : bt T (P.length + i) = (R.getD i 0).toNat :=
  bt_at (R := []) (by rw [tk_drop h, List.append_nil]) hi

/-! ### Texts of code points -/
def ValidL (l : List UInt8) : Prop := ∃ L : List Int, l = rtexts L
theorem ValidL.nil : ValidL [] := ⟨[], rfl⟩
theorem ValidL.app {a b : List UInt8} (h : ValidL a) (k : ValidL b) : ValidL (a ++ b) := by
  obtain ⟨L, rfl⟩ := h; obtain ⟨M, rfl⟩ := k
  exact ⟨L ++ M, by simp [rtexts]⟩
theorem rune_one (b : UInt8) (h : b.toNat < 128) : rtext (b.toNat : Int) = [b] := by
  rw [rtext_nat]
  have ho : runeOkN b.toNat = true := by simp only [runeOkN, Bool.and_eq_true, decide_eq_true_eq, Bool.not_eq_true', Bool.and_eq_false_iff, decide_eq_false_iff_not]; omega
  rw [runeBytes, if_pos ho, if_pos h]
  show [UInt8.ofNat b.toNat] = [b]
  rw [UInt8.ofNat_toNat]
theorem ValidL.low : ∀ {l : List UInt8}, (∀ b ∈ l, b.toNat < 128) → ValidL l
  | [], _ => ValidL.nil
  | b :: l, h => by
    have h1 : ValidL [b] := ⟨[(b.toNat : Int)], by simp [rtexts, rune_one b (h b (by simp))]⟩
    exact h1.app (ValidL.low (l := l) (fun x hx => h x (by simp [hx])))
theorem ValidL.rune (n : Nat) : ValidL ((runeBytes n).map UInt8.ofNat) := ⟨[(n : Int)], by simp [rtexts, rtext_nat]⟩
theorem ValidL.some {T : ByteArray} (h : ValidL T.data.toList) : (runesO T).isSome = true := by
  obtain ⟨L, hL⟩ := h
  have : T = ⟨(rtexts L).toArray⟩ := by apply ByteArray.ext; rw [← hL]
  rw [this]; exact rtexts_some L
theorem ValidL.of {s : ByteArray} (h : (runesO s).isSome = true) : ValidL s.data.toList := by
  obtain ⟨L, hL⟩ := Option.isSome_iff_exists.1 h
  exact ⟨_, (runes_text hL).symm⟩
theorem fig_low (x : Nat) (h : x < 16) : (figB x).toNat < 128 := by
  unfold figB
  split
  · simp; omega
  · simp; omega
theorem esc_low {b : UInt8} (h : b.toNat < 128) : ∀ x ∈ escB b, x.toNat < 128 := by
  intro x hx
  have h1 := fig_low (b.toNat / 16) (by omega)
  have h2 := fig_low (b.toNat % 16) (by omega)
  unfold escB at hx
  repeat' split at hx
  all_goals
    simp only [List.mem_cons, List.mem_nil_iff, or_false] at hx
    rcases hx with rfl | hx
    · first | decide | omega
    all_goals first | (subst hx; first | decide | omega) | (rcases hx with rfl | rfl | rfl | rfl | rfl <;> first | decide | omega)
theorem ValidL.esc (n : Nat) : ValidL (escR n) := by
  by_cases h : n < 128
  · rw [escR_low h]
    exact ValidL.low (esc_low (by simp <;> omega))
  · rw [escR_high (by omega)]
    exact ValidL.rune n
theorem ValidL.flat : ∀ L : List Nat, ValidL (L.flatMap escR)
  | [] => ValidL.nil
  | n :: L => by rw [List.flatMap_cons]; exact (ValidL.esc n).app (ValidL.flat L)
theorem qL_eq {s : ByteArray} (h : (runesO s).isSome = true) : qL s = escTo s s.size ++ [34] := by
  rw [qL, quotedB, if_pos h]
theorem ValidL.q {s : ByteArray} (h : (runesO s).isSome = true) : ValidL (qL s) := by
  obtain ⟨L, hL⟩ := Option.isSome_iff_exists.1 h
  rw [qL_eq h, escTo, List.take_of_length_le (by simp), esc_flat hL]
  have h34 : ValidL [34] := ValidL.low (by simp)
  exact (h34.app (ValidL.flat L)).app h34
/-- No code point lacks. -/
theorem bad_none (s : ByteArray) : ∀ f k acc, s.size < k + f → (rgo s f k acc).isSome = true → badFrom s f k = none
  | 0, k, acc, h, hr => rfl
  | f + 1, k, acc, h, hr => by
    rw [badFrom]
    by_cases h1 : s.size ≤ k
    · rw [if_pos h1]
    rw [if_neg h1]
    rw [rgo, if_neg h1] at hr
    by_cases h2 : badD (Utf8.decode s k) = true
    · rw [if_pos h2] at hr; cases hr
    · rw [if_neg h2] at hr ⊢
      have := Lib.decode_width_pos s k (by omega)
      exact bad_none s f _ _ (by omega) hr
theorem ft_valid {s : ByteArray} (h : ValidL s.data.toList) (hs : s.size ≤ 20000) : ftO s = none :=
  ft_none (by omega) (bad_none s _ 0 [] (by omega) h.some)

/-! ### Numbers in the midst of a text -/
/-- What may stand behind a number. -/
def NumEnd (R : List UInt8) : Prop := (R.getD 0 0).toNat ≠ 46 ∧ (R.getD 0 0).toNat ≠ 101 ∧ (R.getD 0 0).toNat ≠ 69 ∧ ¬ (48 ≤ (R.getD 0 0).toNat ∧ (R.getD 0 0).toNat ≤ 57)
theorem numEnd_one (b : UInt8) (h : b.toNat ≠ 46 ∧ b.toNat ≠ 101 ∧ b.toNat ≠ 69 ∧ ¬ (48 ≤ b.toNat ∧ b.toNat ≤ 57)) {R : List UInt8} : NumEnd (b :: R) := h
theorem figs_mid {T : ByteArray} {P D R : List UInt8} (h : T.data.toList = P ++ (D ++ R)) : figs T P.length (P.length + D.length) = D := by
  unfold figs
  rw [Lib.extract_data, h]
  simp
theorem who_mid (n : Int) (h1 : -9223372036854775808 ≤ n) (h2 : n ≤ 9223372036854775807) {T : ByteArray} {P R : List UInt8} (hT : T.data.toList = P ++ (Lib.itoa n ++ R)) (hR : NumEnd R) :
    whoQ T (P.length : Int) = some (n, P.length + (Lib.itoa n).length) ∧ (bt T P.length = 45 ∨ dgAt T P.length = true) ∧ P.length < T.size := by
  have hsz := tk_size hT
  simp only [List.length_append] at hsz
  have hat : ∀ i, i < (Lib.itoa n).length → bt T (P.length + i) = ((Lib.itoa n).getD i 0).toNat := fun i hi => by
    rw [tk_bt hT i (by simp; omega), List.getD_eq_getElem?_getD, List.getElem?_append_left hi, ← List.getD_eq_getElem?_getD]
  have hend : P.length + (Lib.itoa n).length < T.size → bt T (P.length + (Lib.itoa n).length) = (R.getD 0 0).toNat := fun hi => by
    rw [tk_bt hT _ (by simp; omega), List.getD_eq_getElem?_getD, List.getElem?_append_right (Nat.le_refl _), Nat.sub_self, ← List.getD_eq_getElem?_getD]
  obtain ⟨r1, r2, r3, r4⟩ := hR
  by_cases hn : n < 0
  · obtain ⟨m, hm⟩ := Int.eq_ofNat_of_zero_le (show 0 ≤ -n by omega)
    obtain rfl : n = -(m : Int) := by omega
    have hi := itoa_neg m (by omega)
    obtain ⟨hc, hv, -⟩ := dec_canon m m (Nat.le_refl _)
    rw [hi] at hsz hat hend hT ⊢
    generalize Lib.decDigits m = D at hc hv hsz hat hend hT
    have hpos : 0 < D.length := List.length_pos_iff.2 hc.ne
    simp only [List.length_cons] at hsz hat hend ⊢
    have h45 : bt T P.length = 45 := by have := hat 0 (by omega); simpa using this
    have hf : whoFrom T P.length = P.length + 1 := by rw [whoFrom, if_pos h45]
    have hdg : ∀ j, j < D.length → dgAt T (P.length + (j + 1)) = true := fun j hj => by
      rw [dgAt_iff, hat (j + 1) (by omega)]
      have hm2 : D.getD j 0 ∈ D := by
        rw [List.getD_eq_getElem?_getD, List.getElem?_eq_getElem hj]; exact List.getElem_mem _
      exact isDg_iff.1 (hc.dg _ hm2)
    have hE : Ends T (P.length + 1) (P.length + (D.length + 1)) := by
      refine ⟨by omega, by omega, fun i i1 i2 => ?_, fun hlt => ?_⟩
      · obtain ⟨j, rfl⟩ : ∃ j, i = P.length + (j + 1) := ⟨i - P.length - 1, by omega⟩
        exact hdg j (by omega)
      · cases hq : dgAt T (P.length + (D.length + 1))
        · rfl
        · have := dgAt_iff.1 hq; rw [hend hlt] at this; exact absurd this r4
    have hfig : figs T (P.length + 1) (P.length + (D.length + 1)) = D := by
      have := figs_mid (T := T) (P := P ++ [45]) (D := D) (R := R) (by rw [hT]; simp)
      have e1 : (P ++ [45]).length = P.length + 1 := by simp
      have e2 : P.length + 1 + D.length = P.length + (D.length + 1) := by omega
      rw [e1, e2] at this
      exact this
    have hst : ¬ (P.length + (D.length + 1) = P.length + 1 ∨ (bt T (P.length + 1) = 48 ∧ P.length + 1 + 1 < P.length + (D.length + 1)) ∨ stopB T (P.length + (D.length + 1)) = true) := by
      rintro (h | ⟨h, h'⟩ | h)
      · omega
      · have h3 := hat 1 (by omega)
        have h4 := hc.hd (by omega)
        simp only [List.getD_cons_succ] at h3
        omega
      · simp only [stopB, Bool.and_eq_true, decide_eq_true_eq, Bool.or_eq_true, beq_iff_eq] at h
        rw [hend h.1] at h
        omega
    refine ⟨?_, .inl h45, by omega⟩
    rw [who_in (by omega), who_neg hf hE hst h45, hfig, hv, if_pos (by omega)]
  · obtain ⟨m, rfl⟩ := Int.eq_ofNat_of_zero_le (show 0 ≤ n by omega)
    have hi := itoa_pos m
    obtain ⟨hc, hv, -⟩ := dec_canon m m (Nat.le_refl _)
    rw [hi] at hsz hat hend hT ⊢
    generalize Lib.decDigits m = D at hc hv hsz hat hend hT
    have hpos : 0 < D.length := List.length_pos_iff.2 hc.ne
    have hdg0 : ∀ j, j < D.length → dgAt T (P.length + j) = true := fun j hj => by
      rw [dgAt_iff, hat j hj]
      have hm2 : D.getD j 0 ∈ D := by
        rw [List.getD_eq_getElem?_getD, List.getElem?_eq_getElem hj]; exact List.getElem_mem _
      exact isDg_iff.1 (hc.dg _ hm2)
    have hd00 := hdg0 0 hpos
    rw [Nat.add_zero] at hd00
    have h45 : bt T P.length ≠ 45 := by have := dgAt_iff.1 hd00; omega
    have hf : whoFrom T P.length = P.length := by rw [whoFrom, if_neg h45]
    have hE : Ends T P.length (P.length + D.length) := by
      refine ⟨by omega, by omega, fun i i1 i2 => ?_, fun hlt => ?_⟩
      · obtain ⟨j, rfl⟩ : ∃ j, i = P.length + j := ⟨i - P.length, by omega⟩
        exact hdg0 j (by omega)
      · cases hq : dgAt T (P.length + D.length)
        · rfl
        · have := dgAt_iff.1 hq; rw [hend hlt] at this; exact absurd this r4
    have hfig : figs T P.length (P.length + D.length) = D := figs_mid hT
    have hst : ¬ (P.length + D.length = P.length ∨ (bt T P.length = 48 ∧ P.length + 1 < P.length + D.length) ∨ stopB T (P.length + D.length) = true) := by
      rintro (h | ⟨h, h'⟩ | h)
      · omega
      · have h3 := hat 0 hpos
        have h4 := hc.hd (by omega)
        rw [Nat.add_zero] at h3
        omega
      · simp only [stopB, Bool.and_eq_true, decide_eq_true_eq, Bool.or_eq_true, beq_iff_eq] at h
        rw [hend h.1] at h
        omega
    refine ⟨?_, .inr hd00, by omega⟩
    rw [who_in (by omega), who_pos hf hE hst h45, hfig, hv, if_pos (by omega)]

/-! ### Tokens -/
structure Tk where
  bs : List UInt8
  kind : Int
  text : ByteArray
  num : Int
def tkSg (x : Tk) (k : Nat) : Sg := ⟨x.kind, x.text, x.num, k + x.bs.length⟩
/-- The token is read where it stands ahead of R. -/
def Lexes (x : Tk) (R : List UInt8) : Prop := x.bs ≠ [] ∧ wsN (x.bs.getD 0 0).toNat = false ∧ ∀ (T : ByteArray) (P : List UInt8), T.data.toList = P ++ (x.bs ++ R) → signO T P.length = some (tkSg x P.length)
theorem lex_mark (j : Nat) (hj : j < 6) (b : UInt8) (hb : bt markB j = b.toNat) (hw : wsN b.toNat = false) (R : List UInt8) : Lexes ⟨[b], (j : Int) + 1, emptyB, 0⟩ R := by
  refine ⟨by simp, by simpa using hw, fun T P hT => ?_⟩
  have hsz := tk_size hT
  simp only [List.length_append, List.length_cons, List.length_nil] at hsz
  have h0 := tk_bt hT 0 (by simp)
  simp only [Nat.add_zero, List.cons_append, List.getD_cons_zero] at h0
  have hk : P.length < T.size := by omega
  have := sign_mark hk hj (hb.trans h0.symm)
  rw [sign_in hk] at this
  exact this
theorem lex_text {s : ByteArray} (h : (runesO s).isSome = true) (R : List UInt8) : Lexes ⟨qL s, 7, s, 0⟩ R := by
  have hq := qL_eq h
  have hq0 : (qL s).getD 0 0 = 34 := by rw [hq]; rfl
  refine ⟨by rw [hq]; simp [escTo], by show wsN ((qL s).getD 0 0).toNat = false; rw [hq0]; decide, fun T P hT => ?_⟩
  have hT' : T.data.toList = P ++ ((escTo s s.size ++ [34]) ++ R) := by rw [hT, ← hq]
  have hb := quote_back h P R T hT'
  have hsz := tk_size hT'
  simp only [List.length_append, List.length_cons, List.length_nil] at hsz
  have h0 := tk_bt hT' 0 (by simp; omega)
  rw [Nat.add_zero, ← hq, List.getD_eq_getElem?_getD, List.getElem?_append_left (by rw [hq]; simp), ← List.getD_eq_getElem?_getD, hq0] at h0
  have hk : P.length < T.size := by omega
  have := sign_quote hk h0
  rw [sign_in hk, quoteO, hb] at this
  rw [this, tkSg, hq]
theorem lex_num (n : Int) (h1 : -9223372036854775808 ≤ n) (h2 : n ≤ 9223372036854775807) {R : List UInt8} (hR : NumEnd R) : Lexes ⟨Lib.itoa n, 8, emptyB, n⟩ R := by
  have hlex : ∀ (T : ByteArray) (P : List UInt8), T.data.toList = P ++ (Lib.itoa n ++ R) → signO T P.length = some (tkSg ⟨Lib.itoa n, 8, emptyB, n⟩ P.length) := fun T P hT => by
    obtain ⟨hw, hd, hk⟩ := who_mid n h1 h2 hT hR
    have := sign_dig hk hd
    rw [sign_in hk, numO, hw] at this
    rw [this]; rfl
  have hne : Lib.itoa n ≠ [] := fun e => by
    obtain ⟨-, hd, hk⟩ := who_mid n h1 h2 (T := ⟨(Lib.itoa n ++ R).toArray⟩) (P := []) (R := R) (by simp) hR
    have := hlex ⟨([] ++ (Lib.itoa n ++ R)).toArray⟩ [] (by simp)
    rw [e] at hd hk
    simp only [List.nil_append, List.length_nil] at hd hk
    have hs : (⟨R.toArray⟩ : ByteArray).size = R.length := by show R.toArray.size = _; simp
    have h0 := tk_bt (T := ⟨R.toArray⟩) (P := []) (R := R) (by simp) 0 (by omega)
    simp only [List.length_nil, Nat.add_zero] at h0
    obtain ⟨r1, r2, r3, r4⟩ := hR
    have hR2 : Lib.itoa n = [] → False := fun e => by
      by_cases hn : n < 0
      · obtain ⟨m, hm⟩ := Int.eq_ofNat_of_zero_le (show 0 ≤ -n by omega)
        obtain rfl : n = -(m : Int) := by omega
        rw [itoa_neg m (by omega)] at e; cases e
      · obtain ⟨m, rfl⟩ := Int.eq_ofNat_of_zero_le (show 0 ≤ n by omega)
        rw [itoa_pos m] at e
        exact (dec_canon m m (Nat.le_refl _)).1.ne e
    exact hR2 e
  refine ⟨hne, ?_, hlex⟩
  obtain ⟨-, hd, hk⟩ := who_mid n h1 h2 (T := ⟨(Lib.itoa n ++ R).toArray⟩) (P := []) (R := R) (by simp) hR
  have hpos : 0 < (Lib.itoa n).length := List.length_pos_iff.2 hne
  have h0 := tk_bt (T := ⟨(Lib.itoa n ++ R).toArray⟩) (P := []) (R := Lib.itoa n ++ R) (by simp) 0 (by simp; omega)
  simp only [List.length_nil, Nat.add_zero] at h0 hd
  rw [List.getD_eq_getElem?_getD, List.getElem?_append_left hpos, ← List.getD_eq_getElem?_getD] at h0
  rw [dgAt_iff, h0] at hd
  show wsN ((Lib.itoa n).getD 0 0).toNat = false
  simp only [wsN, Bool.or_eq_false_iff, beq_eq_false_iff_ne]
  omega
theorem has_mid {T w : ByteArray} {P R : List UInt8} (hT : T.data.toList = P ++ (w.data.toList ++ R)) : hasW T P.length w = true := by
  have hsz := tk_size hT
  have hw : w.data.toList.length = w.size := by simp
  simp only [List.length_append] at hsz
  rw [hasW, decide_eq_true (by omega), Bool.true_and, beq_iff_eq, ByteArray.toList_eq, ByteArray.toList_eq, Lib.extract_data, hT, ← hw]
  simp
theorem lex_word (j : Nat) (hj : j < 3) {b : List UInt8} (hb : b = (wordB j).data.toList) (R : List UInt8) : Lexes ⟨b, (j : Int) + 9, emptyB, 0⟩ R := by
  subst hb
  refine ⟨?_, ?_, fun T P hT => ?_⟩
  · rcases (show j = 0 ∨ j = 1 ∨ j = 2 by omega) with rfl | rfl | rfl <;> decide
  · rcases (show j = 0 ∨ j = 1 ∨ j = 2 by omega) with rfl | rfl | rfl <;> decide
  · have hm := has_mid hT
    have hsz := tk_size hT
    have hw : (wordB j).data.toList.length = (wordB j).size := by simp
    have hpos : 0 < (wordB j).size := by rcases (show j = 0 ∨ j = 1 ∨ j = 2 by omega) with rfl | rfl | rfl <;> decide
    simp only [List.length_append] at hsz
    have hk : P.length < T.size := by omega
    have hno : ∀ m, m < j → hasW T P.length (wordB m) = false := fun m hmj => by
      cases hq : hasW T P.length (wordB m)
      · rfl
      · have := word_excl hq hm (by omega) hj; omega
    have hO : wordO T P.length = some (tkSg ⟨(wordB j).data.toList, (j : Int) + 9, emptyB, 0⟩ P.length) := by
      rcases (show j = 0 ∨ j = 1 ∨ j = 2 by omega) with rfl | rfl | rfl
      · rw [word_0 hm]; rfl
      · rw [word_1 hno hm]; rfl
      · rw [word_2 hno hm]; rfl
    have := sign_word hk hO
    rw [sign_in hk] at this
    exact this

def tOpen : Tk := ⟨[123], 1, emptyB, 0⟩
def tClose : Tk := ⟨[125], 2, emptyB, 0⟩
def tBegin : Tk := ⟨[91], 3, emptyB, 0⟩
def tEnd : Tk := ⟨[93], 4, emptyB, 0⟩
def tColon : Tk := ⟨[58], 5, emptyB, 0⟩
def tComma : Tk := ⟨[44], 6, emptyB, 0⟩
def tText (s : ByteArray) : Tk := ⟨qL s, 7, s, 0⟩
def leafTk (k : Int) (f : Bool) (n : Int) (s : ByteArray) : Tk :=
  if k = 1 then ⟨nullL, 11, emptyB, 0⟩ else if k = 2 then (if f = true then ⟨trueL, 9, emptyB, 0⟩ else ⟨falseL, 10, emptyB, 0⟩) else if k = 3 then ⟨Lib.itoa n, 8, emptyB, n⟩ else tText s
def headTk (m : Bool) (keys : List ByteArray) (i : Nat) : List Tk := (if 0 < i then [tComma] else []) ++ (if m = true then [tText (strAt keys i), tColon] else [])
mutual
def tokT : Tr → List Tk
  | .mk k f n s keys kids => if k < 5 then [leafTk k f n s] else (if k = 6 then tOpen else tBegin) :: (tokK (k == 6) keys 0 kids ++ [if k = 6 then tClose else tEnd])
def tokK (m : Bool) (keys : List ByteArray) (i : Nat) : List Tr → List Tk
  | [] => []
  | t :: ts => headTk m keys i ++ (tokT t ++ tokK m keys (i + 1) ts)
end
/-- Tokens, each behind the gap g. -/
def spr (g : List UInt8) (L : List Tk) : List UInt8 := L.flatMap fun x => g ++ x.bs
theorem spr_app (g : List UInt8) (L M : List Tk) : spr g (L ++ M) = spr g L ++ spr g M := by simp [spr]
theorem spr_cons (g : List UInt8) (x : Tk) (L : List Tk) : spr g (x :: L) = (g ++ x.bs) ++ spr g L := by simp [spr]
theorem spr_nil (g : List UInt8) : spr g [] = [] := rfl
theorem spr_len (g : List UInt8) (L : List Tk) : (spr g L).length = g.length * L.length + (spr [] L).length := by
  induction L with
  | nil => rfl
  | cons x L ih =>
    rw [spr_cons, spr_cons]
    simp only [List.length_append, List.length_cons, List.length_nil, Nat.mul_add, Nat.mul_one]
    omega
theorem leaf_tk (k : Int) (f : Bool) (n : Int) (s : ByteArray) : (leafTk k f n s).bs = leafL k f n s := by
  unfold leafTk leafL
  split
  · rfl
  split
  · split <;> rfl
  split <;> rfl
theorem head_tk (m : Bool) (keys : List ByteArray) (i : Nat) : spr [] (headTk m keys i) = headK m keys i := by
  unfold headTk headK
  rw [spr_app]
  congr 1
  · split <;> rfl
  · split
    · simp [spr, tText, tColon]
    · rfl
mutual
/-- The braced text is its tokens. -/
theorem say_tok : ∀ t : Tr, spr [] (tokT t) = sayB t
  | .mk k f n s keys kids => by
    rw [tokT, sayB]
    by_cases h : k < 5
    · rw [if_pos h, if_pos h, spr_cons, leaf_tk]; simp [spr_nil]
    · rw [if_neg h, if_neg h, spr_cons, spr_app, say_tokK, spr_cons, spr_nil]
      by_cases h6 : k = 6
      · rw [if_pos h6, if_pos h6, if_pos h6, if_pos h6]; rfl
      · rw [if_neg h6, if_neg h6, if_neg h6, if_neg h6]; rfl
theorem say_tokK (m : Bool) (keys : List ByteArray) : ∀ (l : List Tr) (i : Nat), spr [] (tokK m keys i l) = sayK m keys i l
  | [], i => rfl
  | t :: ts, i => by
    rw [tokK, sayK, spr_app, spr_app, head_tk, say_tok t, say_tokK m keys ts (i + 1)]
end

/-- Each token is read ahead of what stands behind it. -/
def Goods (g tail : List UInt8) : List Tk → Prop
  | [] => True
  | x :: L => Lexes x (spr g L ++ tail) ∧ Goods g tail L
def GapOk (g : List UInt8) : Prop := g = [] ∨ (g ≠ [] ∧ NumEnd g)
theorem numEnd_gap {g : List UInt8} (hg : GapOk g) {x : Tk} {M R : List UInt8} (hx : x.bs ≠ [] ∧ NumEnd x.bs) : NumEnd (((g ++ x.bs) ++ M) ++ R) := by
  have key : ∀ (a b : List UInt8), a ≠ [] → NumEnd a → NumEnd (a ++ b) := fun a b ha h => by
    cases a with
    | nil => exact absurd rfl ha
    | cons c r => exact h
  rcases hg with rfl | ⟨h1, h2⟩
  · rw [List.nil_append, List.append_assoc]; exact key _ _ hx.1 hx.2
  · rw [List.append_assoc, List.append_assoc]; exact key _ _ h1 h2
theorem lex_leaf {k : Int} {f : Bool} {n : Int} {s : ByteArray} {R : List UInt8} (hn : -9223372036854775808 ≤ n ∧ n ≤ 9223372036854775807) (hs : (runesO s).isSome = true) (hR : NumEnd R) : Lexes (leafTk k f n s) R := by
  unfold leafTk
  split
  · exact lex_word 2 (by omega) (b := nullL) rfl R
  split
  · split
    · exact lex_word 0 (by omega) (b := trueL) rfl R
    · exact lex_word 1 (by omega) (b := falseL) rfl R
  split
  · exact lex_num n hn.1 hn.2 hR
  · exact lex_text hs R
theorem lex_open (R : List UInt8) : Lexes tOpen R := lex_mark 0 (by omega) 123 rfl (by decide) R
theorem lex_close (R : List UInt8) : Lexes tClose R := lex_mark 1 (by omega) 125 rfl (by decide) R
theorem lex_begin (R : List UInt8) : Lexes tBegin R := lex_mark 2 (by omega) 91 rfl (by decide) R
theorem lex_end (R : List UInt8) : Lexes tEnd R := lex_mark 3 (by omega) 93 rfl (by decide) R
theorem lex_colon (R : List UInt8) : Lexes tColon R := lex_mark 4 (by omega) 58 rfl (by decide) R
theorem lex_comma (R : List UInt8) : Lexes tComma R := lex_mark 5 (by omega) 44 rfl (by decide) R
theorem ok_text {s : ByteArray} (h : textOkB s = true) : (runesO s).isSome = true := by
  simp only [textOkB, Bool.and_eq_true] at h; exact h.2
theorem ok_key {l : List ByteArray} (h : keysOkB l = true) {i : Nat} (hi : i < l.length) : (runesO (strAt l i)).isSome = true := by
  rw [keysOkB, List.all_eq_true] at h
  have := h i (List.mem_range.2 hi)
  rw [keyOkAt, Bool.and_eq_true] at this
  exact ok_text this.1
theorem goods_head {g tail : List UInt8} {m : Bool} {keys : List ByteArray} {i : Nat} {L : List Tk} (hk : m = true → (runesO (strAt keys i)).isSome = true) (h : Goods g tail L) : Goods g tail (headTk m keys i ++ L) := by
  unfold headTk
  by_cases h0 : 0 < i
  · rw [if_pos h0]
    cases m
    · exact ⟨lex_comma _, h⟩
    · exact ⟨lex_comma _, lex_text (hk rfl) _, lex_colon _, h⟩
  · rw [if_neg h0]
    cases m
    · exact h
    · exact ⟨lex_text (hk rfl) _, lex_colon _, h⟩
mutual
theorem goods_tok {g tail : List UInt8} (hg : GapOk g) : ∀ (t : Tr), shapeB t = true → t.nums → ∀ (L : List Tk), Goods g tail L → NumEnd (spr g L ++ tail) → Goods g tail (tokT t ++ L)
  | .mk k f n s keys kids, h, hn, L, hL, hE => by
    obtain ⟨h1, h2, h3⟩ := shape_parts h
    obtain ⟨a1, a2, a3, a4, a5, a6⟩ := head_kind h1
    simp only [Tr.kind, Tr.text, Tr.keys, Tr.kids] at a1 a2 a3 a4 a5 a6 h2 h3
    have hb := nums_bd hn
    simp only [Tr.num] at hb
    simp only [Tr.nums] at hn
    rw [tokT]
    by_cases hk : k < 5
    · rw [if_pos hk]
      exact ⟨lex_leaf hb (ok_text a3) hE, hL⟩
    · rw [if_neg hk]
      have hkeys : (k == 6) = true → keys.length = kids.length := fun e => a4 (by simpa using e)
      by_cases h6 : k = 6
      · rw [if_pos h6, if_pos h6]
        rw [List.cons_append, List.append_assoc]
        exact ⟨lex_open _, goods_tokK hg (k == 6) keys kids 0 (fun e j hj => ok_key h2 (by have := hkeys e; omega)) h3 hn.2 _ ⟨lex_close _, hL⟩ (numEnd_gap hg ⟨by simp [tClose], numEnd_one 125 (by decide)⟩)⟩
      · rw [if_neg h6, if_neg h6]
        rw [List.cons_append, List.append_assoc]
        exact ⟨lex_begin _, goods_tokK hg (k == 6) keys kids 0 (fun e j hj => ok_key h2 (by have := hkeys e; omega)) h3 hn.2 _ ⟨lex_end _, hL⟩ (numEnd_gap hg ⟨by simp [tEnd], numEnd_one 93 (by decide)⟩)⟩
theorem goods_tokK {g tail : List UInt8} (hg : GapOk g) (m : Bool) (keys : List ByteArray) : ∀ (l : List Tr) (i : Nat), (m = true → ∀ j, j < i + l.length → (runesO (strAt keys j)).isSome = true) → shapeL l = true → numsL l → ∀ (L : List Tk), Goods g tail L → NumEnd (spr g L ++ tail) → Goods g tail (tokK m keys i l ++ L)
  | [], i, hk, h, hn, L, hL, hE => by rw [tokK]; exact hL
  | t :: ts, i, hk, h, hn, L, hL, hE => by
    rw [shapeL, Bool.and_eq_true] at h
    simp only [numsL] at hn
    simp only [List.length_cons] at hk
    rw [tokK, List.append_assoc, List.append_assoc]
    refine goods_head (fun e => hk e i (by omega)) (goods_tok hg t h.1 hn.1 _ (goods_tokK hg m keys ts (i + 1) (fun e j hj => hk e j (by omega)) h.2 hn.2 L hL hE) ?_)
    cases ts with
    | nil => rw [tokK]; exact hE
    | cons u us =>
      rw [tokK, headTk, if_pos (by omega)]
      simp only [List.append_assoc, List.cons_append, List.nil_append]
      rw [spr_cons]
      exact numEnd_gap hg ⟨by simp [tComma], numEnd_one 44 (by decide)⟩
end

def places (g : List UInt8) (p : Nat) : List Tk → List (Sg × Nat)
  | [] => []
  | x :: L => (tkSg x (p + g.length), p + g.length) :: places g (p + g.length + x.bs.length) L
theorem ws_skip {T : ByteArray} {R : List (Sg × Nat) × Option Nat} {acc : List (Sg × Nat)} : ∀ (ws P rest : List UInt8), (∀ b ∈ ws, wsN b.toNat = true) → T.data.toList = P ++ (ws ++ rest) → TgAt T R P.length acc → TgAt T R (P.length + ws.length) acc
  | [], P, rest, _, _, h => h
  | b :: ws, P, rest, hw, hT, h => by
    have hsz := tk_size hT
    simp only [List.length_append, List.length_cons] at hsz
    have h0 := tk_bt hT 0 (by simp)
    simp only [Nat.add_zero, List.cons_append, List.getD_cons_zero] at h0
    have h1 := tgAt_ws h (by omega) (by rw [h0]; exact hw b (by simp))
    have := ws_skip ws (P ++ [b]) rest (fun x hx => hw x (by simp [hx])) (by rw [hT]; simp) (by simpa using h1)
    simp only [List.length_append, List.length_cons, List.length_nil] at this ⊢
    rw [show P.length + (ws.length + 1) = P.length + (0 + 1) + ws.length by omega]
    exact this
theorem tgo_spread {T : ByteArray} {g tail : List UInt8} {R : List (Sg × Nat) × Option Nat} (hg : ∀ b ∈ g, wsN b.toNat = true) (ht : ∀ b ∈ tail, wsN b.toNat = true) :
    ∀ (L : List Tk) (P : List UInt8) (acc : List (Sg × Nat)), Goods g tail L → T.data.toList = P ++ (spr g L ++ tail) → TgAt T R P.length acc → R = (acc ++ places g P.length L, none)
  | [], P, acc, _, hT, h => by
    have h1 := ws_skip tail P [] ht (by rw [hT]; simp [spr_nil]) h
    have hsz := tk_size hT
    simp only [spr_nil, List.nil_append, List.length_append] at hsz
    rw [places, List.append_nil]
    exact tgAt_end h1 (by omega)
  | x :: L, P, acc, ⟨hx, hL⟩, hT, h => by
    rw [spr_cons] at hT
    have hT1 : T.data.toList = P ++ (g ++ (x.bs ++ (spr g L ++ tail))) := by rw [hT]; simp only [List.append_assoc]
    have hT2 : T.data.toList = (P ++ g) ++ (x.bs ++ (spr g L ++ tail)) := by rw [hT1]; simp only [List.append_assoc]
    have hT3 : T.data.toList = ((P ++ g) ++ x.bs) ++ (spr g L ++ tail) := by rw [hT1]; simp only [List.append_assoc]
    have h1 := ws_skip g P _ hg hT1 h
    obtain ⟨x1, x2, x3⟩ := hx
    have hpos : 0 < x.bs.length := List.length_pos_iff.2 x1
    have hsz := tk_size hT2
    simp only [List.length_append] at hsz
    have h0 := tk_bt hT2 0 (by simp; omega)
    rw [Nat.add_zero, List.getD_eq_getElem?_getD, List.getElem?_append_left hpos, ← List.getD_eq_getElem?_getD] at h0
    have hs := x3 T (P ++ g) hT2
    have h2 := tgAt_step (k := (P ++ g).length) (by simpa using h1) (by simp; omega) (by rw [h0]; exact x2) hs
    have h3 := tgo_spread hg ht L ((P ++ g) ++ x.bs) (acc ++ [(tkSg x (P ++ g).length, (P ++ g).length)]) hL hT3 (by
      have e : (tkSg x (P ++ g).length).fin = ((P ++ g) ++ x.bs).length := by rw [tkSg, List.length_append (bs := x.bs)]
      rw [← e]; exact h2)
    rw [h3, places]
    simp only [List.length_append, List.append_assoc, List.cons_append, List.nil_append, Nat.add_assoc]
theorem toks_spread {T : ByteArray} {g tail : List UInt8} {L : List Tk} (hg : ∀ b ∈ g, wsN b.toNat = true) (ht : ∀ b ∈ tail, wsN b.toNat = true) (hL : Goods g tail L) (hT : T.data.toList = spr g L ++ tail) : toksR T = (places g 0 L, none) := by
  have := tgo_spread hg ht L [] [] hL hT (tgAt_start T)
  simpa using this
theorem places_len (g : List UInt8) : ∀ (L : List Tk) (p : Nat), (places g p L).length = L.length
  | [], _ => rfl
  | x :: L, p => by rw [places, List.length_cons, places_len g L, List.length_cons]
def noTk : Tk := ⟨[], 0, emptyB, 0⟩
def tkAt (L : List Tk) (i : Nat) : Tk := L.getD i noTk
theorem places_at (g : List UInt8) : ∀ (L : List Tk) (p i : Nat), i < L.length → (places g p L)[i]? = some (tkSg (tkAt L i) (p + (spr g (L.take i)).length + g.length), p + (spr g (L.take i)).length + g.length)
  | [], _, _, h => by simp at h
  | x :: L, p, 0, _ => by rw [places]; simp [spr_nil, tkAt]
  | x :: L, p, i + 1, h => by
    rw [places, List.getElem?_cons_succ, places_at g L _ i (by simpa using h), List.take_succ_cons, spr_cons]
    simp only [List.length_append, tkAt, List.getD_cons_succ]
    rw [show p + g.length + x.bs.length + (spr g (L.take i)).length + g.length = p + (g.length + x.bs.length + (spr g (L.take i)).length) + g.length by omega]
/-- The bytes of token i of a text of tokens. -/
theorem spr_take (g : List UInt8) (L : List Tk) (i : Nat) (h : i < L.length) : spr g (L.take (i + 1)) = spr g (L.take i) ++ (g ++ (tkAt L i).bs) := by
  rw [List.take_succ_eq_append_getElem h, spr_app, spr_cons, spr_nil, List.append_nil]
  congr 2
  rw [tkAt, List.getD_eq_getElem?_getD, List.getElem?_eq_getElem h]; rfl
theorem spr_drop (g : List UInt8) (L : List Tk) (i : Nat) : spr g L = spr g (L.take i) ++ spr g (L.drop i) := by
  rw [← spr_app, List.take_append_drop]
theorem tok_pos : ∀ t : Tr, 0 < (tokT t).length
  | .mk k f n s keys kids => by
    rw [tokT]
    split <;> simp

end Go.Proofs.YtkifacpanipfhaaDoor
namespace Go.Proofs.YtkifacpanipfhaaDoor
open Go.RowKit

def cutL (c : UInt8) : List UInt8 → List (List UInt8)
  | [] => [[]]
  | b :: r => if b = c then [] :: cutL c r else (b :: (cutL c r).headD []) :: (cutL c r).tail
theorem cutL_miss (c : UInt8) : ∀ l : List UInt8, c ∉ l → cutL c l = [l]
  | [], _ => rfl
  | b :: r, h => by
    have h1 : b ≠ c := fun e => h (by simp [e])
    have h2 := cutL_miss c r (fun e => h (by simp [e]))
    rw [cutL, if_neg h1, h2]; rfl
theorem cutL_hit (c : UInt8) : ∀ a r : List UInt8, c ∉ a → cutL c (a ++ c :: r) = a :: cutL c r
  | [], r, _ => by rw [List.nil_append, cutL, if_pos rfl]
  | b :: a, r, h => by
    have h1 : b ≠ c := fun e => h (by simp [e])
    have h2 := cutL_hit c a r (fun e => h (by simp [e]))
    rw [List.cons_append, cutL, if_neg h1, h2]; rfl
theorem cut_cases (c : UInt8) : ∀ l : List UInt8, c ∉ l ∨ ∃ a r, l = a ++ c :: r ∧ c ∉ a
  | [] => .inl (by simp)
  | b :: l => by
    by_cases h : b = c
    · exact .inr ⟨[], l, by rw [h]; rfl, by simp⟩
    · rcases cut_cases c l with g | ⟨a, r, rfl, g⟩
      · exact .inl (by simp [g, Ne.symm h])
      · exact .inr ⟨b :: a, r, rfl, by simp [g, Ne.symm h]⟩
theorem cutL_pos (c : UInt8) (l : List UInt8) : 0 < (cutL c l).length := by
  rcases cut_cases c l with h | ⟨a, r, rfl, h⟩
  · rw [cutL_miss c l h]; simp
  · rw [cutL_hit c a r h]; simp
theorem cutL_len (c : UInt8) : ∀ l : List UInt8, (cutL c l).length ≤ l.length + 1
  | [] => by simp [cutL]
  | b :: l => by
    have := cutL_len c l
    have := cutL_pos c l
    rw [cutL]
    split <;> simp <;> omega
theorem cutL_mem (c : UInt8) : ∀ (n : Nat) (l : List UInt8), l.length ≤ n → ∀ x ∈ cutL c l, x.length ≤ l.length
  | n, l, hn, x, hx => by
    rcases cut_cases c l with h | ⟨a, r, rfl, h⟩
    · rw [cutL_miss c l h] at hx; simp at hx; subst hx; omega
    · rw [cutL_hit c a r h] at hx
      simp only [List.length_append, List.length_cons] at hn ⊢
      rcases List.mem_cons.1 hx with rfl | hx
      · omega
      · match n with
        | 0 => omega
        | n + 1 => have := cutL_mem c n r (by omega) x hx; omega
theorem join_cut (c : UInt8) : ∀ (n : Nat) (l : List UInt8), l.length ≤ n → Lib.join (cutL c l) [c] = l
  | n, l, hn => by
    rcases cut_cases c l with h | ⟨a, r, rfl, h⟩
    · rw [cutL_miss c l h, Lib.join_one]
    · rw [cutL_hit c a r h]
      match n with
      | 0 => simp at hn
      | n + 1 =>
        have ih := join_cut c n r (by simp at hn; omega)
        have hp := cutL_pos c r
        rw [Lib.join_cons]
        match hm : cutL c r with
        | [] => rw [hm] at hp; simp at hp
        | y :: ys =>
          rw [hm, Lib.join_cons] at ih
          have e : Lib.joinTail [c] (y :: ys) = c :: (y ++ Lib.joinTail [c] ys) := by simp [Lib.joinTail]
          rw [e, ih]
theorem byte_miss {c : UInt8} : ∀ {l : List UInt8}, c ∉ l → Lib.indexByte l c = -1
  | [], _ => rfl
  | b :: l, h => by
    have h1 : (b == c) = false := beq_eq_false_iff_ne.2 fun e => h (by simp [e])
    have h2 := byte_miss (l := l) (c := c) fun e => h (by simp [e])
    rw [Lib.indexByte, h1, h2]; rfl
theorem byte_hit {c : UInt8} : ∀ {a r : List UInt8}, c ∉ a → Lib.indexByte (a ++ c :: r) c = (a.length : Int)
  | [], r, _ => by rw [List.nil_append, Lib.indexByte, beq_self_eq_true]; rfl
  | b :: a, r, h => by
    have h1 : (b == c) = false := beq_eq_false_iff_ne.2 fun e => h (by simp [e])
    have h2 := byte_hit (a := a) (r := r) (c := c) fun e => h (by simp [e])
    rw [List.cons_append, Lib.indexByte, h1, h2]
    have h3 : ((a.length : Int) == -1) = false := by rw [beq_eq_false_iff_ne]; omega
    rw [h3]
    simp
theorem cut_miss {c : UInt8} {l : List UInt8} (h : c ∉ l) : Lib.cut l [c] = (l, [], false) := by
  rw [Lib.cut, Lib.index_one, byte_miss h, if_neg (by omega)]
theorem cut_hit {c : UInt8} {a r : List UInt8} (h : c ∉ a) : Lib.cut (a ++ c :: r) [c] = (a, r, true) := by
  rw [Lib.cut, Lib.index_one, byte_hit h, if_pos (by omega)]
  simp
def partsL (c : UInt8) (s : ByteArray) : List ByteArray := (cutL c s.data.toList).map fun l => ⟨l.toArray⟩
theorem parts_data (c : UInt8) (s : ByteArray) : (partsL c s).map (·.data.toList) = cutL c s.data.toList := by
  simp [partsL, List.map_map, Function.comp_def]
theorem map_data {a b : List ByteArray} (h : a.map (·.data.toList) = b.map (·.data.toList)) : a = b := by
  have := congrArg (List.map fun l : List UInt8 => (⟨l.toArray⟩ : ByteArray)) h
  simpa [List.map_map, Function.comp_def] using this
theorem split_cut (c : UInt8) : ∀ (k : Nat) (s : ByteArray), Lib.countB s ⟨#[c]⟩ = k → (Lib.splitB ⟨#[c]⟩ 0 k s).map (·.data.toList) = cutL c s.data.toList
  | k, s, hk => by
    rcases cut_cases c s.data.toList with h | ⟨a, r, he, h⟩
    · have hi : Lib.indexB s ⟨#[c]⟩ = -1 := by
        show Lib.index s.data.toList [c] = -1
        rw [Lib.index_one, byte_miss h]
      rw [Lib.splitB_miss _ _ _ _ hi, cutL_miss c _ h]; rfl
    · have hi : Lib.indexB s ⟨#[c]⟩ = (a.length : Nat) := by
        show Lib.index s.data.toList [c] = _
        rw [Lib.index_one, he, byte_hit h]
      have hc := Lib.countB_hit s ⟨#[c]⟩ a.length (by show 1 ≤ 1; omega) hi
      match k with
      | 0 => omega
      | k + 1 =>
        have hr : (s.extract (a.length + (⟨#[c]⟩ : ByteArray).size) s.size).data.toList = r := by
          have e3 : (⟨#[c]⟩ : ByteArray).size = 1 := rfl
          rw [e3, Lib.extract_from, he]
          simp
        have ih := split_cut c k (s.extract (a.length + (⟨#[c]⟩ : ByteArray).size) s.size) (by omega)
        rw [Lib.splitB_hit _ _ _ _ _ hi, List.map_cons, ih, hr, he, cutL_hit c a r h]
        congr 1
        rw [Lib.extract_from_zero, he]; simp
theorem split_parts (c : UInt8) (s : ByteArray) : Lib.splitB ⟨#[c]⟩ 0 (Lib.countB s ⟨#[c]⟩) s = partsL c s :=
  map_data ((split_cut c _ s rfl).trans (parts_data c s).symm)
theorem part_size {c : UInt8} {s p : ByteArray} (h : p ∈ partsL c s) : p.size ≤ s.size := by
  simp only [partsL, List.mem_map] at h
  obtain ⟨l, hl, rfl⟩ := h
  have := cutL_mem c _ s.data.toList (Nat.le_refl _) l hl
  have e : (⟨l.toArray⟩ : ByteArray).size = l.length := by show l.toArray.size = _; simp
  have e2 : s.data.toList.length = s.size := by simp
  omega
theorem parts_len (c : UInt8) (s : ByteArray) : (partsL c s).length ≤ s.size + 1 := by
  have := cutL_len c s.data.toList
  have e2 : s.data.toList.length = s.size := by simp
  rw [partsL, List.length_map]; omega

end Go.Proofs.YtkifacpanipfhaaDoor
namespace Go.Proofs.YtkifacpanipfhaaDoor
open Go.RowKit

def ind (l : List UInt8) : Nat := (l.takeWhile (· == 32)).length
theorem ind_eq : ∀ (l : List UInt8) (j : Nat), j ≤ l.length → (∀ i, i < j → l.getD i 0 = 32) → (j < l.length → l.getD j 0 ≠ 32) → ind l = j
  | [], j, hj, _, _ => by
    simp at hj; subst hj; rfl
  | b :: r, 0, _, _, h => by
    have h1 : b ≠ 32 := h (by simp)
    simp [ind, h1]
  | b :: r, j + 1, hj, ha, h => by
    have h1 : b = 32 := ha 0 (by omega)
    have ih := ind_eq r j (by simpa using hj) (fun i hi => ha (i + 1) (by omega)) (fun hl => h (by simpa using hl))
    subst h1
    simp only [ind] at ih ⊢
    simp [ih]
theorem ind_le (l : List UInt8) : ind l ≤ l.length := (List.takeWhile_sublist _).length_le
theorem trim_drop : ∀ l : List UInt8, Lib.trimLeftB l 32 = l.drop (ind l)
  | [] => rfl
  | b :: r => by
    have ih := trim_drop r
    unfold Lib.trimLeftB ind at ih ⊢
    by_cases h : b = 32
    · subst h; simp; exact ih
    · simp [h]
theorem ext_drop (t : ByteArray) (n : Nat) : t.extract n t.size = ⟨(t.data.toList.drop n).toArray⟩ := by
  apply ByteArray.ext
  apply Array.ext'
  have h := Lib.extract_data t n t.size
  rw [h, List.take_of_length_le (by simp)]
/-- What stands behind place k, without the blanks ahead of it. -/
def restB (s : ByteArray) (k : Nat) : ByteArray := ⟨((s.extract k s.size).data.toList.drop (ind (s.extract k s.size).data.toList)).toArray⟩

theorem iTrim (t : ByteArray) (w : World) : Calls Tryd.prog 69 #[.string t, .string ⟨#[32]⟩] w fun e w' => e = .returned (.string ⟨(t.data.toList.drop (ind t.data.toList)).toArray⟩) ∧ w = w' := by
  have h := Tryd.strings_TrimLeft_one t 32 (by decide) w
  rw [trim_drop] at h
  exact h.mono fun e w' ⟨h1, h2⟩ => ⟨h1, h2.symm⟩
theorem rest_def (s : ByteArray) (k : Nat) : (⟨((s.extract k s.size).data.toList.drop (ind (s.extract k s.size).data.toList)).toArray⟩ : ByteArray) = restB s k := rfl

theorem ind_cons (r : List UInt8) : ind (32 :: r) = 1 + ind r := by simp [ind]; omega
theorem restB_size (s : ByteArray) (k : Nat) (h : k ≤ s.size) : (restB s k).size + (k + ind (s.extract k s.size).data.toList) = s.size := by
  have h1 := ind_le (s.extract k s.size).data.toList
  have h2 : (s.extract k s.size).data.toList.length = s.size - k := by
    have : (s.extract k s.size).data.toList.length = (s.extract k s.size).size := by simp
    rw [this, ByteArray.size_extract]; omega
  have h3 : (restB s k).size = ((s.extract k s.size).data.toList.drop (ind (s.extract k s.size).data.toList)).length := by
    show (restB s k).data.size = _
    rw [restB]; simp
  rw [h3, List.length_drop]
  omega

theorem iIndentOf (t : ByteArray) (w : World) (hs : t.size ≤ 1048576) : Calls Tryd.prog 34 #[.string t] w fun e w' => e = .returned (.int .i64 (ind t.data.toList)) ∧ w = w' := by
  have HT := Lib.hid (fun w0 => iTrim t w0)
  have h1 := restB_size t 0 (Nat.zero_le _)
  have h2 : t.extract 0 t.size = t := by simp
  rw [restB, h2] at h1
  obtain ⟨r, hr⟩ : ∃ r : ByteArray, r = ⟨(t.data.toList.drop (ind t.data.toList)).toArray⟩ := ⟨_, rfl⟩
  rw [← hr] at h1 HT
  clear hr h2
  go_enter Tryd.func34, Tryd.ntmps34
  go_wp2_with (go_at_call 69; refine (HT.out _).mono ?_; rintro e w' ⟨rfl, rfl⟩)
  go_ret
  exact ⟨ret_int (by omega), rfl⟩

end Go.Proofs.YtkifacpanipfhaaDoor
namespace Go.Proofs.YtkifacpanipfhaaDoor
open Go.RowKit

def fst (s : ByteArray) (i : Nat) : Bool := decide (i = 0) || bt s (i - 1) == 32
/-- Where the bare line ends, from a place on, inside quotes or not. -/
def bareF (s : ByteArray) : Nat → Nat → Bool → Nat
  | 0, _, _ => s.size
  | f + 1, i, true => if s.size ≤ i then s.size else if bt s i = 92 then bareF s f (i + 2) true else if bt s i = 34 then bareF s f (i + 1) false else bareF s f (i + 1) true
  | f + 1, i, false => if s.size ≤ i then s.size else if fst s i = true ∧ bt s i = 34 then bareF s f (i + 1) true else if fst s i = true ∧ bt s i = 35 then i else bareF s f (i + 1) false
theorem bareF_le (s : ByteArray) : ∀ f i q, bareF s f i q ≤ s.size
  | 0, _, _ => Nat.le_refl _
  | f + 1, i, true => by
    rw [bareF]
    by_cases h : s.size ≤ i
    · rw [if_pos h]; exact Nat.le_refl _
    rw [if_neg h]
    by_cases h1 : bt s i = 92
    · rw [if_pos h1]; exact bareF_le s f _ _
    rw [if_neg h1]
    by_cases h2 : bt s i = 34
    · rw [if_pos h2]; exact bareF_le s f _ _
    · rw [if_neg h2]; exact bareF_le s f _ _
  | f + 1, i, false => by
    rw [bareF]
    by_cases h : s.size ≤ i
    · rw [if_pos h]; exact Nat.le_refl _
    rw [if_neg h]
    by_cases h1 : fst s i = true ∧ bt s i = 34
    · rw [if_pos h1]; exact bareF_le s f _ _
    rw [if_neg h1]
    by_cases h2 : fst s i = true ∧ bt s i = 35
    · rw [if_pos h2]; omega
    · rw [if_neg h2]; exact bareF_le s f _ _
def BAt (s : ByteArray) (E i : Nat) (q : Bool) : Prop := ∃ f, s.size < i + f ∧ bareF s f i q = E
theorem bat_le {s : ByteArray} {E i : Nat} {q : Bool} (h : BAt s E i q) : E ≤ s.size := by
  obtain ⟨f, -, rfl⟩ := h; exact bareF_le _ _ _ _
theorem bareF_out {s : ByteArray} {f i : Nat} {q : Bool} (h : s.size ≤ i) : bareF s f i q = s.size := by
  cases f with
  | zero => rfl
  | succ f => cases q <;> rw [bareF, if_pos h]
theorem bat_out {s : ByteArray} {E i : Nat} {q : Bool} (h : BAt s E i q) (hi : s.size ≤ i) : E = s.size := by
  obtain ⟨f, -, rfl⟩ := h; exact bareF_out hi
theorem bat_end (s : ByteArray) (i : Nat) (q : Bool) (hi : s.size ≤ i) : BAt s s.size i q := ⟨1, by omega, bareF_out hi⟩
theorem bat_q92 {s : ByteArray} {E i : Nat} (h : BAt s E i true) (hi : i < s.size) (hb : bt s i = 92) : BAt s E (i + 2) true := by
  obtain ⟨f, hf, he⟩ := h
  cases f with
  | zero => omega
  | succ f => rw [bareF, if_neg (by omega), if_pos hb] at he; exact ⟨f, by omega, he⟩
theorem bat_q34 {s : ByteArray} {E i : Nat} (h : BAt s E i true) (hi : i < s.size) (hb : bt s i = 34) : BAt s E (i + 1) false := by
  obtain ⟨f, hf, he⟩ := h
  cases f with
  | zero => omega
  | succ f => rw [bareF, if_neg (by omega), if_neg (by omega), if_pos hb] at he; exact ⟨f, by omega, he⟩
theorem bat_qn {s : ByteArray} {E i : Nat} (h : BAt s E i true) (hi : i < s.size) (hb : bt s i ≠ 92) (hc : bt s i ≠ 34) : BAt s E (i + 1) true := by
  obtain ⟨f, hf, he⟩ := h
  cases f with
  | zero => omega
  | succ f => rw [bareF, if_neg (by omega), if_neg hb, if_neg hc] at he; exact ⟨f, by omega, he⟩
theorem bat_n34 {s : ByteArray} {E i : Nat} (h : BAt s E i false) (hi : i < s.size) (hf : fst s i = true) (hb : bt s i = 34) : BAt s E (i + 1) true := by
  obtain ⟨f, hf', he⟩ := h
  cases f with
  | zero => omega
  | succ f => rw [bareF, if_neg (by omega), if_pos ⟨hf, hb⟩] at he; exact ⟨f, by omega, he⟩
theorem bat_n35 {s : ByteArray} {E i : Nat} (h : BAt s E i false) (hi : i < s.size) (hf : fst s i = true) (hb : bt s i = 35) : i = E := by
  obtain ⟨f, hf', he⟩ := h
  cases f with
  | zero => omega
  | succ f => rw [bareF, if_neg (by omega), if_neg (fun hh => by have := hh.2; omega), if_pos ⟨hf, hb⟩] at he; exact he
theorem bat_nn {s : ByteArray} {E i : Nat} (h : BAt s E i false) (hi : i < s.size) (hn : fst s i = false ∨ (bt s i ≠ 34 ∧ bt s i ≠ 35)) : BAt s E (i + 1) false := by
  obtain ⟨f, hf', he⟩ := h
  cases f with
  | zero => omega
  | succ f =>
    rw [bareF, if_neg (by omega), if_neg (fun hh => by rcases hn with g | g; (· rw [g] at hh; cases hh.1); exact g.1 hh.2), if_neg (fun hh => by rcases hn with g | g; (· rw [g] at hh; cases hh.1); exact g.2 hh.2)] at he
    exact ⟨f, by omega, he⟩
theorem fst_zero (s : ByteArray) : fst s 0 = true := rfl
theorem fst_pos {s : ByteArray} {k : Nat} (h : 0 < k) (hk : k - 1 < s.size) : fst s k = ((s[k - 1].toNat : Int) == 32) := by
  rw [fst, decide_eq_false (by omega), Bool.false_or, bt_eq s _ hk]
  by_cases g : s[k - 1].toNat = 32
  · rw [g]; rfl
  · rw [beq_eq_false_iff_ne.2 g, beq_eq_false_iff_ne.2 (by omega)]
def bareE (s : ByteArray) : Nat := bareF s (s.size + 1) 0 false
theorem bat_start (s : ByteArray) : BAt s (bareE s) 0 false := ⟨s.size + 1, by omega, rfl⟩
def bareB (s : ByteArray) : ByteArray := ⟨(Lib.trimRightB (s.extract 0 (bareE s)).data.toList 32).toArray⟩
theorem bare_at {s : ByteArray} {E j : Nat} (hE : E = bareE s) (hj : j ≤ E) (h1 : ∀ i, j ≤ i → i < E → bt s i = 32) (h2 : 0 < j → bt s (j - 1) ≠ 32) : s.extract 0 j = bareB s := by
  have hle : E ≤ s.size := by rw [hE]; exact bareF_le _ _ _ _
  have hlen : s.data.toList.length = s.size := by simp
  have hget : ∀ (i : Nat) b, s.data.toList[i]? = some b → b.toNat = bt s i := by
    intro i b hb
    have hi : i < s.size := by
      have := (List.getElem?_eq_some_iff.1 hb).1; omega
    rw [bt_eq s i hi]
    have : s.data.toList[i]? = some s[i] := by
      rw [List.getElem?_eq_getElem (by omega)]; rfl
    rw [hb] at this; cases this; rfl
  have ht := Lib.trimRightB_take (s.data.toList.take E) 32 j (by rw [List.length_take]; omega)
    (fun i b hi hb => by
      rw [List.getElem?_take] at hb
      split at hb
      · rename_i hlt
        have g := hget i b hb
        rw [h1 i hi hlt] at g
        exact UInt8.toNat_inj.1 g
      · cases hb)
    (fun b hpos hb he => by
      rw [List.getElem?_take] at hb
      split at hb
      · have g := hget _ b hb
        rw [he] at g
        exact h2 hpos g.symm
      · cases hb)
  rw [bareB, ← hE, Lib.extract_upto s E]
  show _ = (⟨(Lib.trimRightB (s.data.toList.take E) 32).toArray⟩ : ByteArray)
  rw [ht, List.take_take, Nat.min_eq_left hj, Lib.extract_upto]

set_option maxHeartbeats 1000000 in
theorem iQuoteEnd (s : ByteArray) (E k : Nat) (w : World) (hs : s.size ≤ 1048576) (hk : k < s.size) (hA : BAt s E (k + 1) true) : Calls Tryd.prog 70 #[.string s, .int .i64 k] w fun e w' => (∃ j : Nat, e = .returned (.int .i64 j) ∧ k < j ∧ j ≤ s.size + 1 ∧ BAt s E (j + 1) false) ∧ w = w' := by
  have HA := Lib.hid hA; clear hA
  go_enter Tryd.func70, Tryd.ntmps70
  go_wp2
  go_loop [1] (fun i => ∃ j : Nat, i = .int .i64 j ∧ k < j ∧ j ≤ s.size + 1 ∧ Hid (BAt s E j true)) (fun i => s.size + 2 - (intOf i).toNat)
  case atStart => exact ⟨k + 1, by go_num, by omega, by omega, HA⟩
  case round =>
    obtain ⟨j, rfl, hkj, hjs, hB⟩ := hrel
    by_cases hlt : j < s.size
    rotate_left
    · have H := Lib.hid (show BAt s E (j + 1) false by
        rw [bat_out hB.out (by omega)]; exact bat_end s _ _ (by omega))
      go_wp2
      go_ret
      exact ⟨⟨j, rfl, hkj, hjs, H.out⟩, rfl⟩
    have hq := bt_eq s j hlt
    cases h34 : ((s[j].toNat : Int) == 34)
    rotate_left
    · have h34' : ((s[j].toNat : Int) != 34) = false := by rw [bne, h34]; rfl
      have H := Lib.hid (bat_q34 hB.out hlt (by rw [beq_iff_eq] at h34; omega))
      clear hq
      go_wp2
      go_ret
      exact ⟨⟨j, rfl, hkj, hjs, H.out⟩, rfl⟩
    have h34' : ((s[j].toNat : Int) != 34) = true := by rw [bne, h34]; rfl
    have n34 : bt s j ≠ 34 := by rw [beq_eq_false_iff_ne] at h34; omega
    cases h92 : ((s[j].toNat : Int) == 92)
    · have H := Lib.hid (bat_qn hB.out hlt (by rw [beq_eq_false_iff_ne] at h92; omega) n34)
      clear hq n34
      go_wp2
      go_round
      case rel => exact ⟨j + 1, by go_num, by omega, by omega, H⟩
      case measure => simp [intOf] <;> omega
    · have H := Lib.hid (bat_q92 hB.out hlt (by rw [beq_iff_eq] at h92; omega))
      clear hq n34
      go_wp2
      go_round
      case rel => exact ⟨j + 2, by go_num, by omega, by omega, H⟩
      case measure => simp [intOf] <;> omega

theorem iTrimR (t : ByteArray) (w : World) (h : t.size ≤ 1048576) : Calls Tryd.prog 71 #[.string t, .string ⟨#[32]⟩] w fun e w' => e = .returned (.string ⟨(Lib.trimRightB t.data.toList 32).toArray⟩) ∧ w = w' :=
  (Tryd.strings_TrimRight_one t 32 (by decide) w (Nat.le_trans h (by decide))).mono fun e w' ⟨h1, h2⟩ => ⟨h1, h2.symm⟩

set_option maxHeartbeats 2000000 in
theorem iBareLine (s : ByteArray) (w : World) (hs : s.size ≤ 1048576) : Calls Tryd.prog 35 #[.string s] w fun e w' => e = .returned (.string (bareB s)) ∧ w = w' := by
  obtain ⟨E, hE⟩ : ∃ E, E = bareE s := ⟨_, rfl⟩
  have hEs : E ≤ s.size := by rw [hE]; exact bareF_le _ _ _ _
  have HA := Lib.hid (show BAt s E 0 false by rw [hE]; exact bat_start s)
  have HT := Lib.hid (fun w0 => iTrimR (s.extract 0 E) w0 (by rw [ByteArray.size_extract]; omega))
  rw [show (⟨(Lib.trimRightB (s.extract 0 E).data.toList 32).toArray⟩ : ByteArray) = bareB s by rw [hE]; rfl] at HT
  clear hE
  go_enter Tryd.func35, Tryd.ntmps35
  go_wp2
  go_loop [3, 4] (fun e i => ∃ k : Nat, e = .int .i64 s.size ∧ i = .int .i64 k ∧ k ≤ s.size + 2 ∧ Hid (BAt s E k false)) (fun _ i => s.size + 3 - (intOf i).toNat)
  case atStart => exact ⟨0, rfl, rfl, by omega, HA⟩
  case round =>
    obtain ⟨k, rfl, rfl, hks, hB⟩ := hrel
    by_cases hlt : k < s.size
    rotate_left
    · have hE2 := bat_out hB.out (by omega)
      subst hE2
      have hx : s.extract 0 s.size = s := by simp
      rw [hx] at HT
      go_wp2_with (go_at_call 71; refine (HT.out _).mono ?_; rintro e w' ⟨rfl, rfl⟩)
      go_ret
      exact ⟨rfl, rfl⟩
    have hq := bt_eq s k hlt
    obtain ⟨fs, hfs⟩ : ∃ fs, fs = fst s k := ⟨_, rfl⟩
    have HF := Lib.hid hfs
    have step : ∀ {Q : Prop}, (k = 0 → fs = true → Q) → (∀ (h0 : 0 < k) (hk : k - 1 < s.size), ((s[k - 1].toNat : Int) == 32) = fs → Q) → Q := fun a b => by
      rcases Nat.eq_zero_or_pos k with h | h
      · exact a h (by rw [hfs, h]; rfl)
      · exact b h (by omega) (by rw [hfs, fst_pos h (by omega)])
    clear hfs
    cases fs
    · have H := Lib.hid (bat_nn hB.out hlt (Or.inl HF.out.symm))
      clear hq
      refine step (fun _ h => by cases h) (fun h0 hk1 hp => ?_)
      have hk0 : ((k : Int) == 0) = false := by rw [beq_eq_false_iff_ne]; omega
      clear step
      go_wp2_with fail
      go_round
      case rel => exact ⟨k + 1, rfl, by go_num, by omega, H⟩
      case measure => simp [intOf] <;> omega
    cases h35 : ((s[k].toNat : Int) == 35)
    rotate_left
    · obtain rfl := bat_n35 hB.out hlt HF.out.symm (by rw [beq_iff_eq] at h35; omega)
      clear hq
      refine step (fun h0 _ => ?_) (fun h0 hk1 hp => ?_)
      · subst h0
        have hx : s.extract 0 0 = ByteArray.empty := by simp
        rw [hx] at HT
        clear step
        go_wp2_with (go_at_call 71; refine (HT.out _).mono ?_; rintro e w' ⟨rfl, rfl⟩)
        go_ret
        exact ⟨rfl, rfl⟩
      · have hk0 : ((k : Int) == 0) = false := by rw [beq_eq_false_iff_ne]; omega
        clear step
        go_wp2_with (go_at_call 71; refine (HT.out _).mono ?_; rintro e w' ⟨rfl, rfl⟩)
        go_ret
        exact ⟨rfl, rfl⟩
    have n35 : bt s k ≠ 35 := by rw [beq_eq_false_iff_ne] at h35; omega
    cases h34 : ((s[k].toNat : Int) == 34)
    · have H := Lib.hid (bat_nn hB.out hlt (Or.inr ⟨by rw [beq_eq_false_iff_ne] at h34; omega, n35⟩))
      clear hq n35
      refine step (fun h0 _ => ?_) (fun h0 hk1 hp => ?_)
      · subst h0
        clear step
        go_wp2_with fail
        go_round
        case rel => exact ⟨1, rfl, by go_num, by omega, H⟩
        case measure => simp [intOf] <;> omega
      · have hk0 : ((k : Int) == 0) = false := by rw [beq_eq_false_iff_ne]; omega
        clear step
        go_wp2_with fail
        go_round
        case rel => exact ⟨k + 1, rfl, by go_num, by omega, H⟩
        case measure => simp [intOf] <;> omega
    · have HQ := Lib.hid (fun w0 => iQuoteEnd s E k w0 hs hlt (bat_n34 hB.out hlt HF.out.symm (by rw [beq_iff_eq] at h34; omega)))
      clear hq n35
      refine step (fun h0 _ => ?_) (fun h0 hk1 hp => ?_)
      · subst h0
        clear step
        go_wp2_with (go_at_call 70; refine (HQ.out _).mono ?_; rintro e w' ⟨⟨j, rfl, hj1, hj2, hj3⟩, rfl⟩)
        have H := Lib.hid hj3
        go_round
        case rel => exact ⟨j + 1, rfl, by go_num, by omega, H⟩
        case measure => simp [intOf] <;> omega
      · have hk0 : ((k : Int) == 0) = false := by rw [beq_eq_false_iff_ne]; omega
        clear step
        go_wp2_with (go_at_call 70; refine (HQ.out _).mono ?_; rintro e w' ⟨⟨j, rfl, hj1, hj2, hj3⟩, rfl⟩)
        have H := Lib.hid hj3
        go_round
        case rel => exact ⟨j + 1, rfl, by go_num, by omega, H⟩
        case measure => simp [intOf] <;> omega

end Go.Proofs.YtkifacpanipfhaaDoor
namespace Go.Proofs.YtkifacpanipfhaaDoor
open Go.RowKit

structure Ln where
  pre : Nat
  text : ByteArray
  row : Nat
def ctlB (p : ByteArray) : Bool := p.data.toList.any fun b => decide (b.toNat < 32)
theorem ctl_at {p : ByteArray} {k : Nat} (hk : k < p.size) (h : p[k].toNat < 32) : ctlB p = true := by
  rw [ctlB, List.any_eq_true]
  exact ⟨p[k], List.getElem_mem (l := p.data.toList) (n := k) (by simpa using hk), by simpa using h⟩
theorem ctl_no {p : ByteArray} (h : ∀ k (hk : k < p.size), ¬ p[k].toNat < 32) : ctlB p = false := by
  rw [ctlB, List.any_eq_false]
  intro b hb
  obtain ⟨k, hk, rfl⟩ := List.getElem_of_mem hb
  have hk' : k < p.size := by simpa using hk
  have := h k hk'
  rw [decide_eq_true_eq]
  exact this
def lnOf (p : ByteArray) (i : Nat) : Ln := ⟨ind (bareB p).data.toList, (bareB p).extract (ind (bareB p).data.toList) (bareB p).size, i + 1⟩
def lgo : List ByteArray → Nat → List Ln → List Ln × Option Nat
  | [], _, acc => (acc, none)
  | p :: ps, i, acc => if ctlB p = true then ([], some (i + 1)) else if (bareB p).toList.isEmpty = true then lgo ps (i + 1) acc else lgo ps (i + 1) (acc ++ [lnOf p i])
def LgAt (P : List ByteArray) (R : List Ln × Option Nat) (k : Nat) (acc : List Ln) : Prop := lgo (P.drop k) k acc = R
def linesR (s : ByteArray) : List Ln × Option Nat := lgo (partsL 10 s) 0 []
theorem lgAt_start (s : ByteArray) : LgAt (partsL 10 s) (linesR s) 0 [] := rfl
theorem drop_at {P : List ByteArray} {k : Nat} (hk : k < P.length) : P.drop k = strAt P k :: P.drop (k + 1) := by
  rw [strAt, List.getD_eq_getElem?_getD, List.getElem?_eq_getElem hk]
  exact List.drop_eq_getElem_cons hk
theorem lgAt_end {P : List ByteArray} {R : List Ln × Option Nat} {k : Nat} {acc : List Ln} (h : LgAt P R k acc) (hk : P.length ≤ k) : R = (acc, none) := by
  rw [LgAt, List.drop_of_length_le hk] at h; exact h.symm
theorem lgAt_bad {P : List ByteArray} {R : List Ln × Option Nat} {k : Nat} {acc : List Ln} (h : LgAt P R k acc) (hk : k < P.length) (hc : ctlB (strAt P k) = true) : R = ([], some (k + 1)) := by
  rw [LgAt, drop_at hk, lgo, if_pos hc] at h; exact h.symm
theorem lgAt_empty {P : List ByteArray} {R : List Ln × Option Nat} {k : Nat} {acc : List Ln} (h : LgAt P R k acc) (hk : k < P.length) (hc : ctlB (strAt P k) = false) (he : (bareB (strAt P k)).toList.isEmpty = true) : LgAt P R (k + 1) acc := by
  rw [LgAt, drop_at hk, lgo, if_neg (by simp [hc]), if_pos he] at h; exact h
theorem lgAt_step {P : List ByteArray} {R : List Ln × Option Nat} {k : Nat} {acc : List Ln} (h : LgAt P R k acc) (hk : k < P.length) (hc : ctlB (strAt P k) = false) (he : (bareB (strAt P k)).toList.isEmpty = false) : LgAt P R (k + 1) (acc ++ [lnOf (strAt P k) k]) := by
  rw [LgAt, drop_at hk, lgo, if_neg (by simp [hc]), if_neg (by simp [he])] at h; exact h
theorem lgo_len : ∀ (P : List ByteArray) (i : Nat) (acc : List Ln), (lgo P i acc).1.length ≤ acc.length + P.length
  | [], i, acc => by rw [lgo]; simp
  | p :: ps, i, acc => by
    rw [lgo]
    by_cases h1 : ctlB p = true
    · rw [if_pos h1]; simp
    rw [if_neg h1]
    have a := lgo_len ps (i + 1) acc
    have b := lgo_len ps (i + 1) (acc ++ [lnOf p i])
    by_cases h2 : (bareB p).toList.isEmpty = true
    · rw [if_pos h2]; simp only [List.length_cons]; omega
    · rw [if_neg h2]; simp only [List.length_cons, List.length_append, List.length_nil] at b ⊢; omega
/-- What LinesIn says. -/
def lnsL (s : ByteArray) : List Ln := match ftO s with | some _ => [] | none => (linesR s).1
def lnsC (s : ByteArray) : Int := match ftO s with | some x => x.1 | none => match (linesR s).2 with | some _ => 3 | none => 0
def lnsP (s : ByteArray) : Int := match ftO s with | some x => x.2 | none => match (linesR s).2 with | some k => k | none => 0
theorem lns_fault {s : ByteArray} {c p : Int} (h : ftO s = some (c, p)) : lnsL s = [] ∧ lnsC s = c ∧ lnsP s = p := by
  simp only [lnsL, lnsC, lnsP, h, and_self]
theorem lns_bad {s : ByteArray} {k : Nat} (h : ftO s = none) (hr : linesR s = ([], some k)) : lnsL s = [] ∧ lnsC s = 3 ∧ lnsP s = k := by
  simp only [lnsL, lnsC, lnsP, h, hr, and_self]
theorem lns_good {s : ByteArray} {L : List Ln} (h : ftO s = none) (hr : linesR s = (L, none)) : lnsL s = L ∧ lnsC s = 0 ∧ lnsP s = 0 := by
  simp only [lnsL, lnsC, lnsP, h, hr, and_self]
theorem lns_len (s : ByteArray) : (lnsL s).length ≤ s.size + 1 := by
  unfold lnsL
  split
  · simp
  · have := lgo_len (partsL 10 s) 0 []
    have := parts_len 10 s
    simp at *; unfold linesR; omega

end Go.Proofs.YtkifacpanipfhaaDoor
namespace Go.Proofs.YtkifacpanipfhaaDoor
open Go.RowKit

/-! ### A bare line, piece by piece -/
theorem fst_back {T : ByteArray} {P R : List UInt8} (h : T.data.toList = (P ++ [32]) ++ R) : fst T (P ++ [32]).length = true := by
  have h1 : T.data.toList = P ++ ([32] ++ R) := by rw [h, List.append_assoc]
  have h0 := tk_bt h1 0 (by simp)
  simp only [Nat.add_zero, List.cons_append, List.getD_cons_zero] at h0
  have e : (P ++ [(32 : UInt8)]).length - 1 = P.length := by simp
  rw [fst, e, h0]
  simp
theorem scan_safe {T : ByteArray} {E : Nat} : ∀ (l P R : List UInt8), (∀ b ∈ l, b.toNat ≠ 34 ∧ b.toNat ≠ 35) → T.data.toList = P ++ (l ++ R) → BAt T E P.length false → BAt T E (P.length + l.length) false
  | [], P, R, _, _, h => h
  | b :: l, P, R, hb, hT, h => by
    have hsz := tk_size hT
    simp only [List.length_append, List.length_cons] at hsz
    have h0 := tk_bt hT 0 (by simp)
    simp only [Nat.add_zero, List.cons_append, List.getD_cons_zero] at h0
    have h1 := bat_nn h (by omega) (.inr (by rw [h0]; exact hb b (by simp)))
    have := scan_safe l (P ++ [b]) R (fun x hx => hb x (by simp [hx])) (by rw [hT]; simp) (by simpa using h1)
    simp only [List.length_append, List.length_cons, List.length_nil] at this ⊢
    rw [show P.length + (l.length + 1) = P.length + (0 + 1) + l.length by omega]
    exact this
theorem scan_in {T : ByteArray} {E : Nat} : ∀ (l P R : List UInt8), (∀ b ∈ l, b.toNat ≠ 92 ∧ b.toNat ≠ 34) → T.data.toList = P ++ (l ++ R) → BAt T E P.length true → BAt T E (P.length + l.length) true
  | [], P, R, _, _, h => h
  | b :: l, P, R, hb, hT, h => by
    have hsz := tk_size hT
    simp only [List.length_append, List.length_cons] at hsz
    have h0 := tk_bt hT 0 (by simp)
    simp only [Nat.add_zero, List.cons_append, List.getD_cons_zero] at h0
    have h1 := bat_qn h (by omega) (by rw [h0]; exact (hb b (by simp)).1) (by rw [h0]; exact (hb b (by simp)).2)
    have := scan_in l (P ++ [b]) R (fun x hx => hb x (by simp [hx])) (by rw [hT]; simp) (by simpa using h1)
    simp only [List.length_append, List.length_cons, List.length_nil] at this ⊢
    rw [show P.length + (l.length + 1) = P.length + (0 + 1) + l.length by omega]
    exact this
theorem fig_ok (x : Nat) (h : x < 16) : (figB x).toNat ≠ 92 ∧ (figB x).toNat ≠ 34 ∧ 32 ≤ (figB x).toNat := by
  unfold figB
  split
  · simp; omega
  · simp; omega
theorem scan_two {T : ByteArray} {E : Nat} (c : UInt8) (l P R : List UInt8) (hl : ∀ b ∈ l, b.toNat ≠ 92 ∧ b.toNat ≠ 34) (hT : T.data.toList = P ++ (92 :: c :: l ++ R)) (h : BAt T E P.length true) : BAt T E (P.length + (92 :: c :: l).length) true := by
  have hsz := tk_size hT
  simp only [List.length_append, List.length_cons, List.cons_append] at hsz
  have h0 := tk_bt hT 0 (by simp)
  simp only [Nat.add_zero, List.cons_append, List.getD_cons_zero] at h0
  have h1 := bat_q92 h (by omega) h0
  have := scan_in l (P ++ [92, c]) R hl (by rw [hT]; simp) (by simpa using h1)
  simp only [List.length_append, List.length_cons, List.length_nil] at this ⊢
  rw [show P.length + (l.length + 1 + 1) = P.length + (0 + 1 + 1) + l.length by omega]
  exact this
theorem escB_form (b : UInt8) : (escB b = [b] ∧ b.toNat ≠ 92 ∧ b.toNat ≠ 34 ∧ 32 ≤ b.toNat) ∨ ∃ c l, escB b = 92 :: c :: l ∧ 32 ≤ c.toNat ∧ ∀ x ∈ l, x.toNat ≠ 92 ∧ x.toNat ≠ 34 ∧ 32 ≤ x.toNat := by
  have h1 := fig_ok (b.toNat / 16 % 16) (by omega)
  have h2 := fig_ok (b.toNat % 16) (by omega)
  have e : b.toNat / 16 % 16 = b.toNat / 16 := by have := b.toNat_lt; omega
  rw [e] at h1
  unfold escB
  iterate 7 (split; · exact .inr ⟨_, _, rfl, by decide, by simp⟩)
  split
  · refine .inr ⟨_, _, rfl, by decide, fun x hx => ?_⟩
    simp only [List.mem_cons, List.mem_nil_iff, or_false] at hx
    rcases hx with rfl | rfl | rfl | rfl
    · decide
    · decide
    · exact h1
    · exact h2
  · rename_i n1 n2 _ _ _ _ _ n8
    refine .inl ⟨rfl, fun h => n2 ?_, fun h => n1 ?_, by omega⟩
    · exact UInt8.toNat_inj.1 h
    · exact UInt8.toNat_inj.1 h
theorem scan_flat {T : ByteArray} {E : Nat} : ∀ (l P R : List UInt8), T.data.toList = P ++ (l.flatMap escB ++ R) → BAt T E P.length true → BAt T E (P.length + (l.flatMap escB).length) true
  | [], P, R, _, h => h
  | b :: l, P, R, hT, h => by
    rw [List.flatMap_cons, List.append_assoc] at hT
    have h1 : BAt T E (P.length + (escB b).length) true := by
      rcases escB_form b with ⟨e, e1, e2, -⟩ | ⟨c, m, e, -, hm⟩
      · rw [e] at hT ⊢; exact scan_in [b] P _ (by simp; exact ⟨e1, e2⟩) hT h
      · rw [e] at hT ⊢; exact scan_two c m P _ (fun x hx => ⟨(hm x hx).1, (hm x hx).2.1⟩) hT h
    have := scan_flat l (P ++ escB b) R (by rw [hT]; simp only [List.append_assoc]) (by rw [List.length_append]; exact h1)
    rw [List.length_append] at this
    rw [List.flatMap_cons, List.length_append, ← Nat.add_assoc]
    exact this
theorem qL_form {s : ByteArray} (h : (runesO s).isSome = true) : qL s = [34] ++ (s.data.toList.flatMap escB ++ [34]) := by
  rw [qL_eq h, escTo, List.take_of_length_le (by simp)]; rfl
/-- From a place where a word may begin, scanning l ends outside quotes. -/
def Scan (l : List UInt8) : Prop := ∀ (T : ByteArray) (P R : List UInt8) (E : Nat), T.data.toList = P ++ (l ++ R) → fst T P.length = true → BAt T E P.length false → BAt T E (P.length + l.length) false
theorem Scan.safe {l : List UInt8} (h : ∀ b ∈ l, b.toNat ≠ 34 ∧ b.toNat ≠ 35) : Scan l := fun _ P R _ hT _ hb => scan_safe l P R h hT hb
theorem Scan.quoted {s : ByteArray} (h : (runesO s).isSome = true) : Scan (qL s) := fun T P R E hT hf hb => by
  rw [qL_form h] at hT ⊢
  have hsz := tk_size hT
  simp only [List.length_append, List.length_cons, List.length_nil] at hsz
  have h0 := tk_bt hT 0 (by simp)
  simp only [Nat.add_zero, List.cons_append, List.nil_append, List.getD_cons_zero] at h0
  have h1 := bat_n34 hb (by omega) hf h0
  have hT2 : T.data.toList = (P ++ [34]) ++ (s.data.toList.flatMap escB ++ ([34] ++ R)) := by rw [hT]; simp only [List.append_assoc]
  have h2 := scan_flat s.data.toList (P ++ [34]) _ hT2 (by simpa using h1)
  have hT3 : T.data.toList = ((P ++ [34]) ++ s.data.toList.flatMap escB) ++ ([34] ++ R) := by rw [hT2]; simp only [List.append_assoc]
  have h3 := tk_bt hT3 0 (by simp)
  simp only [Nat.add_zero, List.cons_append, List.nil_append, List.getD_cons_zero] at h3
  have h4 := bat_q34 (by rw [← List.length_append] at h2; exact h2) (by simp only [List.length_append, List.length_cons, List.length_nil]; omega) h3
  simp only [List.length_append, List.length_cons, List.length_nil] at h4 ⊢
  rw [show P.length + (0 + 1 + ((s.data.toList.flatMap escB).length + (0 + 1))) = P.length + (0 + 1) + (s.data.toList.flatMap escB).length + 1 by omega]
  exact h4
theorem Scan.tail {l m : List UInt8} (h : Scan l) (hm : ∀ b ∈ m, b.toNat ≠ 34 ∧ b.toNat ≠ 35) : Scan (l ++ m) := fun T P R E hT hf hb => by
  rw [List.append_assoc] at hT
  have h1 := h T P _ E hT hf hb
  have := scan_safe m (P ++ l) R hm (by rw [hT]; simp only [List.append_assoc]) (by rw [List.length_append]; exact h1)
  rw [List.length_append] at this
  rw [List.length_append, ← Nat.add_assoc]; exact this
/-- A piece that ends in a blank, then another one. -/
theorem Scan.next {l m : List UInt8} (h : Scan (l ++ [32])) (k : Scan m) : Scan ((l ++ [32]) ++ m) := fun T P R E hT hf hb => by
  rw [List.append_assoc] at hT
  have h1 := h T P _ E hT hf hb
  have hT2 : T.data.toList = (P ++ (l ++ [32])) ++ (m ++ R) := by rw [hT]; simp only [List.append_assoc]
  have hT3 : T.data.toList = ((P ++ l) ++ [32]) ++ (m ++ R) := by rw [hT]; simp only [List.append_assoc]
  have hf2 := fst_back hT3
  have := k T (P ++ (l ++ [32])) R E hT2 (by rw [← List.append_assoc]; exact hf2) (by have e1 : (P ++ (l ++ [32])).length = P.length + (l ++ [32]).length := List.length_append; rw [e1]; exact h1)
  have e1 : (P ++ (l ++ [32])).length = P.length + (l ++ [32]).length := List.length_append
  have e2 : ((l ++ [32]) ++ m).length = (l ++ [32]).length + m.length := List.length_append
  rw [e1] at this
  rw [e2, ← Nat.add_assoc]; exact this
structure LOk (l : List UInt8) : Prop where
  scan : Scan l
  last : ∃ m b, l = m ++ [b] ∧ b.toNat ≠ 32
  low : ∀ b ∈ l, 32 ≤ b.toNat
  val : ValidL l
theorem LOk.pre {a l : List UInt8} (ha : Scan (a ++ [32])) (hlow : ∀ b ∈ a, 32 ≤ b.toNat) (hv : ValidL a) (h : LOk l) : LOk ((a ++ [32]) ++ l) := by
  obtain ⟨m, b, e, hb⟩ := h.last
  refine ⟨Scan.next ha h.scan, ⟨(a ++ [32]) ++ m, b, by rw [e]; simp only [List.append_assoc], hb⟩, fun x hx => ?_, (hv.app (ValidL.low (by simp))).app h.val⟩
  simp only [List.mem_append, List.mem_singleton] at hx
  rcases hx with (hx | rfl) | hx
  · exact hlow x hx
  · decide
  · exact h.low x hx
theorem LOk.post {a : List UInt8} (h : LOk a) : LOk (a ++ [58]) := by
  refine ⟨h.scan.tail (by simp), ⟨a, 58, rfl, by decide⟩, fun x hx => ?_, h.val.app (ValidL.low (by simp))⟩
  simp only [List.mem_append, List.mem_singleton] at hx
  rcases hx with hx | rfl
  · exact h.low x hx
  · decide
theorem LOk.safe {m : List UInt8} {b : UInt8} (hb : b.toNat ≠ 32) (h : ∀ x ∈ m ++ [b], 36 ≤ x.toNat ∧ x.toNat < 128) : LOk (m ++ [b]) :=
  ⟨Scan.safe (fun x hx => by have := h x hx; omega), ⟨m, b, rfl, hb⟩, fun x hx => by have := h x hx; omega, ValidL.low (fun x hx => (h x hx).2)⟩
theorem plain_byte {s : ByteArray} (h : plainAll s = true) : ∀ b ∈ s.data.toList, 32 ≤ b.toNat ∧ b.toNat ≠ 34 ∧ b.toNat ≠ 35 := by
  simp only [plainAll, plainB, Bool.and_eq_true] at h
  obtain ⟨-, -, -, -, -, h5, -⟩ := h
  intro b hb
  obtain ⟨i, hi, rfl⟩ := List.getElem_of_mem hb
  have hi2 : i < s.size := by simpa using hi
  have := List.all_eq_true.1 h5 i (List.mem_range.2 hi2)
  simp only [okC, charBad, Bool.not_eq_true', Bool.or_eq_false_iff, beq_eq_false_iff_ne, decide_eq_false_iff_not] at this
  have e : bt s i = (s.data.toList[i]).toNat := by rw [bt_eq s i hi2]; rfl
  rw [e] at this
  omega
theorem LOk.key {s : ByteArray} (hv : (runesO s).isSome = true) : LOk (keyTextB s).data.toList := by
  unfold keyTextB
  cases hp : plainAll s
  · rw [if_neg (by simp)]
    show LOk (qL s)
    have hq := qL_form hv
    refine ⟨Scan.quoted hv, ⟨[34] ++ s.data.toList.flatMap escB, 34, by rw [hq, List.append_assoc], by decide⟩, fun x hx => ?_, ValidL.q hv⟩
    rw [hq] at hx
    simp only [List.mem_append, List.mem_singleton, List.mem_flatMap] at hx
    rcases hx with rfl | ⟨b, hb, hx⟩ | rfl
    · decide
    · rcases escB_form b with ⟨e, e1, e2, e3⟩ | ⟨c, m, e, e1, hm⟩
      · rw [e] at hx; simp only [List.mem_singleton] at hx; subst hx; exact e3
      · rw [e] at hx
        simp only [List.mem_cons] at hx
        rcases hx with rfl | rfl | hx
        · decide
        · exact e1
        · exact (hm x hx).2.2
    · decide
  · rw [if_pos rfl]
    have hb := plain_byte hp
    have h1 := hp
    simp only [plainAll, Bool.and_eq_true, betweenB, decide_eq_true_eq, Bool.not_eq_true', beq_eq_false_iff_ne] at h1
    obtain ⟨⟨h2, -⟩, -, -, h3, -⟩ := h1
    have hpos : 0 < s.data.toList.length := by simp; omega
    refine ⟨Scan.safe (fun x hx => (hb x hx).2), ⟨s.data.toList.dropLast, s.data.toList.getLast (List.length_pos_iff.1 hpos), (List.dropLast_concat_getLast _).symm, ?_⟩, fun x hx => (hb x hx).1, ValidL.of hv⟩
    rw [List.getLast_eq_getElem]
    have e : bt s (s.size - 1) = (s.data.toList[s.data.toList.length - 1]).toNat := by
      rw [bt_eq s _ (by simp at hpos; omega)]
      have : s.size - 1 = s.data.toList.length - 1 := by simp
      simp only [this]; rfl
    rw [← e]; exact h3
theorem itoa_bytes (n : Int) (h1 : -9223372036854775808 ≤ n) : Lib.itoa n ≠ [] ∧ ∀ b ∈ Lib.itoa n, 45 ≤ b.toNat ∧ b.toNat ≤ 57 := by
  have key : ∀ m : Nat, Lib.decDigits m ≠ [] ∧ ∀ b ∈ Lib.decDigits m, 45 ≤ b.toNat ∧ b.toNat ≤ 57 := fun m => by
    obtain ⟨hc, -, -⟩ := dec_canon m m (Nat.le_refl _)
    exact ⟨hc.ne, fun b hb => by have := isDg_iff.1 (hc.dg b hb); omega⟩
  by_cases hn : n < 0
  · obtain ⟨m, hm⟩ := Int.eq_ofNat_of_zero_le (show 0 ≤ -n by omega)
    obtain rfl : n = -(m : Int) := by omega
    rw [itoa_neg m (by omega)]
    refine ⟨by simp, fun b hb => ?_⟩
    rcases List.mem_cons.1 hb with rfl | hb
    · decide
    · exact (key m).2 b hb
  · obtain ⟨m, rfl⟩ := Int.eq_ofNat_of_zero_le (show 0 ≤ n by omega)
    rw [itoa_pos m]; exact key m
theorem LOk.num (n : Int) (h1 : -9223372036854775808 ≤ n) : LOk (Lib.itoa n) := by
  obtain ⟨hne, hb⟩ := itoa_bytes n h1
  have e := List.dropLast_concat_getLast hne
  have hl := hb _ (List.getLast_mem hne)
  have := LOk.safe (m := (Lib.itoa n).dropLast) (b := (Lib.itoa n).getLast hne) (by omega) (fun x hx => by rw [e] at hx; have := hb x hx; omega)
  rw [e] at this; exact this
theorem LOk.scal {k : Int} {f : Bool} {n : Int} {s : ByteArray} (h1 : -9223372036854775808 ≤ n) (hv : (runesO s).isSome = true) : LOk (scalTB k f n s).data.toList := by
  unfold scalTB
  split
  · exact LOk.safe (m := [110, 117, 108]) (b := 108) (by decide) (by decide)
  split
  · split
    · exact LOk.safe (m := [116, 114, 117]) (b := 101) (by decide) (by decide)
    · exact LOk.safe (m := [102, 97, 108, 115]) (b := 101) (by decide) (by decide)
  split
  · exact LOk.num n h1
  split
  · exact LOk.key hv
  split
  · exact LOk.safe (m := [91]) (b := 93) (by decide) (by decide)
  · exact LOk.safe (m := [123]) (b := 125) (by decide) (by decide)
theorem LOk.two {l : ByteArray} (h : LOk l.data.toList) : LOk (twoSp l).data.toList := by
  have : (twoSp l).data.toList = ([32] ++ [32]) ++ l.data.toList := by simp [twoSp]
  rw [this]
  exact LOk.pre (Scan.safe (by simp)) (by simp) (ValidL.low (by simp)) h
theorem LOk.dash {l : ByteArray} (h : LOk l.data.toList) : LOk ((⟨#[45, 32]⟩ : ByteArray) ++ l).data.toList := by
  have : ((⟨#[45, 32]⟩ : ByteArray) ++ l).data.toList = ([45] ++ [32]) ++ l.data.toList := by simp
  rw [this]
  exact LOk.pre (Scan.safe (by simp)) (by simp) (ValidL.low (by simp)) h
theorem LOk.pair {key l : ByteArray} (hk : (runesO key).isSome = true) (h : LOk l.data.toList) : LOk ((keyTextB key ++ ⟨#[58, 32]⟩) ++ l).data.toList := by
  have hK := LOk.key hk
  have : ((keyTextB key ++ ⟨#[58, 32]⟩) ++ l).data.toList = (((keyTextB key).data.toList ++ [58]) ++ [32]) ++ l.data.toList := by simp
  rw [this]
  refine LOk.pre ?_ hK.post.low hK.post.val h
  rw [List.append_assoc]
  exact hK.scan.tail (by simp)
theorem LOk.colon {key : ByteArray} (hk : (runesO key).isSome = true) : LOk (keyTextB key ++ ⟨#[58]⟩).data.toList := by
  have : (keyTextB key ++ ⟨#[58]⟩).data.toList = (keyTextB key).data.toList ++ [58] := by simp
  rw [this]
  exact (LOk.key hk).post
theorem strAt_mem {L : List ByteArray} {i : Nat} (h : i < L.length) : strAt L i ∈ L := by
  rw [strAt, List.getD_eq_getElem?_getD, List.getElem?_eq_getElem h]; exact List.getElem_mem h
theorem entry_ok {m : Bool} {key : ByteArray} {leaf : Bool} {L : List ByteArray} (hk : m = true → (runesO key).isSome = true) (hL : 0 < L.length) (h : ∀ l ∈ L, LOk l.data.toList) : ∀ l ∈ entryL m key leaf L, LOk l.data.toList := by
  have h0 := h _ (strAt_mem hL)
  intro l hl
  unfold entryL at hl
  split at hl
  · rename_i hm
    split at hl
    · simp only [List.mem_singleton] at hl; subst hl; exact LOk.pair (hk hm) h0
    · simp only [List.mem_cons, List.mem_map] at hl
      rcases hl with rfl | ⟨x, hx, rfl⟩
      · exact LOk.colon (hk hm)
      · exact LOk.two (h x hx)
  · simp only [List.mem_cons, List.mem_map] at hl
    rcases hl with rfl | ⟨x, hx, rfl⟩
    · exact LOk.dash h0
    · exact LOk.two (h x (List.mem_of_mem_drop hx))
mutual
theorem lines_ok : ∀ t : Tr, shapeB t = true → t.nums → ∀ l ∈ linesT t, LOk l.data.toList
  | .mk k f n s keys kids, h, hn => by
    obtain ⟨h1, h2, h3⟩ := shape_parts h
    obtain ⟨a1, a2, a3, a4, a5, a6⟩ := head_kind h1
    simp only [Tr.kind, Tr.text, Tr.keys, Tr.kids] at a1 a2 a3 a4 a5 a6 h2 h3
    have hb := nums_bd hn
    simp only [Tr.num] at hb
    simp only [Tr.nums] at hn
    rw [linesT]
    by_cases hk : kids.isEmpty = true
    · rw [if_pos hk]
      intro l hl
      simp only [List.mem_singleton] at hl; subst hl
      exact LOk.scal hb.1 (ok_text a3)
    · rw [if_neg hk]
      have hkeys : (k == 6) = true → keys.length = kids.length := fun e => a4 (by simpa using e)
      exact linesK_ok (k == 6) keys kids 0 (fun e j hj => ok_key h2 (by have := hkeys e; omega)) h3 hn.2
theorem linesK_ok (m : Bool) (keys : List ByteArray) : ∀ (l : List Tr) (i : Nat), (m = true → ∀ j, j < i + l.length → (runesO (strAt keys j)).isSome = true) → shapeL l = true → numsL l → ∀ x ∈ linesK m keys i l, LOk x.data.toList
  | [], i, _, _, _ => by simp [linesK]
  | t :: ts, i, hk, h, hn => by
    rw [shapeL, Bool.and_eq_true] at h
    simp only [numsL] at hn
    simp only [List.length_cons] at hk
    intro x hx
    simp only [linesK, List.mem_append] at hx
    rcases hx with hx | hx
    · exact entry_ok (fun e => hk e i (by omega)) (linesT_len t h.1 hn.1).2.1 (lines_ok t h.1 hn.1) x hx
    · exact linesK_ok m keys ts (i + 1) (fun e j hj => hk e j (by omega)) h.2 hn.2 x hx
end

/-! ### The bare line of such a line, and of one with a remark behind it -/
theorem bare_self {l : ByteArray} (h : LOk l.data.toList) : bareB l = l := by
  have hlen : l.data.toList.length = l.size := by simp
  have h1 := h.scan l [] [] (bareE l) (by simp) rfl (bat_start l)
  have hE := bat_out h1 (by simp)
  obtain ⟨m, b, e, hb⟩ := h.last
  have hT : l.data.toList = m ++ [b] := e
  have hz : l.size = m.length + 1 := by rw [← hlen, e]; simp
  have h0 := tk_bt hT 0 (by simp)
  simp only [Nat.add_zero, List.getD_cons_zero] at h0
  have := bare_at (s := l) (j := l.size) rfl (by omega) (fun i hi hi2 => by omega) (fun _ => by rw [hz, Nat.add_sub_cancel, h0]; exact hb)
  rw [← this]
  apply ByteArray.ext
  simp
def cmtB : ByteArray := ⟨#[32, 32, 32, 35, 32, 115, 97, 105, 100, 32]⟩
theorem bare_cmt {l : ByteArray} (h : LOk l.data.toList) : bareB (l ++ cmtB) = l := by
  have hlen : l.data.toList.length = l.size := by simp
  obtain ⟨T, hT⟩ : ∃ T, T = l ++ cmtB := ⟨_, rfl⟩
  have hd : T.data.toList = l.data.toList ++ ([32, 32] ++ [32] ++ [35, 32, 115, 97, 105, 100, 32]) := by rw [hT]; simp [cmtB]
  rw [← hT]
  have hsz := tk_size hd
  simp only [List.length_append, List.length_cons, List.length_nil] at hsz
  have h1 := h.scan T [] _ (bareE T) hd rfl (bat_start T)
  simp only [List.length_nil, Nat.zero_add] at h1
  have hd2 : T.data.toList = l.data.toList ++ ([32, 32, 32] ++ [35, 32, 115, 97, 105, 100, 32]) := by rw [hd]; rfl
  have h2 := scan_safe [32, 32, 32] l.data.toList _ (by simp) hd2 h1
  have hd3 : T.data.toList = ((l.data.toList ++ [32, 32]) ++ [32]) ++ [35, 32, 115, 97, 105, 100, 32] := by rw [hd]; simp
  have hf := fst_back hd3
  have h3 := tk_bt hd3 0 (by simp)
  simp only [List.length_append, List.length_cons, List.length_nil, Nat.add_zero, List.getD_cons_zero] at hf h3
  have hE : l.data.toList.length + 3 = bareE T := bat_n35 (by simpa using h2) (by omega) (by rw [← hf]) (by rw [show l.data.toList.length + 3 = l.data.toList.length + (0 + 1 + 1) + (0 + 1) by omega, h3]; rfl)
  obtain ⟨m, b, e, hb⟩ := h.last
  have hz : l.data.toList.length = m.length + 1 := by rw [e]; simp
  have hd4 : T.data.toList = m ++ ([b] ++ ([32, 32] ++ [32] ++ [35, 32, 115, 97, 105, 100, 32])) := by rw [hd, e, List.append_assoc]
  have h0 := tk_bt hd4 0 (by simp)
  simp only [Nat.add_zero, List.cons_append, List.getD_cons_zero] at h0
  have := bare_at (s := T) (E := l.data.toList.length + 3) (j := l.data.toList.length) hE (by omega) (fun i hi hi2 => by
    obtain ⟨j, rfl⟩ : ∃ j, i = l.data.toList.length + j := ⟨i - l.data.toList.length, by omega⟩
    rw [tk_bt hd2 j (by simp; omega)]
    rcases (show j = 0 ∨ j = 1 ∨ j = 2 by omega) with rfl | rfl | rfl <;> rfl) (fun _ => by rw [hz, Nat.add_sub_cancel, h0]; exact hb)
  rw [← this]
  apply ByteArray.ext
  apply Array.ext'
  rw [Lib.extract_upto, hd]
  simp
theorem bare_said : bareB ⟨#[35, 32, 115, 97, 105, 100]⟩ = ⟨#[]⟩ := by decide +kernel
theorem emp_ba : (⟨#[]⟩ : ByteArray).toList.isEmpty = true := by rw [ByteArray.toList_eq]; rfl
theorem bare_empty : bareB ⟨#[]⟩ = ⟨#[]⟩ := by decide +kernel
theorem ctl_low {p : ByteArray} (h : ∀ b ∈ p.data.toList, 32 ≤ b.toNat) : ctlB p = false := by
  rw [ctlB, List.any_eq_false]
  intro b hb
  have := h b hb
  simp; omega
theorem cmt_low {l : ByteArray} (h : ∀ b ∈ l.data.toList, 32 ≤ b.toNat) : ∀ b ∈ (l ++ cmtB).data.toList, 32 ≤ b.toNat := by
  intro b hb
  have e : (l ++ cmtB).data.toList = l.data.toList ++ cmtB.data.toList := by simp
  rw [e, List.mem_append] at hb
  rcases hb with hb | hb
  · exact h b hb
  · have hall : ∀ b ∈ cmtB.data.toList, 32 ≤ b.toNat := by decide
    exact hall b hb

/-! ### The two texts -/
def nlB : List UInt8 := [10]
def aL (L : List ByteArray) : List UInt8 := L.flatMap fun l => l.data.toList ++ [10]
def bL (L : List ByteArray) : List UInt8 := L.flatMap fun l => (l ++ cmtB).data.toList ++ [10, 10]
def saidL : List UInt8 := [35, 32, 115, 97, 105, 100, 10]
theorem no_ten {l : List UInt8} (h : ∀ b ∈ l, 32 ≤ b.toNat) : (10 : UInt8) ∉ l := fun hm => by
  have := h 10 hm
  have e : (10 : UInt8).toNat = 10 := rfl
  omega
theorem cut_a : ∀ (L : List ByteArray), (∀ l ∈ L, ∀ b ∈ l.data.toList, 32 ≤ b.toNat) → cutL 10 (aL L) = L.map (·.data.toList) ++ [[]]
  | [], _ => rfl
  | l :: L, h => by
    have e : aL (l :: L) = l.data.toList ++ 10 :: aL L := by simp [aL]
    rw [e, cutL_hit 10 _ _ (no_ten (h l (by simp))), cut_a L (fun x hx => h x (by simp [hx]))]; rfl
theorem cut_b : ∀ (L : List ByteArray), (∀ l ∈ L, ∀ b ∈ l.data.toList, 32 ≤ b.toNat) → cutL 10 (bL L) = (L.flatMap fun l => [(l ++ cmtB).data.toList, []]) ++ [[]]
  | [], _ => rfl
  | l :: L, h => by
    have e : bL (l :: L) = (l ++ cmtB).data.toList ++ 10 :: ([] ++ 10 :: bL L) := by simp [bL]
    rw [e, cutL_hit 10 _ _ (no_ten (cmt_low (h l (by simp)))), cutL_hit 10 _ _ (by simp), cut_b L (fun x hx => h x (by simp [hx]))]; rfl
def lnA (l : ByteArray) (r : Nat) : Ln := ⟨ind l.data.toList, l.extract (ind l.data.toList) l.size, r⟩
def lnsA : List ByteArray → Nat → List Ln
  | [], _ => []
  | l :: L, i => lnA l (i + 1) :: lnsA L (i + 1)
def lnsB : List ByteArray → Nat → List Ln
  | [], _ => []
  | l :: L, i => lnA l (i + 1) :: lnsB L (i + 2)
theorem LOk.isNe {l : ByteArray} (h : LOk l.data.toList) : l.toList.isEmpty = false := by
  obtain ⟨m, b, e, -⟩ := h.last
  rw [ByteArray.toList_eq, e]; simp
theorem lgo_a : ∀ (L : List ByteArray) (i : Nat) (acc : List Ln), (∀ l ∈ L, LOk l.data.toList) → lgo (L ++ [⟨#[]⟩]) i acc = (acc ++ lnsA L i, none)
  | [], i, acc, _ => by
    rw [List.nil_append, lgo, if_neg (by decide), if_pos (by rw [bare_empty]; exact emp_ba), lgo, lnsA, List.append_nil]
  | l :: L, i, acc, h => by
    have hl := h l (by simp)
    rw [List.cons_append, lgo, if_neg (by rw [ctl_low hl.low]; simp), bare_self hl, if_neg (by rw [hl.isNe]; simp), lgo_a L (i + 1) _ (fun x hx => h x (by simp [hx])), lnsA, lnOf, bare_self hl]
    simp [lnA]
theorem lgo_b : ∀ (L : List ByteArray) (i : Nat) (acc : List Ln), (∀ l ∈ L, LOk l.data.toList) → lgo ((L.flatMap fun l => [l ++ cmtB, ⟨#[]⟩]) ++ [⟨#[]⟩]) i acc = (acc ++ lnsB L i, none)
  | [], i, acc, _ => by
    rw [List.flatMap_nil, List.nil_append, lgo, if_neg (by decide), if_pos (by rw [bare_empty]; exact emp_ba), lgo, lnsB, List.append_nil]
  | l :: L, i, acc, h => by
    have hl := h l (by simp)
    rw [List.flatMap_cons, List.append_assoc, List.cons_append, List.cons_append, List.nil_append, lgo, if_neg (by rw [ctl_low (cmt_low hl.low)]; simp), bare_cmt hl, if_neg (by rw [hl.isNe]; simp), lgo, if_neg (by decide), if_pos (by rw [bare_empty]; exact emp_ba), lgo_b L (i + 1 + 1) _ (fun x hx => h x (by simp [hx])), lnsB, lnOf, bare_cmt hl]
    simp [lnA]
theorem lnsA_at : ∀ (L : List ByteArray) (i j : Nat), j < L.length → (lnsA L i)[j]? = some (lnA (strAt L j) (i + j + 1))
  | [], _, _, h => by simp at h
  | l :: L, i, 0, _ => by rw [lnsA]; rfl
  | l :: L, i, j + 1, h => by
    rw [lnsA, List.getElem?_cons_succ, lnsA_at L (i + 1) j (by simpa using h)]
    rw [show i + 1 + j + 1 = i + (j + 1) + 1 by omega]; rfl
theorem lnsB_at : ∀ (L : List ByteArray) (i j : Nat), j < L.length → (lnsB L i)[j]? = some (lnA (strAt L j) (i + 2 * j + 1))
  | [], _, _, h => by simp at h
  | l :: L, i, 0, _ => by rw [lnsB]; rfl
  | l :: L, i, j + 1, h => by
    rw [lnsB, List.getElem?_cons_succ, lnsB_at L (i + 2) j (by simpa using h)]
    rw [show i + 2 + 2 * j + 1 = i + 2 * (j + 1) + 1 by omega]; rfl
theorem lnsA_len : ∀ (L : List ByteArray) (i : Nat), (lnsA L i).length = L.length
  | [], _ => rfl
  | l :: L, i => by rw [lnsA, List.length_cons, lnsA_len L, List.length_cons]
theorem lnsB_len : ∀ (L : List ByteArray) (i : Nat), (lnsB L i).length = L.length
  | [], _ => rfl
  | l :: L, i => by rw [lnsB, List.length_cons, lnsB_len L, List.length_cons]
theorem val_a {L : List ByteArray} (h : ∀ l ∈ L, LOk l.data.toList) : ValidL (aL L) := by
  induction L with
  | nil => exact ValidL.nil
  | cons l L ih =>
    have e : aL (l :: L) = (l.data.toList ++ [10]) ++ aL L := by simp [aL]
    rw [e]
    exact ((h l (by simp)).val.app (ValidL.low (by simp))).app (ih (fun x hx => h x (by simp [hx])))
theorem val_b {L : List ByteArray} (h : ∀ l ∈ L, LOk l.data.toList) : ValidL (bL L) := by
  induction L with
  | nil => exact ValidL.nil
  | cons l L ih =>
    have e : bL (l :: L) = (l.data.toList ++ (cmtB.data.toList ++ [10, 10])) ++ bL L := by simp [bL]
    rw [e]
    exact ((h l (by simp)).val.app (ValidL.low (by decide))).app (ih (fun x hx => h x (by simp [hx])))
theorem map_ba (L : List ByteArray) : L.map (fun l : ByteArray => (⟨l.data.toList.toArray⟩ : ByteArray)) = L := by
  induction L with
  | nil => rfl
  | cons l L ih => rw [List.map_cons, ih]
theorem map_flat : ∀ L : List ByteArray, (L.flatMap fun l => [(l ++ cmtB).data.toList, []]).map (fun l => (⟨l.toArray⟩ : ByteArray)) = L.flatMap fun l => [l ++ cmtB, ⟨#[]⟩]
  | [] => rfl
  | l :: L => by rw [List.flatMap_cons, List.map_append, map_flat L, List.flatMap_cons]; rfl
/-- The lines come back. -/
theorem lines_a {L : List ByteArray} (h : ∀ l ∈ L, LOk l.data.toList) {T : ByteArray} (hT : T.data.toList = aL L) (hs : T.size ≤ 20000) : lnsL T = lnsA L 0 ∧ lnsC T = 0 ∧ lnsP T = 0 := by
  refine lns_good (ft_valid (by rw [hT]; exact val_a h) hs) ?_
  rw [linesR, partsL, hT, cut_a L (fun l hl => (h l hl).low), List.map_append, List.map_map]
  have := lgo_a L 0 [] h
  rw [List.nil_append] at this
  rw [← this]
  congr 2
  exact map_ba L
theorem lines_b {L : List ByteArray} (h : ∀ l ∈ L, LOk l.data.toList) {T : ByteArray} (hT : T.data.toList = saidL ++ bL L) (hs : T.size ≤ 20000) : lnsL T = lnsB L 1 ∧ lnsC T = 0 ∧ lnsP T = 0 := by
  refine lns_good (ft_valid (by rw [hT]; exact (ValidL.low (by decide)).app (val_b h)) hs) ?_
  have e : saidL ++ bL L = [35, 32, 115, 97, 105, 100] ++ 10 :: bL L := rfl
  rw [linesR, partsL, hT, e, cutL_hit 10 _ _ (by decide), cut_b L (fun l hl => (h l hl).low), List.map_cons, List.map_append]
  have := lgo_b L 1 [] h
  rw [List.nil_append] at this
  rw [lgo, if_neg (by decide), if_pos (by rw [show (⟨[35, 32, 115, 97, 105, 100].toArray⟩ : ByteArray) = ⟨#[35, 32, 115, 97, 105, 100]⟩ from rfl, bare_said]; exact emp_ba), ← this]
  congr 2
  rw [map_flat]

end Go.Proofs.YtkifacpanipfhaaDoor
namespace Go.Proofs.YtkifacpanipfhaaDoor
open Go.RowKit

def nlD : Nat → Nat | 0 => 0 | d + 1 => 4 * (1 + nlD d)
def bsD : Nat → Nat | 0 => 122 | d + 1 => 4 * (124 + bsD d + 2 * nlD d)
theorem scal_len20 {k : Int} {f : Bool} {n : Int} {s : ByteArray} (hs : s.size ≤ 20) (hn : -9223372036854775808 ≤ n ∧ n ≤ 9223372036854775807) : (scalTB k f n s).size ≤ 122 := by
  have h1 := keyText_len s
  have h2 := itoa_len n hn
  unfold scalTB
  split
  · decide
  split
  · split <;> decide
  split
  · show (Lib.itoa n).toArray.size ≤ 122
    rw [List.size_toArray]; omega
  split
  · omega
  split
  · decide
  · decide
theorem sumS_nil : sumS [] = 0 := rfl
theorem bsD_le (d : Nat) : 122 ≤ bsD d := by cases d <;> simp only [bsD] <;> omega
theorem entry_drn {m : Bool} {key : ByteArray} {t : Tr} {N B : Nat} (hk : key.size ≤ 20) (hB : 122 ≤ B) (h : t.kids.length = 0 → sumS (linesT t) ≤ 122) (hl : t.kids.length = 0 ∨ (linesT t).length ≤ N) (hb : sumS (linesT t) ≤ B) :
    (entryL m key t.kids.isEmpty (linesT t)).length ≤ 1 + N ∧ sumS (entryL m key t.kids.isEmpty (linesT t)) ≤ 124 + B + 2 * N := by
  have h1 := keyText_len key
  have e2 : (⟨#[58, 32]⟩ : ByteArray).size = 2 := rfl
  have e1 : (⟨#[58]⟩ : ByteArray).size = 1 := rfl
  have e3 : (⟨#[45, 32]⟩ : ByteArray).size = 2 := rfl
  by_cases h0 : t.kids.length = 0
  · have hx := lines_leaf h0
    have hs := h h0
    have he : t.kids.isEmpty = true := by rw [List.isEmpty_iff]; exact List.eq_nil_of_length_eq_zero h0
    rw [hx] at hs ⊢
    rw [sumS_cons, sumS_nil] at hs
    rw [he]
    have ef : firstB [scalTB t.kind t.flag t.num t.text] = scalTB t.kind t.flag t.num t.text := rfl
    unfold entryL
    rw [ef]
    split
    · rw [if_pos rfl, sumS_cons, sumS_nil, ByteArray.size_append, ByteArray.size_append, e2]
      exact ⟨by simp, by omega⟩
    · simp only [List.drop_succ_cons, List.drop_nil, List.map_nil]
      rw [sumS_cons, sumS_nil, ByteArray.size_append, e3]
      exact ⟨by simp, by omega⟩
  · have hl' := hl.resolve_left h0
    have he : t.kids.isEmpty = false := by rw [← Bool.not_eq_true, List.isEmpty_iff]; intro e; rw [e] at h0; exact h0 rfl
    rw [he]
    generalize linesT t = L at hl' hb
    unfold entryL
    split
    · rw [if_neg (by simp), sumS_cons, sumS_two, ByteArray.size_append, e1, List.length_cons, List.length_map]
      exact ⟨by omega, by omega⟩
    · cases L with
      | nil =>
        have ef : (firstB []).size = 0 := rfl
        simp only [List.drop_nil, List.map_nil]
        rw [sumS_cons, sumS_nil, ByteArray.size_append, e3, ef]
        exact ⟨by simp, by omega⟩
      | cons x r =>
        have ef : firstB (x :: r) = x := rfl
        rw [ef, List.drop_succ_cons, List.drop_zero, sumS_cons, sumS_two, ByteArray.size_append, e3, List.length_cons, List.length_map]
        rw [sumS_cons] at hb
        rw [List.length_cons] at hl'
        exact ⟨by omega, by omega⟩
def LinB (d : Nat) : Prop := ∀ t : Tr, Drn d t → (t.kids.length = 0 ∨ (linesT t).length ≤ nlD d) ∧ sumS (linesT t) ≤ bsD d
theorem leaf_sum {t : Tr} (h : Sm t) (h0 : t.kids.length = 0) : sumS (linesT t) ≤ 122 := by
  rw [lines_leaf h0, sumS_cons, sumS_nil]
  exact scal_len20 h.text (nums_bd h.nums)
theorem kids_drn {d : Nat} (IH : LinB d) (m : Bool) (keys : List ByteArray) (hk : ∀ j, (strAt keys j).size ≤ 20) : ∀ (l : List Tr) (i : Nat), (∀ j, j < l.length → Drn d (kidAt l j)) →
    (linesK m keys i l).length ≤ (1 + nlD d) * l.length ∧ sumS (linesK m keys i l) ≤ (124 + bsD d + 2 * nlD d) * l.length
  | [], i, _ => by simp [linesK, sumS]
  | t :: ts, i, h => by
    have ht : Drn d t := h 0 (by simp)
    obtain ⟨a1, a2⟩ := IH t ht
    have b := entry_drn (m := m) (hk i) (bsD_le d) (leaf_sum ht.sm) a1 a2
    have c := kids_drn IH m keys hk ts (i + 1) (fun j hj => h (j + 1) (by simpa using hj))
    rw [linesK, sumS_app, List.length_append, List.length_cons, Nat.mul_succ, Nat.mul_succ]
    exact ⟨by omega, by omega⟩
theorem drn_lines : ∀ d : Nat, LinB d
  | 0 => fun t h => ⟨.inl h.2, by have := leaf_sum h.1 h.2; rw [bsD]; exact this⟩
  | d + 1 => fun t h => by
    by_cases h0 : t.kids.length = 0
    · exact ⟨.inl h0, Nat.le_trans (leaf_sum h.1 h0) (bsD_le _)⟩
    · have a := kids_drn (drn_lines d) (t.kind == 6) t.keys h.1.keys t.kids 0 h.2.2
      have b1 := Nat.mul_le_mul_left (1 + nlD d) h.2.1
      have b2 := Nat.mul_le_mul_left (124 + bsD d + 2 * nlD d) h.2.1
      rw [lines_node (by omega)]
      refine ⟨.inr ?_, ?_⟩
      · rw [nlD]; omega
      · rw [bsD]; omega
theorem drn_lines3 {t : Tr} (h : Drn 3 t) : (linesT t).length ≤ 84 ∧ 0 < (linesT t).length ∧ sumS (linesT t) ≤ 18512 := by
  obtain ⟨a, b⟩ := drn_lines 3 t h
  have e1 : nlD 3 = 84 := by decide
  have e2 : bsD 3 = 18512 := by decide
  refine ⟨?_, (linesT_len t h.sm.shape h.sm.nums).2.1, by omega⟩
  rcases a with a | a
  · rw [lines_leaf a]; simp
  · omega

/-! ### The two texts -/
theorem aL_len : ∀ L : List ByteArray, (aL L).length = sumS L + L.length
  | [] => rfl
  | x :: L => by
    have e : aL (x :: L) = (x.data.toList ++ [10]) ++ aL L := rfl
    have h : x.data.toList.length = x.size := by simp
    rw [e, List.length_append, List.length_append, aL_len L, sumS_cons, List.length_cons, h]; simp; omega
theorem bL_len : ∀ L : List ByteArray, (bL L).length = sumS L + 12 * L.length
  | [] => rfl
  | x :: L => by
    have e : bL (x :: L) = ((x ++ cmtB).data.toList ++ [10, 10]) ++ bL L := rfl
    have h : (x ++ cmtB).data.toList.length = x.size + 10 := by
      rw [Array.length_toList]
      show (x ++ cmtB).size = _
      rw [ByteArray.size_append]; rfl
    rw [e, List.length_append, List.length_append, bL_len L, sumS_cons, List.length_cons, h]; simp; omega
def textA (L : List ByteArray) (k : Nat) : ByteArray := ⟨(aL (L.take k)).toArray⟩
def textB (L : List ByteArray) (k : Nat) : ByteArray := ⟨(saidL ++ bL (L.take k)).toArray⟩
theorem aL_snoc (L : List ByteArray) (x : ByteArray) : aL (L ++ [x]) = aL L ++ (x.data.toList ++ [10]) := by simp [aL]
theorem bL_snoc (L : List ByteArray) (x : ByteArray) : bL (L ++ [x]) = bL L ++ ((x ++ cmtB).data.toList ++ [10, 10]) := by simp [bL]
theorem ba_app {a b : ByteArray} {l m : List UInt8} (ha : a.data.toList = l) (hb : b.data.toList = m) : (a ++ b).data.toList = l ++ m := by
  rw [ByteArray.data_append, Array.toList_append, ha, hb]
theorem ba_of {a : ByteArray} {l : List UInt8} (h : a.data.toList = l) : a = ⟨l.toArray⟩ := by
  apply ByteArray.ext; apply Array.ext'; rw [h]
theorem textA_next {L : List ByteArray} {k : Nat} (h : k < L.length) : (textA L k ++ strAt L k) ++ ⟨#[10]⟩ = textA L (k + 1) := by
  refine ba_of ?_
  rw [take_str L k h, aL_snoc]
  rw [ba_app (ba_app (l := aL (L.take k)) rfl rfl) (m := [10]) rfl, List.append_assoc]
theorem textB_next {L : List ByteArray} {k : Nat} (h : k < L.length) : (textB L k ++ strAt L k) ++ ⟨#[32, 32, 32, 35, 32, 115, 97, 105, 100, 32, 10, 10]⟩ = textB L (k + 1) := by
  refine ba_of ?_
  rw [take_str L k h, bL_snoc]
  rw [ba_app (ba_app (l := saidL ++ bL (L.take k)) rfl rfl) (m := [32, 32, 32, 35, 32, 115, 97, 105, 100, 32, 10, 10]) rfl, ba_app (a := strAt L k) (b := cmtB) rfl rfl]
  simp [cmtB]
theorem textA_size (L : List ByteArray) (k : Nat) : (textA L k).size ≤ sumS L + L.length := by
  have h1 := aL_len (L.take k)
  have h2 := sumS_take L k
  have h3 : (L.take k).length ≤ L.length := List.length_take_le' _ _
  show (aL (L.take k)).toArray.size ≤ _
  rw [List.size_toArray]; omega
theorem textB_size (L : List ByteArray) (k : Nat) : (textB L k).size ≤ sumS L + 12 * L.length + 7 := by
  have h1 := bL_len (L.take k)
  have h2 := sumS_take L k
  have h3 : (L.take k).length ≤ L.length := List.length_take_le' _ _
  have h4 : saidL.length = 7 := rfl
  show (saidL ++ bL (L.take k)).toArray.size ≤ _
  rw [List.size_toArray, List.length_append]; omega
theorem textA_full (L : List ByteArray) : (textA L L.length).data.toList = aL L := by
  show aL (L.take L.length) = _
  rw [List.take_length]
theorem textB_full (L : List ByteArray) : (textB L L.length).data.toList = saidL ++ bL L := by
  show saidL ++ bL (L.take L.length) = _
  rw [List.take_length]

end Go.Proofs.YtkifacpanipfhaaDoor
