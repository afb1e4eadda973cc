/- impl.Decimal; a number comes back from its figures; the law's walk of FnWholes. -/
import Derived.Test.YtoaakbaijklhhaaDoorWhoL
import Derived.Test.YtoaakbaijklhhaaDoorDrawT
import Derived.Lib.LaidTab
import Derived.Lib.AppendIntMem
namespace Go.Proofs.YtoaakbaijklhhaaDoor
open Go.RowKit

/-- The table of strconv lies where the library reads it. -/
def Pows (w : World) : Prop := Lib.TabIs Tryd.prog w "internal/strconv.uint64pow10" .u64 Lib.pow10Tab
theorem pows_keep {w w' : World} (h : Pows w) (hb : Below w.heap.size w w') : Pows w' := Lib.tabBelow_of_tabIs h w' hb
theorem pows_eq : (Rows.laid_internal_strconv_uint64pow10 : DataW Unit) = Lib.tabData .u64 Lib.pow10Tab := by kernel_rfl
theorem pows_of {W : World} (h : Lib.VarReads Tryd.prog W "internal/strconv.uint64pow10" Rows.laid_internal_strconv_uint64pow10) : Pows W := by
  rw [pows_eq] at h
  obtain ⟨g, t, cs, fuel, p, hg, ht, hv, hd⟩ := h
  have hg2 : Tryd.prog.globalNamed "internal/strconv.uint64pow10" = some 5 := by kernel_rfl
  have ht2 : (Tryd.prog.globals[5]?).map (·.type) = some 131 := by kernel_rfl
  obtain rfl := Option.some.inj (hg2.symm.trans hg)
  obtain rfl := Option.some.inj (ht2.symm.trans ht)
  unfold Pows Lib.TabIs
  rw [hv, ← Lib.cells_of_tab Tryd.underlying131 Tryd.underlying91 (by kernel_rfl) (by kernel_rfl) hd]
theorem iDecimal (n : Int) (w : World) (h1 : -9223372036854775808 ≤ n) (h2 : n ≤ 9223372036854775807) (hP : Pows w) : Calls Tryd.prog 41 #[.int .i64 n] w fun e w' => e = .returned (.string ⟨(Lib.itoa n).toArray⟩) ∧ Below w.heap.size w w' := by
  have c : Calls Tryd.prog 67 #[.int .i64 n] w fun e w' => e = .returned (.string ⟨(Lib.itoa n).toArray⟩) ∧ Below w.heap.size w w' :=
    (Tryd.strconv_Itoa n h1 h2 w hP).mono fun e w' ⟨h1, k, os, h2⟩ => ⟨h1, by rw [h2]; exact Lib.below_grow _ _ (Nat.le_refl _) _ _⟩
  have HC := Lib.hid c; clear c hP
  go_enter Tryd.func41, Tryd.ntmps41
  go_wp2_with (go_at_call 67; refine HC.out.mono ?_; rintro e w1 ⟨rfl, hb1⟩)
  go_ret
  exact ⟨rfl, hb1⟩

/-- A text that begins with the list l, a blank behind it. -/
theorem lead_at (l : List UInt8) (s : ByteArray) (hs : s = ⟨l.toArray⟩ ++ ⟨#[32]⟩) : s.size = l.length + 1 ∧ (∀ i, i < l.length → bt s i = (l.getD i 0).toNat) ∧ bt s l.length = 32 := by
  have hd : s.data.toList = l ++ [32] := by rw [hs]; simp
  have hsz : s.size = l.length + 1 := by
    have := congrArg List.length hd
    simpa using this
  have hg : ∀ i, i < s.size → bt s i = ((l ++ [32]).getD i 0).toNat := fun i hi => by
    rw [bt_eq s i hi, ← hd, byteAt_toNat s i hi]
  refine ⟨hsz, fun i hi => ?_, ?_⟩
  · rw [hg i (by omega), List.getD_eq_getElem?_getD, List.getElem?_append_left hi, ← List.getD_eq_getElem?_getD]
  · rw [hg _ (by omega), List.getD_eq_getElem?_getD, List.getElem?_append_right (Nat.le_refl _)]
    simp
theorem who_back (n : Int) (h1 : -9223372036854775808 ≤ n) (h2 : n ≤ 9223372036854775807) (s : ByteArray) (hs : s = ⟨(Lib.itoa n).toArray⟩ ++ ⟨#[32]⟩) : whoQ s 0 = some (n, (Lib.itoa n).length) := by
  obtain ⟨hsz, hat, hend⟩ := lead_at _ s hs
  have h0 : whoQ s ((0 : Nat) : Int) = whoO s 0 := who_in (by omega)
  rw [show ((0 : Nat) : Int) = 0 from rfl] at h0
  rw [h0]
  have hdl : s.data.toList = Lib.itoa n ++ [32] := by rw [hs]; simp
  by_cases hn : n < 0
  · obtain ⟨m, hm⟩ := Int.eq_ofNat_of_zero_le (show 0 ≤ -n by omega)
    obtain rfl : n = -(m : Int) := by omega
    have hi := itoa_neg m (by omega)
    obtain ⟨hc, hv, -⟩ := dec_canon m m (Nat.le_refl _)
    rw [hi] at hsz hat hend hdl ⊢
    generalize Lib.decDigits m = D at hc hv hsz hat hend hdl
    have h45 : bt s 0 = 45 := by have := hat 0 (by simp); simpa using this
    have hf : whoFrom s 0 = 1 := by rw [whoFrom, if_pos h45]
    have hpos : 0 < D.length := List.length_pos_iff.2 hc.ne
    simp only [List.length_cons] at hsz hat hend ⊢
    have hE : Ends s 1 (D.length + 1) := by
      refine ⟨by omega, by omega, fun i i1 i2 => ?_, fun _ => ?_⟩
      · rw [dgAt_iff, hat i (by omega)]
        obtain ⟨j, rfl⟩ : ∃ j, i = j + 1 := ⟨i - 1, by omega⟩
        have hm2 : D.getD j 0 ∈ D := by
          rw [List.getD_eq_getElem?_getD, List.getElem?_eq_getElem (by omega)]; exact List.getElem_mem _
        exact isDg_iff.1 (hc.dg _ hm2)
      · cases hq : dgAt s (D.length + 1)
        · rfl
        · have := dgAt_iff.1 hq; omega
    have hfig : figs s 1 (D.length + 1) = D := by
      unfold figs
      rw [Lib.extract_data, hdl]
      simp
    have hst : ¬ (D.length + 1 = 1 ∨ (bt s 1 = 48 ∧ 1 + 1 < D.length + 1) ∨ stopB s (D.length + 1) = true) := by
      rintro (h | ⟨h, h'⟩ | h)
      · omega
      · have h3 := hat 1 (by omega)
        have h4 := hc.hd (by omega)
        simp only [List.getD_cons_succ] at h3
        omega
      · simp [stopB, hend] at h
    rw [who_neg hf hE hst h45, hfig, hv, if_pos (by omega)]
  · obtain ⟨m, rfl⟩ := Int.eq_ofNat_of_zero_le (show 0 ≤ n by omega)
    have hi := itoa_pos m
    obtain ⟨hc, hv, -⟩ := dec_canon m m (Nat.le_refl _)
    rw [hi] at hsz hat hend hdl ⊢
    generalize Lib.decDigits m = D at hc hv hsz hat hend hdl
    have hpos : 0 < D.length := List.length_pos_iff.2 hc.ne
    have hdg0 : ∀ i, i < D.length → dgAt s i = true := fun i hi2 => by
      rw [dgAt_iff, hat i hi2]
      have hm2 : D.getD i 0 ∈ D := by
        rw [List.getD_eq_getElem?_getD, List.getElem?_eq_getElem hi2]; exact List.getElem_mem _
      exact isDg_iff.1 (hc.dg _ hm2)
    have h45 : bt s 0 ≠ 45 := by have := dgAt_iff.1 (hdg0 0 hpos); omega
    have hf : whoFrom s 0 = 0 := by rw [whoFrom, if_neg h45]
    have hE : Ends s 0 D.length := by
      refine ⟨by omega, by omega, fun i _ i2 => hdg0 i i2, fun _ => ?_⟩
      cases hq : dgAt s D.length
      · rfl
      · have := dgAt_iff.1 hq; omega
    have hfig : figs s 0 D.length = D := by
      unfold figs
      rw [Lib.extract_data, hdl]
      simp
    have hst : ¬ (D.length = 0 ∨ (bt s 0 = 48 ∧ 0 + 1 < D.length) ∨ stopB s D.length = true) := by
      rintro (h | ⟨h, h'⟩ | h)
      · omega
      · have h3 := hat 0 hpos
        have h4 := hc.hd (by omega)
        omega
      · simp [stopB, hend] at h
    rw [who_pos hf hE hst h45, hfig, hv, if_pos (by omega)]

theorem who_least : whoQ ⟨#[45, 57, 50, 50, 51, 51, 55, 50, 48, 51, 54, 56, 53, 52, 55, 55, 53, 56, 48, 56]⟩ 0 = some (-9223372036854775808, 20) := by decide +kernel
theorem who_part : whoQ ⟨#[49, 46, 53]⟩ 0 = none := by decide +kernel
theorem who_power : whoQ ⟨#[49, 101, 51]⟩ 0 = none := by decide +kernel
theorem who_nought : whoQ ⟨#[48, 49]⟩ 0 = none := by decide +kernel
theorem who_above : whoQ ⟨#[57, 50, 50, 51, 51, 55, 50, 48, 51, 54, 56, 53, 52, 55, 55, 53, 56, 48, 56]⟩ 0 = none := by decide +kernel

def IntB (w : World) (e : Ending) (w' : World) : Prop := ∃ x : Int, -9223372036854775808 ≤ x ∧ x ≤ 9223372036854775807 ∧ e = .returned (.int .i64 x) ∧ Below w.heap.size w w'
def IntR (g : Nat) (w : World) (e : Ending) (w' : World) : Prop := ∃ x : Int, (-9223372036854775808 ≤ x ∧ x ≤ 9223372036854775807) ∧ e = .returned (.int .i64 x) ∧ Cur w' g ∧ Apart [g] w w'
def numList : List Int := [0, 1, -1, 9223372036854775807, 9223372036854775806, 4611686018427387904, 4611686018427387903, -9223372036854775808, 3037000499, 3037000500]
theorem num_bd : ∀ i : Fin 10, -9223372036854775808 ≤ numList.getD i.val 0 ∧ numList.getD i.val 0 ≤ 9223372036854775807 := by decide +kernel
set_option maxRecDepth 100000 in
theorem l02Num_any (g : Nat) (w : World) (hC : Cur w g) : Calls Tryd.prog 65 #[.pointer (some ⟨g, 0, none⟩)] w (IntR g w) := by
  go_enter Tryd.func65, Tryd.ntmps65
  go_wp2_with fail
  refine (l01Below_any g 5 _ (by omega) (by omega) hC).mono ?_
  rintro e w1 ⟨x, hx0, hx1, rfl, hc1, ha1⟩
  have HX := Lib.hid (And.intro hc1 ha1); clear hc1 ha1
  have hgl := HX.out.1.lt
  by_cases h0 : x = 0
  · subst h0
    go_wp2_with fail
    refine (l01PickInt_any g _ 10 10 (fun i => numList.getD i 0) _ (fun x => -9223372036854775808 ≤ x ∧ x ≤ 9223372036854775807) (by omega) (by omega) (HX.out.1.alloc _) (lit_ints w1 numList _ rfl) (fun b o h => by cases h; omega) (fun i hi => num_bd ⟨i, hi⟩)).mono ?_
    rintro e w2 ⟨y, hy, rfl, hc2, ha2⟩
    have HY := Lib.hid hy; clear hy
    go_wp2
    go_ret
    exact ⟨y, HY.out, rfl, hc2, (HX.out.2.alloc _).trans ha2⟩
  by_cases h1 : x = 1
  · subst h1
    go_wp2_with fail
    refine (l01Below_any g 1000000000 _ (by omega) (by omega) HX.out.1).mono ?_
    rintro e w2 ⟨y, hy0, hy1, rfl, hc2, ha2⟩
    have H2 := Lib.hid (And.intro hc2 (HX.out.2.trans ha2)); clear hc2 ha2
    go_wp2_with fail
    refine (l01Below_any g 1000000000 _ (by omega) (by omega) H2.out.1).mono ?_
    rintro e w3 ⟨z, hz0, hz1, rfl, hc3, ha3⟩
    have H3 := Lib.hid (And.intro hc3 (H2.out.2.trans ha3)); clear hc3 ha3
    have hm0 : 0 ≤ y * (1 + z) := Int.mul_nonneg hy0 (by omega)
    have hm1 : y * (1 + z) ≤ 1000000000 * 1000000000 := Int.mul_le_mul (by omega) (by omega) (by omega) (by omega)
    have hm2 : y * (1 + z) ≤ 1000000000000000000 := by omega
    go_wp2
    go_ret
    exact ⟨_, by first | (constructor <;> omega) | exact ⟨by omega, by omega⟩, rfl, H3.out.1, H3.out.2⟩
  · have d0 : (x == 0) = false := by rw [beq_eq_false_iff_ne]; omega
    have d1 : (x == 1) = false := by rw [beq_eq_false_iff_ne]; omega
    clear h0 h1
    go_wp2_with fail
    refine (l01Below_any g 5000 _ (by omega) (by omega) HX.out.1).mono ?_
    rintro e w2 ⟨y, hy0, hy1, rfl, hc2, ha2⟩
    go_wp2
    go_ret
    exact ⟨y, ⟨by omega, by omega⟩, rfl, hc2, HX.out.2.trans ha2⟩
theorem drawIntText (a : Option Addr) (n cap : Nat) (w : World) (hn : n ≤ 1048576) (hc : CodeAt w w.heap.size a n) : Calls Tryd.prog 39 #[.slice a n cap] w (IntB w) := by
  go_enter Tryd.func39, Tryd.ntmps39
  go_wp2_with fail
  refine (l01New_any a n cap _ hn hc).mono ?_
  rintro e w1 ⟨g, rfl, hg, hc1, hb1⟩
  have H1 := Lib.hid hb1; clear hb1
  go_wp2_with fail
  refine (l02Num_any g _ hc1).mono ?_
  rintro e w2 ⟨x, hx, rfl, hc2, ha2⟩
  have HX := Lib.hid hx; clear hx
  go_wp2
  go_ret
  exact ⟨x, HX.out.1, HX.out.2, rfl, H1.out.trans (ha2.below H1.out.size (fun y hy => by simp at hy; omega))⟩

end Go.Proofs.YtoaakbaijklhhaaDoor
