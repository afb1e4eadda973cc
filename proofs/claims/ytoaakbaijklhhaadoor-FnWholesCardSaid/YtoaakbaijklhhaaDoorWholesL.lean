/- The law's walk of FnWholes. -/
import Derived.Test.YtoaakbaijklhhaaDoorWholes
namespace Go.Proofs.YtoaakbaijklhhaaDoor
open Go.RowKit

set_option maxRecDepth 100000 in
set_option maxHeartbeats 4000000 in
theorem lawWholes {H : Type} {enc : TypeId × Value → H} {W : World} {base : Nat} {v : Value} {d : DataW H} {p : List MemPlace} (hval : Value.okWide Tryd.prog W .any base 29 v)
    (h : DataW.Trod enc Tryd.prog W 0 (fun _ => true) true 29 v d p) (_h1 : Lib.VarReads Tryd.prog W "math/bits.deBruijn32tab" Rows.laid_math_bits_deBruijn32tab) (_h2 : Lib.VarReads Tryd.prog W "math/bits.deBruijn64tab" Rows.laid_math_bits_deBruijn64tab) (h3 : Lib.VarReads Tryd.prog W "internal/strconv.uint64pow10" Rows.laid_internal_strconv_uint64pow10) (h4 : Lib.VarReads Tryd.prog W "strconv.ErrRange" Rows.laid_strconv_ErrRange) (_h5 : Lib.VarReads Tryd.prog W "strconv.ErrSyntax" Rows.laid_strconv_ErrSyntax) :
    Calls Tryd.prog 10 #[v] W fun e w' => e = .returned (.bool true) ∧ Below W.heap.size W w' := by
  obtain ⟨a, n, cap, rfl, hnm, hcode⟩ := openCode hval h
  have hE := errs_of h4
  have hP := pows_of h3
  clear hval h h3 h4 hnm
  by_cases hn : n ≤ 1048576
  rotate_left
  · have hd : decide ((1048576 : Int) < (n : Int)) = true := decide_eq_true (by omega)
    clear hn hE hP hcode
    go_enter Tryd.func10, Tryd.ntmps10
    go_wp2_with (go_at_call 26; refine (big_any _ _ _ _).mono ?_; rintro e w' ⟨rfl, rfl⟩)
    go_ret
    exact ⟨rfl, Below.refl _ _⟩
  have hd : decide ((1048576 : Int) < (n : Int)) = false := decide_eq_false (by omega)
  have HN := Lib.hid hn; have HE := Lib.hid hE; have HP := Lib.hid hP; have HC := Lib.hid hcode
  clear hn hE hP hcode
  go_enter Tryd.func10, Tryd.ntmps10
  go_wp2_with (go_at_call 26; refine (big_any _ _ _ _).mono ?_; rintro e w' ⟨rfl, rfl⟩)
  clear hd
  refine (drawIntText a n cap _ HN.out HC.out).mono ?_
  rintro e w1 ⟨z, hz1, hz2, rfl, hb1⟩
  have HB1 := Lib.hid hb1; clear hb1
  have HZ := Lib.hid (And.intro hz1 hz2)
  clear hz1 hz2
  go_wp2_with fail
  refine (iDecimal z _ HZ.out.1 HZ.out.2 (pows_keep HP.out HB1.out)).mono ?_
  rintro e w2 ⟨rfl, hb2⟩
  have HB2 := Lib.hid (bnext HB1.out hb2); clear hb2
  have HWB := Lib.hid (who_back z HZ.out.1 HZ.out.2 _ rfl)
  have HL := Lib.hid (Lib.itoa_length_le z HZ.out.1 HZ.out.2)
  have HD := Lib.hid (fun w0 hP => iDecimal z w0 HZ.out.1 HZ.out.2 hP)
  have hts : (⟨(Lib.itoa z).toArray⟩ : ByteArray).size = (Lib.itoa z).length := rfl
  rw [← hts] at HWB HL
  clear hts
  generalize (⟨(Lib.itoa z).toArray⟩ : ByteArray) = t at HWB HL HD ⊢
  have htl := HL.out
  go_wp2_with fail
  refine (iReadWhole _ _ _ (by rw [ByteArray.size_append]; show t.size + 1 ≤ _; omega) (errs_keep HE.out HB2.out)).mono ?_
  rw [HWB.out]
  rintro e w3 ⟨rfl, hb3⟩
  have HB3 := Lib.hid (bnext HB2.out hb3); clear hb3
  simp only [whoN, whoE]
  go_wp2_with fail
  refine (iReadWhole _ _ _ (by decide) (errs_keep HE.out HB3.out)).mono ?_
  rw [who_least]
  rintro e w4 ⟨rfl, hb4⟩
  have HB4 := Lib.hid (bnext HB3.out hb4); clear hb4
  simp only [whoN, whoE]
  go_wp2_with fail
  refine (iReadWhole _ _ _ (by decide) (errs_keep HE.out HB4.out)).mono ?_
  rw [who_part]
  rintro e w5 ⟨rfl, hb5⟩
  have HB5 := Lib.hid (bnext HB4.out hb5); clear hb5
  simp only [whoN, whoE]
  go_wp2_with fail
  refine (iReadWhole _ _ _ (by decide) (errs_keep HE.out HB5.out)).mono ?_
  rw [who_power]
  rintro e w6 ⟨rfl, hb6⟩
  have HB6 := Lib.hid (bnext HB5.out hb6); clear hb6
  simp only [whoN, whoE]
  go_wp2_with fail
  refine (iReadWhole _ _ _ (by decide) (errs_keep HE.out HB6.out)).mono ?_
  rw [who_nought]
  rintro e w7 ⟨rfl, hb7⟩
  have HB7 := Lib.hid (bnext HB6.out hb7); clear hb7
  simp only [whoN, whoE]
  go_wp2_with fail
  refine (iReadWhole _ _ _ (by decide) (errs_keep HE.out HB7.out)).mono ?_
  rw [who_above]
  rintro e w8 ⟨rfl, hb8⟩
  have HB8 := Lib.hid (bnext HB7.out hb8); clear hb8
  simp only [whoN, whoE]
  have e1 := beq_self_eq_true z
  have e2 := beq_self_eq_true (t.size : Int)
  go_wp2_with fail
  refine (HD.out _ (pows_keep HP.out HB8.out)).mono ?_
  rintro e w9 ⟨rfl, hb9⟩
  go_wp2
  go_ret
  exact ⟨rfl, bnext HB8.out hb9⟩

end Go.Proofs.YtoaakbaijklhhaaDoor
