/- impl.KeyOf: the contract; the law's walk. -/
import Derived.Test.YtoaakbaijklhhaaDoorKeyS
import Derived.Test.YtoaakbaijklhhaaDoorRqL
import Derived.Test.YtoaakbaijklhhaaDoorPlainL
namespace Go.Proofs.YtoaakbaijklhhaaDoor
open Go.RowKit

theorem iEndsOut (s : ByteArray) (i : Nat) (w : World) (hi : s.size ≤ i) : Calls Tryd.prog 54 #[.string s, .int .i64 i] w fun e w' => e = .returned (.bool false) ∧ Drew w w' := by
  have hd : decide (i < s.size) = false := decide_eq_false (by omega)
  have hd2 : decide ((i : Int) < (s.size : Int)) = false := decide_eq_false (by omega)
  clear hi
  go_enter Tryd.func54, Tryd.ntmps54
  go_wp2
  go_ret
  exact ⟨rfl, Drew.refl _⟩
theorem pre_quote (s : ByteArray) : Lib.hasPrefix s.data.toList [34] = decide (0 < s.size ∧ bt s 0 = 34) := by
  have hlen : s.data.toList.length = s.size := by simp
  by_cases h : 0 < s.size
  · have hb := bt_eq s 0 h
    have hc : ∃ r, s.data.toList = s[0] :: r := by
      have h2 : 0 < s.data.toList.length := by omega
      exact ⟨s.data.toList.drop 1, (List.drop_eq_getElem_cons h2 : s.data.toList.drop 0 = _)⟩
    obtain ⟨r, hr⟩ := hc
    rw [hr]
    by_cases hq : s[0] = 34
    · have : bt s 0 = 34 := by rw [hb, hq]; rfl
      rw [hq, decide_eq_true ⟨h, this⟩]; rfl
    · have : bt s 0 ≠ 34 := fun e => hq (UInt8.toNat_inj.1 (by rw [← hb, e]; rfl))
      rw [decide_eq_false (fun hh => this hh.2)]
      show ((34 : UInt8) == s[0] && _) = false
      rw [beq_eq_false_iff_ne.2 (Ne.symm hq)]; rfl
  · have hz : s.data.toList = [] := List.eq_nil_of_length_eq_zero (by omega)
    rw [hz, decide_eq_false (fun hh => h hh.1)]; rfl
set_option maxHeartbeats 2000000 in
set_option maxRecDepth 100000 in
theorem iKeyQuoted (s : ByteArray) (w : World) (hs : s.size ≤ 1048576) (hT : Tabs w) (hV : Cases w) (h0 : 0 < s.size) (hc : bt s 0 = 34) : Calls Tryd.prog 45 #[.string s] w (KeyP s w) := by
  have HB := Lib.hid hc
  have HP := Lib.hid (fun w0 => (show Calls Tryd.prog 71 #[.string s, .string ⟨#[34]⟩] w0 fun e w' => e = .returned (.bool true) ∧ w0 = w' by
    have h := Tryd.strings_HasPrefix s ⟨#[34]⟩ w0
    refine h.mono fun e w' ⟨h1, h2⟩ => ⟨?_, h2.symm⟩
    rw [h1]
    have := pre_quote s
    rw [decide_eq_true ⟨h0, hc⟩] at this
    exact congrArg (fun b => Ending.returned (.bool b)) this))
  have HR := Lib.hid (fun w0 hT hV => iReadQuoted s 0 w0 hs hT hV)
  have HTV := Lib.hid (And.intro hT hV)
  clear hc hT hV
  cases hr : readQ s 0 with
  | none =>
    have H := Lib.hid (key_q0 h0 HB.out hr)
    rw [hr] at HR
    simp only [qText, qEnd] at HR
    clear hr
    go_enter Tryd.func45, Tryd.ntmps45
    go_wp2_with (first | (go_at_call 71; refine (HP.out _).mono ?_; rintro e w' ⟨rfl, rfl⟩) | (go_at_call 38; refine (HR.out _ HTV.out.1 HTV.out.2).mono ?_; rintro e w1 ⟨rfl, hb1⟩))
    go_ret3
    exact keyP_none H.out hb1
  | some x =>
    obtain ⟨l, e⟩ := x
    have hle : e ≤ s.size := by
      have := hr
      rw [readQ] at this
      split at this
      · exact (rq_end_le _ _ _ _ _ this).2
      · cases this
    have H1 := Lib.hid (fun h => key_q1 h0 HB.out hr h)
    have H2 := Lib.hid (fun h => key_q2 h0 HB.out hr h)
    rw [hr] at HR
    simp only [qText, qEnd] at HR
    clear hr
    obtain ⟨key, hkey⟩ : ∃ key : ByteArray, key = ⟨l.toArray⟩ := ⟨_, rfl⟩
    rw [← hkey] at HR H2
    clear hkey
    have hd0 : decide ((e : Int) < 0) = false := decide_eq_false (by omega)
    by_cases he : e < s.size
    rotate_left
    · have H := Lib.hid (H1.out (fun h => he h.1))
      have HE := Lib.hid (fun w0 => iEndsOut s e w0 (by omega))
      clear he
      go_enter Tryd.func45, Tryd.ntmps45
      go_wp2_with (first | (go_at_call 71; refine (HP.out _).mono ?_; rintro e w' ⟨rfl, rfl⟩) | (go_at_call 38; refine (HR.out _ HTV.out.1 HTV.out.2).mono ?_; rintro e w1 ⟨rfl, hb1⟩) | (go_at_call 54; refine (HE.out _).mono ?_; rintro e w2 ⟨rfl, hd2⟩))
      go_ret3
      exact keyP_none H.out (bnext hb1 hd2.below)
    have HE := Lib.hid (fun w0 => iEnds s e w0 he hs)
    cases hq : endsB s e
    · have H := Lib.hid (H1.out (fun h => by rw [hq] at h; cases h.2))
      rw [hq] at HE
      clear hq
      go_enter Tryd.func45, Tryd.ntmps45
      go_wp2_with (first | (go_at_call 71; refine (HP.out _).mono ?_; rintro e w' ⟨rfl, rfl⟩) | (go_at_call 38; refine (HR.out _ HTV.out.1 HTV.out.2).mono ?_; rintro e w1 ⟨rfl, hb1⟩) | (go_at_call 54; refine (HE.out _).mono ?_; rintro e w2 ⟨rfl, hd2⟩))
      go_ret3
      exact keyP_none H.out (bnext hb1 hd2.below)
    · have H := Lib.hid (H2.out ⟨he, hq⟩)
      rw [hq] at HE
      have hx1 : (e : Int) + 1 ≤ (s.size : Int) := by omega
      have HT2 := Lib.hid (fun w0 => iTrim (s.extract (e + 1) s.size) w0)
      rw [rest_def] at HT2
      clear hq
      go_enter Tryd.func45, Tryd.ntmps45
      go_wp2_with (first | (go_at_call 71; refine (HP.out _).mono ?_; rintro e w' ⟨rfl, rfl⟩) | (go_at_call 38; refine (HR.out _ HTV.out.1 HTV.out.2).mono ?_; rintro e w1 ⟨rfl, hb1⟩) | (go_at_call 54; refine (HE.out _).mono ?_; rintro e w2 ⟨rfl, hd2⟩) | (go_at_call 72; refine (HT2.out _).mono ?_; rintro e w' ⟨rfl, rfl⟩))
      go_ret3
      exact keyP_some H.out (bnext hb1 hd2.below)

set_option maxHeartbeats 2000000 in
set_option maxRecDepth 100000 in
theorem iKeyPlain (s : ByteArray) (w : World) (hs : s.size ≤ 1048576) (hT : Tabs w) (hn : ¬ (0 < s.size ∧ bt s 0 = 34)) : Calls Tryd.prog 45 #[.string s] w (KeyP s w) := by
  have HP := Lib.hid (fun w0 => (show Calls Tryd.prog 71 #[.string s, .string ⟨#[34]⟩] w0 fun e w' => e = .returned (.bool false) ∧ w0 = w' by
    have h := Tryd.strings_HasPrefix s ⟨#[34]⟩ w0
    refine h.mono fun e w' ⟨h1, h2⟩ => ⟨?_, h2.symm⟩
    rw [h1]
    have := pre_quote s
    rw [decide_eq_false hn] at this
    exact congrArg (fun b => Ending.returned (.bool b)) this))
  have HN := Lib.hid hn; have HT := Lib.hid hT; clear hn hT
  obtain ⟨FE, hFE⟩ : ∃ FE, FE = firstEnd s := ⟨_, rfl⟩
  have HFE := Lib.hid hFE; clear hFE
  have HK0 := Lib.hid (fun h => key_p0 HN.out (HFE.out.symm.trans h))
  have HK1 := Lib.hid (fun i h => key_p1 (i := i) HN.out (HFE.out.symm.trans h))
  have HK2 := Lib.hid (fun i h => key_p2 (i := i) HN.out (HFE.out.symm.trans h))
  go_enter Tryd.func45, Tryd.ntmps45
  go_wp2_with (go_at_call 71; refine (HP.out _).mono ?_; rintro e w' ⟨rfl, rfl⟩)
  go_loopw [31] (fun i wr => Drew w wr ∧ ∃ k f : Nat, k ≤ s.size ∧ i = .int .i64 (k : Int) ∧ s.size < k + f ∧ feFrom s f k = FE) (fun i _ => s.size - (intOf i).toNat)
  case atStart => exact ⟨Drew.refl _, 0, s.size + 1, by omega, rfl, by omega, HFE.out.symm⟩
  case round =>
    obtain ⟨hdr, k, f, hk, rfl, hf, hfe⟩ := hrel
    have HD := Lib.hid hdr; have HF := Lib.hid hf; have HFE2 := Lib.hid hfe
    clear hdr hf hfe
    by_cases hlt : k < s.size
    rotate_left
    · have H := Lib.hid (HK0.out (HFE2.out.symm.trans (fe_out (by omega))))
      go_wp2
      go_ret3
      exact keyP_none H.out HD.out.below
    have HE := Lib.hid (fun w0 => iEnds s k w0 hlt hs)
    cases hq : endsB s k
    · obtain ⟨f', hf', hfe'⟩ := fe_step hlt HF.out hq
      have HF' := Lib.hid (And.intro hf' (hfe'.trans HFE2.out))
      rw [hq] at HE
      clear hq hf' hfe'
      go_wp2_with (go_at_call 54; refine (HE.out _).mono ?_; rintro e w2 ⟨rfl, hd2⟩)
      go_roundw
      case rel => exact ⟨HD.out.trans hd2, k + 1, f', by omega, by go_num, HF'.out.1, HF'.out.2⟩
      case measure => simp [intOf]; omega
    · have H0 := HFE2.out.symm.trans (fe_hit hlt HF.out hq)
      rw [hq] at HE
      have hks : (s.extract 0 k).size ≤ 1048576 := by rw [ByteArray.size_extract]; omega
      have H1 := Lib.hid (HK1.out k H0)
      have H2 := Lib.hid (HK2.out k H0)
      have hx1 : (k : Int) + 1 ≤ (s.size : Int) := by omega
      clear hq H0
      have hp := fun w0 hT => iPlainAll (s.extract 0 k) w0 hks hT
      cases hpl : plainAll (s.extract 0 k)
      · have H := Lib.hid (H1.out hpl)
        rw [hpl] at hp
        have HPL := Lib.hid hp
        clear hp hpl
        go_wp2_with (first | (go_at_call 54; refine (HE.out _).mono ?_; rintro e w2 ⟨rfl, hd2⟩) | (go_at_call 21; refine (HPL.out _ (tabs_keep HT.out (HD.out.trans hd2).below)).mono ?_; rintro e w3 ⟨rfl, hb3⟩))
        go_ret3
        exact keyP_none H.out (bnext (HD.out.trans hd2).below hb3)
      · have H := Lib.hid (H2.out hpl)
        rw [hpl] at hp
        have HPL := Lib.hid hp
        have HT2 := Lib.hid (fun w0 => iTrim (s.extract (k + 1) s.size) w0)
        rw [rest_def] at HT2
        clear hp hpl
        go_wp2_with (first | (go_at_call 54; refine (HE.out _).mono ?_; rintro e w2 ⟨rfl, hd2⟩) | (go_at_call 21; refine (HPL.out _ (tabs_keep HT.out (HD.out.trans hd2).below)).mono ?_; rintro e w3 ⟨rfl, hb3⟩))
        have hf0 : (0 : Int) ≤ (k : Int) + 1 := by omega
        have hf1 : (0 : Int) ≤ (k : Int) := by omega
        have hf2 : (k : Int) ≤ (s.size : Int) := by omega
        go_quiet ((go_at_call 72; exact quiet_eq (HT2.out _)))
        go_wp2_with fail
        go_ret3
        exact keyP_some H.out (by have hq := bnext (HD.out.trans hd2).below hb3; exact ⟨hq.os, hq.tape, hq.output, hq.size, hq.block⟩)

theorem iKeyOf (s : ByteArray) (w : World) (hs : s.size ≤ 1048576) (hT : Tabs w) (hV : Cases w) : Calls Tryd.prog 45 #[.string s] w (KeyP s w) := by
  by_cases h : 0 < s.size ∧ bt s 0 = 34
  · exact iKeyQuoted s w hs hT hV h.1 h.2
  · exact iKeyPlain s w hs hT h

theorem lawKeyOf (s : ByteArray) (hm : s.size ≤ maxLen) {w : World} (ha : Lib.VarReads Tryd.prog w "unicode/utf8.acceptRanges" Rows.laid_unicode_utf8_acceptRanges) (hc : Lib.VarReads Tryd.prog w "unicode.CaseRanges" Rows.laid_unicode_CaseRanges) (hf : Lib.VarReads Tryd.prog w "unicode/utf8.first" Rows.laid_unicode_utf8_first) :
    Calls Tryd.prog 13 #[.string s] w fun e w' => e = .returned (.bool true) ∧ Below w.heap.size w w' := by
  have hT := tabs_of ha hf
  have hV := cases_of hc
  clear ha hf hc
  unfold maxLen at hm
  by_cases hs : s.size ≤ 1048576
  · have HT := Lib.hid hT; have HV := Lib.hid hV; clear hT hV
    go_enter Tryd.func13, Tryd.ntmps13
    go_wp2_with fail
    refine (sKeyOf _ _ hs).mono ?_; rintro e w1 ⟨rfl, hb1⟩
    go_wp2_with fail
    refine (iKeyOf _ _ hs (tabs_keep HT.out hb1) (cases_keep HV.out hb1)).mono ?_; rintro e w2 ⟨rfl, hb2⟩
    have e2 := beq_self_eq_true (koA (keyO s)).toList
    have e3 := beq_self_eq_true (koB (keyO s)).toList
    have e4 : ((keyO s).isSome != (keyO s).isSome) = false := by simp
    go_wp2
    go_ret
    exact ⟨rfl, bnext hb1 hb2⟩
  · go_enter Tryd.func13, Tryd.ntmps13
    go_wp2
    go_ret
    exact ⟨rfl, Below.refl _ _⟩

end Go.Proofs.YtoaakbaijklhhaaDoor
