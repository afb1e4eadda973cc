/- The law's walk of FnQuoted. -/
import Derived.Test.YtoaakbaijklhhaaDoorQuoB
import Derived.Test.YtoaakbaijklhhaaDoorDrawW
import Derived.Test.YtoaakbaijklhhaaDoorRqL
namespace Go.Proofs.YtoaakbaijklhhaaDoor
open Go.RowKit

theorem toList_len3 (s : ByteArray) : s.toList.length = s.size := by rw [ByteArray.toList_eq]; simp
theorem quoted_a : quotedB ⟨#[97]⟩ = ⟨#[34, 97, 34]⟩ := by decide +kernel
theorem q_pair : readQ ⟨#[34, 92, 117, 100, 56, 51, 100, 92, 117, 100, 101, 48, 48, 34]⟩ 0 = some ([240, 159, 152, 128], 14) := by decide +kernel
theorem q_half : readQ ⟨#[34, 92, 117, 100, 56, 51, 100, 34]⟩ 0 = none := by decide +kernel

set_option maxRecDepth 100000 in
set_option maxHeartbeats 4000000 in
theorem lawQuoted {H : Type} {enc : TypeId × Value → H} {W : World} {base : Nat} {v : Value} {d : DataW H} {p : List MemPlace} (hval : Value.okWide Tryd.prog W .any base 29 v)
    (h : DataW.Trod enc Tryd.prog W 0 (fun _ => true) true 29 v d p) (ha : Lib.VarReads Tryd.prog W "unicode/utf8.acceptRanges" Rows.laid_unicode_utf8_acceptRanges) (hc : Lib.VarReads Tryd.prog W "unicode.CaseRanges" Rows.laid_unicode_CaseRanges) (hf : Lib.VarReads Tryd.prog W "unicode/utf8.first" Rows.laid_unicode_utf8_first) :
    Calls Tryd.prog 12 #[v] W fun e w' => e = .returned (.bool true) ∧ Below W.heap.size W w' := by
  obtain ⟨a, n, cap, rfl, hnm, hcode⟩ := openCode hval h
  have hT := tabs_of ha hf
  have hV := cases_of hc
  clear hval h ha hf hc hnm
  by_cases hn : n ≤ 1048576
  rotate_left
  · have hd : decide ((1048576 : Int) < (n : Int)) = true := decide_eq_true (by omega)
    clear hn hT hV hcode
    go_enter Tryd.func12, Tryd.ntmps12
    go_wp2_with (go_at_call 26; refine (big_any _ _ _ _).mono ?_; rintro e w' ⟨rfl, rfl⟩)
    go_ret
    exact ⟨rfl, Below.refl _ _⟩
  have hd : decide ((1048576 : Int) < (n : Int)) = false := decide_eq_false (by omega)
  have HN := Lib.hid hn; have HT := Lib.hid hT; have HV := Lib.hid hV; have HC := Lib.hid hcode
  clear hn hT hV hcode
  go_enter Tryd.func12, Tryd.ntmps12
  go_wp2_with (go_at_call 26; refine (big_any _ _ _ _).mono ?_; rintro e w' ⟨rfl, rfl⟩)
  clear hd
  refine (drawKeyText a n cap _ HN.out HC.out).mono ?_
  rintro e w1 ⟨s, hs, rfl, hb1⟩
  have hs30 : s.size ≤ 30 := hs
  have HB1 := Lib.hid hb1; clear hb1 hs
  have HQ := Lib.hid (fun w0 hT => iQuoted s w0 (by omega) hT)
  have HU := Lib.hid (fun w0 => sUtf8Ok s w0 (by omega))
  cases hok : (runesO s).isSome
  · have HE := Lib.hid (show quotedB s = ⟨#[]⟩ by rw [quotedB, hok]; rfl)
    rw [hok] at HU
    clear hok
    go_wp2_with fail
    refine (HQ.out _ (tabs_keep HT.out HB1.out)).mono ?_
    rw [HE.out]
    rintro e w2 ⟨rfl, hb2⟩
    have HB2 := Lib.hid (bnext HB1.out hb2); clear hb2
    go_wp2_with fail
    refine (HU.out _).mono ?_
    rintro e w3 ⟨rfl, hb3⟩
    have HB3 := Lib.hid (bnext HB2.out hb3); clear hb3
    have e1 := beq_self_eq_true (⟨#[34, 97, 34]⟩ : ByteArray).toList
    go_wp2_with fail
    refine (iQuoted _ _ (by decide) (tabs_keep HT.out HB3.out)).mono ?_
    rw [quoted_a]
    rintro e w4 ⟨rfl, hb4⟩
    go_wp2
    go_ret
    exact ⟨rfl, bnext HB3.out hb4⟩
  · have hE : quotedB s = ⟨(escTo s s.size ++ [34]).toArray⟩ := by rw [quotedB, hok]; rfl
    have hlen := escTo_len s s.size
    have hpos : 1 ≤ (escTo s s.size).length := by simp [escTo]
    obtain ⟨q, hq⟩ : ∃ q : ByteArray, q = ⟨(escTo s s.size ++ [34]).toArray⟩ := ⟨_, rfl⟩
    have hql : q.data.toList = escTo s s.size ++ [34] := by rw [hq]
    have hqs : q.size = (escTo s s.size).length + 1 := by
      have := congrArg List.length hql
      simpa using this
    have HE := Lib.hid (hE.trans hq.symm)
    have HBK := Lib.hid (quote_back hok [120] [121] (⟨#[120]⟩ ++ q ++ ⟨#[121]⟩) (by simp [hql]))
    have HOP := Lib.hid (quote_open hok (q.extract 0 (q.size - 1)) (by
      rw [Lib.extract_data, hql, hqs]; simp))
    rw [← hql] at HBK
    have hqs2 : 2 ≤ q.size ∧ q.size ≤ 200 := by omega
    obtain ⟨hq2, hq200⟩ := hqs2
    rw [hok] at HU
    have hem : q.toList.isEmpty = false := by
      cases hz : q.toList.isEmpty
      · rfl
      · have h1 := toList_len3 q
        rw [List.isEmpty_iff.1 hz] at h1
        simp at h1; omega
    clear hok hE hlen hpos hq hql hqs
    have HBK2 := Lib.hid (show readQ (⟨#[120]⟩ ++ q ++ ⟨#[121]⟩) 1 = some (s.data.toList, 1 + q.size) by
      have h1 := HBK.out
      have h2 : q.data.toList.length = q.size := by simp
      rw [h2] at h1
      exact h1)
    clear HBK
    go_wp2_with fail
    refine (HQ.out _ (tabs_keep HT.out HB1.out)).mono ?_
    rw [HE.out]
    rintro e w2 ⟨rfl, hb2⟩
    have HB2 := Lib.hid (bnext HB1.out hb2); clear hb2
    go_wp2_with fail
    refine (HU.out _).mono ?_
    rintro e w3 ⟨rfl, hb3⟩
    have HB3 := Lib.hid (bnext HB2.out hb3); clear hb3
    go_wp2_with fail
    refine (iReadQuoted _ _ _ (by rw [ByteArray.size_append, ByteArray.size_append]; show 1 + q.size + 1 ≤ _; omega) (tabs_keep HT.out HB3.out) (cases_keep HV.out HB3.out)).mono ?_
    rw [HBK2.out]
    simp only [qText, qEnd]
    have hsb : (⟨s.data.toList.toArray⟩ : ByteArray) = s := by simp
    rw [hsb]
    rintro e w4 ⟨rfl, hb4⟩
    have HB4 := Lib.hid (bnext HB3.out hb4); clear hb4 hsb
    have hx1 : (0 : Int) ≤ (q.size : Int) - 1 := by omega
    go_wp2_with fail
    refine (iReadQuoted _ _ _ (by rw [ByteArray.size_extract]; omega) (tabs_keep HT.out HB4.out) (cases_keep HV.out HB4.out)).mono ?_
    rw [HOP.out]
    simp only [qText, qEnd]
    rintro e w5 ⟨rfl, hb5⟩
    have HB5 := Lib.hid (bnext HB4.out hb5); clear hb5
    go_wp2_with fail
    refine (iReadQuoted _ _ _ (by decide) (tabs_keep HT.out HB5.out) (cases_keep HV.out HB5.out)).mono ?_
    rw [q_pair]
    simp only [qText, qEnd]
    rintro e w6 ⟨rfl, hb6⟩
    have HB6 := Lib.hid (bnext HB5.out hb6); clear hb6
    go_wp2_with fail
    refine (iReadQuoted _ _ _ (by decide) (tabs_keep HT.out HB6.out) (cases_keep HV.out HB6.out)).mono ?_
    rw [q_half]
    simp only [qText, qEnd]
    rintro e w7 ⟨rfl, hb7⟩
    have e1 := beq_self_eq_true s.toList
    have e2 := beq_self_eq_true (1 + (q.size : Int))
    have e3 := beq_self_eq_true (⟨#[240, 159, 152, 128]⟩ : ByteArray).toList
    go_wp2
    go_ret
    exact ⟨rfl, bnext HB6.out hb7⟩

end Go.Proofs.YtoaakbaijklhhaaDoor
