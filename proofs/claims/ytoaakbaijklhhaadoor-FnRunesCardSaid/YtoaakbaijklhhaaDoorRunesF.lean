/- The law's walk of FnRunes. -/
import Derived.Test.YtoaakbaijklhhaaDoorDrawT
namespace Go.Proofs.YtoaakbaijklhhaaDoor
open Go.RowKit

/-- Behind one byte, the code point that a text tells is read. -/
theorem at_one (n : Nat) (ho : runeOkN n = true) (s : ByteArray) (hs : s = ⟨#[97]⟩ ++ ⟨(rtext (n : Int)).toArray⟩) : rN s ((1 : Nat) : Int) = n ∧ rNext s ((1 : Nat) : Int) = 1 + ((rtext (n : Int)).length : Int) := by
  have hl : (rtext (n : Int)).length = (runeBytes n).length := by rw [rtext_nat, List.length_map]
  have hsz : s.size = 1 + (rtext (n : Int)).length := by
    rw [hs, ByteArray.size_append]; rfl
  have hp := runeBytes_pos ho
  have hd : s.data.toList.drop 1 = rtext (n : Int) := by rw [hs]; simp
  have hb : btake s 1 (runeBytes n).length = runeBytes n := by
    refine btake_of_list s 1 (runeBytes n) (runeBytes_lt n) ?_
    rw [hd, ← hl, List.take_length, rtext_nat]
  have hde := decode_of_bytes s 1 n ho hb (by omega)
  have := rAt_good s 1 n _ (by omega) hde (by rw [hde]; exact runeOk_good ho rfl)
  rw [hl]
  exact ⟨this.1, by have h2 := this.2; omega⟩

theorem map_slice {w : World} {a : Option Addr} {L : List Nat} (h : SlAt w a L.length 1 (runF L)) : SlAt w a (L.map (Nat.cast : Nat → Int)).length 1 (intF (L.map (Nat.cast : Nat → Int))) := by
  rw [List.length_map]
  refine h.congr fun i hi j hj => ?_
  simp [runF, intF, List.getD_eq_getElem?_getD, hi]
theorem back_text {s : ByteArray} {L : List Nat} (h : rtexts (L.map (Nat.cast : Nat → Int)) = s.data.toList) : (⟨(rtexts (L.map (Nat.cast : Nat → Int))).toArray⟩ : ByteArray) = s := by
  rw [h]
theorem toList_length2 (s : ByteArray) : s.toList.length = s.size := by rw [ByteArray.toList_eq]; simp
theorem euro : (⟨(rtext 8364).toArray⟩ : ByteArray) = ⟨#[226, 130, 172]⟩ := by decide

set_option maxRecDepth 100000 in
set_option maxHeartbeats 2000000 in
theorem lawRunes {H : Type} {enc : TypeId × Value → H} {W : World} {base : Nat} {v : Value} {d : DataW H} {p : List MemPlace} (hval : Value.okWide Tryd.prog W .any base 29 v)
    (h : DataW.Trod enc Tryd.prog W 0 (fun _ => true) true 29 v d p) (ha : Lib.VarReads Tryd.prog W "unicode/utf8.acceptRanges" Rows.laid_unicode_utf8_acceptRanges) (hf : Lib.VarReads Tryd.prog W "unicode/utf8.first" Rows.laid_unicode_utf8_first) :
    Calls Tryd.prog 8 #[v] W fun e w' => e = .returned (.bool true) ∧ Below W.heap.size W w' := by
  obtain ⟨a, n, cap, rfl, hnm, hcode⟩ := openCode hval h
  have hT := tabs_of ha hf
  clear hval h ha hf hnm
  by_cases hn : n ≤ 1048576
  rotate_left
  · have hd : decide ((1048576 : Int) < (n : Int)) = true := decide_eq_true (by omega)
    clear hn hT hcode
    go_enter Tryd.func8, Tryd.ntmps8
    go_wp2_with (go_at_call 26; refine (big_any _ _ _ _).mono ?_; rintro e w' ⟨rfl, rfl⟩)
    go_ret
    exact ⟨rfl, Below.refl _ _⟩
  have hd : decide ((1048576 : Int) < (n : Int)) = false := decide_eq_false (by omega)
  have HN := Lib.hid hn; have HT := Lib.hid hT; have HC := Lib.hid hcode
  clear hn hT hcode
  go_enter Tryd.func8, Tryd.ntmps8
  go_wp2_with (go_at_call 26; refine (big_any _ _ _ _).mono ?_; rintro e w' ⟨rfl, rfl⟩)
  clear hd
  refine (drawRunesText a n cap _ HN.out HC.out).mono ?_
  rintro e w1 ⟨l, a1, c1, rfl, hl8, hs1, hb1⟩
  have HS1 := Lib.hid hs1; have HB1 := Lib.hid hb1; clear hs1 hb1
  go_wp2_with fail
  refine (iRunesText l a1 c1 _ (by omega) HS1.out).mono ?_
  rintro e w' ⟨rfl, rfl⟩
  obtain ⟨s, hs⟩ : ∃ s : ByteArray, s = ⟨(rtexts l).toArray⟩ := ⟨_, rfl⟩
  rw [← hs]
  have hss : s.size ≤ 1048576 := by
    have := rtexts_len l
    rw [hs]; show (rtexts l).length ≤ _; omega
  have hok : (runesO s).isSome = true := by rw [hs]; exact rtexts_some l
  obtain ⟨L, hL⟩ := Option.isSome_iff_exists.1 hok
  have hLl := runes_len s
  rw [hL] at hLl
  change L.length ≤ s.size at hLl
  have HLT := Lib.hid (runes_text hL)
  have hU := fun w0 hT => iUtf8Ok s w0 hss hT
  rw [hok] at hU
  have HU := Lib.hid hU
  have HL := Lib.hid hL
  clear hs hok hL hU
  go_wp2_with fail
  refine (iRunesOf s _ hss (tabs_keep HT.out HB1.out)).mono ?_
  rintro e w2 ⟨hp2, hb2⟩
  obtain ⟨a2, n2, fp2, rfl, hg2⟩ := runesF_of hp2
  rw [HL.out] at hg2 ⊢
  change GFlat w2 w1.heap.size w2.heap.size (.slice a2 L.length n2) L.length 1 (runF L) fp2 at hg2
  have G2 := Lib.hid hg2.own.sl; have HB2 := Lib.hid (HB1.out.trans (hb2.mono HB1.out.size)); have hz2 := hb2.size
  clear hp2 hb2 hg2
  show _
  go_wp2_with fail
  refine (sRunesOf s _ hss).mono ?_
  rintro e w3 ⟨hp3, hb3⟩
  obtain ⟨a3, n3, fp3, rfl, hg3⟩ := runesF_of hp3
  rw [HL.out] at hg3 ⊢
  change GFlat w3 w2.heap.size w3.heap.size (.slice a3 L.length n3) L.length 1 (runF L) fp3 at hg3
  have G3 := Lib.hid hg3.own.sl; have G2' := Lib.hid (G2.out.keep hb3); have HB3 := Lib.hid (bnext HB2.out hb3); have hz3 := hb3.size
  clear hp3 hb3 hg3 G2
  go_wp2_with fail
  refine (drawRuneText a n cap _ HN.out (HC.out.keep HB3.out)).mono ?_
  rintro e w4 ⟨z, rfl, hb4⟩
  have G2 := Lib.hid (G2'.out.keep hb4); have G4 := Lib.hid (G3.out.keep hb4); have HB4 := Lib.hid (bnext HB3.out hb4)
  clear hb4 G3 G2'
  go_wp2_with fail
  refine (iRuneText z _).mono ?_
  rintro e w' ⟨rfl, rfl⟩
  have HRT := Lib.hid (fun (w0 : World) (hs : SlAt w0 a2 L.length 1 (runF L)) => (show Calls Tryd.prog 32 #[.slice a2 L.length n2] w0 fun e w' => e = .returned (.string s) ∧ w0 = w' by
    have h1 := iRunesText (L.map (Nat.cast : Nat → Int)) a2 n2 w0 (by rw [List.length_map]; omega) (map_slice hs)
    rw [List.length_map, back_text HLT.out] at h1
    exact h1))
  have e2 := beq_self_eq_true s.toList
  have e3 := beq_self_eq_true (⟨#[226, 130, 172]⟩ : ByteArray).toList
  cases hok : runeOkZ z
  · have HOK := Lib.hid hok
    have hr : (⟨(rtext z).toArray⟩ : ByteArray) = ⟨#[]⟩ := by rw [rtext_bad hok]
    rw [hr]
    clear hok hr
    go_wp2_with fail
    refine (iRuneAt _ _ _ (by decide) (tabs_keep HT.out HB4.out)).mono ?_
    generalize rN _ _ = x1
    generalize rNext _ _ = x2
    rintro e w5 ⟨rfl, hb5⟩
    have HG2 := Lib.hid (G2.out.keep hb5); have HG3 := Lib.hid (G4.out.keep hb5); have HB5 := Lib.hid (bnext HB4.out hb5)
    clear hb5 G2 G4
    go_wp2_with fail
    refine (sameInts_same L _ _ _ _ _ (by omega) HG2.out HG3.out).mono ?_
    rintro e w6 ⟨rfl, hb6⟩
    go_wp2_with (first | (go_at_call 35; refine (sameInts_same L _ _ _ _ _ (by omega) HG2.out HG3.out).mono ?_; rintro e w6 ⟨rfl, hb6⟩) | (go_at_call 28; refine (HU.out _ (tabs_keep HT.out (bnext HB5.out hb6))).mono ?_; rintro e w7 ⟨rfl, hb7⟩) | (go_at_call 32; refine (HRT.out _ (HG2.out.keep (bnext hb6 hb7))).mono ?_; rintro e w' ⟨rfl, rfl⟩) | (go_at_call 36; refine (iRuneOk _ _).mono ?_; rw [HOK.out]; rintro e w' ⟨rfl, rfl⟩) | (go_at_call 34; refine (iRuneText _ _).mono ?_; rw [euro]; rintro e w' ⟨rfl, rfl⟩))
    go_ret
    exact ⟨rfl, bnext (bnext HB5.out hb6) hb7⟩
  · have HOK := Lib.hid hok
    obtain ⟨m, rfl, ho⟩ : ∃ m : Nat, z = (m : Int) ∧ runeOkN m = true := by
      rcases rtext_of z with ⟨_, h1⟩ | ⟨m, h1, h2, _⟩
      · rw [h1] at hok; cases hok
      · exact ⟨m, h1, h2⟩
    have HA1 := Lib.hid (at_one m ho _ rfl)
    have hlen : 1 ≤ (rtext (m : Int)).length ∧ (rtext (m : Int)).length ≤ 4 := by
      rw [rtext_nat, List.length_map]; exact runeBytes_pos ho
    obtain ⟨t, ht⟩ : ∃ t : ByteArray, t = ⟨(rtext (m : Int)).toArray⟩ := ⟨_, rfl⟩
    have hts : t.size = (rtext (m : Int)).length := by rw [ht]; rfl
    rw [← ht, ← hts] at HA1
    rw [← hts] at hlen
    rw [← ht]
    have hem : t.toList.isEmpty = false := by
      cases hq : t.toList.isEmpty
      · rfl
      · have h1 := toList_length2 t
        rw [List.isEmpty_iff.1 hq] at h1
        simp at h1; omega
    obtain ⟨hl1, hl4⟩ := hlen
    clear hok ho ht hts
    go_wp2_with fail
    refine (iRuneAt _ _ _ (by rw [ByteArray.size_append]; show 1 + t.size ≤ _; omega) (tabs_keep HT.out HB4.out)).mono ?_
    have h11 := HA1.out.1
    have h12 := HA1.out.2
    change rN _ 1 = _ at h11
    change rNext _ 1 = _ at h12
    rw [h11, h12]
    clear h11 h12
    rintro e w5 ⟨rfl, hb5⟩
    have HG2 := Lib.hid (G2.out.keep hb5); have HG3 := Lib.hid (G4.out.keep hb5); have HB5 := Lib.hid (bnext HB4.out hb5)
    clear hb5 G2 G4
    go_wp2_with fail
    refine (sameInts_same L _ _ _ _ _ (by omega) HG2.out HG3.out).mono ?_
    rintro e w6 ⟨rfl, hb6⟩
    have e4 := beq_self_eq_true (m : Int)
    have e5 := beq_self_eq_true (1 + (t.size : Int))
    go_wp2_with (first | (go_at_call 35; refine (sameInts_same L _ _ _ _ _ (by omega) HG2.out HG3.out).mono ?_; rintro e w6 ⟨rfl, hb6⟩) | (go_at_call 28; refine (HU.out _ (tabs_keep HT.out (bnext HB5.out hb6))).mono ?_; rintro e w7 ⟨rfl, hb7⟩) | (go_at_call 32; refine (HRT.out _ (HG2.out.keep (bnext hb6 hb7))).mono ?_; rintro e w' ⟨rfl, rfl⟩) | (go_at_call 36; refine (iRuneOk _ _).mono ?_; rw [HOK.out]; rintro e w' ⟨rfl, rfl⟩) | (go_at_call 34; refine (iRuneText _ _).mono ?_; rw [euro]; rintro e w' ⟨rfl, rfl⟩))
    go_ret
    exact ⟨rfl, bnext (bnext HB5.out hb6) hb7⟩

end Go.Proofs.YtoaakbaijklhhaaDoor
