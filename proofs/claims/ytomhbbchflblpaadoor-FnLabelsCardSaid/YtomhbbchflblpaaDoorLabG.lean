/- The law's walk of FnLabels. -/
import Derived.Test.YtomhbbchflblpaaDoorLabF
import Derived.Test.YtomhbbchflblpaaDoorLabQ
import Derived.Test.YtomhbbchflblpaaDoorReadLI
import Derived.Test.YtomhbbchflblpaaDoorMemC
import Derived.Test.YtomhbbchflblpaaDoorNames
import Derived.OpenShut
import Derived.Lib.LaidU8
namespace Go.Proofs.YtomhbbchflblpaaDoor
open Go.RowKit Go.ChangeShapes Go.WideShapes

theorem Tryd.cellsU8L : Tryd.prog.cellsOf 5 = 1 := by kernel_rfl
theorem openCodeL {H : Type} {enc : TypeId × Value → H} {W : World} {base : Nat} {v : Value} {d : DataW H} {p : List MemPlace} (hval : Value.okWide Tryd.prog W .any base 22 v)
    (h : DataW.Trod enc Tryd.prog W 0 (fun _ => true) true 22 v d p) :
    ∃ (a : Option Addr) (n cap : Nat), v = .slice a n cap ∧ n ≤ maxLen ∧ CodeAt W W.heap.size a n := by
  obtain ⟨a, len, cap, rfl⟩ := okWide_slice Tryd.underlying22 hval
  obtain ⟨fuel, hf⟩ := h
  rcases open_ints Tryd.underlying22 Tryd.underlying5 Tryd.cellsU8L hf with ⟨hcs, _⟩ | ⟨x, l, c, zs, hcs, _, hl, hm, hz, _, hx, hw⟩
  · simp [Value.cells] at hcs
    obtain ⟨rfl, rfl, rfl⟩ := hcs
    exact ⟨none, 0, 0, rfl, Nat.zero_le _, fun _ => 0, fun _ => ⟨Int.le_refl _, (by decide : (0 : Int) ≤ 255)⟩, .inl rfl⟩
  · simp [Value.cells] at hcs
    obtain ⟨rfl, rfl, rfl⟩ := hcs
    have hzl : len ≤ zs.length := by rw [hz]; split <;> omega
    refine ⟨some x, len, cap, rfl, Nat.le_trans hl hm, fun i => zs[i]?.getD 0, fun i => range_u8 hw i, ?_⟩
    rcases Nat.eq_zero_or_pos len with h0 | h0
    · exact .inl h0
    · obtain ⟨b, o, spot⟩ := x
      have hs : spot = none := by simpa [Addr.add] using World.cell?_spot (hx 0 (by omega))
      subst hs
      refine .inr ⟨b, o, rfl, ?_, fun i hi => ?_⟩
      · have := hx 0 (by omega)
        rw [addr_add] at this
        exact lt_of_cell this
      · have := hx i (by omega)
        rw [addr_add, List.getD_eq_getElem?_getD] at this
        exact this
theorem big_anyL (a : Option Addr) (n cap : Nat) (w : World) : Calls Tryd.prog 4 #[.slice a n cap] w fun e w' => e = .returned (.bool (decide (1048576 < (n : Int)))) ∧ w = w' := by
  go_enter Tryd.func4, Tryd.ntmps4
  go_wp2
  go_ret
  exact ⟨rfl, rfl⟩

theorem lsame (L : List Lb) (a a' : Option Addr) (cap cap' : Nat) (w : World) (hn : L.length ≤ 1000) (hc : SlAt w a L.length 2 (labF L)) (hc' : SlAt w a' L.length 2 (labF L)) :
    Calls Tryd.prog 8 #[.slice a L.length cap, .slice a' L.length cap'] w fun e w' => e = .returned (.bool true) ∧ Below w.heap.size w w' := by
  have h2 : ((L.length : Int) != (L.length : Int)) = false := by simp
  go_enter Tryd.func8, Tryd.ntmps8
  go_wp2
  go_loopw [5] (fun i wr => ∃ k : Nat, k ≤ L.length ∧ i = .int .i64 k ∧ Below w.heap.size w wr) (fun i _ => L.length - (intOf i).toNat)
  case atStart => exact ⟨0, by omega, rfl, Below.refl _ _⟩
  case round =>
    obtain ⟨k, hk, rfl, hb⟩ := hrel
    by_cases hlt : k < L.length
    · obtain ⟨b, off, rfl, hcell⟩ := (hc.keep hb).at (by omega)
      obtain ⟨b', off', rfl, hcell'⟩ := (hc'.keep hb).at (by omega)
      have c0 : wr.cell? ⟨b, off + k * 2, none⟩ = some (.string (keyAt L k)) := by simpa [labF] using hcell k hlt 0 (by omega)
      have c1 : wr.cell? ⟨b, off + k * 2 + 1, none⟩ = some (.string (valAt L k)) := by simpa [labF] using hcell k hlt 1 (by omega)
      have d0 : wr.cell? ⟨b', off' + k * 2, none⟩ = some (.string (keyAt L k)) := by simpa [labF] using hcell' k hlt 0 (by omega)
      have d1 : wr.cell? ⟨b', off' + k * 2 + 1, none⟩ = some (.string (valAt L k)) := by simpa [labF] using hcell' k hlt 1 (by omega)
      have s0 := selfEq (keyAt L k)
      have s1 := selfEq (valAt L k)
      clear hcell hc hcell' hc' h2
      go_wp2_with fail
      go_quiet (fail)
      go_wp2
      go_roundw
      case rel => exact ⟨k + 1, by omega, by go_num, bnext hb (drewB _ _)⟩
      case measure => simp [intOf]; omega
    · obtain rfl : k = L.length := by omega
      go_wp2
      go_ret
      exact ⟨rfl, hb⟩

/-- What SortLabels answers, as the law reads it. -/
def SrtG (R : List Lb) (V : Bool) (w : World) (e : Ending) (w' : World) : Prop :=
  (∃ a cap, e = .returned (.tuple #[.slice a R.length cap, .bool V]) ∧ SlAt w' a R.length 2 (labF R)) ∧ Below w.heap.size w w'
theorem SortV.srt {L : List Lb} {w w' : World} {e : Ending} (h : SortV L w e w') : SrtG (sortR L) (sortOk L) w e w' := by
  obtain ⟨⟨a, cap, fp, h1, h2, h3⟩, hb⟩ := h
  exact ⟨⟨a, cap, h1, h2.sl⟩, hb⟩
theorem read_back {R : List Lb} (h : labsOkB R = true) {w w' : World} {e : Ending} (hr : ReadP (lineB R) w e w') : SrtG R true w e w' := by
  obtain ⟨h1, h2⟩ := read_line h
  obtain ⟨⟨a, cap, fp, he, hg⟩, hb⟩ := hr
  rw [h1, h2] at he
  rw [h2] at hg
  exact ⟨⟨a, cap, he, hg.own.sl⟩, hb⟩
theorem line_small {R : List Lb} (h : labsOkB R = true) : (lineB R).size ≤ 1000 := by
  rw [lineB, if_pos h]
  split
  · show (⟨#[45]⟩ : ByteArray).size ≤ 1000; decide
  · have := line_len h
    show Array.size _ ≤ 1000
    rw [List.size_toArray]; omega
theorem sameLabs_self (R : List Lb) : sameLabs R R = true := sameLabs_yes rfl (fun k _ => by simp [sameLab, sameS_refl])
theorem name_yes : nameOkL ⟨#[97, 45, 98]⟩ = true := by decide +kernel
theorem name_no : nameOkL ⟨#[45, 97]⟩ = false := by decide +kernel

set_option maxRecDepth 100000 in
set_option maxHeartbeats 8000000 in
theorem lawLabels {H : Type} {enc : TypeId × Value → H} {W : World} {base : Nat} {v : Value} {d : DataW H} {p : List MemPlace} (hval : Value.okWide Tryd.prog W .any base 22 v)
    (h : DataW.Trod enc Tryd.prog W 0 (fun _ => true) true 22 v d p) (_ha : Lib.VarReads Tryd.prog W "unicode/utf8.acceptRanges" Rows.laid_unicode_utf8_acceptRanges) (_hf : Lib.VarReads Tryd.prog W "unicode/utf8.first" Rows.laid_unicode_utf8_first) (hsh : W.ShapedOpen Tryd.prog) :
    Calls Tryd.prog 3 #[v] W fun e w' => e = .returned (.bool true) ∧ Below W.heap.size W w' := by
  obtain ⟨a, n, cap, rfl, hnm, hcode⟩ := openCodeL hval h
  have hM : MaxOk W := Tryd.laysM146.s1_3 W hsh
  clear hval h _ha _hf hsh hnm
  by_cases hn : n ≤ 1048576
  rotate_left
  · have hd : decide ((1048576 : Int) < (n : Int)) = true := decide_eq_true (by omega)
    clear hn hM hcode
    go_enter Tryd.func3, Tryd.ntmps3
    go_wp2_with (go_at_call 4; refine (big_anyL _ _ _ _).mono ?_; rintro e w' ⟨rfl, rfl⟩)
    go_ret
    exact ⟨rfl, Below.refl _ _⟩
  have hd : decide ((1048576 : Int) < (n : Int)) = false := decide_eq_false (by omega)
  have HN := Lib.hid hn; have HM := Lib.hid hM; have HC := Lib.hid hcode
  clear hn hM hcode
  go_enter Tryd.func3, Tryd.ntmps3
  go_wp2_with (go_at_call 4; refine (big_anyL _ _ _ _).mono ?_; rintro e w' ⟨rfl, rfl⟩)
  clear hd
  refine (drawSortLabels a n cap _ HN.out HC.out).mono ?_
  rintro e w1 ⟨al, cl, L, hlen, hsm, rfl, hsl, hb1⟩
  have H1 := Lib.hid (And.intro hsl hb1)
  have HSM := Lib.hid hsm
  have HLN := Lib.hid hlen
  clear hsl hb1 hsm hlen HN HC
  have hI := fun (w0 : World) (h0 : SlAt w0 al L.length 2 (labF L)) => (iSortLabels L al cl w0 (by have := HLN.out; omega) h0 HSM.out.big).mono fun e w' h => SortV.srt h
  have hS := fun (w0 : World) (h0 : SlAt w0 al L.length 2 (labF L)) => (sSortLabels L al cl w0 (by have := HLN.out; omega) h0 HSM.out.big).mono fun e w' h => SortV.srt h
  cases hV : sortOk L
  · have hr := sortR_no hV
    rw [hr, hV] at hI hS
    have HI := Lib.hid hI; have HS := Lib.hid hS
    clear hI hS hr hV HM
    have HNA := Lib.hid (fun (w0 : World) => (show Calls Tryd.prog 9 #[.string ⟨#[97, 45, 98]⟩] w0 fun e w' => e = .returned (.bool true) ∧ w0 = w' from by have := isNameOk ⟨#[97, 45, 98]⟩ w0 (by decide); rw [name_yes] at this; exact this))
    have HNB := Lib.hid (fun (w0 : World) => (show Calls Tryd.prog 9 #[.string ⟨#[45, 97]⟩] w0 fun e w' => e = .returned (.bool false) ∧ w0 = w' from by have := isNameOk ⟨#[45, 97]⟩ w0 (by decide); rw [name_no] at this; exact this))
    go_wp2_with fail
    refine (HI.out _ H1.out.1).mono ?_
    rintro e w2 ⟨⟨a2, c2, rfl, hs2⟩, hb2⟩
    have H2 := Lib.hid (And.intro (H1.out.1.keep hb2) (And.intro hs2 (bnext H1.out.2 hb2))); clear hs2 hb2 H1
    go_wp2_with fail
    refine (HS.out _ H2.out.1).mono ?_
    rintro e w3 ⟨⟨a3, c3, rfl, hs3⟩, hb3⟩
    have H3 := Lib.hid (And.intro (H2.out.1.keep hb3) (And.intro (H2.out.2.1.keep hb3) (And.intro hs3 (bnext H2.out.2.2 hb3)))); clear hs3 hb3 H2
    go_wp2_with fail
    refine (lsame L a2 a3 c2 c3 _ (by have := HLN.out; omega) H3.out.2.1 H3.out.2.2.1).mono ?_
    rintro e w4 ⟨rfl, hb4⟩
    have H4 := Lib.hid (And.intro (H3.out.1.keep hb4) (And.intro (H3.out.2.1.keep hb4) (bnext H3.out.2.2.2 hb4))); clear hb4 H3
    go_wp2_with fail
    refine (lsame L a2 al c2 cl _ (by have := HLN.out; omega) H4.out.2.1 H4.out.1).mono ?_
    rintro e w5 ⟨rfl, hb5⟩
    have H5 := Lib.hid (bnext H4.out.2.2 hb5); clear hb5 H4
    go_wp2_with fail
    refine (HNA.out _).mono ?_
    rintro e w6 ⟨rfl, rfl⟩
    go_wp2_with fail
    refine (HNB.out _).mono ?_
    rintro e w6 ⟨rfl, rfl⟩
    go_wp2
    go_ret
    exact ⟨rfl, H5.out⟩
  have hok : labsOkB (sortR L) = true := by
    have h2 := hV
    rw [sortOk, Bool.and_eq_true] at h2
    rw [sortR_yes hV]; exact h2.2
  have hlook := sort_look hV
  have hrl : (sortR L).length = L.length := sort_len L
  have hsmr := HSM.out.sort
  rw [hV] at hI hS
  clear hV
  generalize sortR L = R at hI hS hok hlook hrl hsmr
  have HI := Lib.hid hI; have HS := Lib.hid hS
  have HLA := Lib.hid (fun (k : Nat) (hk : k < L.length) (a2 : Option Addr) (c2 : Nat) (w0 : World) (h0 : SlAt w0 a2 R.length 2 (labF R)) => (show Calls Tryd.prog 12 #[.slice a2 R.length c2, .string (keyAt L k)] w0 fun e w' => e = .returned (.tuple #[.string (valAt L k), .bool true]) ∧ Below w0.heap.size w0 w' from by
    have h := iLabelAt R a2 c2 (keyAt L k) w0 (by have := HLN.out; omega) h0
    rw [(hlook k hk).1, (hlook k hk).2] at h; exact h))
  have HLL := Lib.hid (fun (a2 : Option Addr) (c2 : Nat) (w0 : World) (h0 : SlAt w0 a2 R.length 2 (labF R)) => iLabelsLine R a2 c2 w0 (by have := HLN.out; omega) h0 hsmr.big)
  have HRL := Lib.hid (fun (w0 : World) (hT : MaxOk w0) => (iReadLabels (lineB R) w0 (by have := line_small hok; omega) hT).mono fun e w' h => read_back hok h)
  have HRN := Lib.hid (show R.length ≤ 1000 from by have := HLN.out; omega)
  have HOK := Lib.hid (fun (a2 : Option Addr) (c2 : Nat) (w0 : World) (h0 : SlAt w0 a2 R.length 2 (labF R)) => (show Calls Tryd.prog 13 #[.slice a2 R.length c2] w0 fun e w' => e = .returned (.bool true) ∧ Below w0.heap.size w0 w' from by
    have h := iLabelsOk R a2 c2 w0 (by have := HLN.out; omega) h0 hsmr.big
    rw [hok] at h; exact h))
  have HSL := Lib.hid (fun (a2 a3 : Option Addr) (c2 c3 : Nat) (w0 : World) (h0 : SlAt w0 a2 R.length 2 (labF R)) (h1 : SlAt w0 a3 R.length 2 (labF R)) => (show Calls Tryd.prog 14 #[.slice a2 R.length c2, .slice a3 R.length c3] w0 fun e w' => e = .returned (.bool true) ∧ Below w0.heap.size w0 w' from by
    have h := iSameLabels R R a2 a3 c2 c3 w0 (by have := HLN.out; omega) (by have := HLN.out; omega) h0 h1
    rw [sameLabs_self] at h; exact h))
  have HNL := Lib.hid (fun (w0 : World) => (show Calls Tryd.prog 11 #[.slice none 0 0] w0 fun e w' => e = .returned (.string ⟨#[45]⟩) ∧ Below w0.heap.size w0 w' from by
    have h := iLabelsLine [] none 0 w0 (by decide) (.inl rfl) (fun i hi => by simp at hi)
    rw [line_nil] at h; exact h))
  clear hI hS hok hlook hrl hsmr
  generalize lineB R = S at HLL HRL
  go_wp2_with fail
  refine (HI.out _ H1.out.1).mono ?_
  rintro e w2 ⟨⟨a2, c2, rfl, hs2⟩, hb2⟩
  have H2 := Lib.hid (And.intro (H1.out.1.keep hb2) (And.intro hs2 (bnext H1.out.2 hb2))); clear hs2 hb2 H1
  go_wp2_with fail
  refine (HS.out _ H2.out.1).mono ?_
  rintro e w3 ⟨⟨a3, c3, rfl, hs3⟩, hb3⟩
  have H3 := Lib.hid (And.intro (H2.out.1.keep hb3) (And.intro (H2.out.2.1.keep hb3) (And.intro hs3 (bnext H2.out.2.2 hb3)))); clear hs3 hb3 H2
  go_wp2_with fail
  refine (lsame R a2 a3 c2 c3 _ HRN.out H3.out.2.1 H3.out.2.2.1).mono ?_
  rintro e w4 ⟨rfl, hb4⟩
  have H4 := Lib.hid (And.intro (H3.out.1.keep hb4) (And.intro (H3.out.2.1.keep hb4) (And.intro (H3.out.2.2.1.keep hb4) (bnext H3.out.2.2.2 hb4)))); clear hb4 H3
  go_wp2_with fail
  refine (HLL.out a2 c2 _ H4.out.2.1).mono ?_
  rintro e w5 ⟨rfl, hb5⟩
  have H5 := Lib.hid (And.intro (H4.out.1.keep hb5) (And.intro (H4.out.2.1.keep hb5) (And.intro (H4.out.2.2.1.keep hb5) (bnext H4.out.2.2.2 hb5)))); clear hb5 H4
  go_wp2_with fail
  refine (HRL.out _ (HM.out.keep H5.out.2.2.2)).mono ?_
  rintro e w6 ⟨⟨a6, c6, rfl, hs6⟩, hb6⟩
  have H6 := Lib.hid (And.intro (H5.out.1.keep hb6) (And.intro (H5.out.2.1.keep hb6) (And.intro (H5.out.2.2.1.keep hb6) (And.intro hs6 (bnext H5.out.2.2.2 hb6))))); clear hs6 hb6 H5
  go_wp2_with fail
  go_loopw [10] (fun s10 wr => ∃ k : Nat, k ≤ L.length ∧ s10 = .int .i64 k ∧ Hid (Below w6.heap.size w6 wr)) (fun s10 _ => L.length - (intOf s10).toNat)
  case atStart => exact ⟨0, by omega, rfl, Lib.hid (Below.refl _ _)⟩
  case round =>
    obtain ⟨k, hk, rfl, HB⟩ := hrel
    by_cases hlt : k < L.length
    · obtain ⟨p, q, hae, hcell⟩ := (H6.out.1.keep HB.out).at (by omega)
      have c0 : wr.cell? ⟨p, q + k * 2, none⟩ = some (.string (keyAt L k)) := by simpa [labF] using hcell k hlt 0 (by omega)
      have c1 : wr.cell? ⟨p, q + k * 2 + 1, none⟩ = some (.string (valAt L k)) := by simpa [labF] using hcell k hlt 1 (by omega)
      have k0 : (0 : Int) ≤ (k : Int) := by omega
      have k1 : (k : Int) < (L.length : Int) := by omega
      have s1 := selfEq (valAt L k)
      have hl20 := HLN.out
      have HK := Lib.hid (HLA.out k hlt a2 c2)
      subst hae
      clear hcell hk
      go_wp2_with fail
      refine (HK.out _ (H6.out.2.1.keep HB.out)).mono ?_
      rintro e w7 ⟨rfl, hb7⟩
      have d1 := bkeep hb7 c1
      have HB7 := Lib.hid (bnext HB.out hb7)
      clear hb7 c0 c1
      go_wp2
      go_roundw
      case rel => exact ⟨k + 1, by omega, by go_num, HB7⟩
      case measure => simp [intOf]; omega
    · obtain rfl : k = L.length := by omega
      clear hlt hk
      have HZ := Lib.hid (bnext H6.out.2.2.2.2 HB.out)
      have h21 := Lib.hid (H6.out.2.1.keep HB.out)
      have h31 := Lib.hid (H6.out.2.2.1.keep HB.out)
      have h61 := Lib.hid (H6.out.2.2.2.1.keep HB.out)
      have HE := Lib.hid (show (((⟨#[45]⟩ : ByteArray).toList == (⟨#[45]⟩ : ByteArray).toList) = true) from selfEq _)
      clear HB H6
      go_wp2_with fail
      refine (HOK.out a2 c2 _ h21.out).mono ?_
      rintro e w8 ⟨rfl, hb8⟩
      have HZ8 := Lib.hid (bnext HZ.out hb8)
      have h22 := Lib.hid (h21.out.keep hb8)
      have h32 := Lib.hid (h31.out.keep hb8)
      have h62 := Lib.hid (h61.out.keep hb8)
      clear hb8 h21 h31 h61 HZ
      go_wp2_with fail
      refine (lsame R a6 a2 c6 c2 _ HRN.out h62.out h22.out).mono ?_
      rintro e w9 ⟨rfl, hb9⟩
      have HZ9 := Lib.hid (bnext HZ8.out hb9)
      have h23 := Lib.hid (h22.out.keep hb9)
      have h33 := Lib.hid (h32.out.keep hb9)
      clear hb9 h22 h32 h62 HZ8
      go_wp2_with fail
      refine (HSL.out a2 a3 c2 c3 _ h23.out h33.out).mono ?_
      rintro e wa ⟨rfl, hba⟩
      have HZa := Lib.hid (bnext HZ9.out hba)
      clear hba h23 h33 HZ9
      go_wp2_with fail
      refine (HNL.out _).mono ?_
      rintro e wb ⟨rfl, hbb⟩
      have he := HE.out
      go_wp2
      go_ret
      exact ⟨rfl, bnext HZa.out hbb⟩

end Go.Proofs.YtomhbbchflblpaaDoor
