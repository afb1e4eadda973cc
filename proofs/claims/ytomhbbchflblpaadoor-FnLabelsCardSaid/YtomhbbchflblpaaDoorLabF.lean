/- Labels drawn: l14List, l14Any, DrawSortLabels (printed by wip/gen/labgen.py). -/
import Derived.Test.YtomhbbchflblpaaDoorLabE
namespace Go.Proofs.YtomhbbchflblpaaDoor
open Go.RowKit

set_option maxRecDepth 100000 in
set_option maxHeartbeats 4000000 in
theorem l14List_any (g : Nat) (w : World) (hC : Cur w g) : Calls Tryd.prog 31 #[.pointer (some ⟨g, 0, none⟩)] w (LabP g 4 w) := by
  have H0 := Lib.hid (LabS.start hC)
  clear hC
  go_enter Tryd.func31, Tryd.ntmps31
  go_wp2_with fail
  go_loopw [3, 4] (fun s3 s4 wr => ∃ (k : Nat) (L : List Lb), k ≤ 4 ∧ s4 = .int .i64 k ∧ L.length ≤ k ∧ Hid (LabS w g wr s3 L)) (fun _ s4 _ => 4 - (intOf s4).toNat)
  case atStart => exact ⟨0, [], by omega, rfl, Nat.le_refl _, H0⟩
  case round =>
    obtain ⟨k, L, hk, rfl, hlen, HK⟩ := hrel
    clear H0
    obtain ⟨a, c, rfl⟩ := HK.out.shape
    have HL := Lib.hid hlen; clear hlen
    go_wp2_with fail
    refine (l01Below_any g 4 _ (by omega) (by omega) HK.out.cur).mono ?_
    rintro e w3 ⟨y, hy0, hy1, rfl, hc3, ha3⟩
    have H3 := Lib.hid (HK.out.go hc3 ha3); clear hc3 ha3 HK
    by_cases hkx : (k : Int) < y
    · go_wp2_with (at_builtin; refine wpList_labs rfl (.tmp 15) (.tmp 16) rfl H3.out (by have := HL.out; omega) rfl rfl ?_; intro v4 w4 h4; obtain ⟨a4, c4, rfl⟩ := h4.shape; have H4 := Lib.hid h4; clear h4)
      refine (l14Key_any g _ H4.out.cur).mono ?_
      rintro e w5 ⟨ky, hky, rfl, hc5, ha5⟩
      have H5 := Lib.hid (H4.out.go hc5 ha5); have HKY := Lib.hid (show ky.size ≤ 40 from hky); clear hc5 ha5 H4 hky
      go_wp2_with fail
      refine (l14Value_any g _ H5.out.cur).mono ?_
      rintro e w6 ⟨vl, hvl, rfl, hc6, ha6⟩
      have H6 := Lib.hid (H5.out.go hc6 ha6); have HVL := Lib.hid (show vl.size ≤ 40 from hvl); clear hc6 ha6 H5 hvl
      go_wp2_with (at_builtin; refine wpList_lab rfl (.tmp 17) (.tmp 23) rfl H6.out ky vl HKY.out HVL.out (by have := HL.out; omega) rfl w6.heap.size rfl (alB w6 _) (heap_alloc_new _ _) ?_; intro a7 c7 w7 h7; have H7 := Lib.hid h7; clear h7)
      refine (sSortOne L (ky, vl) a7 c7 (by have := HL.out; omega) H7.out).mono ?_
      rintro e w8 ⟨a8, c8, rfl, h8⟩
      have H8 := Lib.hid h8
      have HN := Lib.hid (show (sortR (L ++ [(ky, vl)])).length ≤ k + 1 from by have := HL.out; rw [sort_len, List.length_append]; simp only [List.length_cons, List.length_nil]; omega)
      clear h8 H7 H6 HKY HVL
      generalize sortR (L ++ [(ky, vl)]) = R at H8 HN
      generalize sortOk (L ++ [(ky, vl)]) = ok
      cases ok
      · have HO := Lib.hid (H3.out.past H8.out)
        go_wp2
        go_roundw
        case rel => exact ⟨k + 1, L, by omega, by go_num, by have := HL.out; omega, HO⟩
        case measure => simp [intOf]; omega
      · have HO := Lib.hid (H3.out.sink H8.out)
        go_wp2
        go_roundw
        case rel => exact ⟨k + 1, R, by omega, by go_num, HN.out, HO⟩
        case measure => simp [intOf]; omega
    · have HO := H3.out
      have hl4 : L.length ≤ 4 := by have := HL.out; omega
      go_wp2
      go_ret
      exact ⟨_, L, hl4, rfl, HO⟩

set_option maxRecDepth 100000 in
set_option maxHeartbeats 8000000 in
theorem l14Any_any (g : Nat) (w : World) (hC : Cur w g) : Calls Tryd.prog 16 #[.pointer (some ⟨g, 0, none⟩)] w (LabP g 20 w) := by
  go_enter Tryd.func16, Tryd.ntmps16
  go_wp2_with fail
  refine (l14List_any g _ hC).mono ?_
  rintro e w1 ⟨v, L, hlen, rfl, h1⟩
  obtain ⟨a, c, rfl⟩ := h1.shape
  have H1 := Lib.hid h1; have HL := Lib.hid hlen; clear h1 hlen
  go_wp2_with fail
  refine (l01Below_any g 8 _ (by omega) (by omega) H1.out.cur).mono ?_
  rintro e w2 ⟨x, hx0, hx1, rfl, hc2, ha2⟩
  have H2 := Lib.hid (H1.out.go hc2 ha2); clear hc2 ha2 H1
  have hl1 : (L ++ [((⟨#[]⟩ : ByteArray), (⟨#[]⟩ : ByteArray))]).length ≤ 20 := by have := HL.out; rw [List.length_append]; simp only [List.length_cons, List.length_nil]; omega
  have HL1 := Lib.hid (show ∀ x : Lb, (L ++ [x]).length ≤ 20 from fun x => by have := HL.out; rw [List.length_append]; simp only [List.length_cons, List.length_nil]; omega)
  clear hl1
  by_cases h0 : x = 0
  · subst h0
    go_wp2_with fail
    refine (l14Key_any g _ H2.out.cur).mono ?_
    rintro e w5 ⟨ky, hky, rfl, hc5, ha5⟩
    have H5 := Lib.hid (H2.out.go hc5 ha5); have HKY := Lib.hid (show ky.size ≤ 40 from hky); clear hc5 ha5 H2 hky
    go_wp2_with fail
    refine (l14Value_any g _ H5.out.cur).mono ?_
    rintro e w6 ⟨vl, hvl, rfl, hc6, ha6⟩
    have H6 := Lib.hid (H5.out.go hc6 ha6); have HVL := Lib.hid (show vl.size ≤ 40 from hvl); clear hc6 ha6 H5 hvl
    go_wp2_with (at_builtin; refine wpList_lab rfl (.tmp 11) (.tmp 17) rfl H6.out ky vl HKY.out HVL.out (by have := HL.out; omega) rfl w6.heap.size rfl (alB w6 _) (heap_alloc_new _ _) ?_; intro a7 c7 w7 h7; have H7 := Lib.hid h7; clear h7)
    go_ret
    exact ⟨_, L ++ [(ky, vl)], HL1.out _, rfl, H7.out⟩
  by_cases h1 : x = 1
  · subst h1
    clear h0
    go_wp2_with fail
    refine (longN 30 122 _ (by omega)).mono ?_
    rintro e w3 ⟨s3, hs3, rfl, hb3⟩
    have H3 := Lib.hid (H2.out.keep hb3); clear hb3 H2
    go_wp2_with fail
    refine (longN 31 122 _ (by omega)).mono ?_
    rintro e w4 ⟨s4, hs4, rfl, hb4⟩
    have H4 := Lib.hid (H3.out.keep hb4); clear hb4 H3
    have HSX := Lib.hid (six40 s3 s4 hs3 hs4); clear hs3 hs4
    go_wp2_with fail
    refine (l01Pick_any g _ 6 6 (fun i => ([⟨#[]⟩, ⟨#[45, 97]⟩, ⟨#[122, 122, 47]⟩, s3, s4, ⟨#[195, 169]⟩] : List ByteArray).getD i ⟨#[]⟩) (fun t => t.size ≤ 40) _ (by omega) (by omega) (H4.out.cur.keep (alB w4 _)) (lit_strsL w4 ([⟨#[]⟩, ⟨#[45, 97]⟩, ⟨#[122, 122, 47]⟩, s3, s4, ⟨#[195, 169]⟩] : List ByteArray) _ rfl) (fun b o h => by cases h; have := H4.out.cur.lt; omega) HSX.out).mono ?_
    rintro e w5 ⟨ky, hky, rfl, hc5, ha5⟩
    have H5 := Lib.hid ((H4.out.keep (alB w4 _)).go hc5 ha5); have HKY := Lib.hid (show ky.size ≤ 40 from hky); clear hc5 ha5 H4 hky HSX
    go_wp2_with fail
    refine (longN 20 97 _ (by omega)).mono ?_
    rintro e w6 ⟨s6, hs6, rfl, hb6⟩
    have H6 := Lib.hid (H5.out.keep hb6); clear hb6 H5
    go_wp2_with fail
    refine (longN 21 97 _ (by omega)).mono ?_
    rintro e w7 ⟨s7, hs7, rfl, hb7⟩
    have H7 := Lib.hid (H6.out.keep hb7); clear hb7 H6
    have HFX := Lib.hid (four40 s6 s7 hs6 hs7); clear hs6 hs7
    go_wp2_with fail
    refine (l01Pick_any g _ 4 4 (fun i => ([⟨#[120]⟩, ⟨#[97, 47, 98]⟩, s6, s7] : List ByteArray).getD i ⟨#[]⟩) (fun t => t.size ≤ 40) _ (by omega) (by omega) (H7.out.cur.keep (alB w7 _)) (lit_strsL w7 ([⟨#[120]⟩, ⟨#[97, 47, 98]⟩, s6, s7] : List ByteArray) _ rfl) (fun b o h => by cases h; have := H7.out.cur.lt; omega) HFX.out).mono ?_
    rintro e w8 ⟨vl, hvl, rfl, hc8, ha8⟩
    have H8 := Lib.hid ((H7.out.keep (alB w7 _)).go hc8 ha8); have HVL := Lib.hid (show vl.size ≤ 40 from hvl); clear hc8 ha8 H7 hvl HFX
    go_wp2_with (at_builtin; refine wpList_lab rfl (.tmp 21) (.tmp 33) rfl H8.out ky vl HKY.out HVL.out (by have := HL.out; omega) rfl w8.heap.size rfl (alB w8 _) (heap_alloc_new _ _) ?_; intro a9 c9 w9 h9; have H9 := Lib.hid h9; clear h9)
    go_ret
    exact ⟨_, L ++ [(ky, vl)], HL1.out _, rfl, H9.out⟩
  by_cases h2 : x = 2
  · subst h2
    clear h0 h1 HL1
    go_wp2_with fail
    go_loopw [3, 4] (fun s3 s4 wr => ∃ (k : Nat) (M : List Lb), k ≤ 7 ∧ s4 = .int .i64 k ∧ M.length ≤ 4 + k ∧ Hid (LabS w g wr s3 M)) (fun _ s4 _ => 7 - (intOf s4).toNat)
    case atStart => exact ⟨0, L, by omega, rfl, HL.out, H2⟩
    case round =>
      obtain ⟨k, M, hk, rfl, hlen, HK⟩ := hrel
      clear H2 HL
      obtain ⟨a3, c3, rfl⟩ := HK.out.shape
      have HL := Lib.hid hlen; clear hlen
      go_wp2_with fail
      refine (l01Below_any g 3 _ (by omega) (by omega) HK.out.cur).mono ?_
      rintro e w3 ⟨y, hy0, hy1, rfl, hc3, ha3⟩
      have H3 := Lib.hid (HK.out.go hc3 ha3); clear hc3 ha3 HK
      by_cases hkx : (k : Int) < 4 + y
      · go_wp2_with fail
        refine (decN (k : Int) _ (by omega) (by omega)).mono ?_
        rintro e w4 ⟨t, ht, rfl, hb4⟩
        have H4 := Lib.hid (H3.out.keep hb4); clear hb4 H3
        have HKY := Lib.hid (show ((⟨#[122, 122]⟩ : ByteArray) ++ t).size ≤ 40 from by rw [ByteArray.size_append]; have : (⟨#[122, 122]⟩ : ByteArray).size = 2 := rfl; omega)
        go_wp2_with (at_builtin; refine wpList_lab rfl (.tmp 44) (.tmp 49) rfl H4.out ((⟨#[122, 122]⟩ : ByteArray) ++ t) ⟨#[]⟩ HKY.out (by decide) (by have := HL.out; omega) rfl w4.heap.size rfl (alB w4 _) (heap_alloc_new _ _) ?_; intro a9 c9 w9 h9; have H9 := Lib.hid h9; clear h9)
        have HN := Lib.hid (show (M ++ [((⟨#[122, 122]⟩ : ByteArray) ++ t, (⟨#[]⟩ : ByteArray))]).length ≤ 4 + (k + 1) from by have := HL.out; rw [List.length_append]; simp only [List.length_cons, List.length_nil]; omega)
        go_roundw
        case rel => exact ⟨k + 1, _, by omega, by go_num, HN.out, H9⟩
        case measure => simp [intOf]; omega
      · have HO := H3.out
        have hl4 : M.length ≤ 20 := by have := HL.out; omega
        go_wp2
        go_ret
        exact ⟨_, M, hl4, rfl, HO⟩
  have n0 : (x == 0) = false := by rw [beq_eq_false_iff_ne]; exact h0
  have n1 : (x == 1) = false := by rw [beq_eq_false_iff_ne]; exact h1
  have n2 : (x == 2) = false := by rw [beq_eq_false_iff_ne]; exact h2
  clear h0 h1 h2
  have hl4 : L.length ≤ 20 := by have := HL.out; omega
  go_wp2
  go_ret
  exact ⟨_, L, hl4, rfl, H2.out⟩

/-! ### The list turned round -/
set_option maxRecDepth 100000 in
set_option maxHeartbeats 4000000 in
theorem drawSortLabels (a : Option Addr) (n cap : Nat) (w : World) (hn : n ≤ 1048576) (hc : CodeAt w w.heap.size a n) : Calls Tryd.prog 5 #[.slice a n cap] w (LabW w) := by
  go_enter Tryd.func5, Tryd.ntmps5
  go_wp2_with fail
  refine (l01New_any a n cap _ hn hc).mono ?_
  rintro e w1 ⟨g, rfl, hg, hc1, hb1⟩
  have H1 := Lib.hid (And.intro hg hb1); clear hg hb1 hc
  go_wp2_with fail
  refine (l14Any_any g _ hc1).mono ?_
  rintro e w2 ⟨v, L, hlen, rfl, h2⟩
  obtain ⟨b, c, rfl⟩ := h2.shape
  have H2 := Lib.hid h2; have HL := Lib.hid hlen; clear h2 hc1
  have HS := Lib.hid (LabS.start H2.out.cur)
  have hw0 : IntKind.i64.wrap ((L.length : Int) - 1) = (L.length : Int) - 1 := IntWalk.i64_in _ (by omega)
  go_wp2_with fail
  clear hw0
  go_loopw [5, 6] (fun s5 s6 wr => ∃ (k : Nat) (M : List Lb), M.length + k = L.length ∧ s6 = .int .i64 ((k : Int) - 1) ∧ Hid (LabS w2 g wr s5 M)) (fun _ s6 _ => (intOf s6 + 1).toNat)
  case atStart => exact ⟨L.length, [], by simp, rfl, HS⟩
  case round =>
    obtain ⟨k, M, hlk, rfl, HK⟩ := hrel
    clear HS
    obtain ⟨a3, c3, rfl⟩ := HK.out.shape
    have HLK := Lib.hid hlk; clear hlk
    rcases k with _ | j
    · have n0 : decide (((0 : Nat) : Int) - 1 ≥ 0) = false := decide_eq_false (by omega)
      have hout := HK.out
      have hlM : M.length ≤ 20 := by have := HLK.out; have := HL.out; omega
      have hbel : Below w.heap.size w wr := by
        have h1 := H1.out.2
        have h2 := (H2.out.ap.trans hout.ap).below h1.size (fun y hy => by have := H1.out.1; simp at hy; omega)
        exact h1.trans h2
      have HR := Lib.hid (And.intro hlM (And.intro hout.sm (And.intro hout.sl hbel)))
      clear hout hlM hbel
      go_wp2
      go_ret
      exact ⟨_, _, M, HR.out.1, HR.out.2.1, rfl, HR.out.2.2.1, HR.out.2.2.2⟩
    · have n0 : decide ((((j + 1 : Nat) : Int) - 1) ≥ 0) = true := decide_eq_true (by omega)
      have hjl : j < L.length := by have := HLK.out; omega
      have hsl := (H2.out.past HK.out).sl
      obtain ⟨p, q, rfl, hcell⟩ := hsl.at (by omega)
      have c0 : wr.cell? ⟨p, q + j * 2, none⟩ = some (.string (keyAt L j)) := by simpa [labF] using hcell j hjl 0 (by omega)
      have c1 : wr.cell? ⟨p, q + j * 2 + 1, none⟩ = some (.string (valAt L j)) := by simpa [labF] using hcell j hjl 1 (by omega)
      have HSM := Lib.hid (H2.out.sm.at hjl)
      have ej : (((j + 1 : Nat) : Int) - 1) = (j : Int) := by omega
      rw [ej] at n0 ⊢
      have j0 : (0 : Int) ≤ (j : Int) := by omega
      have j1 : (j : Int) < (L.length : Int) := by omega
      have hw1 : IntKind.i64.wrap ((j : Int) - 1) = (j : Int) - 1 := IntWalk.i64_in _ (by omega)
      clear hcell hsl ej hlen
      go_wp2_with (at_builtin; refine wpList_lab rfl (.tmp 19) (.tmp 24) rfl HK.out (keyAt L j) (valAt L j) HSM.out.1 HSM.out.2 (by have := HLK.out; have := HL.out; omega) rfl wr.heap.size rfl (alB wr _) (heap_alloc_new _ _) ?_; intro a9 c9 w9 h9; have H9 := Lib.hid h9; clear h9)
      have HN := Lib.hid (show (M ++ [(keyAt L j, valAt L j)]).length + j = L.length from by have := HLK.out; rw [List.length_append]; simp only [List.length_cons, List.length_nil]; omega)
      go_roundw
      case rel => exact ⟨j, _, HN.out, rfl, H9⟩
      case measure => simp [intOf]

end Go.Proofs.YtomhbbchflblpaaDoor
