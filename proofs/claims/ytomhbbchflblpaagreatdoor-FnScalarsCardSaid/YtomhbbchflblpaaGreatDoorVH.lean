/- ScalS, ScalI, ScalL, ScalU, merged. -/
import Derived.Test.YtomhbbchflblpaaGreatDoorVG
import Derived.Test.YtomhbbchflblpaaGreatDoorVL
import Derived.Test.YtomhbbchflblpaaGreatDoorVE
import Derived.Test.YtomhbbchflblpaaGreatDoorVB
import Derived.Test.YtomhbbchflblpaaGreatDoorVD
import Derived.Test.YtomhbbchflblpaaGreatDoorVC
import Derived.Test.YtomhbbchflblpaaGreatDoorVF
import Derived.Test.YtomhbbchflblpaaGreatDoorTreeQ
namespace Go.Proofs.YtomhbbchflblpaaGreatDoor
open Go.RowKit

end Go.Proofs.YtomhbbchflblpaaGreatDoor
namespace Go.Proofs.YtomhbbchflblpaaGreatDoor
open Go.RowKit

theorem pre_quote (s : ByteArray) : Lib.hasPrefix s.data.toList [34] = decide (0 < s.size ∧ bt s 0 = 34) := by
  have hlen : s.data.toList.length = s.size := by simp
  by_cases h : 0 < s.size
  · have hb := bt_eq s 0 h
    have hc : ∃ r, s.data.toList = s[0] :: r := by
      have h2 : 0 < s.data.toList.length := by omega
      exact ⟨s.data.toList.drop 1, (List.drop_eq_getElem_cons h2 : s.data.toList.drop 0 = _)⟩
    obtain ⟨r, hr⟩ := hc
    rw [hr]
    by_cases hq : s[0] = 34
    · have : bt s 0 = 34 := by rw [hb, hq]; rfl
      rw [hq, decide_eq_true ⟨h, this⟩]; rfl
    · have : bt s 0 ≠ 34 := fun e => hq (UInt8.toNat_inj.1 (by rw [← hb, e]; rfl))
      rw [decide_eq_false (fun hh => this hh.2)]
      show ((34 : UInt8) == s[0] && _) = false
      rw [beq_eq_false_iff_ne.2 (Ne.symm hq)]; rfl
  · have hz : s.data.toList = [] := List.eq_nil_of_length_eq_zero (by omega)
    rw [hz, decide_eq_false (fun hh => h hh.1)]; rfl
set_option maxHeartbeats 2000000 in
set_option maxRecDepth 100000 in
theorem iScal_w0 (s : ByteArray) (w : World) (_hs : s.size ≤ 1048576) (_hT : Tabs w) (_hV : Cases w) (_hE : Errs w) (c0 : (s.toList == [91, 93]) = true) : Calls Tryz.prog 16 #[.string s] w (ScalP s w) := by
  have HZ := Lib.hid (ZT.new w)
  have H := Lib.hid (sc_list c0)
  have c1 : (s.toList == [123, 125]) = false := beqL c0 (by decide)
  have c2 : (s.toList == [110, 117, 108, 108]) = false := beqL c0 (by decide)
  have c3 : (s.toList == [126]) = false := beqL c0 (by decide)
  have c4 : (s.toList == [116, 114, 117, 101]) = false := beqL c0 (by decide)
  have c5 : (s.toList == [102, 97, 108, 115, 101]) = false := beqL c0 (by decide)
  go_enter Tryz.func16, Tryz.ntmps16
  go_wp2_with (go_at_call 31; refine (HP.out _).mono ?_; rintro e w' ⟨rfl, rfl⟩)
  refine bodyPost_ret (v := .tuple #[.agg #[.int .i64 5, .bool false, .int .i64 0, .string ⟨#[]⟩, .slice none 0 0, .slice none 0 0], .bool true]) (by simp [results, Tryz.results16, go_sem]) rfl ?_
  exact scalP_some H.out ((Below.refl _ _).alloc (Nat.le_refl _) _)

set_option maxHeartbeats 2000000 in
set_option maxRecDepth 100000 in
theorem iScal_w1 (s : ByteArray) (w : World) (_hs : s.size ≤ 1048576) (_hT : Tabs w) (_hV : Cases w) (_hE : Errs w) (c1 : (s.toList == [123, 125]) = true) : Calls Tryz.prog 16 #[.string s] w (ScalP s w) := by
  have HZ := Lib.hid (ZT.new w)
  have H := Lib.hid (sc_map c1)
  have c0 : (s.toList == [91, 93]) = false := beqL c1 (by decide)
  have c2 : (s.toList == [110, 117, 108, 108]) = false := beqL c1 (by decide)
  have c3 : (s.toList == [126]) = false := beqL c1 (by decide)
  have c4 : (s.toList == [116, 114, 117, 101]) = false := beqL c1 (by decide)
  have c5 : (s.toList == [102, 97, 108, 115, 101]) = false := beqL c1 (by decide)
  go_enter Tryz.func16, Tryz.ntmps16
  go_wp2_with (go_at_call 31; refine (HP.out _).mono ?_; rintro e w' ⟨rfl, rfl⟩)
  refine bodyPost_ret (v := .tuple #[.agg #[.int .i64 6, .bool false, .int .i64 0, .string ⟨#[]⟩, .slice none 0 0, .slice none 0 0], .bool true]) (by simp [results, Tryz.results16, go_sem]) rfl ?_
  exact scalP_some H.out ((Below.refl _ _).alloc (Nat.le_refl _) _)

set_option maxHeartbeats 2000000 in
set_option maxRecDepth 100000 in
theorem iScal_w2 (s : ByteArray) (w : World) (_hs : s.size ≤ 1048576) (_hT : Tabs w) (_hV : Cases w) (_hE : Errs w) (c2 : (s.toList == [110, 117, 108, 108]) = true) : Calls Tryz.prog 16 #[.string s] w (ScalP s w) := by
  have HZ := Lib.hid (ZT.new w)
  have H := Lib.hid (sc_null c2)
  have c0 : (s.toList == [91, 93]) = false := beqL c2 (by decide)
  have c1 : (s.toList == [123, 125]) = false := beqL c2 (by decide)
  have c3 : (s.toList == [126]) = false := beqL c2 (by decide)
  have c4 : (s.toList == [116, 114, 117, 101]) = false := beqL c2 (by decide)
  have c5 : (s.toList == [102, 97, 108, 115, 101]) = false := beqL c2 (by decide)
  go_enter Tryz.func16, Tryz.ntmps16
  go_wp2_with (go_at_call 31; refine (HP.out _).mono ?_; rintro e w' ⟨rfl, rfl⟩)
  refine bodyPost_ret (v := .tuple #[.agg #[.int .i64 1, .bool false, .int .i64 0, .string ⟨#[]⟩, .slice none 0 0, .slice none 0 0], .bool true]) (by simp [results, Tryz.results16, go_sem]) rfl ?_
  exact scalP_some H.out ((Below.refl _ _).alloc (Nat.le_refl _) _)

set_option maxHeartbeats 2000000 in
set_option maxRecDepth 100000 in
theorem iScal_w3 (s : ByteArray) (w : World) (_hs : s.size ≤ 1048576) (_hT : Tabs w) (_hV : Cases w) (_hE : Errs w) (c3 : (s.toList == [126]) = true) : Calls Tryz.prog 16 #[.string s] w (ScalP s w) := by
  have HZ := Lib.hid (ZT.new w)
  have H := Lib.hid (sc_tilde c3)
  have c0 : (s.toList == [91, 93]) = false := beqL c3 (by decide)
  have c1 : (s.toList == [123, 125]) = false := beqL c3 (by decide)
  have c2 : (s.toList == [110, 117, 108, 108]) = false := beqL c3 (by decide)
  have c4 : (s.toList == [116, 114, 117, 101]) = false := beqL c3 (by decide)
  have c5 : (s.toList == [102, 97, 108, 115, 101]) = false := beqL c3 (by decide)
  go_enter Tryz.func16, Tryz.ntmps16
  go_wp2_with (go_at_call 31; refine (HP.out _).mono ?_; rintro e w' ⟨rfl, rfl⟩)
  refine bodyPost_ret (v := .tuple #[.agg #[.int .i64 1, .bool false, .int .i64 0, .string ⟨#[]⟩, .slice none 0 0, .slice none 0 0], .bool true]) (by simp [results, Tryz.results16, go_sem]) rfl ?_
  exact scalP_some H.out ((Below.refl _ _).alloc (Nat.le_refl _) _)

set_option maxHeartbeats 2000000 in
set_option maxRecDepth 100000 in
theorem iScal_w4 (s : ByteArray) (w : World) (_hs : s.size ≤ 1048576) (_hT : Tabs w) (_hV : Cases w) (_hE : Errs w) (c4 : (s.toList == [116, 114, 117, 101]) = true) : Calls Tryz.prog 16 #[.string s] w (ScalP s w) := by
  have HZ := Lib.hid (ZT.new w)
  have H := Lib.hid (sc_true c4)
  have c0 : (s.toList == [91, 93]) = false := beqL c4 (by decide)
  have c1 : (s.toList == [123, 125]) = false := beqL c4 (by decide)
  have c2 : (s.toList == [110, 117, 108, 108]) = false := beqL c4 (by decide)
  have c3 : (s.toList == [126]) = false := beqL c4 (by decide)
  have c5 : (s.toList == [102, 97, 108, 115, 101]) = false := beqL c4 (by decide)
  go_enter Tryz.func16, Tryz.ntmps16
  go_wp2_with (go_at_call 31; refine (HP.out _).mono ?_; rintro e w' ⟨rfl, rfl⟩)
  refine bodyPost_ret (v := .tuple #[.agg #[.int .i64 2, .bool true, .int .i64 0, .string ⟨#[]⟩, .slice none 0 0, .slice none 0 0], .bool true]) (by simp [results, Tryz.results16, go_sem]) rfl ?_
  exact scalP_some H.out ((Below.refl _ _).alloc (Nat.le_refl _) _)

set_option maxHeartbeats 2000000 in
set_option maxRecDepth 100000 in
theorem iScal_w5 (s : ByteArray) (w : World) (_hs : s.size ≤ 1048576) (_hT : Tabs w) (_hV : Cases w) (_hE : Errs w) (c5 : (s.toList == [102, 97, 108, 115, 101]) = true) : Calls Tryz.prog 16 #[.string s] w (ScalP s w) := by
  have HZ := Lib.hid (ZT.new w)
  have H := Lib.hid (sc_false c5)
  have c0 : (s.toList == [91, 93]) = false := beqL c5 (by decide)
  have c1 : (s.toList == [123, 125]) = false := beqL c5 (by decide)
  have c2 : (s.toList == [110, 117, 108, 108]) = false := beqL c5 (by decide)
  have c3 : (s.toList == [126]) = false := beqL c5 (by decide)
  have c4 : (s.toList == [116, 114, 117, 101]) = false := beqL c5 (by decide)
  go_enter Tryz.func16, Tryz.ntmps16
  go_wp2_with (go_at_call 31; refine (HP.out _).mono ?_; rintro e w' ⟨rfl, rfl⟩)
  refine bodyPost_ret (v := .tuple #[.agg #[.int .i64 2, .bool false, .int .i64 0, .string ⟨#[]⟩, .slice none 0 0, .slice none 0 0], .bool true]) (by simp [results, Tryz.results16, go_sem]) rfl ?_
  exact scalP_some H.out ((Below.refl _ _).alloc (Nat.le_refl _) _)

set_option maxHeartbeats 2000000 in
set_option maxRecDepth 100000 in
theorem iScal_q0 (s : ByteArray) (w : World) (hs : s.size ≤ 1048576) (hT : Tabs w) (hV : Cases w) (hE : Errs w) (hnw : noWord s) (hq : 0 < s.size ∧ bt s 0 = 34) (hr : readQ s 0 = none) : Calls Tryz.prog 16 #[.string s] w (ScalP s w) := by
  have HX := Lib.hid (And.intro hT (And.intro hV hE)); clear hT hV hE
  have HZ := Lib.hid (ZT.new w)
  have HNW := Lib.hid hnw
  obtain ⟨c0, c1, c2, c3, c4, c5⟩ := hnw
  have HQ := Lib.hid hq; clear hq
  have HP := Lib.hid (fun w0 => (show Calls Tryz.prog 31 #[.string s, .string ⟨#[34]⟩] w0 fun e w' => e = .returned (.bool true) ∧ w0 = w' by
    have h := Tryz.strings_HasPrefix s ⟨#[34]⟩ w0
    refine h.mono fun e w' ⟨h1, h2⟩ => ⟨?_, h2.symm⟩
    rw [h1]
    have := pre_quote s
    rw [decide_eq_true HQ.out] at this
    exact congrArg (fun b => Ending.returned (.bool b)) this))
  have HR := Lib.hid (fun w0 hT hV => iReadQuoted s 0 w0 hs hT hV)
  have H := Lib.hid (sc_q_none HNW.out HQ.out hr)
  rw [hr] at HR
  simp only [qText, qEnd] at HR
  have n0 : ((-1 : Int) != (s.size : Int)) = true := by
    have : ((-1 : Int) == (s.size : Int)) = false := by rw [beq_eq_false_iff_ne]; omega
    rw [bne, this]; rfl
  have n1 : ((-1 : Int) == (s.size : Int)) = false := by rw [beq_eq_false_iff_ne]; omega
  clear hr
  go_enter Tryz.func16, Tryz.ntmps16
  go_wp2_with (go_at_call 31; refine (HP.out _).mono ?_; rintro e w' ⟨rfl, rfl⟩)
  refine (HR.out _ (tabs_keep HX.out.1 HZ.out.2) (cases_keep HX.out.2.1 HZ.out.2)).mono ?_; rintro e w1 ⟨rfl, hb1⟩
  have HZ := Lib.hid (HZ.out.keep hb1); clear hb1
  obtain ⟨r0, r1, r2, r3, r4, r5⟩ := HZ.out.cells
  obtain ⟨g0, g1, g2, g3, g4, g5⟩ := HZ.out.frozen
  go_wp2_with (go_at_call 31; refine (HP.out _).mono ?_; rintro e w' ⟨rfl, rfl⟩)
  refine bodyPost_ret (v := .tuple #[.agg #[.int .i64 0, .bool false, .int .i64 0, .string ⟨#[]⟩, .slice none 0 0, .slice none 0 0], .bool false]) (by simp [results, Tryz.results16, go_sem, HZ.out.cells]) rfl ?_
  exact scalP_none H.out ((((((HZ.out.2.setCell (p := ⟨w.heap.size, 0, none⟩) (Nat.le_refl _) _).setCell (p := ⟨w.heap.size, 1, none⟩) (Nat.le_refl _) _).setCell (p := ⟨w.heap.size, 2, none⟩) (Nat.le_refl _) _).setCell (p := ⟨w.heap.size, 3, none⟩) (Nat.le_refl _) _).setCell (p := ⟨w.heap.size, 4, none⟩) (Nat.le_refl _) _).setCell (p := ⟨w.heap.size, 5, none⟩) (Nat.le_refl _) _)

set_option maxHeartbeats 2000000 in
set_option maxRecDepth 100000 in
theorem iScal_q1 (s : ByteArray) (w : World) (hs : s.size ≤ 1048576) (hT : Tabs w) (hV : Cases w) (hE : Errs w) (hnw : noWord s) (hq : 0 < s.size ∧ bt s 0 = 34) (l : List UInt8) (e : Nat) (hr : readQ s 0 = some (l, e)) (he : ¬ e = s.size) : Calls Tryz.prog 16 #[.string s] w (ScalP s w) := by
  have HX := Lib.hid (And.intro hT (And.intro hV hE)); clear hT hV hE
  have HZ := Lib.hid (ZT.new w)
  have HNW := Lib.hid hnw
  obtain ⟨c0, c1, c2, c3, c4, c5⟩ := hnw
  have HQ := Lib.hid hq; clear hq
  have HP := Lib.hid (fun w0 => (show Calls Tryz.prog 31 #[.string s, .string ⟨#[34]⟩] w0 fun e w' => e = .returned (.bool true) ∧ w0 = w' by
    have h := Tryz.strings_HasPrefix s ⟨#[34]⟩ w0
    refine h.mono fun e w' ⟨h1, h2⟩ => ⟨?_, h2.symm⟩
    rw [h1]
    have := pre_quote s
    rw [decide_eq_true HQ.out] at this
    exact congrArg (fun b => Ending.returned (.bool b)) this))
  have HR := Lib.hid (fun w0 hT hV => iReadQuoted s 0 w0 hs hT hV)
  have H := Lib.hid (sc_q_bad HNW.out HQ.out hr (fun h => he h.1))
  rw [hr] at HR
  simp only [qText, qEnd] at HR
  obtain ⟨key, hkey⟩ : ∃ key : ByteArray, key = ⟨l.toArray⟩ := ⟨_, rfl⟩
  have hks : key.size = l.length := by rw [hkey]; show l.toArray.size = _; simp
  rw [← hkey] at HR
  have n1 : ((e : Int) == (s.size : Int)) = false := by rw [beq_eq_false_iff_ne]; omega
  have n0 : ((e : Int) != (s.size : Int)) = true := by rw [bne, n1]; rfl
  clear hr hkey hks he
  go_enter Tryz.func16, Tryz.ntmps16
  go_wp2_with (go_at_call 31; refine (HP.out _).mono ?_; rintro e w' ⟨rfl, rfl⟩)
  refine (HR.out _ (tabs_keep HX.out.1 HZ.out.2) (cases_keep HX.out.2.1 HZ.out.2)).mono ?_; rintro e w1 ⟨rfl, hb1⟩
  have HZ := Lib.hid (HZ.out.keep hb1); clear hb1
  obtain ⟨r0, r1, r2, r3, r4, r5⟩ := HZ.out.cells
  obtain ⟨g0, g1, g2, g3, g4, g5⟩ := HZ.out.frozen
  go_wp2_with (go_at_call 31; refine (HP.out _).mono ?_; rintro e w' ⟨rfl, rfl⟩)
  refine bodyPost_ret (v := .tuple #[.agg #[.int .i64 0, .bool false, .int .i64 0, .string ⟨#[]⟩, .slice none 0 0, .slice none 0 0], .bool false]) (by simp [results, Tryz.results16, go_sem, HZ.out.cells]) rfl ?_
  exact scalP_none H.out ((((((HZ.out.2.setCell (p := ⟨w.heap.size, 0, none⟩) (Nat.le_refl _) _).setCell (p := ⟨w.heap.size, 1, none⟩) (Nat.le_refl _) _).setCell (p := ⟨w.heap.size, 2, none⟩) (Nat.le_refl _) _).setCell (p := ⟨w.heap.size, 3, none⟩) (Nat.le_refl _) _).setCell (p := ⟨w.heap.size, 4, none⟩) (Nat.le_refl _) _).setCell (p := ⟨w.heap.size, 5, none⟩) (Nat.le_refl _) _)

set_option maxHeartbeats 2000000 in
set_option maxRecDepth 100000 in
theorem iScal_q2 (s : ByteArray) (w : World) (hs : s.size ≤ 1048576) (hT : Tabs w) (hV : Cases w) (hE : Errs w) (hnw : noWord s) (hq : 0 < s.size ∧ bt s 0 = 34) (l : List UInt8) (e : Nat) (hr : readQ s 0 = some (l, e)) (he : e = s.size) (hk : l.length ≤ 400) : Calls Tryz.prog 16 #[.string s] w (ScalP s w) := by
  have HX := Lib.hid (And.intro hT (And.intro hV hE)); clear hT hV hE
  have HZ := Lib.hid (ZT.new w)
  have HNW := Lib.hid hnw
  obtain ⟨c0, c1, c2, c3, c4, c5⟩ := hnw
  have HQ := Lib.hid hq; clear hq
  have HP := Lib.hid (fun w0 => (show Calls Tryz.prog 31 #[.string s, .string ⟨#[34]⟩] w0 fun e w' => e = .returned (.bool true) ∧ w0 = w' by
    have h := Tryz.strings_HasPrefix s ⟨#[34]⟩ w0
    refine h.mono fun e w' ⟨h1, h2⟩ => ⟨?_, h2.symm⟩
    rw [h1]
    have := pre_quote s
    rw [decide_eq_true HQ.out] at this
    exact congrArg (fun b => Ending.returned (.bool b)) this))
  have HR := Lib.hid (fun w0 hT hV => iReadQuoted s 0 w0 hs hT hV)
  have H := Lib.hid (sc_q_yes HNW.out HQ.out hr ⟨he, hk⟩)
  rw [hr] at HR
  simp only [qText, qEnd] at HR
  obtain ⟨key, hkey⟩ : ∃ key : ByteArray, key = ⟨l.toArray⟩ := ⟨_, rfl⟩
  have hks : key.size = l.length := by rw [hkey]; show l.toArray.size = _; simp
  rw [← hkey] at HR H
  have n1 : ((e : Int) == (s.size : Int)) = true := by rw [he]; simp
  have n0 : ((e : Int) != (s.size : Int)) = false := by rw [bne, n1]; rfl
  have n2 : decide (400 < key.size) = false := decide_eq_false (by omega)
  have n3 : decide ((400 : Int) < (key.size : Int)) = false := decide_eq_false (by omega)
  clear hr hkey hks he hk
  go_enter Tryz.func16, Tryz.ntmps16
  go_wp2_with (go_at_call 31; refine (HP.out _).mono ?_; rintro e w' ⟨rfl, rfl⟩)
  refine (HR.out _ (tabs_keep HX.out.1 HZ.out.2) (cases_keep HX.out.2.1 HZ.out.2)).mono ?_; rintro e w1 ⟨rfl, hb1⟩
  have HZ := Lib.hid (HZ.out.keep hb1); clear hb1
  go_wp2_with (go_at_call 31; refine (HP.out _).mono ?_; rintro e w' ⟨rfl, rfl⟩)
  refine (iTextTree _ _).mono ?_; rintro e w1 ⟨rfl, hb1⟩
  have HZ := Lib.hid (HZ.out.keep hb1); clear hb1
  obtain ⟨r0, r1, r2, r3, r4, r5⟩ := HZ.out.cells
  obtain ⟨g0, g1, g2, g3, g4, g5⟩ := HZ.out.frozen
  go_wp2_with (go_at_call 31; refine (HP.out _).mono ?_; rintro e w' ⟨rfl, rfl⟩)
  refine bodyPost_ret (v := .tuple #[.agg #[.int .i64 4, .bool false, .int .i64 0, .string key, .slice none 0 0, .slice none 0 0], .bool true]) (by simp [results, Tryz.results16, go_sem, HZ.out.cells]) rfl ?_
  exact scalP_some H.out ((((((HZ.out.2.setCell (p := ⟨w.heap.size, 0, none⟩) (Nat.le_refl _) _).setCell (p := ⟨w.heap.size, 1, none⟩) (Nat.le_refl _) _).setCell (p := ⟨w.heap.size, 2, none⟩) (Nat.le_refl _) _).setCell (p := ⟨w.heap.size, 3, none⟩) (Nat.le_refl _) _).setCell (p := ⟨w.heap.size, 4, none⟩) (Nat.le_refl _) _).setCell (p := ⟨w.heap.size, 5, none⟩) (Nat.le_refl _) _)

set_option maxHeartbeats 2000000 in
set_option maxRecDepth 100000 in
theorem iScal_q3 (s : ByteArray) (w : World) (hs : s.size ≤ 1048576) (hT : Tabs w) (hV : Cases w) (hE : Errs w) (hnw : noWord s) (hq : 0 < s.size ∧ bt s 0 = 34) (l : List UInt8) (e : Nat) (hr : readQ s 0 = some (l, e)) (he : e = s.size) (hk : ¬ l.length ≤ 400) : Calls Tryz.prog 16 #[.string s] w (ScalP s w) := by
  have HX := Lib.hid (And.intro hT (And.intro hV hE)); clear hT hV hE
  have HZ := Lib.hid (ZT.new w)
  have HNW := Lib.hid hnw
  obtain ⟨c0, c1, c2, c3, c4, c5⟩ := hnw
  have HQ := Lib.hid hq; clear hq
  have HP := Lib.hid (fun w0 => (show Calls Tryz.prog 31 #[.string s, .string ⟨#[34]⟩] w0 fun e w' => e = .returned (.bool true) ∧ w0 = w' by
    have h := Tryz.strings_HasPrefix s ⟨#[34]⟩ w0
    refine h.mono fun e w' ⟨h1, h2⟩ => ⟨?_, h2.symm⟩
    rw [h1]
    have := pre_quote s
    rw [decide_eq_true HQ.out] at this
    exact congrArg (fun b => Ending.returned (.bool b)) this))
  have HR := Lib.hid (fun w0 hT hV => iReadQuoted s 0 w0 hs hT hV)
  have H := Lib.hid (sc_q_bad HNW.out HQ.out hr (fun h => hk h.2))
  rw [hr] at HR
  simp only [qText, qEnd] at HR
  obtain ⟨key, hkey⟩ : ∃ key : ByteArray, key = ⟨l.toArray⟩ := ⟨_, rfl⟩
  have hks : key.size = l.length := by rw [hkey]; show l.toArray.size = _; simp
  rw [← hkey] at HR
  have n1 : ((e : Int) == (s.size : Int)) = true := by rw [he]; simp
  have n0 : ((e : Int) != (s.size : Int)) = false := by rw [bne, n1]; rfl
  have n2 : decide (400 < key.size) = true := decide_eq_true (by omega)
  have n3 : decide ((400 : Int) < (key.size : Int)) = true := decide_eq_true (by omega)
  clear hr hkey hks he hk
  go_enter Tryz.func16, Tryz.ntmps16
  go_wp2_with (go_at_call 31; refine (HP.out _).mono ?_; rintro e w' ⟨rfl, rfl⟩)
  refine (HR.out _ (tabs_keep HX.out.1 HZ.out.2) (cases_keep HX.out.2.1 HZ.out.2)).mono ?_; rintro e w1 ⟨rfl, hb1⟩
  have HZ := Lib.hid (HZ.out.keep hb1); clear hb1
  obtain ⟨r0, r1, r2, r3, r4, r5⟩ := HZ.out.cells
  obtain ⟨g0, g1, g2, g3, g4, g5⟩ := HZ.out.frozen
  go_wp2_with (go_at_call 31; refine (HP.out _).mono ?_; rintro e w' ⟨rfl, rfl⟩)
  refine bodyPost_ret (v := .tuple #[.agg #[.int .i64 0, .bool false, .int .i64 0, .string ⟨#[]⟩, .slice none 0 0, .slice none 0 0], .bool false]) (by simp [results, Tryz.results16, go_sem, HZ.out.cells]) rfl ?_
  exact scalP_none H.out ((((((HZ.out.2.setCell (p := ⟨w.heap.size, 0, none⟩) (Nat.le_refl _) _).setCell (p := ⟨w.heap.size, 1, none⟩) (Nat.le_refl _) _).setCell (p := ⟨w.heap.size, 2, none⟩) (Nat.le_refl _) _).setCell (p := ⟨w.heap.size, 3, none⟩) (Nat.le_refl _) _).setCell (p := ⟨w.heap.size, 4, none⟩) (Nat.le_refl _) _).setCell (p := ⟨w.heap.size, 5, none⟩) (Nat.le_refl _) _)

set_option maxHeartbeats 2000000 in
set_option maxRecDepth 100000 in
theorem iScal_n1 (s : ByteArray) (w : World) (hs : s.size ≤ 1048576) (hT : Tabs w) (hV : Cases w) (hE : Errs w) (hnw : noWord s) (hq : ¬ (0 < s.size ∧ bt s 0 = 34)) (n : Int) (e : Nat) (hr : whoQ s 0 = some (n, e)) (he : e = s.size) (hp : 0 < e) : Calls Tryz.prog 16 #[.string s] w (ScalP s w) := by
  have HX := Lib.hid (And.intro hT (And.intro hV hE)); clear hT hV hE
  have HZ := Lib.hid (ZT.new w)
  have HNW := Lib.hid hnw
  obtain ⟨c0, c1, c2, c3, c4, c5⟩ := hnw
  have HQ := Lib.hid hq; clear hq
  have HP := Lib.hid (fun w0 => (show Calls Tryz.prog 31 #[.string s, .string ⟨#[34]⟩] w0 fun e w' => e = .returned (.bool false) ∧ w0 = w' by
    have h := Tryz.strings_HasPrefix s ⟨#[34]⟩ w0
    refine h.mono fun e w' ⟨h1, h2⟩ => ⟨?_, h2.symm⟩
    rw [h1]
    have := pre_quote s
    rw [decide_eq_false HQ.out] at this
    exact congrArg (fun b => Ending.returned (.bool b)) this))
  have HW := Lib.hid (fun w0 hE => iReadWhole s 0 w0 hs hE)
  have H := Lib.hid (sc_n_yes HNW.out HQ.out hr he)
  rw [hr] at HW
  simp only [whoE, whoN] at HW
  have n1 : ((e : Int) == (s.size : Int)) = true := by rw [he]; simp
  have n2 : decide ((0 : Int) < (e : Int)) = true := decide_eq_true (by omega)
  have n3 : decide (0 < e) = true := decide_eq_true hp
  clear hr he hp
  go_enter Tryz.func16, Tryz.ntmps16
  go_wp2_with (go_at_call 31; refine (HP.out _).mono ?_; rintro e w' ⟨rfl, rfl⟩)
  refine (HW.out _ (errs_keep HX.out.2.2 HZ.out.2)).mono ?_; rintro e w1 ⟨rfl, hb1⟩
  have HZ := Lib.hid (HZ.out.keep hb1); clear hb1
  go_wp2_with (go_at_call 31; refine (HP.out _).mono ?_; rintro e w' ⟨rfl, rfl⟩)
  refine (iIntTree _ _).mono ?_; rintro e w1 ⟨rfl, hb1⟩
  have HZ := Lib.hid (HZ.out.keep hb1); clear hb1
  obtain ⟨r0, r1, r2, r3, r4, r5⟩ := HZ.out.cells
  obtain ⟨g0, g1, g2, g3, g4, g5⟩ := HZ.out.frozen
  go_wp2_with (go_at_call 31; refine (HP.out _).mono ?_; rintro e w' ⟨rfl, rfl⟩)
  refine bodyPost_ret (v := .tuple #[.agg #[.int .i64 3, .bool false, .int .i64 n, .string ⟨#[]⟩, .slice none 0 0, .slice none 0 0], .bool true]) (by simp [results, Tryz.results16, go_sem, HZ.out.cells]) rfl ?_
  exact scalP_some H.out ((((((HZ.out.2.setCell (p := ⟨w.heap.size, 0, none⟩) (Nat.le_refl _) _).setCell (p := ⟨w.heap.size, 1, none⟩) (Nat.le_refl _) _).setCell (p := ⟨w.heap.size, 2, none⟩) (Nat.le_refl _) _).setCell (p := ⟨w.heap.size, 3, none⟩) (Nat.le_refl _) _).setCell (p := ⟨w.heap.size, 4, none⟩) (Nat.le_refl _) _).setCell (p := ⟨w.heap.size, 5, none⟩) (Nat.le_refl _) _)

set_option maxHeartbeats 2000000 in
set_option maxRecDepth 100000 in
theorem iScal_p1 (s : ByteArray) (w : World) (hs : s.size ≤ 1048576) (hT : Tabs w) (hV : Cases w) (hE : Errs w) (hnw : noWord s) (hq : ¬ (0 < s.size ∧ bt s 0 = 34)) (hw : whoE (whoQ s 0) ≠ s.size ∨ whoE (whoQ s 0) ≤ 0) (hp : plainAll s = true) : Calls Tryz.prog 16 #[.string s] w (ScalP s w) := by
  have HX := Lib.hid (And.intro hT (And.intro hV hE)); clear hT hV hE
  have HZ := Lib.hid (ZT.new w)
  have HNW := Lib.hid hnw
  obtain ⟨c0, c1, c2, c3, c4, c5⟩ := hnw
  have HQ := Lib.hid hq; clear hq
  have HP := Lib.hid (fun w0 => (show Calls Tryz.prog 31 #[.string s, .string ⟨#[34]⟩] w0 fun e w' => e = .returned (.bool false) ∧ w0 = w' by
    have h := Tryz.strings_HasPrefix s ⟨#[34]⟩ w0
    refine h.mono fun e w' ⟨h1, h2⟩ => ⟨?_, h2.symm⟩
    rw [h1]
    have := pre_quote s
    rw [decide_eq_false HQ.out] at this
    exact congrArg (fun b => Ending.returned (.bool b)) this))
  have HW := Lib.hid (fun w0 hE => iReadWhole s 0 w0 hs hE)
  have H := Lib.hid (sc_plain (sc_n_no HNW.out HQ.out hw) hp)
  generalize whoE (whoQ s 0) = E at HW hw
  generalize whoN (whoQ s 0) = n at HW
  have hfx : ((E == (s.size : Int)) = true ∧ decide (0 < E) = false) ∨ (E == (s.size : Int)) = false := by
    by_cases g : E = s.size
    · left; exact ⟨by rw [g]; simp, decide_eq_false (by omega)⟩
    · right; rw [beq_eq_false_iff_ne]; exact g
  clear hw
  have hpl := fun w0 hT => iPlainAll s w0 hs hT
  rw [hp] at hpl
  have HPL := Lib.hid hpl; clear hpl hp
  rcases hfx with ⟨f1, f2⟩ | f1
  all_goals
    go_enter Tryz.func16, Tryz.ntmps16
    go_wp2_with (go_at_call 31; refine (HP.out _).mono ?_; rintro e w' ⟨rfl, rfl⟩)
    refine (HW.out _ (errs_keep HX.out.2.2 HZ.out.2)).mono ?_; rintro e w1 ⟨rfl, hb1⟩
    have HZ := Lib.hid (HZ.out.keep hb1); clear hb1
    go_wp2_with (go_at_call 31; refine (HP.out _).mono ?_; rintro e w' ⟨rfl, rfl⟩)
    refine (HPL.out _ (tabs_keep HX.out.1 HZ.out.2)).mono ?_; rintro e w1 ⟨rfl, hb1⟩
    have HZ := Lib.hid (HZ.out.keep hb1); clear hb1
    go_wp2_with (go_at_call 31; refine (HP.out _).mono ?_; rintro e w' ⟨rfl, rfl⟩)
    refine (iTextTree _ _).mono ?_; rintro e w1 ⟨rfl, hb1⟩
    have HZ := Lib.hid (HZ.out.keep hb1); clear hb1
    obtain ⟨r0, r1, r2, r3, r4, r5⟩ := HZ.out.cells
    obtain ⟨g0, g1, g2, g3, g4, g5⟩ := HZ.out.frozen
    go_wp2_with (go_at_call 31; refine (HP.out _).mono ?_; rintro e w' ⟨rfl, rfl⟩)
    refine bodyPost_ret (v := .tuple #[.agg #[.int .i64 4, .bool false, .int .i64 0, .string s, .slice none 0 0, .slice none 0 0], .bool true]) (by simp [results, Tryz.results16, go_sem, HZ.out.cells]) rfl ?_
    exact scalP_some H.out ((((((HZ.out.2.setCell (p := ⟨w.heap.size, 0, none⟩) (Nat.le_refl _) _).setCell (p := ⟨w.heap.size, 1, none⟩) (Nat.le_refl _) _).setCell (p := ⟨w.heap.size, 2, none⟩) (Nat.le_refl _) _).setCell (p := ⟨w.heap.size, 3, none⟩) (Nat.le_refl _) _).setCell (p := ⟨w.heap.size, 4, none⟩) (Nat.le_refl _) _).setCell (p := ⟨w.heap.size, 5, none⟩) (Nat.le_refl _) _)

set_option maxHeartbeats 2000000 in
set_option maxRecDepth 100000 in
theorem iScal_p0 (s : ByteArray) (w : World) (hs : s.size ≤ 1048576) (hT : Tabs w) (hV : Cases w) (hE : Errs w) (hnw : noWord s) (hq : ¬ (0 < s.size ∧ bt s 0 = 34)) (hw : whoE (whoQ s 0) ≠ s.size ∨ whoE (whoQ s 0) ≤ 0) (hp : plainAll s = false) : Calls Tryz.prog 16 #[.string s] w (ScalP s w) := by
  have HX := Lib.hid (And.intro hT (And.intro hV hE)); clear hT hV hE
  have HZ := Lib.hid (ZT.new w)
  have HNW := Lib.hid hnw
  obtain ⟨c0, c1, c2, c3, c4, c5⟩ := hnw
  have HQ := Lib.hid hq; clear hq
  have HP := Lib.hid (fun w0 => (show Calls Tryz.prog 31 #[.string s, .string ⟨#[34]⟩] w0 fun e w' => e = .returned (.bool false) ∧ w0 = w' by
    have h := Tryz.strings_HasPrefix s ⟨#[34]⟩ w0
    refine h.mono fun e w' ⟨h1, h2⟩ => ⟨?_, h2.symm⟩
    rw [h1]
    have := pre_quote s
    rw [decide_eq_false HQ.out] at this
    exact congrArg (fun b => Ending.returned (.bool b)) this))
  have HW := Lib.hid (fun w0 hE => iReadWhole s 0 w0 hs hE)
  have H := Lib.hid (sc_no (sc_n_no HNW.out HQ.out hw) hp)
  generalize whoE (whoQ s 0) = E at HW hw
  generalize whoN (whoQ s 0) = n at HW
  have hfx : ((E == (s.size : Int)) = true ∧ decide (0 < E) = false) ∨ (E == (s.size : Int)) = false := by
    by_cases g : E = s.size
    · left; exact ⟨by rw [g]; simp, decide_eq_false (by omega)⟩
    · right; rw [beq_eq_false_iff_ne]; exact g
  clear hw
  have hpl := fun w0 hT => iPlainAll s w0 hs hT
  rw [hp] at hpl
  have HPL := Lib.hid hpl; clear hpl hp
  rcases hfx with ⟨f1, f2⟩ | f1
  all_goals
    go_enter Tryz.func16, Tryz.ntmps16
    go_wp2_with (go_at_call 31; refine (HP.out _).mono ?_; rintro e w' ⟨rfl, rfl⟩)
    refine (HW.out _ (errs_keep HX.out.2.2 HZ.out.2)).mono ?_; rintro e w1 ⟨rfl, hb1⟩
    have HZ := Lib.hid (HZ.out.keep hb1); clear hb1
    go_wp2_with (go_at_call 31; refine (HP.out _).mono ?_; rintro e w' ⟨rfl, rfl⟩)
    refine (HPL.out _ (tabs_keep HX.out.1 HZ.out.2)).mono ?_; rintro e w1 ⟨rfl, hb1⟩
    have HZ := Lib.hid (HZ.out.keep hb1); clear hb1
    obtain ⟨r0, r1, r2, r3, r4, r5⟩ := HZ.out.cells
    obtain ⟨g0, g1, g2, g3, g4, g5⟩ := HZ.out.frozen
    go_wp2_with (go_at_call 31; refine (HP.out _).mono ?_; rintro e w' ⟨rfl, rfl⟩)
    refine bodyPost_ret (v := .tuple #[.agg #[.int .i64 0, .bool false, .int .i64 0, .string ⟨#[]⟩, .slice none 0 0, .slice none 0 0], .bool false]) (by simp [results, Tryz.results16, go_sem, HZ.out.cells]) rfl ?_
    exact scalP_none H.out ((((((HZ.out.2.setCell (p := ⟨w.heap.size, 0, none⟩) (Nat.le_refl _) _).setCell (p := ⟨w.heap.size, 1, none⟩) (Nat.le_refl _) _).setCell (p := ⟨w.heap.size, 2, none⟩) (Nat.le_refl _) _).setCell (p := ⟨w.heap.size, 3, none⟩) (Nat.le_refl _) _).setCell (p := ⟨w.heap.size, 4, none⟩) (Nat.le_refl _) _).setCell (p := ⟨w.heap.size, 5, none⟩) (Nat.le_refl _) _)

theorem iReadScalar (s : ByteArray) (w : World) (hs : s.size ≤ 1048576) (hT : Tabs w) (hV : Cases w) (hE : Errs w) : Calls Tryz.prog 16 #[.string s] w (ScalP s w) := by
  cases c0 : (s.toList == [91, 93])
  rotate_left
  · exact iScal_w0 s w hs hT hV hE c0
  cases c1 : (s.toList == [123, 125])
  rotate_left
  · exact iScal_w1 s w hs hT hV hE c1
  cases c2 : (s.toList == [110, 117, 108, 108])
  rotate_left
  · exact iScal_w2 s w hs hT hV hE c2
  cases c3 : (s.toList == [126])
  rotate_left
  · exact iScal_w3 s w hs hT hV hE c3
  cases c4 : (s.toList == [116, 114, 117, 101])
  rotate_left
  · exact iScal_w4 s w hs hT hV hE c4
  cases c5 : (s.toList == [102, 97, 108, 115, 101])
  rotate_left
  · exact iScal_w5 s w hs hT hV hE c5
  have hnw : noWord s := ⟨c0, c1, c2, c3, c4, c5⟩
  by_cases hq : 0 < s.size ∧ bt s 0 = 34
  · cases hr : readQ s 0 with
    | none => exact iScal_q0 s w hs hT hV hE hnw hq hr
    | some x =>
      obtain ⟨l, e⟩ := x
      by_cases he : e = s.size
      · by_cases hk : l.length ≤ 400
        · exact iScal_q2 s w hs hT hV hE hnw hq l e hr he hk
        · exact iScal_q3 s w hs hT hV hE hnw hq l e hr he hk
      · exact iScal_q1 s w hs hT hV hE hnw hq l e hr he
  by_cases hw : whoE (whoQ s 0) = s.size ∧ 0 < whoE (whoQ s 0)
  · cases hr : whoQ s 0 with
    | none => rw [hr] at hw; simp only [whoE] at hw; omega
    | some x =>
      obtain ⟨n, e⟩ := x
      rw [hr] at hw
      simp only [whoE] at hw
      exact iScal_n1 s w hs hT hV hE hnw hq n e hr (by omega) (by omega)
  have hw2 : whoE (whoQ s 0) ≠ s.size ∨ whoE (whoQ s 0) ≤ 0 := by omega
  cases hp : plainAll s
  · exact iScal_p0 s w hs hT hV hE hnw hq hw2 hp
  · exact iScal_p1 s w hs hT hV hE hnw hq hw2 hp

end Go.Proofs.YtomhbbchflblpaaGreatDoor
namespace Go.Proofs.YtomhbbchflblpaaGreatDoor
open Go.RowKit

theorem scT_size (s : ByteArray) : (scT (scalO s)).size ≤ 400 := by
  have h0 : noB.size = 0 := rfl
  have ht : (scT (scTail s)).size ≤ 400 := by
    unfold scTail
    split
    · rename_i h
      simp only [plainAll, betweenB, Bool.and_eq_true, decide_eq_true_eq] at h
      simp only [scT]; omega
    · simp only [scT]; omega
  have hn : (scT (scNum s)).size ≤ 400 := by
    unfold scNum
    split
    · exact ht
    · split
      · simp only [scT]; omega
      · exact ht
  have hq : (scT (scQuote s)).size ≤ 400 := by
    unfold scQuote
    split
    · simp only [scT]; omega
    · split
      · rename_i h
        simp only [scT]
        show (List.toArray _).size ≤ 400
        rw [List.size_toArray]; exact h.2
      · simp only [scT]; omega
  unfold scalO
  repeat' split
  all_goals first | exact hq | exact hn | (simp only [scT]; omega)

def inlB (s : ByteArray) : ByteArray := (bareB s).extract (ind (bareB s).data.toList) (bareB s).size
theorem trimR_len (l : List UInt8) (c : UInt8) : (Lib.trimRightB l c).length ≤ l.length := by
  unfold Lib.trimRightB
  first
    | (rw [List.length_reverse]; refine Nat.le_trans (List.dropWhile_sublist _).length_le ?_; rw [List.length_reverse]; exact Nat.le_refl _)
    | (exact (List.rdropWhile_sublist _ _).length_le)
    | (simp)
theorem bareB_size (s : ByteArray) : (bareB s).size ≤ s.size := by
  have h1 := trimR_len (s.extract 0 (bareE s)).data.toList 32
  have h2 : (s.extract 0 (bareE s)).data.toList.length = (s.extract 0 (bareE s)).size := by simp
  rw [h2, ByteArray.size_extract] at h1
  unfold bareB
  show (List.toArray _).size ≤ _
  rw [List.size_toArray]; omega
set_option maxRecDepth 100000 in
theorem iInline (s : ByteArray) (w : World) (hs : s.size ≤ 1048576) (hT : Tabs w) (hV : Cases w) (hE : Errs w) : Calls Tryz.prog 17 #[.string s] w (ScalV (scalO (inlB s)) w) := by
  have hb0 := bareB_size s
  have HX := Lib.hid (And.intro hT (And.intro hV hE)); clear hT hV hE
  have HB := Lib.hid (fun w0 => iBareLine s w0 hs)
  have HR := Lib.hid (fun w0 hT hV hE => iReadScalar (inlB s) w0 (by unfold inlB; rw [ByteArray.size_extract]; omega) hT hV hE)
  have HI := Lib.hid (fun w0 => iTrim (bareB s) w0)
  rw [← ext_drop] at HI
  have he : inlB s = (bareB s).extract (ind (bareB s).data.toList) (bareB s).size := rfl
  rw [← he] at HI
  clear he
  generalize inlB s = u at HR HI ⊢
  generalize bareB s = t at HI HB hb0 ⊢
  have HZ := Lib.hid (ZT.new w)
  go_enter Tryz.func17, Tryz.ntmps17
  go_wp2_with (first | (go_at_call 44; refine (HB.out _).mono ?_; rintro e w' ⟨rfl, rfl⟩) | (go_at_call 43; refine (HI.out _).mono ?_; rintro e w' ⟨rfl, rfl⟩))
  refine (HR.out _ (tabs_keep HX.out.1 HZ.out.2) (cases_keep HX.out.2.1 HZ.out.2) (errs_keep HX.out.2.2 HZ.out.2)).mono ?_; rintro e w1 ⟨rfl, hb1⟩
  have HZ := Lib.hid (HZ.out.keep hb1); clear hb1
  obtain ⟨r0, r1, r2, r3, r4, r5⟩ := HZ.out.cells
  obtain ⟨g0, g1, g2, g3, g4, g5⟩ := HZ.out.frozen
  go_wp2
  refine bodyPost_ret (v := .tuple #[.agg #[.int .i64 (scK (scalO u)), .bool (scF (scalO u)), .int .i64 (scN (scalO u)), .string (scT (scalO u)), .slice none 0 0, .slice none 0 0], .bool (scalO u).isSome]) (by simp [results, Tryz.results17, go_sem, HZ.out.cells]) rfl ?_
  exact ⟨rfl, ((((((HZ.out.2.setCell (p := ⟨w.heap.size, 0, none⟩) (Nat.le_refl _) _).setCell (p := ⟨w.heap.size, 1, none⟩) (Nat.le_refl _) _).setCell (p := ⟨w.heap.size, 2, none⟩) (Nat.le_refl _) _).setCell (p := ⟨w.heap.size, 3, none⟩) (Nat.le_refl _) _).setCell (p := ⟨w.heap.size, 4, none⟩) (Nat.le_refl _) _).setCell (p := ⟨w.heap.size, 5, none⟩) (Nat.le_refl _) _)⟩

end Go.Proofs.YtomhbbchflblpaaGreatDoor
namespace Go.Proofs.YtomhbbchflblpaaGreatDoor
open Go.RowKit

def sameSc (o p : Option Sc) : Bool := o.isSome && (p.isSome && sameTr (.mk (scK o) (scF o) (scN o) (scT o) [] []) (.mk (scK p) (scF p) (scN p) (scT p) [] []))
set_option maxRecDepth 100000 in
set_option maxHeartbeats 2000000 in
theorem iScalarSame (a b : ByteArray) (w : World) (ha : a.size ≤ 1048576) (hb : b.size ≤ 1048576) (hT : Tabs w) (hV : Cases w) (hE : Errs w) : Calls Tryz.prog 19 #[.string a, .string b] w fun e w' => e = .returned (.bool (sameSc (scalO a) (scalO b))) ∧ Below w.heap.size w w' := by
  have HX := Lib.hid (And.intro hT (And.intro hV hE)); clear hT hV hE
  have hsz1 := scT_size a
  have hsz2 := scT_size b
  have hc1 : ∀ w0, Tabs w0 → Cases w0 → Errs w0 → Calls Tryz.prog 16 #[.string a] w0 fun e w' => e = .returned (.tuple #[.agg #[.int .i64 (scK (scalO a)), .bool (scF (scalO a)), .int .i64 (scN (scalO a)), .string (scT (scalO a)), .slice none 0 0, .slice none 0 0], .bool (scalO a).isSome]) ∧ Below w0.heap.size w0 w' := fun w0 hT hV hE => iReadScalar a w0 ha hT hV hE
  have hc2 : ∀ w0, Tabs w0 → Cases w0 → Errs w0 → Calls Tryz.prog 16 #[.string b] w0 fun e w' => e = .returned (.tuple #[.agg #[.int .i64 (scK (scalO b)), .bool (scF (scalO b)), .int .i64 (scN (scalO b)), .string (scT (scalO b)), .slice none 0 0, .slice none 0 0], .bool (scalO b).isSome]) ∧ Below w0.heap.size w0 w' := fun w0 hT hV hE => iReadScalar b w0 hb hT hV hE
  have HSM : Hid (sameSc (scalO a) (scalO b) = ((scalO a).isSome && ((scalO b).isSome && sameTr (.mk (scK (scalO a)) (scF (scalO a)) (scN (scalO a)) (scT (scalO a)) [] []) (.mk (scK (scalO b)) (scF (scalO b)) (scN (scalO b)) (scT (scalO b)) [] [])))) := rfl
  generalize sameSc (scalO a) (scalO b) = R at HSM ⊢
  generalize scalO a = o1 at hsz1 hc1 HSM
  generalize scK o1 = k1 at hc1 HSM
  generalize scF o1 = f1 at hc1 HSM
  generalize scN o1 = n1 at hc1 HSM
  generalize scT o1 = x1 at hsz1 hc1 HSM
  generalize o1.isSome = b1 at hc1 HSM
  generalize scalO b = o2 at hsz2 hc2 HSM
  generalize scK o2 = k2 at hc2 HSM
  generalize scF o2 = f2 at hc2 HSM
  generalize scN o2 = n2 at hc2 HSM
  generalize scT o2 = x2 at hsz2 hc2 HSM
  generalize o2.isSome = b2 at hc2 HSM
  have HC1 := Lib.hid hc1; have HC2 := Lib.hid hc2
  have hST := fun w0 => sameT 1 (.mk k1 f1 n1 x1 [] []) (.mk k2 f2 n2 x2 [] []) Any Any (.slice none 0 0) (.slice none 0 0) (.slice none 0 0) (.slice none 0 0) w0 (by simp [Tr.nodes, nodesL]) (by simp [Tr.wt, strWt, wtL]; omega) (leaf_in _ _ _ _ _) (leaf_in _ _ _ _ _)
  simp only [kind_mk, flag_mk, num_mk, text_mk] at hST
  have HST := Lib.hid hST
  clear hc1 hc2 hST hsz1 hsz2
  go_enter Tryz.func19, Tryz.ntmps19
  go_wp2_with fail
  refine (HC1.out _ HX.out.1 HX.out.2.1 HX.out.2.2).mono ?_; rintro e w1 ⟨rfl, hb1⟩
  have hsp1 := Spill.new w1 (.mk k1 f1 n1 x1 [] []) (.slice none 0 0) (.slice none 0 0) 28
  have hbw1 := hb1.trans ((alloc_below w1 #[.int .i64 k1, .bool f1, .int .i64 n1, .string x1, .slice none 0 0, .slice none 0 0] 28).mono hb1.size)
  obtain ⟨b3, hb3⟩ : ∃ b3, b3 = w1.heap.size := ⟨_, rfl⟩
  go_wp2_with fail
  refine (HC2.out _ (tabs_keep HX.out.1 hbw1) (cases_keep HX.out.2.1 hbw1) (errs_keep HX.out.2.2 hbw1)).mono ?_; rintro e w2 ⟨rfl, hb2⟩
  have hsp1 := hsp1.keep hb2
  have hbw2 := bnext hbw1 hb2
  have hsp2 := Spill.new w2 (.mk k2 f2 n2 x2 [] []) (.slice none 0 0) (.slice none 0 0) 28
  have hal := alloc_below w2 #[.int .i64 k2, .bool f2, .int .i64 n2, .string x2, .slice none 0 0, .slice none 0 0] 28
  have hsp1 := hsp1.keep hal
  have hbw2 := bnext hbw2 hal
  clear hal hb1 hb2 hbw1
  obtain ⟨b4, hb4⟩ : ∃ b4, b4 = w2.heap.size := ⟨_, rfl⟩
  rw [← hb3] at hsp1
  rw [← hb4] at hsp2
  have HI := Lib.hid (And.intro hsp1 (And.intro hsp2 hbw2)); clear hsp1 hsp2 hbw2
  have HB := Lib.hid (And.intro hb3 hb4)
  clear hb3 hb4
  obtain ⟨p0, p1, p2, p3, p4, p5⟩ := HI.out.1.cells
  obtain ⟨q0, q1, q2, q3, q4, q5⟩ := HI.out.2.1.cells
  simp only [kind_mk, flag_mk, num_mk, text_mk] at p0 p1 p2 p3 q0 q1 q2 q3
  rw [HB.out.1] at p0 p1 p2 p3 p4 p5
  rw [HB.out.2] at q0 q1 q2 q3 q4 q5
  cases b1
  · go_wp2_with fail
    go_ret
    exact ⟨ret_bool (by rw [HSM.out]; rfl), HI.out.2.2⟩
  cases b2
  · go_wp2_with fail
    go_ret
    exact ⟨ret_bool (by rw [HSM.out]; rfl), HI.out.2.2⟩
  go_wp2_with (go_at_call 45; refine (HST.out _).mono ?_; rintro e w3 ⟨rfl, hb9⟩)
  go_ret
  exact ⟨ret_bool (by rw [HSM.out]; rfl), bnext HI.out.2.2 hb9⟩

end Go.Proofs.YtomhbbchflblpaaGreatDoor
