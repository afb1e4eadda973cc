/- SignI, SgsI, SgsL, merged. -/
import Derived.Test.YtomhbbchflblpaaGreatDoorZJ
import Derived.Test.YtomhbbchflblpaaGreatDoorZC
import Derived.Test.YtomhbbchflblpaaGreatDoorLayC
import Derived.Lib.IndexAny
import Derived.Test.YtomhbbchflblpaaGreatDoorZL
namespace Go.Proofs.YtomhbbchflblpaaGreatDoor
open Go.RowKit

theorem mark_all : ∀ n : Fin 256, Lib.indexByte markB.data.toList (UInt8.ofNat n.val) = markI n.val := by decide +kernel
theorem mark_ix (c : UInt8) : Lib.indexByte markB.data.toList c = markI c.toNat := by
  have := mark_all ⟨c.toNat, UInt8.toNat_lt c⟩
  simpa using this
theorem mark_bd (c : Nat) : -1 ≤ markI c ∧ markI c ≤ 5 := by
  unfold markI
  repeat' split
  all_goals omega
theorem iMark (c : UInt8) (w0 : World) : Calls Tryz.prog 25 #[.string ⟨#[123, 125, 91, 93, 58, 44]⟩, .int .u8 (c.toNat : Int)] w0 fun e w' => e = .returned (.int .i64 (markI c.toNat)) ∧ w0 = w' := by
  rw [← mark_ix]
  exact (Tryz.strings_IndexByte markB (c.toNat : Int) w0).mono fun e w2 ⟨h1, h2⟩ => ⟨by simpa using h1, h2.symm⟩
/-- The sign that is being built: its local, and the result's. -/
def SB (w0 w : World) (x0 : Int) (x1 : ByteArray) (x2 x3 : Int) : Prop := ZS w0 w ∧ w.rowIs (w0.heap.size + 1) 37 4 (ZSl (.int .i64 x0) (.string x1) (.int .i64 x2) (.int .i64 x3))
theorem SB.new (w : World) (x0 : Int) (x1 : ByteArray) (x2 x3 : Int) : SB w ((w.alloc (.cells #[.int .i64 0, .string ⟨#[]⟩, .int .i64 0, .int .i64 0] 37)).alloc (.cells #[.int .i64 x0, .string x1, .int .i64 x2, .int .i64 x3] 37)) x0 x1 x2 x3 := by
  refine ⟨(ZS.new w).keep ((Below.refl _ _).alloc (Nat.le_refl _) _), ?_⟩
  have := World.rowIs_alloc (w.alloc (.cells #[.int .i64 0, .string ⟨#[]⟩, .int .i64 0, .int .i64 0] 37)) #[.int .i64 x0, .string x1, .int .i64 x2, .int .i64 x3] 37 (ZSl (.int .i64 x0) (.string x1) (.int .i64 x2) (.int .i64 x3)) (ZSl_get _ _ _ _)
  rw [World.size_alloc] at this; exact this
theorem SB.keep {w0 w w' : World} {x0 : Int} {x1 : ByteArray} {x2 x3 : Int} (h : SB w0 w x0 x1 x2 x3) (hb : Below w.heap.size w w') : SB w0 w' x0 x1 x2 x3 := ⟨h.1.keep hb, rowIs_keep h.2 hb⟩
theorem SB.set0 {w0 w : World} {x0 : Int} {x1 : ByteArray} {x2 x3 : Int} (h : SB w0 w x0 x1 x2 x3) (y : Int) : SB w0 (w.setCell ⟨w0.heap.size + 1, 0, none⟩ (.int .i64 y)) y x1 x2 x3 :=
  ⟨⟨h.1.1.setOther (by simp) _, h.1.2.setCell (p := ⟨w0.heap.size + 1, 0, none⟩) (show w0.heap.size ≤ w0.heap.size + 1 by omega) _⟩, (h.2.set 0 _).congr fun j hj => by
    rcases (show j = 0 ∨ j = 1 ∨ j = 2 ∨ j = 3 by omega) with rfl | rfl | rfl | rfl <;> rfl⟩
theorem SB.cells {w0 w : World} {x0 : Int} {x1 : ByteArray} {x2 x3 : Int} (h : SB w0 w x0 x1 x2 x3) : w.cell? ⟨w0.heap.size + 1, 0, none⟩ = some (.int .i64 x0) ∧ w.cell? ⟨w0.heap.size + 1, 1, none⟩ = some (.string x1) ∧ w.cell? ⟨w0.heap.size + 1, 2, none⟩ = some (.int .i64 x2) ∧ w.cell? ⟨w0.heap.size + 1, 3, none⟩ = some (.int .i64 x3) := by
  have g := h.2
  exact ⟨g.cell (by omega), g.cell (by omega), g.cell (by omega), g.cell (by omega)⟩
theorem SB.frozen {w0 w : World} {x0 : Int} {x1 : ByteArray} {x2 x3 : Int} (h : SB w0 w x0 x1 x2 x3) : w.frozen? ⟨w0.heap.size + 1, 0, none⟩ = false ∧ w.frozen? ⟨w0.heap.size + 1, 1, none⟩ = false ∧ w.frozen? ⟨w0.heap.size + 1, 2, none⟩ = false ∧ w.frozen? ⟨w0.heap.size + 1, 3, none⟩ = false := by
  have g := h.2
  exact ⟨g.frozen 0, g.frozen 1, g.frozen 2, g.frozen 3⟩
theorem SB.lt {w0 w : World} {x0 : Int} {x1 : ByteArray} {x2 x3 : Int} (h : SB w0 w x0 x1 x2 x3) : w0.heap.size + 1 < w.heap.size := World.rowIs.lt h.2
/-- The result stored, behind a store into the sign's local. -/
theorem sb_below {w0 w : World} {x0 : Int} {x1 : ByteArray} {x2 x3 : Int} (h : SB w0 w x0 x1 x2 x3) (i : Nat) (u v0 v1 v2 v3 : Value) : Below w0.heap.size w0 (((((w.setCell ⟨w0.heap.size + 1, i, none⟩ u).setCell ⟨w0.heap.size, 0, none⟩ v0).setCell ⟨w0.heap.size, 1, none⟩ v1).setCell ⟨w0.heap.size, 2, none⟩ v2).setCell ⟨w0.heap.size, 3, none⟩ v3) :=
  ((((h.1.2.setCell (p := ⟨w0.heap.size + 1, i, none⟩) (show w0.heap.size ≤ w0.heap.size + 1 by omega) _).setCell (p := ⟨w0.heap.size, 0, none⟩) (Nat.le_refl _) _).setCell (p := ⟨w0.heap.size, 1, none⟩) (Nat.le_refl _) _).setCell (p := ⟨w0.heap.size, 2, none⟩) (Nat.le_refl _) _).setCell (p := ⟨w0.heap.size, 3, none⟩) (Nat.le_refl _) _
theorem sb_below0 {w0 w : World} {x0 : Int} {x1 : ByteArray} {x2 x3 : Int} (h : SB w0 w x0 x1 x2 x3) (v0 v1 v2 v3 : Value) : Below w0.heap.size w0 ((((w.setCell ⟨w0.heap.size, 0, none⟩ v0).setCell ⟨w0.heap.size, 1, none⟩ v1).setCell ⟨w0.heap.size, 2, none⟩ v2).setCell ⟨w0.heap.size, 3, none⟩ v3) :=
  (((h.1.2.setCell (p := ⟨w0.heap.size, 0, none⟩) (Nat.le_refl _) _).setCell (p := ⟨w0.heap.size, 1, none⟩) (Nat.le_refl _) _).setCell (p := ⟨w0.heap.size, 2, none⟩) (Nat.le_refl _) _).setCell (p := ⟨w0.heap.size, 3, none⟩) (Nat.le_refl _) _

set_option maxRecDepth 100000 in
set_option maxHeartbeats 4000000 in
theorem iSign_out (s : ByteArray) (p : Int) (w : World) (h : ¬ (0 ≤ p ∧ p < s.size)) : Calls Tryz.prog 11 #[.string s, .int .i64 p] w (SignP s p w) := by
  have H := Lib.hid (sign_out h)
  by_cases h0 : p < 0
  rotate_left
  have h1 : ¬ p < (s.size : Int) := by omega
  all_goals
    clear h
    go_enter Tryz.func11, Tryz.ntmps11
    go_wp2
    refine bodyPost_ret (v := .tuple #[.agg #[.int .i64 0, .string ⟨#[]⟩, .int .i64 0, .int .i64 0], .int .i64 (-1)]) (by simp [results, Tryz.results11, go_sem]) rfl ?_
    exact signP_none H.out ((Below.refl _ _).alloc (Nat.le_refl _) _)

set_option maxRecDepth 100000 in
set_option maxHeartbeats 4000000 in
theorem iSign_mark (s : ByteArray) (k : Nat) (w : World) (hs : s.size ≤ 1048576) (hk : k < s.size) (hm : 0 ≤ markI (bt s k)) : Calls Tryz.prog 11 #[.string s, .int .i64 k] w (SignP s k w) := by
  have HBT := Lib.hid (bt_eq s k hk)
  have hk0 : (0 : Int) ≤ (k : Int) := by omega
  have hk1 : (k : Int) < (s.size : Int) := by omega
  have HX := Lib.hid (SB.new w 0 ⟨#[]⟩ 0 k)
  have hb := mark_bd (bt s k)
  have H := Lib.hid (show signQ s (k : Int) = some ⟨markI (bt s k) + 1, emptyB, 0, k + 1⟩ by rw [sign_in hk, signO, if_pos hm])
  have HI := Lib.hid (show ∀ w0, Calls Tryz.prog 25 #[.string ⟨#[123, 125, 91, 93, 58, 44]⟩, .int .u8 (s[k].toNat : Int)] w0 fun e w' => e = .returned (.int .i64 (markI (bt s k))) ∧ w0 = w' from fun w0 => by rw [HBT.out]; exact iMark s[k] w0)
  generalize markI (bt s k) = z at hb H HI hm
  clear HX
  go_enter Tryz.func11, Tryz.ntmps11
  go_wp2_with (go_at_call 25; refine (HI.out _).mono ?_; rintro e w2 ⟨rfl, rfl⟩)
  refine bodyPost_ret (v := .tuple #[.agg #[.int .i64 (1 + z), .string ⟨#[]⟩, .int .i64 0, .int .i64 k], .int .i64 ((k : Int) + 1)]) (by simp [results, Tryz.results11, go_sem]) rfl ?_
  exact signP_some H.out ((by repeat (first | exact Below.refl _ _ | (refine Below.alloc ?_ (by first | omega | (simp; done) | (simp; omega)) _) | (refine Below.setCell ?_ (by first | omega | (simp; done) | (simp; omega)) _)))) (by show 1 + z = z + 1; omega) rfl rfl (by rfl)

set_option maxRecDepth 100000 in
set_option maxHeartbeats 4000000 in
theorem iSign_quote_none (s : ByteArray) (k : Nat) (w : World) (hs : s.size ≤ 1048576) (hk : k < s.size) (hq : bt s k = 34) (hT : Tabs w) (hV : Cases w) (hr : readQ s k = none) : Calls Tryz.prog 11 #[.string s, .int .i64 k] w (SignP s k w) := by
  have HBT := Lib.hid (bt_eq s k hk)
  have hk0 : (0 : Int) ≤ (k : Int) := by omega
  have hk1 : (k : Int) < (s.size : Int) := by omega
  have HX := Lib.hid (SB.new w 0 ⟨#[]⟩ 0 k)
  have hm : markI (bt s k) = -1 := by rw [hq]; rfl
  have HI := Lib.hid (show ∀ w0, Calls Tryz.prog 25 #[.string ⟨#[123, 125, 91, 93, 58, 44]⟩, .int .u8 (s[k].toNat : Int)] w0 fun e w' => e = .returned (.int .i64 (markI (bt s k))) ∧ w0 = w' from fun w0 => by rw [HBT.out]; exact iMark s[k] w0)
  rw [hm] at HI
  have HTV := Lib.hid (And.intro hT hV); clear hT hV
  have e1 : ((s[k].toNat : Int) == 34) = true := by rw [← HBT.out, hq]; rfl
  have HR := Lib.hid (fun w0 hT hV => iReadQuoted s k w0 hs hT hV)
  rw [hr] at HR
  simp only [qText, qEnd] at HR
  have H := Lib.hid (show signQ s (k : Int) = none by rw [sign_quote hk hq, quoteO, hr])
  have HX0 := Lib.hid (SB.new w 7 ⟨#[]⟩ 0 k)
  clear hm hq hr
  go_enter Tryz.func11, Tryz.ntmps11
  go_wp2_with (first | (go_at_call 25; refine (HI.out _).mono ?_; rintro e w2 ⟨rfl, rfl⟩) | fail)
  refine (HR.out _ (tabs_keep HTV.out.1 HX0.out.1.2) (cases_keep HTV.out.2 HX0.out.1.2)).mono ?_; rintro e w1 ⟨rfl, hb1⟩
  have HX := Lib.hid (HX0.out.keep hb1); clear hb1 HX0
  have hlt := HX.out.lt
  obtain ⟨c0, c1, c2, c3⟩ := HX.out.cells
  obtain ⟨f0, f1, f2, f3⟩ := HX.out.frozen
  obtain ⟨r0, r1, r2, r3⟩ := HX.out.1.cells
  obtain ⟨g0, g1, g2, g3⟩ := HX.out.1.frozen
  go_wp2
  refine bodyPost_ret (v := .tuple #[.agg #[.int .i64 0, .string ⟨#[]⟩, .int .i64 0, .int .i64 0], .int .i64 (-1)]) (by simp [results, Tryz.results11, go_sem, r0, r1, r2, r3]) rfl ?_
  exact signP_none H.out (sb_below HX.out 1 _ _ _ _ _)

set_option maxRecDepth 100000 in
set_option maxHeartbeats 4000000 in
theorem iSign_quote_some (s : ByteArray) (k : Nat) (w : World) (hs : s.size ≤ 1048576) (hk : k < s.size) (hq : bt s k = 34) (hT : Tabs w) (hV : Cases w) (l : List UInt8) (e0 : Nat) (hr : readQ s k = some (l, e0)) : Calls Tryz.prog 11 #[.string s, .int .i64 k] w (SignP s k w) := by
  have HBT := Lib.hid (bt_eq s k hk)
  have hk0 : (0 : Int) ≤ (k : Int) := by omega
  have hk1 : (k : Int) < (s.size : Int) := by omega
  have HX := Lib.hid (SB.new w 0 ⟨#[]⟩ 0 k)
  have hm : markI (bt s k) = -1 := by rw [hq]; rfl
  have HI := Lib.hid (show ∀ w0, Calls Tryz.prog 25 #[.string ⟨#[123, 125, 91, 93, 58, 44]⟩, .int .u8 (s[k].toNat : Int)] w0 fun e w' => e = .returned (.int .i64 (markI (bt s k))) ∧ w0 = w' from fun w0 => by rw [HBT.out]; exact iMark s[k] w0)
  rw [hm] at HI
  have HTV := Lib.hid (And.intro hT hV); clear hT hV
  have e1 : ((s[k].toNat : Int) == 34) = true := by rw [← HBT.out, hq]; rfl
  have HR := Lib.hid (fun w0 hT hV => iReadQuoted s k w0 hs hT hV)
  rw [hr] at HR
  simp only [qText, qEnd] at HR
  obtain ⟨key, hkey⟩ : ∃ key : ByteArray, key = ⟨l.toArray⟩ := ⟨_, rfl⟩
  have H := Lib.hid (show signQ s (k : Int) = some ⟨7, key, 0, e0⟩ by rw [sign_quote hk hq, quoteO, hr, hkey])
  rw [← hkey] at HR
  have hd : decide ((e0 : Int) < 0) = false := decide_eq_false (by omega)
  have HX0 := Lib.hid (SB.new w 7 ⟨#[]⟩ 0 k)
  clear hm hq hr hkey
  go_enter Tryz.func11, Tryz.ntmps11
  go_wp2_with (first | (go_at_call 25; refine (HI.out _).mono ?_; rintro e w2 ⟨rfl, rfl⟩) | fail)
  refine (HR.out _ (tabs_keep HTV.out.1 HX0.out.1.2) (cases_keep HTV.out.2 HX0.out.1.2)).mono ?_; rintro e w1 ⟨rfl, hb1⟩
  have HX := Lib.hid (HX0.out.keep hb1); clear hb1 HX0
  have hlt := HX.out.lt
  obtain ⟨c0, c1, c2, c3⟩ := HX.out.cells
  obtain ⟨f0, f1, f2, f3⟩ := HX.out.frozen
  obtain ⟨r0, r1, r2, r3⟩ := HX.out.1.cells
  obtain ⟨g0, g1, g2, g3⟩ := HX.out.1.frozen
  go_wp2
  refine bodyPost_ret (v := .tuple #[.agg #[.int .i64 7, .string key, .int .i64 0, .int .i64 k], .int .i64 (e0 : Int)]) (by simp [results, Tryz.results11, go_sem, r0, r1, r2, r3]) rfl ?_
  exact signP_some H.out (sb_below HX.out 1 _ _ _ _ _) rfl rfl rfl rfl

set_option maxRecDepth 100000 in
set_option maxHeartbeats 4000000 in
theorem iSign_num_none (s : ByteArray) (k : Nat) (w : World) (hs : s.size ≤ 1048576) (hk : k < s.size) (hd0 : bt s k = 45 ∨ dgAt s k = true) (hE : Errs w) (hr : whoQ s k = none) : Calls Tryz.prog 11 #[.string s, .int .i64 k] w (SignP s k w) := by
  have HBT := Lib.hid (bt_eq s k hk)
  have hk0 : (0 : Int) ≤ (k : Int) := by omega
  have hk1 : (k : Int) < (s.size : Int) := by omega
  have HX := Lib.hid (SB.new w 0 ⟨#[]⟩ 0 k)
  have hbd : bt s k = 45 ∨ (48 ≤ bt s k ∧ bt s k ≤ 57) := by rw [← dgAt_iff]; exact hd0
  have hm : markI (bt s k) = -1 := by
    unfold markI
    repeat' split
    all_goals omega
  have HI := Lib.hid (show ∀ w0, Calls Tryz.prog 25 #[.string ⟨#[123, 125, 91, 93, 58, 44]⟩, .int .u8 (s[k].toNat : Int)] w0 fun e w' => e = .returned (.int .i64 (markI (bt s k))) ∧ w0 = w' from fun w0 => by rw [HBT.out]; exact iMark s[k] w0)
  rw [hm] at HI
  have HTV := Lib.hid hE; clear hE
  have HR := Lib.hid (fun w0 hE => iReadWhole s k w0 hs hE)
  rw [hr] at HR
  simp only [whoN, whoE] at HR
  have e1 : ((s[k].toNat : Int) == 34) = false := by rw [← HBT.out, beq_eq_false_iff_ne]; omega
  have HD := Lib.hid (fun w0 => isDigit_any (s[k].toNat : Int) w0)
  have hdig : ((s[k].toNat : Int) == 45) = false → digitB (s[k].toNat : Int) = true := fun h => by
    rw [beq_eq_false_iff_ne, ← HBT.out] at h
    rw [← HBT.out, digitB, decide_eq_true (by omega), decide_eq_true (by omega)]; rfl
  have H := Lib.hid (show signQ s (k : Int) = none by rw [sign_dig hk hd0, numO, hr])
  have HX0 := Lib.hid (SB.new w 8 ⟨#[]⟩ 0 k)
  have HDG := Lib.hid hdig
  clear hm hbd hd0 hr hdig
  cases h45 : ((s[k].toNat : Int) == 45)
  · rw [HDG.out h45] at HD
    go_enter Tryz.func11, Tryz.ntmps11
    go_wp2_with (first | (go_at_call 25; refine (HI.out _).mono ?_; rintro e w2 ⟨rfl, rfl⟩) | (go_at_call 29; refine (HD.out _).mono ?_; rintro e w2 ⟨rfl, rfl⟩) | fail)
    refine (HR.out _ (errs_keep HTV.out HX0.out.1.2)).mono ?_; rintro e w1 ⟨rfl, hb1⟩
    have HX := Lib.hid (HX0.out.keep hb1); clear hb1 HX0
    have hlt := HX.out.lt
    obtain ⟨c0, c1, c2, c3⟩ := HX.out.cells
    obtain ⟨f0, f1, f2, f3⟩ := HX.out.frozen
    obtain ⟨r0, r1, r2, r3⟩ := HX.out.1.cells
    obtain ⟨g0, g1, g2, g3⟩ := HX.out.1.frozen
    go_wp2
    refine bodyPost_ret (v := .tuple #[.agg #[.int .i64 0, .string ⟨#[]⟩, .int .i64 0, .int .i64 0], .int .i64 (-1)]) (by simp [results, Tryz.results11, go_sem, r0, r1, r2, r3]) rfl ?_
    exact signP_none H.out (sb_below HX.out 2 _ _ _ _ _)
  · go_enter Tryz.func11, Tryz.ntmps11
    go_wp2_with (first | (go_at_call 25; refine (HI.out _).mono ?_; rintro e w2 ⟨rfl, rfl⟩) | fail)
    refine (HR.out _ (errs_keep HTV.out HX0.out.1.2)).mono ?_; rintro e w1 ⟨rfl, hb1⟩
    have HX := Lib.hid (HX0.out.keep hb1); clear hb1 HX0
    have hlt := HX.out.lt
    obtain ⟨c0, c1, c2, c3⟩ := HX.out.cells
    obtain ⟨f0, f1, f2, f3⟩ := HX.out.frozen
    obtain ⟨r0, r1, r2, r3⟩ := HX.out.1.cells
    obtain ⟨g0, g1, g2, g3⟩ := HX.out.1.frozen
    go_wp2
    refine bodyPost_ret (v := .tuple #[.agg #[.int .i64 0, .string ⟨#[]⟩, .int .i64 0, .int .i64 0], .int .i64 (-1)]) (by simp [results, Tryz.results11, go_sem, r0, r1, r2, r3]) rfl ?_
    exact signP_none H.out (sb_below HX.out 2 _ _ _ _ _)

set_option maxRecDepth 100000 in
set_option maxHeartbeats 4000000 in
theorem iSign_num_some (s : ByteArray) (k : Nat) (w : World) (hs : s.size ≤ 1048576) (hk : k < s.size) (hd0 : bt s k = 45 ∨ dgAt s k = true) (hE : Errs w) (n : Int) (e0 : Nat) (hr : whoQ s k = some (n, e0)) : Calls Tryz.prog 11 #[.string s, .int .i64 k] w (SignP s k w) := by
  have HBT := Lib.hid (bt_eq s k hk)
  have hk0 : (0 : Int) ≤ (k : Int) := by omega
  have hk1 : (k : Int) < (s.size : Int) := by omega
  have HX := Lib.hid (SB.new w 0 ⟨#[]⟩ 0 k)
  have hbd : bt s k = 45 ∨ (48 ≤ bt s k ∧ bt s k ≤ 57) := by rw [← dgAt_iff]; exact hd0
  have hm : markI (bt s k) = -1 := by
    unfold markI
    repeat' split
    all_goals omega
  have HI := Lib.hid (show ∀ w0, Calls Tryz.prog 25 #[.string ⟨#[123, 125, 91, 93, 58, 44]⟩, .int .u8 (s[k].toNat : Int)] w0 fun e w' => e = .returned (.int .i64 (markI (bt s k))) ∧ w0 = w' from fun w0 => by rw [HBT.out]; exact iMark s[k] w0)
  rw [hm] at HI
  have HTV := Lib.hid hE; clear hE
  have HR := Lib.hid (fun w0 hE => iReadWhole s k w0 hs hE)
  rw [hr] at HR
  simp only [whoN, whoE] at HR
  have e1 : ((s[k].toNat : Int) == 34) = false := by rw [← HBT.out, beq_eq_false_iff_ne]; omega
  have HD := Lib.hid (fun w0 => isDigit_any (s[k].toNat : Int) w0)
  have hdig : ((s[k].toNat : Int) == 45) = false → digitB (s[k].toNat : Int) = true := fun h => by
    rw [beq_eq_false_iff_ne, ← HBT.out] at h
    rw [← HBT.out, digitB, decide_eq_true (by omega), decide_eq_true (by omega)]; rfl
  have H := Lib.hid (show signQ s (k : Int) = some ⟨8, emptyB, n, e0⟩ by rw [sign_dig hk hd0, numO, hr])
  have hd : decide ((e0 : Int) < 0) = false := decide_eq_false (by omega)
  have HX0 := Lib.hid (SB.new w 8 ⟨#[]⟩ 0 k)
  have HDG := Lib.hid hdig
  clear hm hbd hd0 hr hdig
  cases h45 : ((s[k].toNat : Int) == 45)
  · rw [HDG.out h45] at HD
    go_enter Tryz.func11, Tryz.ntmps11
    go_wp2_with (first | (go_at_call 25; refine (HI.out _).mono ?_; rintro e w2 ⟨rfl, rfl⟩) | (go_at_call 29; refine (HD.out _).mono ?_; rintro e w2 ⟨rfl, rfl⟩) | fail)
    refine (HR.out _ (errs_keep HTV.out HX0.out.1.2)).mono ?_; rintro e w1 ⟨rfl, hb1⟩
    have HX := Lib.hid (HX0.out.keep hb1); clear hb1 HX0
    have hlt := HX.out.lt
    obtain ⟨c0, c1, c2, c3⟩ := HX.out.cells
    obtain ⟨f0, f1, f2, f3⟩ := HX.out.frozen
    obtain ⟨r0, r1, r2, r3⟩ := HX.out.1.cells
    obtain ⟨g0, g1, g2, g3⟩ := HX.out.1.frozen
    go_wp2
    refine bodyPost_ret (v := .tuple #[.agg #[.int .i64 8, .string ⟨#[]⟩, .int .i64 n, .int .i64 k], .int .i64 (e0 : Int)]) (by simp [results, Tryz.results11, go_sem, r0, r1, r2, r3]) rfl ?_
    exact signP_some H.out (sb_below HX.out 2 _ _ _ _ _) rfl rfl rfl rfl
  · go_enter Tryz.func11, Tryz.ntmps11
    go_wp2_with (first | (go_at_call 25; refine (HI.out _).mono ?_; rintro e w2 ⟨rfl, rfl⟩) | fail)
    refine (HR.out _ (errs_keep HTV.out HX0.out.1.2)).mono ?_; rintro e w1 ⟨rfl, hb1⟩
    have HX := Lib.hid (HX0.out.keep hb1); clear hb1 HX0
    have hlt := HX.out.lt
    obtain ⟨c0, c1, c2, c3⟩ := HX.out.cells
    obtain ⟨f0, f1, f2, f3⟩ := HX.out.frozen
    obtain ⟨r0, r1, r2, r3⟩ := HX.out.1.cells
    obtain ⟨g0, g1, g2, g3⟩ := HX.out.1.frozen
    go_wp2
    refine bodyPost_ret (v := .tuple #[.agg #[.int .i64 8, .string ⟨#[]⟩, .int .i64 n, .int .i64 k], .int .i64 (e0 : Int)]) (by simp [results, Tryz.results11, go_sem, r0, r1, r2, r3]) rfl ?_
    exact signP_some H.out (sb_below HX.out 2 _ _ _ _ _) rfl rfl rfl rfl

theorem prefix_list : ∀ (p l : List UInt8), Lib.hasPrefix l p = (decide (p.length ≤ l.length) && (l.take p.length == p))
  | [], l => by simp [Lib.hasPrefix]
  | b :: p, [] => by simp [Lib.hasPrefix]
  | b :: p, c :: l => by
    have ih := prefix_list p l
    unfold Lib.hasPrefix at ih ⊢
    show ((b == c) && p.isPrefixOf l) = _
    have e1 : (List.take (b :: p).length (c :: l) == b :: p) = ((c == b) && (List.take p.length l == p)) := rfl
    have e2 : decide ((b :: p).length ≤ (c :: l).length) = decide (p.length ≤ l.length) := by simp
    have e3 : (b == c) = (c == b) := by rw [Bool.eq_iff_iff, beq_iff_eq, beq_iff_eq]; exact eq_comm
    rw [ih, e1, e2, e3]
    cases (c == b) <;> simp
theorem has_prefix (s w : ByteArray) (k : Nat) (hk : k ≤ s.size) : Lib.hasPrefix (s.extract k s.size).data.toList w.data.toList = hasW s k w := by
  have h1 : (s.extract k s.size).data.toList = s.data.toList.drop k := by rw [Lib.extract_from]
  have h2 : (s.extract k (k + w.size)).data.toList = (s.data.toList.drop k).take w.size := by
    rw [Lib.extract_data]; first | (rw [List.drop_take]; congr 1; omega) | simp
  have h3 : s.data.toList.length = s.size := by simp
  have h4 : w.data.toList.length = w.size := by simp
  rw [prefix_list, h1, hasW, ByteArray.toList_eq, ByteArray.toList_eq, h2, List.length_drop, h3, h4]
  congr 1
  by_cases h : k + w.size ≤ s.size
  · rw [decide_eq_true h, decide_eq_true (by omega)]
  · rw [decide_eq_false h, decide_eq_false (by omega)]
theorem iPrefix (s w : ByteArray) (k : Nat) (hk : k ≤ s.size) (w0 : World) : Calls Tryz.prog 31 #[.string (s.extract k s.size), .string w] w0 fun e w' => e = .returned (.bool (hasW s k w)) ∧ w0 = w' := by
  have h := Tryz.strings_HasPrefix (s.extract k s.size) w w0
  rw [has_prefix s w k hk] at h
  exact h.mono fun e w' ⟨h1, h2⟩ => ⟨h1, h2.symm⟩
theorem SB.alloc {w0 w : World} {x0 : Int} {x1 : ByteArray} {x2 x3 : Int} (h : SB w0 w x0 x1 x2 x3) (o : Obj) : SB w0 (w.alloc o) x0 x1 x2 x3 := h.keep ((Below.refl _ _).alloc (Nat.le_refl _) _)

def lit3F (v0 v1 v2 : Value) : Nat → Value | 0 => v0 | 1 => v1 | _ => v2
theorem lit3_get (v0 v1 v2 : Value) : ∀ i, i < (#[v0, v1, v2] : Array Value).size → (#[v0, v1, v2] : Array Value)[i]? = some (lit3F v0 v1 v2 i)
  | 0, _ | 1, _ | 2, _ => rfl
  | i + 3, h => by simp at h; omega
theorem lit3 (w : World) (v0 v1 v2 : Value) (e : TypeId) : (w.alloc (.cells #[v0, v1, v2] e)).cell? ⟨w.heap.size, 0, none⟩ = some v0 ∧ (w.alloc (.cells #[v0, v1, v2] e)).cell? ⟨w.heap.size, 1, none⟩ = some v1 ∧ (w.alloc (.cells #[v0, v1, v2] e)).cell? ⟨w.heap.size, 2, none⟩ = some v2 := by
  have g := World.rowIs_alloc w #[v0, v1, v2] e (lit3F v0 v1 v2) (lit3_get v0 v1 v2)
  exact ⟨g.cell (by simp), g.cell (by simp), g.cell (by simp)⟩
set_option maxRecDepth 100000 in
set_option maxHeartbeats 4000000 in
theorem iSign_word0 (s : ByteArray) (k : Nat) (w : World) (hs : s.size ≤ 1048576) (hk : k < s.size) (hm : markI (bt s k) = -1) (hq : bt s k ≠ 34) (hd0 : ¬ (bt s k = 45 ∨ dgAt s k = true)) (hw : hasW s k (wordB 0) = true) : Calls Tryz.prog 11 #[.string s, .int .i64 k] w (SignP s k w) := by
  have HBT := Lib.hid (bt_eq s k hk)
  have hk0 : (0 : Int) ≤ (k : Int) := by omega
  have hk1 : (k : Int) < (s.size : Int) := by omega
  have hk2 : (k : Int) ≤ (s.size : Int) := by omega
  have HX := Lib.hid (SB.new w 0 ⟨#[]⟩ 0 k)
  have HI := Lib.hid (show ∀ w0, Calls Tryz.prog 25 #[.string ⟨#[123, 125, 91, 93, 58, 44]⟩, .int .u8 (s[k].toNat : Int)] w0 fun e w' => e = .returned (.int .i64 (markI (bt s k))) ∧ w0 = w' from fun w0 => by rw [HBT.out]; exact iMark s[k] w0)
  have H0 := Lib.hid (sign_rest hk hm hq hd0)
  rw [hm] at HI
  have hbd : ¬ (bt s k = 45 ∨ (48 ≤ bt s k ∧ bt s k ≤ 57)) := by rw [← dgAt_iff]; exact hd0
  have e1 : ((s[k].toNat : Int) == 34) = false := by rw [← HBT.out, beq_eq_false_iff_ne]; omega
  have e2 : ((s[k].toNat : Int) == 45) = false := by rw [← HBT.out, beq_eq_false_iff_ne]; omega
  have HD := Lib.hid (fun w0 => isDigit_any (s[k].toNat : Int) w0)
  have hdig : digitB (s[k].toNat : Int) = false := by
    rw [← HBT.out, digitB]
    by_cases h1 : (48 : Int) ≤ (bt s k : Int)
    · rw [decide_eq_true h1, decide_eq_false (by omega)]; rfl
    · rw [decide_eq_false h1]; rfl
  rw [hdig] at HD
  have HP0 := Lib.hid (fun w0 => iPrefix s ⟨#[116, 114, 117, 101]⟩ k (by omega) w0)
  have HP1 := Lib.hid (fun w0 => iPrefix s ⟨#[102, 97, 108, 115, 101]⟩ k (by omega) w0)
  have HP2 := Lib.hid (fun w0 => iPrefix s ⟨#[110, 117, 108, 108]⟩ k (by omega) w0)
  rw [show hasW s k ⟨#[116, 114, 117, 101]⟩ = true from hw] at HP0
  rw [show hasW s k ⟨#[102, 97, 108, 115, 101]⟩ = false by
    cases hq2 : hasW s k (wordB 1)
    · exact hq2
    · have := word_excl hq2 hw (by omega) (by omega); omega] at HP1
  rw [show hasW s k ⟨#[110, 117, 108, 108]⟩ = false by
    cases hq2 : hasW s k (wordB 2)
    · exact hq2
    · have := word_excl hq2 hw (by omega) (by omega); omega] at HP2
  have hno : ∀ m, m < 0 → hasW s k (wordB m) = false := fun m hmj => by
    cases hq3 : hasW s k (wordB m)
    · rfl
    · have := word_excl hq3 hw (by omega) (by omega); omega
  have H := Lib.hid (show signQ s (k : Int) = some ⟨9, emptyB, 0, k + 4⟩ by rw [H0.out, word_0 hw])
  clear hno
  clear hm hq hd0 hbd hdig hw H0
  obtain ⟨B, hB⟩ : ∃ B, B = ((w.alloc (.cells #[.int .i64 0, .string ⟨#[]⟩, .int .i64 0, .int .i64 0] 37)).alloc (.cells #[.int .i64 0, .string ⟨#[]⟩, .int .i64 0, .int .i64 k] 37)).heap.size := ⟨_, rfl⟩
  have hBlt : w.heap.size + 1 < B := by rw [hB]; exact HX.out.lt
  have HL := Lib.hid (show ∀ v0 v1 v2 : Value, _ from fun v0 v1 v2 => lit3 ((w.alloc (.cells #[.int .i64 0, .string ⟨#[]⟩, .int .i64 0, .int .i64 0] 37)).alloc (.cells #[.int .i64 0, .string ⟨#[]⟩, .int .i64 0, .int .i64 k] 37)) v0 v1 v2 9)
  rw [← hB] at HL
  simp only [World.size_alloc] at hB
  go_enter Tryz.func11, Tryz.ntmps11
  go_wp2_with (first | (go_at_call 25; refine (HI.out _).mono ?_; rintro e w2 ⟨rfl, rfl⟩) | (go_at_call 29; refine (HD.out _).mono ?_; rintro e w2 ⟨rfl, rfl⟩))
  rw [← hB]
  clear hB
  go_loopw [7, 30] (fun en i wv => ∃ (z x0 f : Int) (j : Nat), i = .int .i64 z ∧ en = .int .i64 f ∧ z = j ∧ j ≤ 3 ∧ Hid (x0 = (fun j => if 0 < j then (9 : Int) else 0) j ∧ f = (fun j => if 0 < j then (k : Int) + 4 else -1) j) ∧ Hid (SB w wv x0 ⟨#[]⟩ 0 k) ∧ wv.cell? ⟨B, 0, none⟩ = some (.string ⟨#[116, 114, 117, 101]⟩) ∧ wv.cell? ⟨B, 1, none⟩ = some (.string ⟨#[102, 97, 108, 115, 101]⟩) ∧ wv.cell? ⟨B, 2, none⟩ = some (.string ⟨#[110, 117, 108, 108]⟩)) (fun _ i _ => 3 - (intOf i).toNat)
  case atStart => exact ⟨0, 0, -1, 0, rfl, rfl, rfl, by omega, Lib.hid ⟨rfl, rfl⟩, Lib.hid (HX.out.alloc _), (HL.out _ _ _).1, (HL.out _ _ _).2.1, (HL.out _ _ _).2.2⟩
  case round =>
    obtain ⟨z, x0, f, j, rfl, rfl, hz, hj, HXF, HX, b0, b1, b2⟩ := hrel
    have hj3 : j = 0 ∨ j = 1 ∨ j = 2 ∨ j = 3 := by omega
    clear hj
    rcases hj3 with rfl | rfl | rfl | rfl
    · obtain rfl : z = 0 := by omega
      clear hz
      obtain rfl : x0 = 0 := HXF.out.1
      obtain rfl : f = (-1) := HXF.out.2
      obtain ⟨c0, c1, c2, c3⟩ := HX.out.cells
      obtain ⟨f0, f1, f2, f3⟩ := HX.out.frozen
      go_wp2_with (go_at_call 31; refine (HP0.out _).mono ?_; rintro e w2 ⟨rfl, rfl⟩)
      have HX2 := Lib.hid (HX.out.set0 9)
      go_roundw
      case rel => exact ⟨1, 9, ((k : Int) + 4), 1, by go_num, by first | rfl | go_num, rfl, by omega, Lib.hid ⟨rfl, rfl⟩, HX2, by go_simp, by go_simp, by go_simp⟩
      case measure => simp [intOf]
    · obtain rfl : z = 1 := by omega
      clear hz
      obtain rfl : x0 = 9 := HXF.out.1
      obtain rfl : f = ((k : Int) + 4) := HXF.out.2
      go_wp2_with (go_at_call 31; refine (HP1.out _).mono ?_; rintro e w2 ⟨rfl, rfl⟩)
      go_roundw
      case rel => exact ⟨2, 9, ((k : Int) + 4), 2, by go_num, rfl, rfl, by omega, Lib.hid ⟨rfl, rfl⟩, HX, b0, b1, b2⟩
      case measure => simp [intOf]
    · obtain rfl : z = 2 := by omega
      clear hz
      obtain rfl : x0 = 9 := HXF.out.1
      obtain rfl : f = ((k : Int) + 4) := HXF.out.2
      go_wp2_with (go_at_call 31; refine (HP2.out _).mono ?_; rintro e w2 ⟨rfl, rfl⟩)
      go_roundw
      case rel => exact ⟨3, 9, ((k : Int) + 4), 3, by go_num, rfl, rfl, by omega, Lib.hid ⟨rfl, rfl⟩, HX, b0, b1, b2⟩
      case measure => simp [intOf]
    · obtain rfl : z = 3 := by omega
      clear hz HL HP0 HP1 HP2 b0 b1 b2
      obtain rfl : x0 = 9 := HXF.out.1
      obtain rfl : f = ((k : Int) + 4) := HXF.out.2
      have hlt := HX.out.lt
      obtain ⟨c0, c1, c2, c3⟩ := HX.out.cells
      obtain ⟨f0, f1, f2, f3⟩ := HX.out.frozen
      obtain ⟨r0, r1, r2, r3⟩ := HX.out.1.cells
      obtain ⟨g0, g1, g2, g3⟩ := HX.out.1.frozen
      have hd : decide ((k : Int) + 4 < 0) = false := decide_eq_false (by omega)
      go_wp2
      refine bodyPost_ret (v := .tuple #[.agg #[.int .i64 9, .string ⟨#[]⟩, .int .i64 0, .int .i64 k], .int .i64 ((k : Int) + 4)]) (by simp [results, Tryz.results11, go_sem, r0, r1, r2, r3]) rfl ?_
      exact signP_some H.out (sb_below0 HX.out _ _ _ _) rfl rfl rfl (by rfl)

set_option maxRecDepth 100000 in
set_option maxHeartbeats 4000000 in
theorem iSign_word1 (s : ByteArray) (k : Nat) (w : World) (hs : s.size ≤ 1048576) (hk : k < s.size) (hm : markI (bt s k) = -1) (hq : bt s k ≠ 34) (hd0 : ¬ (bt s k = 45 ∨ dgAt s k = true)) (hw : hasW s k (wordB 1) = true) : Calls Tryz.prog 11 #[.string s, .int .i64 k] w (SignP s k w) := by
  have HBT := Lib.hid (bt_eq s k hk)
  have hk0 : (0 : Int) ≤ (k : Int) := by omega
  have hk1 : (k : Int) < (s.size : Int) := by omega
  have hk2 : (k : Int) ≤ (s.size : Int) := by omega
  have HX := Lib.hid (SB.new w 0 ⟨#[]⟩ 0 k)
  have HI := Lib.hid (show ∀ w0, Calls Tryz.prog 25 #[.string ⟨#[123, 125, 91, 93, 58, 44]⟩, .int .u8 (s[k].toNat : Int)] w0 fun e w' => e = .returned (.int .i64 (markI (bt s k))) ∧ w0 = w' from fun w0 => by rw [HBT.out]; exact iMark s[k] w0)
  have H0 := Lib.hid (sign_rest hk hm hq hd0)
  rw [hm] at HI
  have hbd : ¬ (bt s k = 45 ∨ (48 ≤ bt s k ∧ bt s k ≤ 57)) := by rw [← dgAt_iff]; exact hd0
  have e1 : ((s[k].toNat : Int) == 34) = false := by rw [← HBT.out, beq_eq_false_iff_ne]; omega
  have e2 : ((s[k].toNat : Int) == 45) = false := by rw [← HBT.out, beq_eq_false_iff_ne]; omega
  have HD := Lib.hid (fun w0 => isDigit_any (s[k].toNat : Int) w0)
  have hdig : digitB (s[k].toNat : Int) = false := by
    rw [← HBT.out, digitB]
    by_cases h1 : (48 : Int) ≤ (bt s k : Int)
    · rw [decide_eq_true h1, decide_eq_false (by omega)]; rfl
    · rw [decide_eq_false h1]; rfl
  rw [hdig] at HD
  have HP0 := Lib.hid (fun w0 => iPrefix s ⟨#[116, 114, 117, 101]⟩ k (by omega) w0)
  have HP1 := Lib.hid (fun w0 => iPrefix s ⟨#[102, 97, 108, 115, 101]⟩ k (by omega) w0)
  have HP2 := Lib.hid (fun w0 => iPrefix s ⟨#[110, 117, 108, 108]⟩ k (by omega) w0)
  rw [show hasW s k ⟨#[116, 114, 117, 101]⟩ = false by
    cases hq2 : hasW s k (wordB 0)
    · exact hq2
    · have := word_excl hq2 hw (by omega) (by omega); omega] at HP0
  rw [show hasW s k ⟨#[102, 97, 108, 115, 101]⟩ = true from hw] at HP1
  rw [show hasW s k ⟨#[110, 117, 108, 108]⟩ = false by
    cases hq2 : hasW s k (wordB 2)
    · exact hq2
    · have := word_excl hq2 hw (by omega) (by omega); omega] at HP2
  have hno : ∀ m, m < 1 → hasW s k (wordB m) = false := fun m hmj => by
    cases hq3 : hasW s k (wordB m)
    · rfl
    · have := word_excl hq3 hw (by omega) (by omega); omega
  have H := Lib.hid (show signQ s (k : Int) = some ⟨10, emptyB, 0, k + 5⟩ by rw [H0.out, word_1 hno hw])
  clear hno
  clear hm hq hd0 hbd hdig hw H0
  obtain ⟨B, hB⟩ : ∃ B, B = ((w.alloc (.cells #[.int .i64 0, .string ⟨#[]⟩, .int .i64 0, .int .i64 0] 37)).alloc (.cells #[.int .i64 0, .string ⟨#[]⟩, .int .i64 0, .int .i64 k] 37)).heap.size := ⟨_, rfl⟩
  have hBlt : w.heap.size + 1 < B := by rw [hB]; exact HX.out.lt
  have HL := Lib.hid (show ∀ v0 v1 v2 : Value, _ from fun v0 v1 v2 => lit3 ((w.alloc (.cells #[.int .i64 0, .string ⟨#[]⟩, .int .i64 0, .int .i64 0] 37)).alloc (.cells #[.int .i64 0, .string ⟨#[]⟩, .int .i64 0, .int .i64 k] 37)) v0 v1 v2 9)
  rw [← hB] at HL
  simp only [World.size_alloc] at hB
  go_enter Tryz.func11, Tryz.ntmps11
  go_wp2_with (first | (go_at_call 25; refine (HI.out _).mono ?_; rintro e w2 ⟨rfl, rfl⟩) | (go_at_call 29; refine (HD.out _).mono ?_; rintro e w2 ⟨rfl, rfl⟩))
  rw [← hB]
  clear hB
  go_loopw [7, 30] (fun en i wv => ∃ (z x0 f : Int) (j : Nat), i = .int .i64 z ∧ en = .int .i64 f ∧ z = j ∧ j ≤ 3 ∧ Hid (x0 = (fun j => if 1 < j then (10 : Int) else 0) j ∧ f = (fun j => if 1 < j then (k : Int) + 5 else -1) j) ∧ Hid (SB w wv x0 ⟨#[]⟩ 0 k) ∧ wv.cell? ⟨B, 0, none⟩ = some (.string ⟨#[116, 114, 117, 101]⟩) ∧ wv.cell? ⟨B, 1, none⟩ = some (.string ⟨#[102, 97, 108, 115, 101]⟩) ∧ wv.cell? ⟨B, 2, none⟩ = some (.string ⟨#[110, 117, 108, 108]⟩)) (fun _ i _ => 3 - (intOf i).toNat)
  case atStart => exact ⟨0, 0, -1, 0, rfl, rfl, rfl, by omega, Lib.hid ⟨rfl, rfl⟩, Lib.hid (HX.out.alloc _), (HL.out _ _ _).1, (HL.out _ _ _).2.1, (HL.out _ _ _).2.2⟩
  case round =>
    obtain ⟨z, x0, f, j, rfl, rfl, hz, hj, HXF, HX, b0, b1, b2⟩ := hrel
    have hj3 : j = 0 ∨ j = 1 ∨ j = 2 ∨ j = 3 := by omega
    clear hj
    rcases hj3 with rfl | rfl | rfl | rfl
    · obtain rfl : z = 0 := by omega
      clear hz
      obtain rfl : x0 = 0 := HXF.out.1
      obtain rfl : f = (-1) := HXF.out.2
      go_wp2_with (go_at_call 31; refine (HP0.out _).mono ?_; rintro e w2 ⟨rfl, rfl⟩)
      go_roundw
      case rel => exact ⟨1, 0, (-1), 1, by go_num, rfl, rfl, by omega, Lib.hid ⟨rfl, rfl⟩, HX, b0, b1, b2⟩
      case measure => simp [intOf]
    · obtain rfl : z = 1 := by omega
      clear hz
      obtain rfl : x0 = 0 := HXF.out.1
      obtain rfl : f = (-1) := HXF.out.2
      obtain ⟨c0, c1, c2, c3⟩ := HX.out.cells
      obtain ⟨f0, f1, f2, f3⟩ := HX.out.frozen
      go_wp2_with (go_at_call 31; refine (HP1.out _).mono ?_; rintro e w2 ⟨rfl, rfl⟩)
      have HX2 := Lib.hid (HX.out.set0 10)
      go_roundw
      case rel => exact ⟨2, 10, ((k : Int) + 5), 2, by go_num, by first | rfl | go_num, rfl, by omega, Lib.hid ⟨rfl, rfl⟩, HX2, by go_simp, by go_simp, by go_simp⟩
      case measure => simp [intOf]
    · obtain rfl : z = 2 := by omega
      clear hz
      obtain rfl : x0 = 10 := HXF.out.1
      obtain rfl : f = ((k : Int) + 5) := HXF.out.2
      go_wp2_with (go_at_call 31; refine (HP2.out _).mono ?_; rintro e w2 ⟨rfl, rfl⟩)
      go_roundw
      case rel => exact ⟨3, 10, ((k : Int) + 5), 3, by go_num, rfl, rfl, by omega, Lib.hid ⟨rfl, rfl⟩, HX, b0, b1, b2⟩
      case measure => simp [intOf]
    · obtain rfl : z = 3 := by omega
      clear hz HL HP0 HP1 HP2 b0 b1 b2
      obtain rfl : x0 = 10 := HXF.out.1
      obtain rfl : f = ((k : Int) + 5) := HXF.out.2
      have hlt := HX.out.lt
      obtain ⟨c0, c1, c2, c3⟩ := HX.out.cells
      obtain ⟨f0, f1, f2, f3⟩ := HX.out.frozen
      obtain ⟨r0, r1, r2, r3⟩ := HX.out.1.cells
      obtain ⟨g0, g1, g2, g3⟩ := HX.out.1.frozen
      have hd : decide ((k : Int) + 5 < 0) = false := decide_eq_false (by omega)
      go_wp2
      refine bodyPost_ret (v := .tuple #[.agg #[.int .i64 10, .string ⟨#[]⟩, .int .i64 0, .int .i64 k], .int .i64 ((k : Int) + 5)]) (by simp [results, Tryz.results11, go_sem, r0, r1, r2, r3]) rfl ?_
      exact signP_some H.out (sb_below0 HX.out _ _ _ _) rfl rfl rfl (by rfl)

set_option maxRecDepth 100000 in
set_option maxHeartbeats 4000000 in
theorem iSign_word2 (s : ByteArray) (k : Nat) (w : World) (hs : s.size ≤ 1048576) (hk : k < s.size) (hm : markI (bt s k) = -1) (hq : bt s k ≠ 34) (hd0 : ¬ (bt s k = 45 ∨ dgAt s k = true)) (hw : hasW s k (wordB 2) = true) : Calls Tryz.prog 11 #[.string s, .int .i64 k] w (SignP s k w) := by
  have HBT := Lib.hid (bt_eq s k hk)
  have hk0 : (0 : Int) ≤ (k : Int) := by omega
  have hk1 : (k : Int) < (s.size : Int) := by omega
  have hk2 : (k : Int) ≤ (s.size : Int) := by omega
  have HX := Lib.hid (SB.new w 0 ⟨#[]⟩ 0 k)
  have HI := Lib.hid (show ∀ w0, Calls Tryz.prog 25 #[.string ⟨#[123, 125, 91, 93, 58, 44]⟩, .int .u8 (s[k].toNat : Int)] w0 fun e w' => e = .returned (.int .i64 (markI (bt s k))) ∧ w0 = w' from fun w0 => by rw [HBT.out]; exact iMark s[k] w0)
  have H0 := Lib.hid (sign_rest hk hm hq hd0)
  rw [hm] at HI
  have hbd : ¬ (bt s k = 45 ∨ (48 ≤ bt s k ∧ bt s k ≤ 57)) := by rw [← dgAt_iff]; exact hd0
  have e1 : ((s[k].toNat : Int) == 34) = false := by rw [← HBT.out, beq_eq_false_iff_ne]; omega
  have e2 : ((s[k].toNat : Int) == 45) = false := by rw [← HBT.out, beq_eq_false_iff_ne]; omega
  have HD := Lib.hid (fun w0 => isDigit_any (s[k].toNat : Int) w0)
  have hdig : digitB (s[k].toNat : Int) = false := by
    rw [← HBT.out, digitB]
    by_cases h1 : (48 : Int) ≤ (bt s k : Int)
    · rw [decide_eq_true h1, decide_eq_false (by omega)]; rfl
    · rw [decide_eq_false h1]; rfl
  rw [hdig] at HD
  have HP0 := Lib.hid (fun w0 => iPrefix s ⟨#[116, 114, 117, 101]⟩ k (by omega) w0)
  have HP1 := Lib.hid (fun w0 => iPrefix s ⟨#[102, 97, 108, 115, 101]⟩ k (by omega) w0)
  have HP2 := Lib.hid (fun w0 => iPrefix s ⟨#[110, 117, 108, 108]⟩ k (by omega) w0)
  rw [show hasW s k ⟨#[116, 114, 117, 101]⟩ = false by
    cases hq2 : hasW s k (wordB 0)
    · exact hq2
    · have := word_excl hq2 hw (by omega) (by omega); omega] at HP0
  rw [show hasW s k ⟨#[102, 97, 108, 115, 101]⟩ = false by
    cases hq2 : hasW s k (wordB 1)
    · exact hq2
    · have := word_excl hq2 hw (by omega) (by omega); omega] at HP1
  rw [show hasW s k ⟨#[110, 117, 108, 108]⟩ = true from hw] at HP2
  have hno : ∀ m, m < 2 → hasW s k (wordB m) = false := fun m hmj => by
    cases hq3 : hasW s k (wordB m)
    · rfl
    · have := word_excl hq3 hw (by omega) (by omega); omega
  have H := Lib.hid (show signQ s (k : Int) = some ⟨11, emptyB, 0, k + 4⟩ by rw [H0.out, word_2 hno hw])
  clear hno
  clear hm hq hd0 hbd hdig hw H0
  obtain ⟨B, hB⟩ : ∃ B, B = ((w.alloc (.cells #[.int .i64 0, .string ⟨#[]⟩, .int .i64 0, .int .i64 0] 37)).alloc (.cells #[.int .i64 0, .string ⟨#[]⟩, .int .i64 0, .int .i64 k] 37)).heap.size := ⟨_, rfl⟩
  have hBlt : w.heap.size + 1 < B := by rw [hB]; exact HX.out.lt
  have HL := Lib.hid (show ∀ v0 v1 v2 : Value, _ from fun v0 v1 v2 => lit3 ((w.alloc (.cells #[.int .i64 0, .string ⟨#[]⟩, .int .i64 0, .int .i64 0] 37)).alloc (.cells #[.int .i64 0, .string ⟨#[]⟩, .int .i64 0, .int .i64 k] 37)) v0 v1 v2 9)
  rw [← hB] at HL
  simp only [World.size_alloc] at hB
  go_enter Tryz.func11, Tryz.ntmps11
  go_wp2_with (first | (go_at_call 25; refine (HI.out _).mono ?_; rintro e w2 ⟨rfl, rfl⟩) | (go_at_call 29; refine (HD.out _).mono ?_; rintro e w2 ⟨rfl, rfl⟩))
  rw [← hB]
  clear hB
  go_loopw [7, 30] (fun en i wv => ∃ (z x0 f : Int) (j : Nat), i = .int .i64 z ∧ en = .int .i64 f ∧ z = j ∧ j ≤ 3 ∧ Hid (x0 = (fun j => if 2 < j then (11 : Int) else 0) j ∧ f = (fun j => if 2 < j then (k : Int) + 4 else -1) j) ∧ Hid (SB w wv x0 ⟨#[]⟩ 0 k) ∧ wv.cell? ⟨B, 0, none⟩ = some (.string ⟨#[116, 114, 117, 101]⟩) ∧ wv.cell? ⟨B, 1, none⟩ = some (.string ⟨#[102, 97, 108, 115, 101]⟩) ∧ wv.cell? ⟨B, 2, none⟩ = some (.string ⟨#[110, 117, 108, 108]⟩)) (fun _ i _ => 3 - (intOf i).toNat)
  case atStart => exact ⟨0, 0, -1, 0, rfl, rfl, rfl, by omega, Lib.hid ⟨rfl, rfl⟩, Lib.hid (HX.out.alloc _), (HL.out _ _ _).1, (HL.out _ _ _).2.1, (HL.out _ _ _).2.2⟩
  case round =>
    obtain ⟨z, x0, f, j, rfl, rfl, hz, hj, HXF, HX, b0, b1, b2⟩ := hrel
    have hj3 : j = 0 ∨ j = 1 ∨ j = 2 ∨ j = 3 := by omega
    clear hj
    rcases hj3 with rfl | rfl | rfl | rfl
    · obtain rfl : z = 0 := by omega
      clear hz
      obtain rfl : x0 = 0 := HXF.out.1
      obtain rfl : f = (-1) := HXF.out.2
      go_wp2_with (go_at_call 31; refine (HP0.out _).mono ?_; rintro e w2 ⟨rfl, rfl⟩)
      go_roundw
      case rel => exact ⟨1, 0, (-1), 1, by go_num, rfl, rfl, by omega, Lib.hid ⟨rfl, rfl⟩, HX, b0, b1, b2⟩
      case measure => simp [intOf]
    · obtain rfl : z = 1 := by omega
      clear hz
      obtain rfl : x0 = 0 := HXF.out.1
      obtain rfl : f = (-1) := HXF.out.2
      go_wp2_with (go_at_call 31; refine (HP1.out _).mono ?_; rintro e w2 ⟨rfl, rfl⟩)
      go_roundw
      case rel => exact ⟨2, 0, (-1), 2, by go_num, rfl, rfl, by omega, Lib.hid ⟨rfl, rfl⟩, HX, b0, b1, b2⟩
      case measure => simp [intOf]
    · obtain rfl : z = 2 := by omega
      clear hz
      obtain rfl : x0 = 0 := HXF.out.1
      obtain rfl : f = (-1) := HXF.out.2
      obtain ⟨c0, c1, c2, c3⟩ := HX.out.cells
      obtain ⟨f0, f1, f2, f3⟩ := HX.out.frozen
      go_wp2_with (go_at_call 31; refine (HP2.out _).mono ?_; rintro e w2 ⟨rfl, rfl⟩)
      have HX2 := Lib.hid (HX.out.set0 11)
      go_roundw
      case rel => exact ⟨3, 11, ((k : Int) + 4), 3, by go_num, by first | rfl | go_num, rfl, by omega, Lib.hid ⟨rfl, rfl⟩, HX2, by go_simp, by go_simp, by go_simp⟩
      case measure => simp [intOf]
    · obtain rfl : z = 3 := by omega
      clear hz HL HP0 HP1 HP2 b0 b1 b2
      obtain rfl : x0 = 11 := HXF.out.1
      obtain rfl : f = ((k : Int) + 4) := HXF.out.2
      have hlt := HX.out.lt
      obtain ⟨c0, c1, c2, c3⟩ := HX.out.cells
      obtain ⟨f0, f1, f2, f3⟩ := HX.out.frozen
      obtain ⟨r0, r1, r2, r3⟩ := HX.out.1.cells
      obtain ⟨g0, g1, g2, g3⟩ := HX.out.1.frozen
      have hd : decide ((k : Int) + 4 < 0) = false := decide_eq_false (by omega)
      go_wp2
      refine bodyPost_ret (v := .tuple #[.agg #[.int .i64 11, .string ⟨#[]⟩, .int .i64 0, .int .i64 k], .int .i64 ((k : Int) + 4)]) (by simp [results, Tryz.results11, go_sem, r0, r1, r2, r3]) rfl ?_
      exact signP_some H.out (sb_below0 HX.out _ _ _ _) rfl rfl rfl (by rfl)

set_option maxRecDepth 100000 in
set_option maxHeartbeats 4000000 in
theorem iSign_nothing (s : ByteArray) (k : Nat) (w : World) (_hs : s.size ≤ 1048576) (hk : k < s.size) (hm : markI (bt s k) = -1) (hq : bt s k ≠ 34) (hd0 : ¬ (bt s k = 45 ∨ dgAt s k = true)) (hw : ∀ m, m < 3 → hasW s k (wordB m) = false) : Calls Tryz.prog 11 #[.string s, .int .i64 k] w (SignP s k w) := by
  have HBT := Lib.hid (bt_eq s k hk)
  have hk0 : (0 : Int) ≤ (k : Int) := by omega
  have hk1 : (k : Int) < (s.size : Int) := by omega
  have hk2 : (k : Int) ≤ (s.size : Int) := by omega
  have HX := Lib.hid (SB.new w 0 ⟨#[]⟩ 0 k)
  have HI := Lib.hid (show ∀ w0, Calls Tryz.prog 25 #[.string ⟨#[123, 125, 91, 93, 58, 44]⟩, .int .u8 (s[k].toNat : Int)] w0 fun e w' => e = .returned (.int .i64 (markI (bt s k))) ∧ w0 = w' from fun w0 => by rw [HBT.out]; exact iMark s[k] w0)
  have H0 := Lib.hid (sign_rest hk hm hq hd0)
  rw [hm] at HI
  have hbd : ¬ (bt s k = 45 ∨ (48 ≤ bt s k ∧ bt s k ≤ 57)) := by rw [← dgAt_iff]; exact hd0
  have e1 : ((s[k].toNat : Int) == 34) = false := by rw [← HBT.out, beq_eq_false_iff_ne]; omega
  have e2 : ((s[k].toNat : Int) == 45) = false := by rw [← HBT.out, beq_eq_false_iff_ne]; omega
  have HD := Lib.hid (fun w0 => isDigit_any (s[k].toNat : Int) w0)
  have hdig : digitB (s[k].toNat : Int) = false := by
    rw [← HBT.out, digitB]
    by_cases h1 : (48 : Int) ≤ (bt s k : Int)
    · rw [decide_eq_true h1, decide_eq_false (by omega)]; rfl
    · rw [decide_eq_false h1]; rfl
  rw [hdig] at HD
  have HP0 := Lib.hid (fun w0 => iPrefix s ⟨#[116, 114, 117, 101]⟩ k (by omega) w0)
  have HP1 := Lib.hid (fun w0 => iPrefix s ⟨#[102, 97, 108, 115, 101]⟩ k (by omega) w0)
  have HP2 := Lib.hid (fun w0 => iPrefix s ⟨#[110, 117, 108, 108]⟩ k (by omega) w0)
  rw [show hasW s k ⟨#[116, 114, 117, 101]⟩ = false from hw 0 (by omega)] at HP0
  rw [show hasW s k ⟨#[102, 97, 108, 115, 101]⟩ = false from hw 1 (by omega)] at HP1
  rw [show hasW s k ⟨#[110, 117, 108, 108]⟩ = false from hw 2 (by omega)] at HP2
  have H := Lib.hid (show signQ s (k : Int) = none by rw [H0.out, word_no hw])
  clear hm hq hd0 hbd hdig hw H0
  obtain ⟨B, hB⟩ : ∃ B, B = ((w.alloc (.cells #[.int .i64 0, .string ⟨#[]⟩, .int .i64 0, .int .i64 0] 37)).alloc (.cells #[.int .i64 0, .string ⟨#[]⟩, .int .i64 0, .int .i64 k] 37)).heap.size := ⟨_, rfl⟩
  have hBlt : w.heap.size + 1 < B := by rw [hB]; exact HX.out.lt
  have HL := Lib.hid (show ∀ v0 v1 v2 : Value, _ from fun v0 v1 v2 => lit3 ((w.alloc (.cells #[.int .i64 0, .string ⟨#[]⟩, .int .i64 0, .int .i64 0] 37)).alloc (.cells #[.int .i64 0, .string ⟨#[]⟩, .int .i64 0, .int .i64 k] 37)) v0 v1 v2 9)
  rw [← hB] at HL
  simp only [World.size_alloc] at hB
  go_enter Tryz.func11, Tryz.ntmps11
  go_wp2_with (first | (go_at_call 25; refine (HI.out _).mono ?_; rintro e w2 ⟨rfl, rfl⟩) | (go_at_call 29; refine (HD.out _).mono ?_; rintro e w2 ⟨rfl, rfl⟩))
  rw [← hB]
  clear hB
  go_loopw [7, 30] (fun en i wv => ∃ (z x0 f : Int) (j : Nat), i = .int .i64 z ∧ en = .int .i64 f ∧ z = j ∧ j ≤ 3 ∧ Hid (x0 = (fun j => if False then (12 : Int) else 0) j ∧ f = (fun j => if False then (k : Int) + 0 else -1) j) ∧ Hid (SB w wv x0 ⟨#[]⟩ 0 k) ∧ wv.cell? ⟨B, 0, none⟩ = some (.string ⟨#[116, 114, 117, 101]⟩) ∧ wv.cell? ⟨B, 1, none⟩ = some (.string ⟨#[102, 97, 108, 115, 101]⟩) ∧ wv.cell? ⟨B, 2, none⟩ = some (.string ⟨#[110, 117, 108, 108]⟩)) (fun _ i _ => 3 - (intOf i).toNat)
  case atStart => exact ⟨0, 0, -1, 0, rfl, rfl, rfl, by omega, Lib.hid ⟨rfl, rfl⟩, Lib.hid (HX.out.alloc _), (HL.out _ _ _).1, (HL.out _ _ _).2.1, (HL.out _ _ _).2.2⟩
  case round =>
    obtain ⟨z, x0, f, j, rfl, rfl, hz, hj, HXF, HX, b0, b1, b2⟩ := hrel
    have hj3 : j = 0 ∨ j = 1 ∨ j = 2 ∨ j = 3 := by omega
    clear hj
    rcases hj3 with rfl | rfl | rfl | rfl
    · obtain rfl : z = 0 := by omega
      clear hz
      obtain rfl : x0 = 0 := HXF.out.1
      obtain rfl : f = (-1) := HXF.out.2
      go_wp2_with (go_at_call 31; refine (HP0.out _).mono ?_; rintro e w2 ⟨rfl, rfl⟩)
      go_roundw
      case rel => exact ⟨1, 0, (-1), 1, by go_num, rfl, rfl, by omega, Lib.hid ⟨rfl, rfl⟩, HX, b0, b1, b2⟩
      case measure => simp [intOf]
    · obtain rfl : z = 1 := by omega
      clear hz
      obtain rfl : x0 = 0 := HXF.out.1
      obtain rfl : f = (-1) := HXF.out.2
      go_wp2_with (go_at_call 31; refine (HP1.out _).mono ?_; rintro e w2 ⟨rfl, rfl⟩)
      go_roundw
      case rel => exact ⟨2, 0, (-1), 2, by go_num, rfl, rfl, by omega, Lib.hid ⟨rfl, rfl⟩, HX, b0, b1, b2⟩
      case measure => simp [intOf]
    · obtain rfl : z = 2 := by omega
      clear hz
      obtain rfl : x0 = 0 := HXF.out.1
      obtain rfl : f = (-1) := HXF.out.2
      go_wp2_with (go_at_call 31; refine (HP2.out _).mono ?_; rintro e w2 ⟨rfl, rfl⟩)
      go_roundw
      case rel => exact ⟨3, 0, (-1), 3, by go_num, rfl, rfl, by omega, Lib.hid ⟨rfl, rfl⟩, HX, b0, b1, b2⟩
      case measure => simp [intOf]
    · obtain rfl : z = 3 := by omega
      clear hz HL HP0 HP1 HP2 b0 b1 b2
      obtain rfl : x0 = 0 := HXF.out.1
      obtain rfl : f = (-1) := HXF.out.2
      have hlt := HX.out.lt
      obtain ⟨c0, c1, c2, c3⟩ := HX.out.cells
      obtain ⟨f0, f1, f2, f3⟩ := HX.out.frozen
      obtain ⟨r0, r1, r2, r3⟩ := HX.out.1.cells
      obtain ⟨g0, g1, g2, g3⟩ := HX.out.1.frozen
      go_wp2
      refine bodyPost_ret (v := .tuple #[.agg #[.int .i64 0, .string ⟨#[]⟩, .int .i64 0, .int .i64 0], .int .i64 (-1)]) (by simp [results, Tryz.results11, go_sem, r0, r1, r2, r3]) rfl ?_
      exact signP_none H.out (sb_below0 HX.out _ _ _ _)

/-- impl.SignAt. -/
theorem iSignAt (s : ByteArray) (p : Int) (w : World) (hs : s.size ≤ 1048576) (hT : Tabs w) (hV : Cases w) (hE : Errs w) : Calls Tryz.prog 11 #[.string s, .int .i64 p] w (SignP s p w) := by
  by_cases h : 0 ≤ p ∧ p < s.size
  rotate_left
  · exact iSign_out s p w h
  obtain ⟨k, rfl⟩ := Int.eq_ofNat_of_zero_le h.1
  have hk : k < s.size := by omega
  by_cases hm : 0 ≤ markI (bt s k)
  · exact iSign_mark s k w hs hk hm
  have hm1 : markI (bt s k) = -1 := by have := mark_bd (bt s k); omega
  by_cases hq : bt s k = 34
  · cases hr : readQ s k with
    | none => exact iSign_quote_none s k w hs hk hq hT hV hr
    | some x => obtain ⟨l, e0⟩ := x; exact iSign_quote_some s k w hs hk hq hT hV l e0 hr
  by_cases hd : bt s k = 45 ∨ dgAt s k = true
  · cases hr : whoQ s k with
    | none => exact iSign_num_none s k w hs hk hd hE hr
    | some x => obtain ⟨n, e0⟩ := x; exact iSign_num_some s k w hs hk hd hE n e0 hr
  cases h0 : hasW s k (wordB 0)
  rotate_left
  · exact iSign_word0 s k w hs hk hm1 hq hd h0
  cases h1 : hasW s k (wordB 1)
  rotate_left
  · exact iSign_word1 s k w hs hk hm1 hq hd h1
  cases h2 : hasW s k (wordB 2)
  rotate_left
  · exact iSign_word2 s k w hs hk hm1 hq hd h2
  refine iSign_nothing s k w hs hk hm1 hq hd fun m hm => ?_
  rcases (show m = 0 ∨ m = 1 ∨ m = 2 by omega) with rfl | rfl | rfl
  · exact h0
  · exact h1
  · exact h2

end Go.Proofs.YtomhbbchflblpaaGreatDoor
namespace Go.Proofs.YtomhbbchflblpaaGreatDoor
open Go.RowKit

def wsBytes : ByteArray := ⟨#[32, 9, 10, 13]⟩
theorem ws_ix (c : UInt8) : decide ((0 : Int) ≤ Lib.indexByte [32, 9, 10, 13] c) = wsN c.toNat := by
  have e : ∀ d : UInt8, (c.toNat == d.toNat) = decide (d = c) := fun d => by
    rw [Bool.eq_iff_iff]; simp only [beq_iff_eq, decide_eq_true_eq]
    exact ⟨fun h => (UInt8.toNat_inj.1 h).symm, fun h => by rw [h]⟩
  by_cases h1 : c = 32
  · subst h1; decide +kernel
  by_cases h2 : c = 9
  · subst h2; decide +kernel
  by_cases h3 : c = 10
  · subst h3; decide +kernel
  by_cases h4 : c = 13
  · subst h4; decide +kernel
  have ne : ∀ d : UInt8, ¬ c = d → ¬ d = c := fun d h e => h e.symm
  have g : Lib.indexByte [32, 9, 10, 13] c = -1 := by simp [Lib.indexByte, ne _ h1, ne _ h2, ne _ h3, ne _ h4]
  rw [g]
  have k1 : ¬ c.toNat = 32 := fun h => h1 (UInt8.toNat_inj.1 h)
  have k2 : ¬ c.toNat = 9 := fun h => h2 (UInt8.toNat_inj.1 h)
  have k3 : ¬ c.toNat = 10 := fun h => h3 (UInt8.toNat_inj.1 h)
  have k4 : ¬ c.toNat = 13 := fun h => h4 (UInt8.toNat_inj.1 h)
  simp [wsN, k1, k2, k3, k4]
theorem iWs (c : UInt8) (w0 : World) : Calls Tryz.prog 25 #[.string ⟨#[32, 9, 10, 13]⟩, .int .u8 (c.toNat : Int)] w0 fun e w' => e = .returned (.int .i64 (Lib.indexByte [32, 9, 10, 13] c)) ∧ w0 = w' := by
  have := Tryz.strings_IndexByte ⟨#[32, 9, 10, 13]⟩ (c.toNat : Int) w0
  refine this.mono fun e w' ⟨h1, h2⟩ => ⟨by simpa using h1, h2.symm⟩

set_option maxRecDepth 100000 in
set_option maxHeartbeats 4000000 in
theorem iSignsOf (s : ByteArray) (w : World) (hs : s.size ≤ 1048576) (hT : Tabs w) (hV : Cases w) (hE : Errs w) : Calls Tryz.prog 8 #[.string s] w (SgsV s w) := by
  have HZ := Lib.hid (ZF.new w)
  have HC := Lib.hid (fun w0 (hb : Below w.heap.size w w0) => iFault s w0 hs (tabs_keep hT hb))
  have HSA := Lib.hid (fun (k : Nat) w0 (hb : Below w.heap.size w w0) => iSignAt s k w0 hs (tabs_keep hT hb) (cases_keep hV hb) (errs_keep hE hb))
  clear hT hV hE
  rcases ft_code (s := s) with ⟨h0, hft⟩ | ⟨h1, h2, x, hft⟩
  rotate_left
  · obtain ⟨c, p⟩ := x
    have H := Lib.hid (sgs_fault hft)
    rw [hft] at HC h1 h2
    have h1 : (0 : Int) < c := h1
    have hc : (c == 0) = false := by rw [beq_eq_false_iff_ne]; omega
    have hc2 : (c != 0) = true := by rw [bne, hc]; rfl
    have HC2 : Hid (∀ w0, Below w.heap.size w w0 → Calls Tryz.prog 24 #[.string s] w0 fun e w' => e = .returned (.agg #[.int .i64 c, .int .i64 p, .string ⟨#[]⟩]) ∧ Below w0.heap.size w0 w') := Lib.hid (fun w0 hb => HC.out w0 hb)
    clear HC h1 h2 hft HSA
    go_enter Tryz.func8, Tryz.ntmps8
    go_wp2_with fail
    refine (HC2.out _ HZ.out.2).mono ?_; rintro e w1 ⟨rfl, hb1⟩
    have HZ1 := Lib.hid (HZ.out.keep hb1)
    have HZ2 := Lib.hid (HZ1.out.keep (rowAlloc w1 (.cells #[.int .i64 c, .int .i64 p, .string ⟨#[]⟩] 32)))
    obtain ⟨r0, r1, r2⟩ := HZ2.out.cells
    obtain ⟨g0, g1, g2⟩ := HZ2.out.frozen
    go_wp2_with fail
    go_region
    all_goals
      go_wp2
      refine bodyPost_ret (v := .tuple #[.slice none 0 0, .agg #[.int .i64 c, .int .i64 p, .string ⟨#[]⟩]]) (by first | (simp [results, Tryz.results8, go_sem]; done) | simp [results, Tryz.results8, go_sem, r0, r1, r2]) rfl ?_
      exact sgs_no _ _ H.out (by repeat (first | exact (by first | exact HZ2.out.2 | exact Below.refl _ _) | (refine Below.alloc ?_ (by first | omega | (simp; done) | (simp; omega)) _) | (refine Below.setCell ?_ (by first | omega | (simp; done) | (simp; omega)) _) | (refine Below.drew ?_) | (refine below_drewN ?_ _)))
  · have HFB := Lib.hid (fun k h => sgs_bad (k := k) hft h)
    have HFG := Lib.hid (fun L h => sgs_good (L := L) hft h)
    have HLS := Lib.hid (tgAt_start s)
    rw [hft] at HC
    have HC2 : Hid (∀ w0, Below w.heap.size w w0 → Calls Tryz.prog 24 #[.string s] w0 fun e w' => e = .returned (.agg #[.int .i64 0, .int .i64 0, .string ⟨#[]⟩]) ∧ Below w0.heap.size w0 w') := Lib.hid (fun w0 hb => HC.out w0 hb)
    generalize toksR s = R at HLS HFB HFG
    clear HC h0 hft
    go_enter Tryz.func8, Tryz.ntmps8
    go_wp2_with fail
    refine (HC2.out _ HZ.out.2).mono ?_; rintro e w1 ⟨rfl, hb1⟩
    have HZ0 := Lib.hid (HZ.out.keep hb1)
    have HZ1 := Lib.hid (HZ0.out.keep (rowAlloc w1 (.cells #[.int .i64 0, .int .i64 0, .string ⟨#[]⟩] 32)))
    have HR0 := Lib.hid (RowB.start 37 4 (w1.alloc (.cells #[.int .i64 0, .int .i64 0, .string ⟨#[]⟩] 32)) #[] rfl)
    have HSZ := Lib.hid (show w1.heap.size + 1 = (w1.alloc (.cells #[.int .i64 0, .int .i64 0, .string ⟨#[]⟩] 32)).heap.size from (World.size_alloc ..).symm)
    clear hb1 HZ HZ0
    go_wp2_with fail
    generalize w1.alloc (.cells #[.int .i64 0, .int .i64 0, .string ⟨#[]⟩] 32) = wf at HZ1 HR0 HSZ ⊢
    have HLW := Lib.hid HZ1.out.lt
    go_loopw [5, 6] (fun v i wr => ∃ (k : Nat) (acc : List (Sg × Nat)), k ≤ s.size ∧ acc.length ≤ k ∧ i = .int .i64 k ∧ Hid (RowB 37 4 wf wr v acc.length (cellsSign acc)) ∧ Hid (TgAt s R k acc)) (fun _ i _ => s.size - (intOf i).toNat)
    case atStart => exact ⟨0, [], by omega, by simp, rfl, by rw [HSZ.out]; exact HR0, HLS⟩
    case round =>
      obtain ⟨k, acc, hk, hak, rfl, HR, HTG⟩ := hrel
      by_cases hlt : k < s.size
      rotate_left
      · have H := Lib.hid (HFG.out acc (tgAt_end HTG.out (by omega)))
        have HZ := Lib.hid (HZ1.out.keep HR.out.bel)
        obtain ⟨r0, r1, r2⟩ := HZ.out.cells
        obtain ⟨g0, g1, g2⟩ := HZ.out.frozen
        go_wp2
        refine bodyPost_ret (v := .tuple #[u5, .agg #[.int .i64 0, .int .i64 0, .string ⟨#[]⟩]]) (by first | (simp [results, Tryz.results8, go_sem]; done) | simp [results, Tryz.results8, go_sem, r0, r1, r2]) rfl ?_
        exact sgs_yes H.out (RowB.past2 (b := w.heap.size) HR.out HZ1.out.2 (Nat.le_refl _) HLW.out (by repeat (first | exact Apart.refl _ _ | refine Apart.setCell ?_ (by simp) _)))
      have hbt := bt_eq s k hlt
      have HIX := Lib.hid (fun w0 => iWs s[k] w0)
      have hdx := ws_ix s[k]
      rw [← hbt] at hdx
      generalize Lib.indexByte [32, 9, 10, 13] s[k] = ix at HIX hdx
      cases hw : wsN (bt s k)
      rotate_left
      · have HN := Lib.hid (tgAt_ws HTG.out hlt hw)
        rw [hw] at hdx
        clear hw hbt
        go_wp2_with (go_at_call 25; refine (HIX.out _).mono ?_; rintro e w2 ⟨rfl, rfl⟩)
        go_roundw
        case rel => exact ⟨k + 1, acc, by omega, by omega, by go_num, HR, HN⟩
        case measure => simp [intOf]; omega
      have HBW := Lib.hid (bnext HZ1.out.2 HR.out.bel)
      cases hsg : signO s k with
      | none =>
        have HCS : Hid (∀ w0, Below w.heap.size w w0 → Calls Tryz.prog 11 #[.string s, .int .i64 (k : Int)] w0 fun e w' => e = .returned (.tuple #[.agg #[.int .i64 0, .string ⟨#[]⟩, .int .i64 0, .int .i64 0], .int .i64 (-1)]) ∧ Below w0.heap.size w0 w') := Lib.hid (fun w0 hb => (HSA.out k w0 hb).mono fun _ _ => sgn_none hlt hsg)
        have H := Lib.hid (HFB.out k (tgAt_bad HTG.out hlt hw hsg))
        rw [hw] at hdx
        clear hw hbt hsg HTG
        go_wp2_with (go_at_call 25; refine (HIX.out _).mono ?_; rintro e w2 ⟨rfl, rfl⟩)
        refine (HCS.out _ HBW.out).mono ?_; rintro e w4 ⟨rfl, hb4⟩
        have HZ := Lib.hid (((HZ1.out.keep HR.out.bel).keep hb4).keep (rowAlloc w4 (.cells #[.int .i64 0, .string ⟨#[]⟩, .int .i64 0, .int .i64 0] 37)))
        obtain ⟨r0, r1, r2⟩ := HZ.out.cells
        obtain ⟨g0, g1, g2⟩ := HZ.out.frozen
        clear hb4
        go_wp2
        refine bodyPost_ret (v := .tuple #[.slice none 0 0, .agg #[.int .i64 3, .int .i64 (k : Int), .string ⟨#[]⟩]]) (by first | (simp [results, Tryz.results8, go_sem]; done) | simp [results, Tryz.results8, go_sem, r0, r1, r2]) rfl ?_
        exact sgs_no _ _ H.out (by repeat (first | exact (by first | exact HZ.out.2 | exact Below.refl _ _) | (refine Below.alloc ?_ (by first | omega | (simp; done) | (simp; omega)) _) | (refine Below.setCell ?_ (by first | omega | (simp; done) | (simp; omega)) _) | (refine Below.drew ?_) | (refine below_drewN ?_ _)))
      | some x =>
        have HCS : Hid (∀ w0, Below w.heap.size w w0 → Calls Tryz.prog 11 #[.string s, .int .i64 (k : Int)] w0 fun e w' => e = .returned (.tuple #[.agg #[.int .i64 x.kind, .string x.text, .int .i64 x.num, .int .i64 (k : Int)], .int .i64 (x.fin : Int)]) ∧ Below w0.heap.size w0 w') := Lib.hid (fun w0 hb => (HSA.out k w0 hb).mono fun _ _ => sgn_some hlt hsg)
        have hfin := sign_fin hlt hsg
        have HN := Lib.hid (tgAt_step HTG.out hlt hw hsg)
        have hdf : decide ((x.fin : Int) < 0) = false := decide_eq_false (by omega)
        rw [hw] at hdx
        clear hw hbt hsg HTG
        go_wp2_with (go_at_call 25; refine (HIX.out _).mono ?_; rintro e w2 ⟨rfl, rfl⟩)
        refine (HCS.out _ HBW.out).mono ?_; rintro e w4 ⟨rfl, hb4⟩
        have HR4 := Lib.hid ((HR.out.keep hb4).alloc (.cells #[.int .i64 x.kind, .string x.text, .int .i64 x.num, .int .i64 (k : Int)] 37))
        clear hb4 HR HBW
        go_wp2_with (at_builtin; refine wpList_row Tryz.elSign (by rfl) _ _ (by rfl) _ _ _ [.int .i64 x.kind, .string x.text, .int .i64 x.num, .int .i64 (k : Int)] wf _ (by rfl) HR4.out _ 1 1 (by rfl) rfl (by simp [Value.oneCell']) (by first | rfl | (rw [World.size_alloc]; rfl) | (simp only [World.size_alloc]; rfl)) (by omega) ?_; intro v' w' hrow')
        go_roundw
        case rel => exact ⟨x.fin, acc ++ [(x, k)], by omega, by simp; omega, by go_num, Lib.hid (by rw [cellsSign_snoc, List.length_append]; exact hrow'), HN⟩
        case measure => simp [intOf]; omega

end Go.Proofs.YtomhbbchflblpaaGreatDoor
namespace Go.Proofs.YtomhbbchflblpaaGreatDoor
open Go.RowKit

end Go.Proofs.YtomhbbchflblpaaGreatDoor
