/- spec.SignAt: the contract (printed by wip/gen/signgen.py). -/
import Derived.Test.YtpcojfcbomkgpaaDoorSignP
import Derived.Test.YtpcojfcbomkgpaaDoorWhoU
import Derived.Test.YtpcojfcbomkgpaaDoorRqR
import Derived.Test.YtpcojfcbomkgpaaDoorZero
import Derived.Deep.QuietTactic
import Derived.BigQuiet
import Derived.RegionTactic
namespace Go.Proofs.YtpcojfcbomkgpaaDoor
open Go.RowKit

theorem sWord (s : ByteArray) (k : Nat) (W : ByteArray) (w : World) (hk : k ≤ 1048576) (hW : W.size ≤ 5) (_hs : s.size ≤ 1048576) :
    Calls Tryd.prog 72 #[.string s, .int .i64 k, .string W] w fun e w' => e = .returned (.bool (hasW s k W)) ∧ w = w' := by
  have HH : Hid (hasW s k W = (decide (k + W.size ≤ s.size) && ((s.extract k (k + W.size)).toList == W.toList))) := rfl
  by_cases h : k + W.size ≤ s.size
  · have h1 : (k : Int) + (W.size : Int) ≤ (s.size : Int) := by omega
    have h2 : decide ((k : Int) + (W.size : Int) ≤ (s.size : Int)) = true := decide_eq_true h1
    go_enter Tryd.func72, Tryd.ntmps72
    go_wp2
    go_ret
    exact ⟨ret_bool (by rw [HH.out, decide_eq_true h]; simp), rfl⟩
  · have h2 : decide ((k : Int) + (W.size : Int) ≤ (s.size : Int)) = false := decide_eq_false (by omega)
    go_enter Tryd.func72, Tryd.ntmps72
    go_wp2
    go_ret
    exact ⟨ret_bool (by rw [HH.out, decide_eq_false h]; rfl), rfl⟩
theorem below_n {p : Nat → Prop} {k : Nat} (h : ∀ m, m < k → p m) (hk : p k) : ∀ m, m < k + 1 → p m := fun m hm => by
  rcases Nat.lt_or_ge m k with g | g
  · exact h m g
  · obtain rfl : m = k := by omega
    exact hk
theorem mark_miss {s : ByteArray} {k j b : Nat} {c : UInt8} (hB : bt s k = c.toNat) (hj : bt markB j = b) (hc : ((b : Int) == (c.toNat : Int)) = false) : bt markB j ≠ bt s k := by
  rw [hB, hj]; intro e
  rw [beq_eq_false_iff_ne] at hc
  exact hc (by rw [e])
theorem mark_hit {s : ByteArray} {k j b : Nat} {c : UInt8} (hB : bt s k = c.toNat) (hj : bt markB j = b) (hc : ((b : Int) == (c.toNat : Int)) = true) : bt markB j = bt s k := by
  rw [hB, hj]
  rw [beq_iff_eq] at hc
  omega
theorem word_0 {s : ByteArray} {k : Nat} (h : hasW s k (wordB 0) = true) : wordO s k = some ⟨9, emptyB, 0, k + 4⟩ := if_pos h
theorem word_1 {s : ByteArray} {k : Nat} (h : ∀ m, m < 1 → hasW s k (wordB m) = false) (h1 : hasW s k (wordB 1) = true) : wordO s k = some ⟨10, emptyB, 0, k + 5⟩ := by
  rw [wordO, h 0 (by omega), h1]; rfl
theorem word_2 {s : ByteArray} {k : Nat} (h : ∀ m, m < 2 → hasW s k (wordB m) = false) (h1 : hasW s k (wordB 2) = true) : wordO s k = some ⟨11, emptyB, 0, k + 4⟩ := by
  rw [wordO, h 0 (by omega), h 1 (by omega), h1]; rfl
theorem word_no {s : ByteArray} {k : Nat} (h : ∀ m, m < 3 → hasW s k (wordB m) = false) : wordO s k = none := by
  rw [wordO, h 0 (by omega), h 1 (by omega), h 2 (by omega)]; rfl

set_option maxRecDepth 100000 in
set_option maxHeartbeats 4000000 in
theorem sSignAt (s : ByteArray) (p : Int) (w : World) (hs : s.size ≤ 1048576) : Calls Tryd.prog 13 #[.string s, .int .i64 p] w (SignP s p w) := by
  have HZ := Lib.hid (ZS.new w)
  cases hbt : betweenB p 0 ((s.size : Int) - 1)
  · have H := Lib.hid (sign_out (s := s) (p := p) (by simp [betweenB] at hbt; omega))
    go_enter Tryd.func13, Tryd.ntmps13
    obtain ⟨r0, r1, r2, r3⟩ := HZ.out.cells
    obtain ⟨g0, g1, g2, g3⟩ := HZ.out.frozen
    go_wp2_with (go_at_call 71; refine (l01In_any _ _ _ _).mono ?_; rintro e w' ⟨rfl, rfl⟩)
    refine bodyPost_ret (v := .tuple #[.agg #[.int .i64 0, .string ⟨#[]⟩, .int .i64 0, .int .i64 0], .int .i64 (-1)]) (by simp [results, Tryd.results13, go_sem]) rfl ?_
    exact signP_none H.out ((Below.refl _ _).alloc (Nat.le_refl _) _)
  have hr : 0 ≤ p ∧ p < s.size := by simp [betweenB] at hbt; omega
  obtain ⟨k, rfl⟩ := Int.eq_ofNat_of_zero_le hr.1
  have hk : k < s.size := by omega
  clear hr
  have HBT := Lib.hid (bt_eq s k hk)
  go_enter Tryd.func13, Tryd.ntmps13
  go_wp2_with (go_at_call 71; refine (l01In_any _ _ _ _).mono ?_; rintro e w' ⟨rfl, rfl⟩)
  clear hbt
  go_loopw [7] (fun i wr => ∃ (z : Int) (j : Nat), i = .int .i64 z ∧ z = j ∧ j ≤ 6 ∧ Hid (ZS w wr) ∧ Hid (∀ m, m < j → bt markB m ≠ bt s k)) (fun i _ => 6 - (intOf i).toNat)
  case atStart => exact ⟨0, 0, rfl, rfl, by omega, HZ, Lib.hid (fun m hm => by omega)⟩
  case round =>
    obtain ⟨z, j, rfl, hz, hj, HZ, HM⟩ := hrel
    have hj6 : j = 0 ∨ j = 1 ∨ j = 2 ∨ j = 3 ∨ j = 4 ∨ j = 5 ∨ j = 6 := by omega
    clear hj
    rcases hj6 with rfl | rfl | rfl | rfl | rfl | rfl | rfl
    · obtain rfl : z = 0 := by omega
      clear hz
      cases hc : ((123 : Int) == (s[k].toNat : Int))
      · have HM2 := Lib.hid (below_n HM.out (mark_miss (j := 0) (b := 123) HBT.out rfl hc))
        have hc2 : ((((⟨#[123, 125, 91, 93, 58, 44]⟩ : ByteArray)[0]'(by decide)).toNat : Int) == (s[k].toNat : Int)) = false := hc
        go_wp2
        go_quiet (fail)
        have HZ := Lib.hid (HZ.out.keep ((Drew.refl _).more nq).below)
        go_wp2
        go_roundw
        case rel => exact ⟨1, 1, by go_num, rfl, by omega, HZ, HM2⟩
        case measure => simp [intOf]
      · have H := Lib.hid (sign_mark (j := 0) hk (by omega) (mark_hit (b := 123) HBT.out rfl hc))
        have hc2 : ((((⟨#[123, 125, 91, 93, 58, 44]⟩ : ByteArray)[0]'(by decide)).toNat : Int) == (s[k].toNat : Int)) = true := hc
        clear HM
        go_wp2
        go_quiet (fail)
        have HZ := Lib.hid (HZ.out.keep ((Drew.refl _).more nq).below)
        obtain ⟨r0, r1, r2, r3⟩ := HZ.out.cells
        obtain ⟨g0, g1, g2, g3⟩ := HZ.out.frozen
        go_wp2
        refine bodyPost_ret (v := .tuple #[.agg #[.int .i64 1, .string ⟨#[]⟩, .int .i64 0, .int .i64 k], .int .i64 ((k : Int) + 1)]) (by simp [results, Tryd.results13, go_sem, HZ.out.cells]) rfl ?_
        exact signP_some H.out ((((HZ.out.2.setCell (p := ⟨w.heap.size, 0, none⟩) (Nat.le_refl _) _).setCell (p := ⟨w.heap.size, 1, none⟩) (Nat.le_refl _) _).setCell (p := ⟨w.heap.size, 2, none⟩) (Nat.le_refl _) _).setCell (p := ⟨w.heap.size, 3, none⟩) (Nat.le_refl _) _) (by rfl) rfl rfl (by rfl)
    · obtain rfl : z = 1 := by omega
      clear hz
      cases hc : ((125 : Int) == (s[k].toNat : Int))
      · have HM2 := Lib.hid (below_n HM.out (mark_miss (j := 1) (b := 125) HBT.out rfl hc))
        have hc2 : ((((⟨#[123, 125, 91, 93, 58, 44]⟩ : ByteArray)[1]'(by decide)).toNat : Int) == (s[k].toNat : Int)) = false := hc
        go_wp2
        go_quiet (fail)
        have HZ := Lib.hid (HZ.out.keep ((Drew.refl _).more nq).below)
        go_wp2
        go_roundw
        case rel => exact ⟨2, 2, by go_num, rfl, by omega, HZ, HM2⟩
        case measure => simp [intOf]
      · have H := Lib.hid (sign_mark (j := 1) hk (by omega) (mark_hit (b := 125) HBT.out rfl hc))
        have hc2 : ((((⟨#[123, 125, 91, 93, 58, 44]⟩ : ByteArray)[1]'(by decide)).toNat : Int) == (s[k].toNat : Int)) = true := hc
        clear HM
        go_wp2
        go_quiet (fail)
        have HZ := Lib.hid (HZ.out.keep ((Drew.refl _).more nq).below)
        obtain ⟨r0, r1, r2, r3⟩ := HZ.out.cells
        obtain ⟨g0, g1, g2, g3⟩ := HZ.out.frozen
        go_wp2
        refine bodyPost_ret (v := .tuple #[.agg #[.int .i64 2, .string ⟨#[]⟩, .int .i64 0, .int .i64 k], .int .i64 ((k : Int) + 1)]) (by simp [results, Tryd.results13, go_sem, HZ.out.cells]) rfl ?_
        exact signP_some H.out ((((HZ.out.2.setCell (p := ⟨w.heap.size, 0, none⟩) (Nat.le_refl _) _).setCell (p := ⟨w.heap.size, 1, none⟩) (Nat.le_refl _) _).setCell (p := ⟨w.heap.size, 2, none⟩) (Nat.le_refl _) _).setCell (p := ⟨w.heap.size, 3, none⟩) (Nat.le_refl _) _) (by rfl) rfl rfl (by rfl)
    · obtain rfl : z = 2 := by omega
      clear hz
      cases hc : ((91 : Int) == (s[k].toNat : Int))
      · have HM2 := Lib.hid (below_n HM.out (mark_miss (j := 2) (b := 91) HBT.out rfl hc))
        have hc2 : ((((⟨#[123, 125, 91, 93, 58, 44]⟩ : ByteArray)[2]'(by decide)).toNat : Int) == (s[k].toNat : Int)) = false := hc
        go_wp2
        go_quiet (fail)
        have HZ := Lib.hid (HZ.out.keep ((Drew.refl _).more nq).below)
        go_wp2
        go_roundw
        case rel => exact ⟨3, 3, by go_num, rfl, by omega, HZ, HM2⟩
        case measure => simp [intOf]
      · have H := Lib.hid (sign_mark (j := 2) hk (by omega) (mark_hit (b := 91) HBT.out rfl hc))
        have hc2 : ((((⟨#[123, 125, 91, 93, 58, 44]⟩ : ByteArray)[2]'(by decide)).toNat : Int) == (s[k].toNat : Int)) = true := hc
        clear HM
        go_wp2
        go_quiet (fail)
        have HZ := Lib.hid (HZ.out.keep ((Drew.refl _).more nq).below)
        obtain ⟨r0, r1, r2, r3⟩ := HZ.out.cells
        obtain ⟨g0, g1, g2, g3⟩ := HZ.out.frozen
        go_wp2
        refine bodyPost_ret (v := .tuple #[.agg #[.int .i64 3, .string ⟨#[]⟩, .int .i64 0, .int .i64 k], .int .i64 ((k : Int) + 1)]) (by simp [results, Tryd.results13, go_sem, HZ.out.cells]) rfl ?_
        exact signP_some H.out ((((HZ.out.2.setCell (p := ⟨w.heap.size, 0, none⟩) (Nat.le_refl _) _).setCell (p := ⟨w.heap.size, 1, none⟩) (Nat.le_refl _) _).setCell (p := ⟨w.heap.size, 2, none⟩) (Nat.le_refl _) _).setCell (p := ⟨w.heap.size, 3, none⟩) (Nat.le_refl _) _) (by rfl) rfl rfl (by rfl)
    · obtain rfl : z = 3 := by omega
      clear hz
      cases hc : ((93 : Int) == (s[k].toNat : Int))
      · have HM2 := Lib.hid (below_n HM.out (mark_miss (j := 3) (b := 93) HBT.out rfl hc))
        have hc2 : ((((⟨#[123, 125, 91, 93, 58, 44]⟩ : ByteArray)[3]'(by decide)).toNat : Int) == (s[k].toNat : Int)) = false := hc
        go_wp2
        go_quiet (fail)
        have HZ := Lib.hid (HZ.out.keep ((Drew.refl _).more nq).below)
        go_wp2
        go_roundw
        case rel => exact ⟨4, 4, by go_num, rfl, by omega, HZ, HM2⟩
        case measure => simp [intOf]
      · have H := Lib.hid (sign_mark (j := 3) hk (by omega) (mark_hit (b := 93) HBT.out rfl hc))
        have hc2 : ((((⟨#[123, 125, 91, 93, 58, 44]⟩ : ByteArray)[3]'(by decide)).toNat : Int) == (s[k].toNat : Int)) = true := hc
        clear HM
        go_wp2
        go_quiet (fail)
        have HZ := Lib.hid (HZ.out.keep ((Drew.refl _).more nq).below)
        obtain ⟨r0, r1, r2, r3⟩ := HZ.out.cells
        obtain ⟨g0, g1, g2, g3⟩ := HZ.out.frozen
        go_wp2
        refine bodyPost_ret (v := .tuple #[.agg #[.int .i64 4, .string ⟨#[]⟩, .int .i64 0, .int .i64 k], .int .i64 ((k : Int) + 1)]) (by simp [results, Tryd.results13, go_sem, HZ.out.cells]) rfl ?_
        exact signP_some H.out ((((HZ.out.2.setCell (p := ⟨w.heap.size, 0, none⟩) (Nat.le_refl _) _).setCell (p := ⟨w.heap.size, 1, none⟩) (Nat.le_refl _) _).setCell (p := ⟨w.heap.size, 2, none⟩) (Nat.le_refl _) _).setCell (p := ⟨w.heap.size, 3, none⟩) (Nat.le_refl _) _) (by rfl) rfl rfl (by rfl)
    · obtain rfl : z = 4 := by omega
      clear hz
      cases hc : ((58 : Int) == (s[k].toNat : Int))
      · have HM2 := Lib.hid (below_n HM.out (mark_miss (j := 4) (b := 58) HBT.out rfl hc))
        have hc2 : ((((⟨#[123, 125, 91, 93, 58, 44]⟩ : ByteArray)[4]'(by decide)).toNat : Int) == (s[k].toNat : Int)) = false := hc
        go_wp2
        go_quiet (fail)
        have HZ := Lib.hid (HZ.out.keep ((Drew.refl _).more nq).below)
        go_wp2
        go_roundw
        case rel => exact ⟨5, 5, by go_num, rfl, by omega, HZ, HM2⟩
        case measure => simp [intOf]
      · have H := Lib.hid (sign_mark (j := 4) hk (by omega) (mark_hit (b := 58) HBT.out rfl hc))
        have hc2 : ((((⟨#[123, 125, 91, 93, 58, 44]⟩ : ByteArray)[4]'(by decide)).toNat : Int) == (s[k].toNat : Int)) = true := hc
        clear HM
        go_wp2
        go_quiet (fail)
        have HZ := Lib.hid (HZ.out.keep ((Drew.refl _).more nq).below)
        obtain ⟨r0, r1, r2, r3⟩ := HZ.out.cells
        obtain ⟨g0, g1, g2, g3⟩ := HZ.out.frozen
        go_wp2
        refine bodyPost_ret (v := .tuple #[.agg #[.int .i64 5, .string ⟨#[]⟩, .int .i64 0, .int .i64 k], .int .i64 ((k : Int) + 1)]) (by simp [results, Tryd.results13, go_sem, HZ.out.cells]) rfl ?_
        exact signP_some H.out ((((HZ.out.2.setCell (p := ⟨w.heap.size, 0, none⟩) (Nat.le_refl _) _).setCell (p := ⟨w.heap.size, 1, none⟩) (Nat.le_refl _) _).setCell (p := ⟨w.heap.size, 2, none⟩) (Nat.le_refl _) _).setCell (p := ⟨w.heap.size, 3, none⟩) (Nat.le_refl _) _) (by rfl) rfl rfl (by rfl)
    · obtain rfl : z = 5 := by omega
      clear hz
      cases hc : ((44 : Int) == (s[k].toNat : Int))
      · have HM2 := Lib.hid (below_n HM.out (mark_miss (j := 5) (b := 44) HBT.out rfl hc))
        have hc2 : ((((⟨#[123, 125, 91, 93, 58, 44]⟩ : ByteArray)[5]'(by decide)).toNat : Int) == (s[k].toNat : Int)) = false := hc
        go_wp2
        go_quiet (fail)
        have HZ := Lib.hid (HZ.out.keep ((Drew.refl _).more nq).below)
        go_wp2
        go_roundw
        case rel => exact ⟨6, 6, by go_num, rfl, by omega, HZ, HM2⟩
        case measure => simp [intOf]
      · have H := Lib.hid (sign_mark (j := 5) hk (by omega) (mark_hit (b := 44) HBT.out rfl hc))
        have hc2 : ((((⟨#[123, 125, 91, 93, 58, 44]⟩ : ByteArray)[5]'(by decide)).toNat : Int) == (s[k].toNat : Int)) = true := hc
        clear HM
        go_wp2
        go_quiet (fail)
        have HZ := Lib.hid (HZ.out.keep ((Drew.refl _).more nq).below)
        obtain ⟨r0, r1, r2, r3⟩ := HZ.out.cells
        obtain ⟨g0, g1, g2, g3⟩ := HZ.out.frozen
        go_wp2
        refine bodyPost_ret (v := .tuple #[.agg #[.int .i64 6, .string ⟨#[]⟩, .int .i64 0, .int .i64 k], .int .i64 ((k : Int) + 1)]) (by simp [results, Tryd.results13, go_sem, HZ.out.cells]) rfl ?_
        exact signP_some H.out ((((HZ.out.2.setCell (p := ⟨w.heap.size, 0, none⟩) (Nat.le_refl _) _).setCell (p := ⟨w.heap.size, 1, none⟩) (Nat.le_refl _) _).setCell (p := ⟨w.heap.size, 2, none⟩) (Nat.le_refl _) _).setCell (p := ⟨w.heap.size, 3, none⟩) (Nat.le_refl _) _) (by rfl) rfl rfl (by rfl)
    · obtain rfl : z = 6 := by omega
      clear hz
      have HW0 := Lib.hid (fun w0 => sWord s k (wordB 0) w0 (by omega) (by decide) hs)
      have HW1 := Lib.hid (fun w0 => sWord s k (wordB 1) w0 (by omega) (by decide) hs)
      have HW2 := Lib.hid (fun w0 => sWord s k (wordB 2) w0 (by omega) (by decide) hs)
      have z0 : wordB 0 = ⟨#[116, 114, 117, 101]⟩ := rfl
      have z1 : wordB 1 = ⟨#[102, 97, 108, 115, 101]⟩ := rfl
      have z2 : wordB 2 = ⟨#[110, 117, 108, 108]⟩ := rfl
      have HH0 : Hid (∀ m, m < 0 → hasW s k (wordB m) = false) := Lib.hid (fun m hm => by omega)
      have HH := Lib.hid (fun b => (show wr.heap.size = b → True from fun _ => trivial)); clear HH
      obtain ⟨B, hB⟩ : ∃ B, B = wr.heap.size := ⟨_, rfl⟩
      have hBlt : w.heap.size < B := by rw [hB]; exact HZ.out.lt
      have HL := Lib.hid (show ∀ v0 v1 v2 : Value, (wr.alloc (.cells #[v0, v1, v2] 9)).cell? ⟨B, 0, none⟩ = some v0 ∧ (wr.alloc (.cells #[v0, v1, v2] 9)).cell? ⟨B, 1, none⟩ = some v1 ∧ (wr.alloc (.cells #[v0, v1, v2] 9)).cell? ⟨B, 2, none⟩ = some v2 from fun v0 v1 v2 => by clear hBlt; subst hB; exact ⟨by go_simp, by go_simp, by go_simp⟩)
      go_wp2
      rw [← hB]
      clear hB
      go_loopw [9] (fun i wv => ∃ (z : Int) (j : Nat), i = .int .i64 z ∧ z = j ∧ j ≤ 3 ∧ Hid (ZS w wv) ∧ Hid (∀ m, m < j → hasW s k (wordB m) = false) ∧ wv.cell? ⟨B, 0, none⟩ = some (.string ⟨#[116, 114, 117, 101]⟩) ∧ wv.cell? ⟨B, 1, none⟩ = some (.string ⟨#[102, 97, 108, 115, 101]⟩) ∧ wv.cell? ⟨B, 2, none⟩ = some (.string ⟨#[110, 117, 108, 108]⟩)) (fun i _ => 3 - (intOf i).toNat)
      case atStart => exact ⟨0, 0, rfl, rfl, by omega, Lib.hid (HZ.out.keep ((Below.refl _ _).alloc (Nat.le_refl _) _)), HH0, (HL.out _ _ _).1, (HL.out _ _ _).2.1, (HL.out _ _ _).2.2⟩
      case round =>
        obtain ⟨z, j, rfl, hz, hj, HZ, HW, b0, b1, b2⟩ := hrel
        have hj3 : j = 0 ∨ j = 1 ∨ j = 2 ∨ j = 3 := by omega
        clear hj
        rcases hj3 with rfl | rfl | rfl | rfl
        · obtain rfl : z = 0 := by omega
          clear hz
          cases hc : hasW s k (wordB 0)
          · have HW' := Lib.hid (below_n (p := fun m => hasW s k (wordB m) = false) HW.out hc)
            rw [hc, z0] at HW0
            clear hc
            go_wp2_with (go_at_call 72; refine (HW0.out _).mono ?_; rintro e w2 ⟨rfl, rfl⟩)
            go_roundw
            case rel => exact ⟨1, 1, by go_num, rfl, by omega, HZ, HW', b0, b1, b2⟩
            case measure => simp [intOf]
          · have H := Lib.hid (sign_word hk (word_0 hc))
            rw [hc, z0] at HW0
            clear hc
            obtain ⟨r0, r1, r2, r3⟩ := HZ.out.cells
            obtain ⟨g0, g1, g2, g3⟩ := HZ.out.frozen
            go_wp2_with (go_at_call 72; refine (HW0.out _).mono ?_; rintro e w2 ⟨rfl, rfl⟩)
            go_region
            all_goals
              go_wp2
              refine bodyPost_ret (v := .tuple #[.agg #[.int .i64 9, .string ⟨#[]⟩, .int .i64 0, .int .i64 k], .int .i64 ((k : Int) + 4)]) (by simp [results, Tryd.results13, go_sem, HZ.out.cells]) rfl ?_
              exact signP_some H.out (by (repeat (with_reducible refine Below.drew ?_)); exact ((((HZ.out.2.setCell (p := ⟨w.heap.size, 0, none⟩) (Nat.le_refl _) _).setCell (p := ⟨w.heap.size, 1, none⟩) (Nat.le_refl _) _).setCell (p := ⟨w.heap.size, 2, none⟩) (Nat.le_refl _) _).setCell (p := ⟨w.heap.size, 3, none⟩) (Nat.le_refl _) _)) (by rfl) rfl rfl (by rfl)
        · obtain rfl : z = 1 := by omega
          clear hz
          cases hc : hasW s k (wordB 1)
          · have HW' := Lib.hid (below_n (p := fun m => hasW s k (wordB m) = false) HW.out hc)
            rw [hc, z1] at HW1
            clear hc
            go_wp2_with (go_at_call 72; refine (HW1.out _).mono ?_; rintro e w2 ⟨rfl, rfl⟩)
            go_roundw
            case rel => exact ⟨2, 2, by go_num, rfl, by omega, HZ, HW', b0, b1, b2⟩
            case measure => simp [intOf]
          · have H := Lib.hid (sign_word hk (word_1 HW.out hc))
            rw [hc, z1] at HW1
            clear hc
            obtain ⟨r0, r1, r2, r3⟩ := HZ.out.cells
            obtain ⟨g0, g1, g2, g3⟩ := HZ.out.frozen
            go_wp2_with (go_at_call 72; refine (HW1.out _).mono ?_; rintro e w2 ⟨rfl, rfl⟩)
            go_region
            all_goals
              go_wp2
              refine bodyPost_ret (v := .tuple #[.agg #[.int .i64 10, .string ⟨#[]⟩, .int .i64 0, .int .i64 k], .int .i64 ((k : Int) + 5)]) (by simp [results, Tryd.results13, go_sem, HZ.out.cells]) rfl ?_
              exact signP_some H.out (by (repeat (with_reducible refine Below.drew ?_)); exact ((((HZ.out.2.setCell (p := ⟨w.heap.size, 0, none⟩) (Nat.le_refl _) _).setCell (p := ⟨w.heap.size, 1, none⟩) (Nat.le_refl _) _).setCell (p := ⟨w.heap.size, 2, none⟩) (Nat.le_refl _) _).setCell (p := ⟨w.heap.size, 3, none⟩) (Nat.le_refl _) _)) (by rfl) rfl rfl (by rfl)
        · obtain rfl : z = 2 := by omega
          clear hz
          cases hc : hasW s k (wordB 2)
          · have HW' := Lib.hid (below_n (p := fun m => hasW s k (wordB m) = false) HW.out hc)
            rw [hc, z2] at HW2
            clear hc
            go_wp2_with (go_at_call 72; refine (HW2.out _).mono ?_; rintro e w2 ⟨rfl, rfl⟩)
            go_roundw
            case rel => exact ⟨3, 3, by go_num, rfl, by omega, HZ, HW', b0, b1, b2⟩
            case measure => simp [intOf]
          · have H := Lib.hid (sign_word hk (word_2 HW.out hc))
            rw [hc, z2] at HW2
            clear hc
            obtain ⟨r0, r1, r2, r3⟩ := HZ.out.cells
            obtain ⟨g0, g1, g2, g3⟩ := HZ.out.frozen
            go_wp2_with (go_at_call 72; refine (HW2.out _).mono ?_; rintro e w2 ⟨rfl, rfl⟩)
            go_region
            all_goals
              go_wp2
              refine bodyPost_ret (v := .tuple #[.agg #[.int .i64 11, .string ⟨#[]⟩, .int .i64 0, .int .i64 k], .int .i64 ((k : Int) + 4)]) (by simp [results, Tryd.results13, go_sem, HZ.out.cells]) rfl ?_
              exact signP_some H.out (by (repeat (with_reducible refine Below.drew ?_)); exact ((((HZ.out.2.setCell (p := ⟨w.heap.size, 0, none⟩) (Nat.le_refl _) _).setCell (p := ⟨w.heap.size, 1, none⟩) (Nat.le_refl _) _).setCell (p := ⟨w.heap.size, 2, none⟩) (Nat.le_refl _) _).setCell (p := ⟨w.heap.size, 3, none⟩) (Nat.le_refl _) _)) (by rfl) rfl rfl (by rfl)
        · obtain rfl : z = 3 := by omega
          clear hz HL HW0 HW1 HW2 z0 z1 z2 b0 b1 b2 HH0
          have HWN := Lib.hid (word_no HW.out)
          clear HW
          cases hq : ((s[k].toNat : Int) == 34)
          rotate_left
          · have HSQ := Lib.hid (sign_quote hk (show bt s k = 34 by rw [HBT.out]; rw [beq_iff_eq] at hq; omega))
            have HR := Lib.hid (fun w0 => sReadQuoted s k w0 hs)
            cases hr : readQ s k with
            | none =>
              have H := Lib.hid (show signQ s (k : Int) = none by rw [HSQ.out, quoteO, hr])
              rw [hr] at HR
              simp only [qText, qEnd] at HR
              clear hr
              go_wp2_with fail
              refine (HR.out _).mono ?_; rintro e w1 ⟨rfl, hb1⟩
              have HZ := Lib.hid (HZ.out.keep hb1); clear hb1
              obtain ⟨r0, r1, r2, r3⟩ := HZ.out.cells
              obtain ⟨g0, g1, g2, g3⟩ := HZ.out.frozen
              go_wp2
              refine bodyPost_ret (v := .tuple #[.agg #[.int .i64 0, .string ⟨#[]⟩, .int .i64 0, .int .i64 0], .int .i64 (-1)]) (by simp [results, Tryd.results13, go_sem, HZ.out.cells]) rfl ?_
              exact signP_none H.out ((((HZ.out.2.setCell (p := ⟨w.heap.size, 0, none⟩) (Nat.le_refl _) _).setCell (p := ⟨w.heap.size, 1, none⟩) (Nat.le_refl _) _).setCell (p := ⟨w.heap.size, 2, none⟩) (Nat.le_refl _) _).setCell (p := ⟨w.heap.size, 3, none⟩) (Nat.le_refl _) _)
            | some x =>
              obtain ⟨l, e0⟩ := x
              obtain ⟨key, hkey⟩ : ∃ key : ByteArray, key = ⟨l.toArray⟩ := ⟨_, rfl⟩
              have H := Lib.hid (show signQ s (k : Int) = some ⟨7, key, 0, e0⟩ by rw [HSQ.out, quoteO, hr, hkey])
              rw [hr] at HR
              simp only [qText, qEnd] at HR
              rw [← hkey] at HR
              have hd : decide ((e0 : Int) < 0) = false := decide_eq_false (by omega)
              clear hr hkey
              go_wp2_with fail
              refine (HR.out _).mono ?_; rintro e w1 ⟨rfl, hb1⟩
              have HZ := Lib.hid (HZ.out.keep hb1); clear hb1
              obtain ⟨r0, r1, r2, r3⟩ := HZ.out.cells
              obtain ⟨g0, g1, g2, g3⟩ := HZ.out.frozen
              go_wp2
              refine bodyPost_ret (v := .tuple #[.agg #[.int .i64 7, .string key, .int .i64 0, .int .i64 k], .int .i64 (e0 : Int)]) (by simp [results, Tryd.results13, go_sem, HZ.out.cells]) rfl ?_
              exact signP_some H.out ((((HZ.out.2.setCell (p := ⟨w.heap.size, 0, none⟩) (Nat.le_refl _) _).setCell (p := ⟨w.heap.size, 1, none⟩) (Nat.le_refl _) _).setCell (p := ⟨w.heap.size, 2, none⟩) (Nat.le_refl _) _).setCell (p := ⟨w.heap.size, 3, none⟩) (Nat.le_refl _) _) (by rfl) rfl rfl (by rfl)
          · have HSN := Lib.hid (sign_num hk HM.out HWN.out (show bt s k ≠ 34 by rw [HBT.out]; rw [beq_eq_false_iff_ne] at hq; omega))
            have HR := Lib.hid (fun w0 => sReadWhole s k w0 hs)
            cases hr : whoQ s k with
            | none =>
              have H := Lib.hid (show signQ s (k : Int) = none by rw [HSN.out, numO, hr])
              rw [hr] at HR
              simp only [whoN, whoE] at HR
              clear hr
              go_wp2_with fail
              refine (HR.out _).mono ?_; rintro e w1 ⟨rfl, hb1⟩
              have HZ := Lib.hid (HZ.out.keep hb1); clear hb1
              obtain ⟨r0, r1, r2, r3⟩ := HZ.out.cells
              obtain ⟨g0, g1, g2, g3⟩ := HZ.out.frozen
              go_wp2
              refine bodyPost_ret (v := .tuple #[.agg #[.int .i64 0, .string ⟨#[]⟩, .int .i64 0, .int .i64 0], .int .i64 (-1)]) (by simp [results, Tryd.results13, go_sem, HZ.out.cells]) rfl ?_
              exact signP_none H.out ((((HZ.out.2.setCell (p := ⟨w.heap.size, 0, none⟩) (Nat.le_refl _) _).setCell (p := ⟨w.heap.size, 1, none⟩) (Nat.le_refl _) _).setCell (p := ⟨w.heap.size, 2, none⟩) (Nat.le_refl _) _).setCell (p := ⟨w.heap.size, 3, none⟩) (Nat.le_refl _) _)
            | some x =>
              obtain ⟨n, e0⟩ := x
              have H := Lib.hid (show signQ s (k : Int) = some ⟨8, emptyB, n, e0⟩ by rw [HSN.out, numO, hr])
              rw [hr] at HR
              simp only [whoN, whoE] at HR
              have hd : decide ((e0 : Int) < 0) = false := decide_eq_false (by omega)
              clear hr
              go_wp2_with fail
              refine (HR.out _).mono ?_; rintro e w1 ⟨rfl, hb1⟩
              have HZ := Lib.hid (HZ.out.keep hb1); clear hb1
              obtain ⟨r0, r1, r2, r3⟩ := HZ.out.cells
              obtain ⟨g0, g1, g2, g3⟩ := HZ.out.frozen
              go_wp2
              refine bodyPost_ret (v := .tuple #[.agg #[.int .i64 8, .string ⟨#[]⟩, .int .i64 n, .int .i64 k], .int .i64 (e0 : Int)]) (by simp [results, Tryd.results13, go_sem, HZ.out.cells]) rfl ?_
              exact signP_some H.out ((((HZ.out.2.setCell (p := ⟨w.heap.size, 0, none⟩) (Nat.le_refl _) _).setCell (p := ⟨w.heap.size, 1, none⟩) (Nat.le_refl _) _).setCell (p := ⟨w.heap.size, 2, none⟩) (Nat.le_refl _) _).setCell (p := ⟨w.heap.size, 3, none⟩) (Nat.le_refl _) _) (by rfl) rfl rfl (by rfl)

end Go.Proofs.YtpcojfcbomkgpaaDoor
