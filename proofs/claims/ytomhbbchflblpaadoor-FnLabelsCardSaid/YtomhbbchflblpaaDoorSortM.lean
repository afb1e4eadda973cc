/- The library's stable sort at labels: rotation of a range, the merge. What becomes of the row: labels of the same row. -/
import Derived.Test.YtomhbbchflblpaaDoorSortI
namespace Go.Proofs.YtomhbbchflblpaaDoor
open Go.RowKit

set_option maxRecDepth 100000 in
set_option maxHeartbeats 4000000 in
theorem rotate_any (D C : List Lb) (g cap a m b : Nat) (w0 w : World) (hC : C.length ≤ 1048576) (ham : a < m) (hmb : m < b) (hb : b ≤ C.length) (hA : Among D C) (h : SR w0 g w C) :
    Calls Tryd.prog 63 #[.slice (some ⟨g, 0, none⟩) C.length cap, .int .i64 a, .int .i64 m, .int .i64 b, (.func (.func 19) #[] #[])] w fun e w' => e = .returned (.tuple #[]) ∧ ∃ C', C'.length = C.length ∧ Among D C' ∧ SR w0 g w' C' := by
  have H0 := Lib.hid (And.intro hA h); clear hA h
  have x0 : (m : Int) - (a : Int) = ((m - a : Nat) : Int) := by omega
  have x1 : (b : Int) - (m : Int) = ((b - m : Nat) : Int) := by omega
  have HX := Lib.hid (And.intro x0 x1); clear x0 x1
  go_enter Tryd.func63, Tryd.ntmps63
  go_wp2
  go_loopw [10, 11] (fun s10 s11 wr => ∃ (i j : Nat) (E : List Lb), 0 < i ∧ 0 < j ∧ i ≤ m ∧ m + j ≤ C.length ∧ s10 = .int .i64 i ∧ s11 = .int .i64 j ∧ Hid (E.length = C.length ∧ Among D E ∧ SR w0 g wr E)) (fun s10 s11 _ => (intOf s10).toNat + (intOf s11).toNat)
  case atStart => exact ⟨m - a, b - m, C, by omega, by omega, by omega, by omega, by rw [← HX.out.1], by rw [← HX.out.2], Lib.hid ⟨rfl, H0.out.1, H0.out.2⟩⟩
  case round =>
    obtain ⟨i, j, E, hi, hj, him, hmj, rfl, rfl, HK⟩ := hrel
    clear H0 HX
    have hl := HK.out.1
    rcases Nat.lt_trichotomy i j with hlt | heq | hgt
    · have hne : ((i : Int) != (j : Int)) = true := by simp only [bne_iff_ne, ne_eq]; omega
      have hng : decide ((j : Int) < (i : Int)) = false := decide_eq_false (by omega)
      have y0 : (m : Int) - (i : Int) = ((m - i : Nat) : Int) := by omega
      have y1 : (m : Int) + (j : Int) - (i : Int) = ((m + j - i : Nat) : Int) := by omega
      have y2 : (j : Int) - (i : Int) = ((j - i : Nat) : Int) := by omega
      have HS := Lib.hid (show Calls Tryd.prog 74 #[.slice (some ⟨g, 0, none⟩) C.length cap, .int .i64 ((m : Int) - (i : Int)), .int .i64 ((m : Int) + (j : Int) - (i : Int)), .int .i64 i, (.func (.func 19) #[] #[])] wr fun e w' => e = .returned (.tuple #[]) ∧ ∃ C', C'.length = C.length ∧ Among D C' ∧ SR w0 g w' C' from by
        have h := swapRange D E g cap (m - i) (m + j - i) i w0 wr (by omega) (by omega) (by omega) HK.out.2.1 HK.out.2.2
        rw [hl] at h; rw [y0, y1]; exact h)
      have HY := Lib.hid y2; clear y0 y1 y2 HK hl
      go_wp2_with fail
      refine HS.out.mono ?_
      rintro e w2 ⟨rfl, E2, h1, h2, h3⟩
      have H2 := Lib.hid (And.intro h1 (And.intro h2 h3)); clear h1 h2 h3 HS
      go_wp2
      go_roundw
      case rel => exact ⟨i, j - i, E2, by omega, by omega, by omega, by omega, rfl, by rw [← HY.out], H2⟩
      case measure => simp [intOf]; omega
    · subst heq
      have y0 : (m : Int) - (i : Int) = ((m - i : Nat) : Int) := by omega
      have HS := Lib.hid (show Calls Tryd.prog 74 #[.slice (some ⟨g, 0, none⟩) C.length cap, .int .i64 ((m : Int) - (i : Int)), .int .i64 m, .int .i64 i, (.func (.func 19) #[] #[])] wr fun e w' => e = .returned (.tuple #[]) ∧ ∃ C', C'.length = C.length ∧ Among D C' ∧ SR w0 g w' C' from by
        have h := swapRange D E g cap (m - i) m i w0 wr (by omega) (by omega) (by omega) HK.out.2.1 HK.out.2.2
        rw [hl] at h; rw [y0]; exact h)
      have hne : ((i : Int) != (i : Int)) = false := by simp
      clear y0 HK hl
      go_wp2_with fail
      refine HS.out.mono ?_
      rintro e w2 ⟨rfl, E2, h1, h2, h3⟩
      have H2 := Lib.hid (And.intro h1 (And.intro h2 h3)); clear h1 h2 h3 HS
      go_wp2
      go_end0
      exact ⟨rfl, E2, H2.out.1, H2.out.2.1, H2.out.2.2⟩
    · have hne : ((i : Int) != (j : Int)) = true := by simp only [bne_iff_ne, ne_eq]; omega
      have hng : decide ((j : Int) < (i : Int)) = true := decide_eq_true (by omega)
      have y0 : (m : Int) - (i : Int) = ((m - i : Nat) : Int) := by omega
      have y2 : (i : Int) - (j : Int) = ((i - j : Nat) : Int) := by omega
      have HS := Lib.hid (show Calls Tryd.prog 74 #[.slice (some ⟨g, 0, none⟩) C.length cap, .int .i64 ((m : Int) - (i : Int)), .int .i64 m, .int .i64 j, (.func (.func 19) #[] #[])] wr fun e w' => e = .returned (.tuple #[]) ∧ ∃ C', C'.length = C.length ∧ Among D C' ∧ SR w0 g w' C' from by
        have h := swapRange D E g cap (m - i) m j w0 wr (by omega) (by omega) (by omega) HK.out.2.1 HK.out.2.2
        rw [hl] at h; rw [y0]; exact h)
      have HY := Lib.hid y2; clear y0 y2 HK hl
      go_wp2_with fail
      refine HS.out.mono ?_
      rintro e w2 ⟨rfl, E2, h1, h2, h3⟩
      have H2 := Lib.hid (And.intro h1 (And.intro h2 h3)); clear h1 h2 h3 HS
      go_wp2
      go_roundw
      case rel => exact ⟨i - j, j, E2, by omega, by omega, by omega, by omega, by rw [← HY.out], rfl, H2⟩
      case measure => simp [intOf]; omega

end Go.Proofs.YtomhbbchflblpaaDoor
