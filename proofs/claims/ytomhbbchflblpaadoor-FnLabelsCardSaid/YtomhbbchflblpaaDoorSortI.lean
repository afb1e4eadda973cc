/- The library's stable sort at labels: the exchanges of a range, the insertion sort. -/
import Derived.Test.YtomhbbchflblpaaDoorSortW
import Derived.Test.YtomhbbchflblpaaDoorLay
import Derived.Test.YtomhbbchflblpaaDoorSoft
import Derived.Deep.RegionHeld3
import Derived.IntWalk
import Derived.RegionTactic
import Derived.TacticsIn
namespace Go.Proofs.YtomhbbchflblpaaDoor
open Go.RowKit

/-- SortLabels' comparison. -/
theorem cmp_any (x y : Lb) (w : World) : Calls Tryd.prog 19 #[.agg #[.string x.1, .string x.2], .agg #[.string y.1, .string y.2]] w fun e w' => e = .returned (.int .i64 (Lib.compareBytes x.1.data.toList y.1.data.toList)) ∧ Below w.heap.size w w' := by
  have hB : Below w.heap.size w ((w.alloc (.cells #[.string x.1, .string x.2] 35)).alloc (.cells #[.string y.1, .string y.2] 35)) := by repeat (first | exact Below.refl _ _ | (refine Below.alloc ?_ (by first | omega | (simp; done) | (simp; omega)) _) | (refine Below.setCell ?_ (by first | omega | (simp; done) | (simp; omega)) _) | (refine Below.drew ?_) | (refine below_drewN ?_ _))
  have HB := Lib.hid hB; clear hB
  go_enter Tryd.func19, Tryd.ntmps19
  go_wp2_with fail
  refine (Tryd.strings_Compare x.1 y.1 _).mono ?_
  rintro e w1 ⟨rfl, rfl⟩
  go_wp2
  go_ret
  exact ⟨rfl, HB.out⟩

set_option maxRecDepth 100000 in
set_option maxHeartbeats 4000000 in
theorem swapRange (D C : List Lb) (g cap a b n : Nat) (w0 w : World) (hC : C.length ≤ 1048576) (ha : a + n ≤ b) (hb : b + n ≤ C.length) (hA : Among D C) (h : SR w0 g w C) :
    Calls Tryd.prog 74 #[.slice (some ⟨g, 0, none⟩) C.length cap, .int .i64 a, .int .i64 b, .int .i64 n, (.func (.func 19) #[] #[])] w fun e w' => e = .returned (.tuple #[]) ∧ ∃ C', C'.length = C.length ∧ Among D C' ∧ SR w0 g w' C' := by
  have H0 := Lib.hid (And.intro hA h); clear hA h
  go_enter Tryd.func74, Tryd.ntmps74
  go_wp2
  go_loopw [10] (fun s10 wr => ∃ (k : Nat) (E : List Lb), k ≤ n ∧ s10 = .int .i64 k ∧ Hid (E.length = C.length ∧ Among D E ∧ SR w0 g wr E)) (fun s10 _ => n - (intOf s10).toNat)
  case atStart => exact ⟨0, C, by omega, rfl, Lib.hid ⟨rfl, H0.out.1, H0.out.2⟩⟩
  case round =>
    obtain ⟨k, E, hk, rfl, HK⟩ := hrel
    clear H0
    by_cases hlt : k < n
    · obtain ⟨hEl, hEA, hS⟩ := HK.out
      have ha1 : a + k < E.length := by omega
      have hb1 : b + k < E.length := by omega
      obtain ⟨c0, c1⟩ := hS.row.at ha1
      obtain ⟨d0, d1⟩ := hS.row.at hb1
      have f0 := hS.row.frozen ((a + k) * 2)
      have f1 := hS.row.frozen ((a + k) * 2 + 1)
      have f2 := hS.row.frozen ((b + k) * 2)
      have f3 := hS.row.frozen ((b + k) * 2 + 1)
      have HN := Lib.hid (And.intro (show (swL E (a + k) (b + k)).length = C.length from by rw [swL_len]; exact hEl) (And.intro (hEA.swap ha1 hb1) (hS.swap ha1 hb1)))
      have i0 : (0 : Int) ≤ (a : Int) + (k : Int) := by omega
      have i1 : (a : Int) + (k : Int) < (C.length : Int) := by omega
      have i2 : (0 : Int) ≤ (b : Int) + (k : Int) := by omega
      have i3 : (b : Int) + (k : Int) < (C.length : Int) := by omega
      have t0 : ((a : Int) + (k : Int)).toNat = a + k := by omega
      have t1 : ((b : Int) + (k : Int)).toNat = b + k := by omega
      have w1 : IntKind.i64.wrap ((a : Int) + (k : Int)) = (a : Int) + (k : Int) := IntWalk.i64_in _ (by omega)
      have w2 : IntKind.i64.wrap ((b : Int) + (k : Int)) = (b : Int) + (k : Int) := IntWalk.i64_in _ (by omega)
      have n0 : ¬ (b + k) * 2 = (a + k) * 2 := by omega
      have n1 : ¬ (b + k) * 2 = (a + k) * 2 + 1 := by omega
      have n2 : ¬ (b + k) * 2 + 1 = (a + k) * 2 := by omega
      have n3 : ¬ (b + k) * 2 + 1 = (a + k) * 2 + 1 := by omega
      clear hEl hEA hS HK
      go_wp2_with fail
      go_region
      clear c0 c1 d0 d1 f0 f1 f2 f3 i0 i1 i2 i3 t0 t1 w1 w2 n0 n1 n2 n3
      go_wp2
      go_roundw
      case rel => exact ⟨k + 1, swL E (a + k) (b + k), by omega, by go_num, Lib.hid ⟨HN.out.1, HN.out.2.1, HN.out.2.2.keep (Below.refl _ _).drew⟩⟩
      case measure => simp [intOf]; omega
    · obtain rfl : k = n := by omega
      go_wp2
      go_end0
      exact ⟨rfl, E, HK.out.1, HK.out.2.1, HK.out.2.2⟩

set_option maxRecDepth 100000 in
set_option maxHeartbeats 4000000 in
/-- The insertion sort, for whatever stands through its rounds. -/
theorem insSort (n : Nat) (Inv : Nat → Nat → List Lb → Prop) (g cap a b : Nat) (C : List Lb) (w0 w : World) (hn : n ≤ 1048576) (hl : ∀ i j E, Inv i j E → E.length = n)
    (hsw : ∀ i j E, a ≤ j → j + 1 ≤ i → i < b → Inv i (j + 1) E → ltL (labN E (j + 1)) (labN E j) = true → Inv i j (swL E (j + 1) j))
    (hst : ∀ i j E, a ≤ j → j ≤ i → i < b → Inv i j E → (j = a ∨ ltL (labN E j) (labN E (j - 1)) = false) → Inv (i + 1) (i + 1) E)
    (h0 : Inv (a + 1) (a + 1) C) (hab : a ≤ b) (hb : b ≤ n) (h : SR w0 g w C) :
    Calls Tryd.prog 50 #[.slice (some ⟨g, 0, none⟩) n cap, .int .i64 a, .int .i64 b, (.func (.func 19) #[] #[])] w fun e w' => e = .returned (.tuple #[]) ∧ ∃ i E, b ≤ i ∧ (i = b ∨ i = a + 1) ∧ Inv i i E ∧ SR w0 g w' E := by
  have H0 := Lib.hid (And.intro h0 h)
  have HL := Lib.hid hl; have HSW := Lib.hid hsw; have HST := Lib.hid hst
  clear h0 h hl hsw hst
  go_enter Tryd.func50, Tryd.ntmps50
  go_wp2
  go_loopw [8] (fun s8 wr => ∃ (i : Nat) (E : List Lb), a < i ∧ i ≤ b + 1 ∧ s8 = .int .i64 i ∧ Hid ((i ≤ b ∨ i = a + 1) ∧ Inv i i E ∧ SR w0 g wr E)) (fun s8 _ => b + 1 - (intOf s8).toNat)
  case atStart => exact ⟨a + 1, C, by omega, by omega, by go_num, Lib.hid ⟨.inr rfl, H0.out.1, H0.out.2⟩⟩
  case round =>
    obtain ⟨i, E, hai, hib, rfl, HK⟩ := hrel
    clear H0
    by_cases hlt : i < b
    · go_wp2
      go_loopw [9] (fun s9 wx => ∃ (j : Nat) (E : List Lb), a ≤ j ∧ j ≤ i ∧ s9 = .int .i64 j ∧ Hid (Inv i j E ∧ SR w0 g wx E)) (fun s9 _ => (intOf s9).toNat)
      case atStart => exact ⟨i, E, by omega, by omega, rfl, Lib.hid ⟨HK.out.2.1, HK.out.2.2⟩⟩
      case round =>
        obtain ⟨j, E, haj, hji, rfl, HJ⟩ := hrel
        clear HK
        by_cases hja : a < j
        · obtain ⟨jp, rfl⟩ : ∃ jp, j = jp + 1 := ⟨j - 1, by omega⟩
          have hEl := HL.out _ _ _ HJ.out.1
          obtain ⟨c0, c1⟩ := HJ.out.2.row.at (i := jp + 1) (by omega)
          obtain ⟨d0, d1⟩ := HJ.out.2.row.at (i := jp) (by omega)
          have hcmp := cmp_less (labN E (jp + 1)).1.data.toList (labN E jp).1.data.toList
          have hlx : ltL (labN E (jp + 1)) (labN E jp) = Op.bytesLess (labN E (jp + 1)).1.data.toList (labN E jp).1.data.toList := by rw [ltL, ByteArray.toList_eq, ByteArray.toList_eq]
          rw [← hlx] at hcmp
          have HX := Lib.hid (fun x : Aft wr => cmp_any (labN E (jp + 1)) (labN E jp) x.now)
          have c0a := aft_cell c0
          have c1a := aft_cell c1
          have d0a := aft_cell d0
          have d1a := aft_cell d1
          have hjz : (a : Int) < (jp : Int) + 1 := by omega
          have i0 : (0 : Int) ≤ (jp : Int) + 1 := by omega
          have i1 : (jp : Int) + 1 < (n : Int) := by omega
          have i2 : (0 : Int) ≤ (jp : Int) := by omega
          have i3 : (jp : Int) < (n : Int) := by omega
          have t0 : ((jp : Int) + 1).toNat = jp + 1 := by omega
          have x2 : IntKind.i64.wrap (jp : Int) = (jp : Int) := IntWalk.i64_in _ (by omega)
          have x1 : IntKind.i64.wrap ((jp : Int) + 1 - 1) = (jp : Int) := by rw [show (jp : Int) + 1 - 1 = (jp : Int) by omega]; exact x2
          have n0 : ¬ jp * 2 = (jp + 1) * 2 := by omega
          have n1 : ¬ jp * 2 = (jp + 1) * 2 + 1 := by omega
          have n2 : ¬ jp * 2 + 1 = (jp + 1) * 2 := by omega
          have n3 : ¬ jp * 2 + 1 = (jp + 1) * 2 + 1 := by omega
          clear c0 c1 d0 d1 hlx
          cases hc : ltL (labN E (jp + 1)) (labN E jp)
          · rw [hc] at hcmp
            have HHC := Lib.hid hc; clear hc
            go_wp2_with fail
            refine wp_region_soft_lit (by kernel_rfl) (by kernel_rfl) ?_
            repeat (go_big_quiet_step ((go_at_call 19; exact soft_call (HX.out _))))
            refine wpQuiet_nil ?_
            intro _ hw'
            obtain ⟨xq, hw''⟩ := hw'
            subst hw''
            clear c0a c1a d0a d1a
            have HN := Lib.hid (And.intro (HST.out i (jp + 1) E haj hji hlt HJ.out.1 (.inr (by simpa using HHC.out))) (HJ.out.2.keep xq.bel))
            go_wp2
            go_roundw
            case rel => exact ⟨i + 1, E, by omega, by omega, by go_num, Lib.hid ⟨.inl (by omega), HN.out.1, HN.out.2⟩⟩
            case measure => simp [intOf]; omega
          · rw [hc] at hcmp
            have HHC := Lib.hid hc; clear hc
            go_wp2_with fail
            refine wp_region_soft_lit (by kernel_rfl) (by kernel_rfl) ?_
            repeat (go_big_quiet_step ((go_at_call 19; exact soft_call (HX.out _))))
            refine wpQuiet_nil ?_
            intro _ hw'
            obtain ⟨xq, hw''⟩ := hw'
            subst hw''
            clear c0a c1a d0a d1a hcmp
            have HS := Lib.hid (HJ.out.2.keep xq.bel)
            generalize xq.now = wy at HS ⊢
            obtain ⟨c0, c1⟩ := HS.out.row.at (i := jp + 1) (by omega)
            obtain ⟨d0, d1⟩ := HS.out.row.at (i := jp) (by omega)
            have f0 := HS.out.row.frozen ((jp + 1) * 2)
            have f1 := HS.out.row.frozen ((jp + 1) * 2 + 1)
            have f2 := HS.out.row.frozen (jp * 2)
            have f3 := HS.out.row.frozen (jp * 2 + 1)
            have HN := Lib.hid (And.intro (HSW.out i jp E (by omega) (by omega) hlt HJ.out.1 HHC.out) (HS.out.swap (a := jp + 1) (b := jp) (by omega) (by omega)))
            go_wp2_with fail
            go_region
            clear c0 c1 d0 d1 f0 f1 f2 f3 n0 n1 n2 n3
            go_wp2
            go_roundw
            case rel => exact ⟨jp, swL E (jp + 1) jp, by omega, by omega, by go_num, Lib.hid ⟨HN.out.1, HN.out.2.keep (Below.refl _ _).drew⟩⟩
            case measure => simp [intOf] <;> omega
        · obtain rfl : j = a := by omega
          have hja2 : ¬ (j : Int) < (j : Int) := by omega
          have HN := Lib.hid (HST.out i j E (Nat.le_refl _) hji hlt HJ.out.1 (.inl rfl))
          go_wp2_with fail
          refine wp_region_soft_lit (by kernel_rfl) (by kernel_rfl) ?_
          repeat (go_big_quiet_step ((fail)))
          refine wpQuiet_nil ?_
          intro _ hw'
          obtain ⟨xq, hw''⟩ := hw'
          subst hw''
          have HS := Lib.hid (HJ.out.2.keep xq.bel)
          go_wp2
          go_roundw
          case rel => exact ⟨i + 1, E, by omega, by omega, by go_num, Lib.hid ⟨.inl (by omega), HN.out, HS.out⟩⟩
          case measure => simp [intOf]; omega
    · go_wp2
      go_end0
      exact ⟨rfl, i, E, by omega, by have := HK.out.1; omega, HK.out.2.1, HK.out.2.2⟩

end Go.Proofs.YtomhbbchflblpaaDoor
