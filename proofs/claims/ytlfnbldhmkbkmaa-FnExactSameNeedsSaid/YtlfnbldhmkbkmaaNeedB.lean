/- The comparisons: strings.Compare, cmp.Compare, cmp.Or, slices.Compare, compareNeeds, NeedLess and SameNeeds of both texts. -/
import Derived.Test.YtlfnbldhmkbkmaaNeedA
import Derived.Test.YtlfnbldhmkbkmaaLay
import Derived.Deep.DeepCutAuto
import Derived.Deep.RegionWith
namespace Go.Proofs.Ytlfnbldhmkbkmaa
open Go.RowKit

theorem stringsCompare (a b : ByteArray) (w : World) : Calls Try.prog 30 #[.string a, .string b] w fun e w' => e = .returned (.int .i64 (cmpB a b)) ∧ w = w' := by
  have := Try.strings_Compare a b w
  rw [cmpB_bytes] at this
  exact this.mono fun _ _ ⟨h, k⟩ => ⟨h, k.symm⟩

theorem nanInt (x : Int) (w : World) : Calls Try.prog 46 #[.int .i64 x] w fun e w' => e = .returned (.bool false) ∧ w = w' := by
  have h : (x != x) = false := by simp
  go_enter Try.func46, Try.ntmps46
  go_wp2
  go_ret
  exact ⟨rfl, rfl⟩
theorem nanStr (x : ByteArray) (w : World) : Calls Try.prog 54 #[.string x] w fun e w' => e = .returned (.bool false) ∧ w = w' := by
  have h : (x.toList != x.toList) = false := by simp
  go_enter Try.func54, Try.ntmps54
  go_wp2
  go_ret
  exact ⟨rfl, rfl⟩

theorem cmpInt_any (x y : Int) (w : World) : Calls Try.prog 37 #[.int .i64 x, .int .i64 y] w fun e w' => e = .returned (.int .i64 (Lib.compareInt x y)) ∧ w = w' := by
  have H : Hid (Lib.compareInt x y = if x < y then -1 else if x > y then 1 else 0) := rfl
  by_cases h1 : x < y
  · go_enter Try.func37, Try.ntmps37
    go_wp2_with (go_at_call 46; refine (nanInt _ _).mono ?_; rintro e w1 ⟨rfl, rfl⟩)
    go_ret
    exact ⟨ret_int (by rw [H.out, if_pos (by omega)]), rfl⟩
  by_cases h2 : y < x
  · go_enter Try.func37, Try.ntmps37
    go_wp2_with (go_at_call 46; refine (nanInt _ _).mono ?_; rintro e w1 ⟨rfl, rfl⟩)
    go_ret
    exact ⟨ret_int (by rw [H.out, if_neg (by omega), if_pos (by omega)]), rfl⟩
  · go_enter Try.func37, Try.ntmps37
    go_wp2_with (go_at_call 46; refine (nanInt _ _).mono ?_; rintro e w1 ⟨rfl, rfl⟩)
    go_ret
    exact ⟨ret_int (by rw [H.out, if_neg (by omega), if_neg (by omega)]), rfl⟩

theorem cmpStr_any (x y : ByteArray) (w : World) : Calls Try.prog 47 #[.string x, .string y] w fun e w' => e = .returned (.int .i64 (cmpB x y)) ∧ w = w' := by
  have H : Hid (cmpB x y = if ltB x y = true then -1 else if ltB y x = true then 1 else 0) := rfl
  cases h1 : ltB x y
  · have g1 : Op.bytesLess x.toList y.toList = false := h1
    cases h2 : ltB y x
    · have g2 : Op.bytesLess y.toList x.toList = false := h2
      have g3 : (x.toList == y.toList) = true := by rw [less_tri _ _ g1 g2]; simp
      have H2 := Lib.hid (And.intro h1 h2); clear h1 h2
      go_enter Try.func47, Try.ntmps47
      go_wp2_with (go_at_call 54; refine (nanStr _ _).mono ?_; rintro e w1 ⟨rfl, rfl⟩)
      go_ret
      exact ⟨ret_int (by rw [H.out, H2.out.1, H2.out.2]; simp), rfl⟩
    · have g2 : Op.bytesLess y.toList x.toList = true := h2
      have g3 : (x.toList == y.toList) = false := by
        rw [beq_eq_false_iff_ne]; intro e; rw [e, less_irr] at g2; simp at g2
      have H2 := Lib.hid (And.intro h1 h2); clear h1 h2
      go_enter Try.func47, Try.ntmps47
      go_wp2_with (go_at_call 54; refine (nanStr _ _).mono ?_; rintro e w1 ⟨rfl, rfl⟩)
      go_ret
      exact ⟨ret_int (by rw [H.out, H2.out.1, H2.out.2]; simp), rfl⟩
  · have g1 : Op.bytesLess x.toList y.toList = true := h1
    have H2 := Lib.hid h1; clear h1
    go_enter Try.func47, Try.ntmps47
    go_wp2_with (go_at_call 54; refine (nanStr _ _).mono ?_; rintro e w1 ⟨rfl, rfl⟩)
    go_ret
    exact ⟨ret_int (by rw [H.out, H2.out]; rfl), rfl⟩

def orZ (a b : Int) : Int := if a = 0 then b else a
theorem cmpOr_any (b : Nat) (x y z : Int) (w : World) (h0 : w.cell? ⟨b, 0, none⟩ = some (.int .i64 x)) (h1 : w.cell? ⟨b, 1, none⟩ = some (.int .i64 y)) (h2 : w.cell? ⟨b, 2, none⟩ = some (.int .i64 z)) :
    Calls Try.prog 36 #[.slice (some ⟨b, 0, none⟩) 3 3] w fun e w' => e = .returned (.int .i64 (orZ x (orZ y z))) ∧ w = w' := by
  have H : Hid (orZ x (orZ y z) = if x = 0 then (if y = 0 then z else y) else x) := rfl
  go_enter Try.func36, Try.ntmps36
  go_wp2
  go_loop [8] (fun s8 => ∃ k : Nat, k ≤ 3 ∧ s8 = .int .i64 k ∧ Hid ((0 < k → x = 0) ∧ (1 < k → y = 0) ∧ (2 < k → z = 0))) (fun s8 => 3 - (intOf s8).toNat)
  case atStart => exact ⟨0, by omega, rfl, ⟨by simp, by simp, by simp⟩⟩
  case round =>
    obtain ⟨k, hk, rfl, HI⟩ := hrel
    rcases (show k = 0 ∨ k = 1 ∨ k = 2 ∨ k = 3 by omega) with rfl | rfl | rfl | rfl
    · by_cases hx : x = 0
      · subst hx
        go_wp2
        go_round
        case rel => exact ⟨1, by omega, by go_num, ⟨by simp, by simp, by simp⟩⟩
        case measure => simp [intOf]
      · have hb : (x != 0) = true := by simp [bne, hx]
        go_wp2
        go_ret
        exact ⟨ret_int (by rw [H.out]; simp [hx]), rfl⟩
    · have hx := HI.out.1 (by omega)
      subst hx
      by_cases hy : y = 0
      · subst hy
        go_wp2
        go_round
        case rel => exact ⟨2, by omega, by go_num, ⟨by simp, by simp, by simp⟩⟩
        case measure => simp [intOf]
      · have hb : (y != 0) = true := by simp [bne, hy]
        go_wp2
        go_ret
        exact ⟨ret_int (by rw [H.out]; simp [hy]), rfl⟩
    · have hx := HI.out.1 (by omega)
      have hy := HI.out.2.1 (by omega)
      subst hx; subst hy
      by_cases hzz : z = 0
      · subst hzz
        go_wp2
        go_round
        case rel => exact ⟨3, by omega, by go_num, ⟨by simp, by simp, by simp⟩⟩
        case measure => simp [intOf]
      · have hb : (z != 0) = true := by simp [bne, hzz]
        go_wp2
        go_ret
        exact ⟨ret_int (by rw [H.out]; simp), rfl⟩
    · have hx := HI.out.1 (by omega)
      have hy := HI.out.2.1 (by omega)
      have hzz := HI.out.2.2 (by omega)
      subst hx; subst hy; subst hzz
      go_wp2
      go_ret
      exact ⟨ret_int (by rw [H.out]; simp), rfl⟩

theorem slicesCompareS (l l' : List ByteArray) (S S' : Nat → Prop) (a a' : Option Addr) (cap cap' : Nat) (w : World) (hn : l.length ≤ 1048576) (hc : StrsIn w S (.slice a l.length cap) l) (hc' : StrsIn w S' (.slice a' l'.length cap') l') :
    Calls Try.prog 38 #[.slice a l.length cap, .slice a' l'.length cap'] w fun e w' => e = .returned (.int .i64 (cmpVals l l')) ∧ w = w' := by
  go_enter Try.func38, Try.ntmps38
  go_wp2
  go_loop [11] (fun s11 => ∃ k : Nat, k ≤ l.length ∧ s11 = .int .i64 k ∧ Hid (cmpVals l l' = cmpVals (l.drop k) (l'.drop k))) (fun s11 => l.length - (intOf s11).toNat)
  case atStart => exact ⟨0, by omega, rfl, by simp [Hid]⟩
  case round =>
    obtain ⟨k, hk, rfl, HI⟩ := hrel
    by_cases hlt : k < l.length
    · obtain ⟨b, o, rfl, hcell⟩ := hc.at hlt
      have c0 := hcell k hlt
      clear hcell
      by_cases hlt' : k < l'.length
      · obtain ⟨b', o', rfl, hcell'⟩ := hc'.at hlt'
        have c1 := hcell' k hlt'
        clear hcell' hc hc'
        have HS := Lib.hid (cmpVals_at l l' k hlt hlt')
        by_cases he : cmpB (strAt l k) (strAt l' k) = 0
        · have hb : (cmpB (strAt l k) (strAt l' k) != 0) = false := by simp [bne, he]
          have HE := Lib.hid he; clear he
          go_wp2_with (go_at_call 47; refine (cmpStr_any _ _ _).mono ?_; rintro e w1 ⟨rfl, rfl⟩)
          go_round
          case rel => exact ⟨k + 1, by omega, by go_num, by unfold Hid; rw [HI.out, HS.out, if_pos HE.out]⟩
          case measure => simp [intOf]; omega
        · have hb : (cmpB (strAt l k) (strAt l' k) != 0) = true := by simp [bne, he]
          have HE := Lib.hid he; clear he
          go_wp2_with (go_at_call 47; refine (cmpStr_any _ _ _).mono ?_; rintro e w1 ⟨rfl, rfl⟩)
          go_ret
          exact ⟨ret_int (by rw [HI.out, HS.out, if_neg HE.out]), rfl⟩
      · have HS := Lib.hid (cmpVals_long l l' k hlt hlt')
        clear hc hc'
        go_wp2
        go_ret
        exact ⟨ret_int (by rw [HI.out, HS.out]), rfl⟩
    · obtain rfl : k = l.length := by omega
      have HS := Lib.hid (cmpVals_end l l' l.length hlt hk)
      by_cases hln : l.length < l'.length
      · go_wp2
        go_ret
        exact ⟨ret_int (by rw [HI.out, HS.out, if_pos hln]), rfl⟩
      · go_wp2
        go_ret
        exact ⟨ret_int (by rw [HI.out, HS.out, if_neg hln]), rfl⟩

end Go.Proofs.Ytlfnbldhmkbkmaa
