/- The law's walk of FnNoRunes. -/
import Derived.Test.YtoaakbaijklhhaaDoorDrawN
namespace Go.Proofs.YtoaakbaijklhhaaDoor
open Go.RowKit

def noList : List ByteArray := [⟨#[192, 128]⟩, ⟨#[193, 191]⟩, ⟨#[224, 128, 128]⟩, ⟨#[237, 160, 128]⟩, ⟨#[237, 191, 191]⟩, ⟨#[240, 128, 128, 128]⟩, ⟨#[244, 144, 128, 128]⟩, ⟨#[248, 136, 128, 128, 128]⟩, ⟨#[128]⟩, ⟨#[255]⟩, ⟨#[226, 130]⟩, ⟨#[226, 130, 120]⟩]
theorem no_all : ∀ i : Fin 12, (noList.getD i.val ⟨#[]⟩).size ≤ 5 ∧ rNext (noList.getD i.val ⟨#[]⟩) 0 = -1 ∧ (runesO (noList.getD i.val ⟨#[]⟩)).isSome = false ∧ (runesO (⟨#[97]⟩ ++ noList.getD i.val ⟨#[]⟩ ++ ⟨#[98]⟩)).isSome = false := by decide +kernel
theorem yes1 : (runesO ⟨#[244, 143, 191, 191]⟩).isSome = true := by decide +kernel
theorem yes2 : (runesO ⟨#[237, 159, 191]⟩).isSome = true := by decide +kernel

set_option maxRecDepth 100000 in
set_option maxHeartbeats 2000000 in
theorem lawNoRunes {H : Type} {enc : TypeId × Value → H} {W : World} {base : Nat} {v : Value} {d : DataW H} {p : List MemPlace} (hval : Value.okWide Tryd.prog W .any base 29 v)
    (h : DataW.Trod enc Tryd.prog W 0 (fun _ => true) true 29 v d p) (ha : Lib.VarReads Tryd.prog W "unicode/utf8.acceptRanges" Rows.laid_unicode_utf8_acceptRanges) (hf : Lib.VarReads Tryd.prog W "unicode/utf8.first" Rows.laid_unicode_utf8_first) :
    Calls Tryd.prog 7 #[v] W fun e w' => e = .returned (.bool true) ∧ Below W.heap.size W w' := by
  obtain ⟨a, n, cap, rfl, hnm, hcode⟩ := openCode hval h
  have hT := tabs_of ha hf
  clear hval h ha hf hnm
  by_cases hn : n ≤ 1048576
  rotate_left
  · have hd : decide ((1048576 : Int) < (n : Int)) = true := decide_eq_true (by omega)
    clear hn hT hcode
    go_enter Tryd.func7, Tryd.ntmps7
    go_wp2_with (go_at_call 26; refine (big_any _ _ _ _).mono ?_; rintro e w' ⟨rfl, rfl⟩)
    go_ret
    exact ⟨rfl, Below.refl _ _⟩
  have hd : decide ((1048576 : Int) < (n : Int)) = false := decide_eq_false (by omega)
  have HN := Lib.hid hn; have HT := Lib.hid hT; have HC := Lib.hid hcode
  clear hn hT hcode
  go_enter Tryd.func7, Tryd.ntmps7
  go_wp2_with (go_at_call 26; refine (big_any _ _ _ _).mono ?_; rintro e w' ⟨rfl, rfl⟩)
  clear hd
  have HSL := Lib.hid (lit_strs W noList _ rfl)
  have hbel0 := (Below.refl W.heap.size W).alloc (Nat.le_refl _) (.cells (noList.map Value.string).toArray 9)
  have HB0 := Lib.hid hbel0; clear hbel0
  go_loopw [4] (fun i wr => ∃ j : Nat, j ≤ 12 ∧ i = .int .i64 j ∧ Below W.heap.size W wr ∧ SlAt wr (some ⟨W.heap.size, 0, none⟩) 12 1 (fun i _ => .string (noList.getD i ⟨#[]⟩))) (fun i _ => 12 - (intOf i).toNat)
  case atStart => exact ⟨0, by omega, rfl, HB0.out, HSL.out⟩
  case round =>
    obtain ⟨j, hj, rfl, hb, hsl⟩ := hrel
    have HB := Lib.hid hb; have HS := Lib.hid hsl; clear hb hsl
    by_cases hlt : j < 12
    · obtain ⟨b, o, he, hcell⟩ := HS.out.at (by omega)
      injection he with he
      injection he with h1 h2
      subst h1; subst h2
      have c0 := hcell j hlt 0 (by omega)
      rw [Nat.zero_add, Nat.mul_one, Nat.add_zero] at c0
      obtain ⟨q1, q2, q3, q4⟩ := no_all ⟨j, hlt⟩
      simp only at q1 q2 q3 q4
      generalize noList.getD j ⟨#[]⟩ = s at c0 q1 q2 q3 q4
      have hj12 : (j : Int) < 12 := by omega
      have HQ := Lib.hid (And.intro q2 (And.intro q3 q4))
      have hus : (⟨#[97]⟩ ++ s ++ ⟨#[98]⟩ : ByteArray).size ≤ 1048576 := by
        rw [ByteArray.size_append, ByteArray.size_append]; show 1 + s.size + 1 ≤ _; omega
      have HUS := Lib.hid hus
      clear q2 q3 q4 hcell hus
      go_wp2_with fail
      refine (iRuneAt s 0 _ (by omega) (tabs_keep HT.out HB.out)).mono ?_
      rw [HQ.out.1]
      generalize rN s 0 = x1
      rintro e w1 ⟨rfl, hb1⟩
      have c0' := bkeep hb1 c0
      have HB1 := Lib.hid (bnext HB.out hb1); have HS1 := Lib.hid (HS.out.keep hb1)
      have e1 : ((-1 : Int) != -1) = false := by decide
      clear hb1
      go_wp2_with fail
      refine (iUtf8Ok s _ (by omega) (tabs_keep HT.out HB1.out)).mono ?_
      rw [HQ.out.2.1]
      rintro e w2 ⟨rfl, hb2⟩
      have c0'' := bkeep hb2 c0'
      have HB2 := Lib.hid (bnext HB1.out hb2); have HS2 := Lib.hid (HS1.out.keep hb2)
      clear hb2 c0' c0
      go_wp2_with fail
      refine (iUtf8Ok _ _ HUS.out (tabs_keep HT.out HB2.out)).mono ?_
      rw [HQ.out.2.2]
      rintro e w3 ⟨rfl, hb3⟩
      go_wp2
      go_roundw
      case rel => exact ⟨j + 1, by omega, by go_num, bnext HB2.out hb3, HS2.out.keep hb3⟩
      case measure => simp [intOf]; omega
    · obtain rfl : j = 12 := by omega
      go_wp2_with fail
      refine (drawUtf8Ok a n cap _ HN.out (HC.out.keep HB.out)).mono ?_
      rintro e w1 ⟨s, hs, rfl, hb1⟩
      have hs' : s.size ≤ 100 := hs
      have HB1 := Lib.hid (bnext HB.out hb1)
      clear hb1 hs
      go_wp2_with fail
      refine (iUtf8Ok s _ (by omega) (tabs_keep HT.out HB1.out)).mono ?_
      rintro e w2 ⟨rfl, hb2⟩
      have HB2 := Lib.hid (bnext HB1.out hb2)
      clear hb2
      go_wp2_with fail
      refine (sUtf8Ok s _ (by omega)).mono ?_
      rintro e w3 ⟨rfl, hb3⟩
      have HB3 := Lib.hid (bnext HB2.out hb3)
      have e1 := beq_self_eq_true (runesO s).isSome
      clear hb3
      go_wp2_with fail
      refine (iUtf8Ok _ _ (by decide) (tabs_keep HT.out HB3.out)).mono ?_
      rw [yes1]
      rintro e w4 ⟨rfl, hb4⟩
      have HB4 := Lib.hid (bnext HB3.out hb4)
      clear hb4
      go_wp2_with fail
      refine (iUtf8Ok _ _ (by decide) (tabs_keep HT.out HB4.out)).mono ?_
      rw [yes2]
      rintro e w5 ⟨rfl, hb5⟩
      go_wp2
      go_ret
      exact ⟨rfl, bnext HB4.out hb5⟩

end Go.Proofs.YtoaakbaijklhhaaDoor
