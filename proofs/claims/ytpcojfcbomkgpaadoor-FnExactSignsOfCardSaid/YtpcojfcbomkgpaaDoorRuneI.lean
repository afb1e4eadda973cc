/- impl.RuneOk, RuneText, RuneAt: contracts. -/
import Derived.Test.YtpcojfcbomkgpaaDoorRunesI
import Derived.Shelf.Strings.MapAny
namespace Go.Proofs.YtpcojfcbomkgpaaDoor
open Go.RowKit

theorem iRuneOk (n : Int) (w : World) : Calls Tryd.prog 191 #[.int .i64 n] w fun e w' => e = .returned (.bool (runeOkZ n)) ∧ w = w' := by
  have H : Hid (runeOkZ n = (betweenB n 0 1114111 && !betweenB n 55296 57343)) := rfl
  cases h1 : betweenB n 0 1114111 <;> cases h2 : betweenB n 55296 57343
  all_goals
    go_enter Tryd.func191, Tryd.ntmps191
    go_wp2_with (go_at_call 128; refine (within_any _ _ _ _).mono ?_; rintro e w' ⟨rfl, rfl⟩)
    go_ret
    exact ⟨ret_bool (by rw [H.out, h1, h2]; rfl), rfl⟩

theorem encode_eq {n : Int} (h : runeOkZ n = true) : Utf8.encode n = ⟨(rtext n).toArray⟩ := by
  have h0 : 0 ≤ n := by simp [runeOkZ, betweenB] at h; omega
  obtain ⟨m, rfl⟩ := Int.eq_ofNat_of_zero_le h0
  have ho : runeOkN m = true := by rw [← runeOkZ_nat]; exact h
  have hv : Utf8.valid (m : Int) = true := by rw [valid_iff]; exact ho
  rw [rtext_nat, runeBytes, if_pos ho]
  unfold Utf8.encode
  simp only [hv, if_true, Int.toNat_natCast]
  by_cases g1 : m < 128
  · rw [if_pos g1, if_pos g1]; rfl
  rw [if_neg g1, if_neg g1]
  by_cases g2 : m < 2048
  · rw [if_pos g2, if_pos g2]; rfl
  rw [if_neg g2, if_neg g2]
  by_cases g3 : m < 65536
  · rw [if_pos g3, if_pos g3]; rfl
  · rw [if_neg g3, if_neg g3]; rfl

theorem iRuneText (n : Int) (w : World) : Calls Tryd.prog 140 #[.int .i64 n] w fun e w' => e = .returned (.string ⟨(rtext n).toArray⟩) ∧ w = w' := by
  cases hok : runeOkZ n
  · have hr := Lib.hid (rtext_bad hok)
    go_enter Tryd.func140, Tryd.ntmps140
    go_wp2_with (go_at_call 191; refine (iRuneOk _ _).mono ?_; rintro e w' ⟨rfl, rfl⟩)
    go_ret
    exact ⟨ret_str (by rw [hr.out]), rfl⟩
  have hE := Lib.hid (encode_eq hok)
  have hr : 0 ≤ n ∧ n ≤ 1114111 := by simp [runeOkZ, betweenB] at hok; omega
  obtain ⟨h0, h1⟩ := hr
  go_enter Tryd.func140, Tryd.ntmps140
  go_wp2_with (go_at_call 191; refine (iRuneOk _ _).mono ?_; rintro e w' ⟨rfl, rfl⟩)
  go_ret
  exact ⟨ret_str hE.out, rfl⟩

set_option maxRecDepth 100000 in
theorem iRuneAt (s : ByteArray) (p : Int) (w : World) (hs : s.size ≤ 1048576) (hT : Tabs w) :
    Calls Tryd.prog 139 #[.string s, .int .i64 p] w fun e w' => e = .returned (.tuple #[.int .i64 (rN s p), .int .i64 (rNext s p)]) ∧ Below w.heap.size w w' := by
  by_cases h0 : p < 0
  · have E := Lib.hid (rAt_out s p (by simp [betweenB]; omega))
    go_enter Tryd.func139, Tryd.ntmps139
    go_wp2
    go_ret2
    exact ⟨ret_at E.out.1.symm E.out.2.symm, Below.refl _ _⟩
  by_cases h1 : p < (s.size : Int)
  rotate_left
  · have E := Lib.hid (rAt_out s p (by simp [betweenB]; omega))
    go_enter Tryd.func139, Tryd.ntmps139
    go_wp2
    go_ret2
    exact ⟨ret_at E.out.1.symm E.out.2.symm, Below.refl _ _⟩
  obtain ⟨k, rfl⟩ := Int.eq_ofNat_of_zero_le (show 0 ≤ p by omega)
  have hk : k < s.size := by omega
  have hk2 : k ≤ s.size := by omega
  clear h0 h1
  have hc := fun w0 hT => Tryd.utf8_DecodeRuneInString (s.extract k s.size) w0 hT
  rw [Lib.decodeGo_extract s k hk] at hc
  have hw1 := Lib.decode_width_pos s k hk
  have hw2 := width_le s k hk
  have hle := decode_le s k
  have HB := Lib.hid (rAt_bad s k)
  have HG := Lib.hid (rAt_good s k (Utf8.decode s k).1 (Utf8.decode s k).2 hk rfl)
  generalize Utf8.decode s k = d at hc hw1 hw2 hle HB HG
  obtain ⟨d1, d2⟩ := d
  simp only at hc hw1 hw2 hle HB HG
  have HC := Lib.hid (hc _ hT); clear hc
  cases e1 : ((d1 : Int) == 65533)
  · have E := Lib.hid (HG.out (by have g := e1; simp at g; simp [badD]; omega))
    go_enter Tryd.func139, Tryd.ntmps139
    go_wp2_with (go_at_call 190; refine HC.out.mono ?_; rintro e w1 ⟨rfl, hb1⟩)
    go_ret2
    exact ⟨ret_at E.out.1.symm E.out.2.symm, hb1⟩
  · cases e2 : decide ((d2 : Int) ≤ 1)
    · have E := Lib.hid (HG.out (by have g := e2; simp at g; simp [badD]; omega))
      go_enter Tryd.func139, Tryd.ntmps139
      go_wp2_with (go_at_call 190; refine HC.out.mono ?_; rintro e w1 ⟨rfl, hb1⟩)
      go_ret2
      exact ⟨ret_at E.out.1.symm E.out.2.symm, hb1⟩
    · have E := Lib.hid (HB.out (by have g := e2; have g' := e1; simp at g; simp at g'; simp [badD]; omega))
      go_enter Tryd.func139, Tryd.ntmps139
      go_wp2_with (go_at_call 190; refine HC.out.mono ?_; rintro e w1 ⟨rfl, hb1⟩)
      go_ret2
      exact ⟨ret_at E.out.1.symm E.out.2.symm, hb1⟩

end Go.Proofs.YtpcojfcbomkgpaaDoor
