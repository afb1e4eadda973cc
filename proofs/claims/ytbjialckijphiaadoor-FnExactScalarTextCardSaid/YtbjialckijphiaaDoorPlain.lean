/- Where a colon ends a key: l11Ends and endsKey. -/
import Derived.Test.YtbjialckijphiaaDoorRunesI
namespace Go.Proofs.YtbjialckijphiaaDoor
open Go.RowKit

def endsB (s : ByteArray) (i : Nat) : Bool := bt s i == 58 && (decide (i + 1 = s.size) || bt s (i + 1) == 32)

theorem sEnds (s : ByteArray) (i : Nat) (w : World) (hi : i < s.size) (hs : s.size ≤ 1048576) :
    Calls Tryd.prog 50 #[.string s, .int .i64 i] w fun e w' => e = .returned (.bool (endsB s i)) ∧ Drew w w' := by
  have HE := Lib.hid (show endsB s i = (bt s i == 58 && (decide (i + 1 = s.size) || bt s (i + 1) == 32)) from rfl)
  rw [bt_eq s i hi] at HE
  by_cases h1 : i + 1 = s.size
  · have e1 : ((i : Int) == (s.size : Int) - 1) = true := by simp; omega
    cases h0 : ((s[i].toNat : Int) == 58)
    all_goals
      go_enter Tryd.func50, Tryd.ntmps50
      go_wp2_with fail
      go_ret
      refine ⟨ret_bool ?_, Drew.refl _⟩; rw [HE.out]; clear HE; have g0 := h0; (try have g2 := h2); simp at g0; (try simp at g2); simp [h1]; (try omega)
  · have e1 : ((i : Int) == (s.size : Int) - 1) = false := by simp; omega
    have hi2 : i + 1 < s.size := by omega
    rw [bt_eq s (i + 1) hi2] at HE
    cases h0 : ((s[i].toNat : Int) == 58) <;> cases h2 : ((s[i + 1].toNat : Int) == 32)
    all_goals
      go_enter Tryd.func50, Tryd.ntmps50
      go_wp2_with fail
      go_ret
      refine ⟨ret_bool ?_, Drew.refl _⟩; rw [HE.out]; clear HE; have g0 := h0; (try have g2 := h2); simp at g0; (try simp at g2); simp [h1]; (try omega)

theorem iEnds (s : ByteArray) (i : Nat) (w : World) (hi : i < s.size) (hs : s.size ≤ 1048576) :
    Calls Tryd.prog 51 #[.string s, .int .i64 i] w fun e w' => e = .returned (.bool (endsB s i)) ∧ Drew w w' := by
  have HE := Lib.hid (show endsB s i = (bt s i == 58 && (decide (i + 1 = s.size) || bt s (i + 1) == 32)) from rfl)
  rw [bt_eq s i hi] at HE
  by_cases h1 : i + 1 = s.size
  · have e1 : ((i : Int) + 1 == (s.size : Int)) = true := by simp; omega
    cases h0 : ((s[i].toNat : Int) == 58)
    all_goals
      go_enter Tryd.func51, Tryd.ntmps51
      go_wp2_with fail
      go_ret
      refine ⟨ret_bool ?_, Drew.refl _⟩; rw [HE.out]; clear HE; have g0 := h0; (try have g2 := h2); simp at g0; (try simp at g2); simp [h1]; (try omega)
  · have e1 : ((i : Int) + 1 == (s.size : Int)) = false := by simp; omega
    have hi2 : i + 1 < s.size := by omega
    rw [bt_eq s (i + 1) hi2] at HE
    cases h0 : ((s[i].toNat : Int) == 58) <;> cases h2 : ((s[i + 1].toNat : Int) == 32)
    all_goals
      go_enter Tryd.func51, Tryd.ntmps51
      go_wp2_with fail
      go_ret
      refine ⟨ret_bool ?_, Drew.refl _⟩; rw [HE.out]; clear HE; have g0 := h0; (try have g2 := h2); simp at g0; (try simp at g2); simp [h1]; (try omega)

end Go.Proofs.YtbjialckijphiaaDoor
