/- spec.PlainOk: the contract for every text. -/
import Derived.Test.YtbjialckijphiaaDoorPlainS
namespace Go.Proofs.YtbjialckijphiaaDoor
open Go.RowKit

def plainAll (s : ByteArray) : Bool := betweenB s.size 1 400 && ((runesO s).isSome && (!(bt s 0 == 32) && (!(bt s (s.size - 1) == 32) && plainB s)))

set_option maxRecDepth 100000 in
theorem sPlainAll (s : ByteArray) (w : World) (hs : s.size ≤ 1048576) :
    Calls Tryd.prog 41 #[.string s] w fun e w' => e = .returned (.bool (plainAll s)) ∧ Below w.heap.size w w' := by
  have HP := Lib.hid (show plainAll s = (betweenB s.size 1 400 && ((runesO s).isSome && (!(bt s 0 == 32) && (!(bt s (s.size - 1) == 32) && plainB s)))) from rfl)
  cases hb : betweenB (s.size : Int) 1 400
  · go_enter Tryd.func41, Tryd.ntmps41
    go_wp2_with (go_at_call 32; refine (l01In_any _ _ _ _).mono ?_; rintro e w' ⟨rfl, rfl⟩)
    go_ret
    exact ⟨ret_bool (by rw [HP.out, hb]; rfl), Below.refl _ _⟩
  have h1 : 1 ≤ s.size := by have := hb; simp [betweenB] at this; omega
  cases hv : (runesO s).isSome
  · go_enter Tryd.func41, Tryd.ntmps41
    go_wp2_with (go_at_call 32; refine (l01In_any _ _ _ _).mono ?_; rintro e w' ⟨rfl, rfl⟩)
    refine (sUtf8Ok _ _ hs).mono ?_; rintro e w1 ⟨rfl, hb1⟩
    rw [hv]
    go_wp2_with fail
    go_ret
    exact ⟨ret_bool (by rw [HP.out, hb, hv]; rfl), hb1⟩
  have q0 := bt_eq s 0 (by omega)
  have q1 := bt_eq s (s.size - 1) (by omega)
  cases e0 : ((s[0].toNat : Int) == 32)
  · have e0' : (bt s 0 == 32) = false := by rw [q0]; simp at e0; simp; omega
    cases e1 : ((s[s.size - 1].toNat : Int) == 32)
    · have e1' : (bt s (s.size - 1) == 32) = false := by rw [q1]; simp at e1; simp; omega
      refine (sPlainOk s w hs h1 hb hv e0 e1).mono ?_
      rintro e w' ⟨rfl, hb1⟩
      exact ⟨ret_bool (by rw [HP.out, hb, hv, e0', e1']; rfl), hb1⟩
    · have e1' : (bt s (s.size - 1) == 32) = true := by rw [q1]; simp at e1; simp; omega
      go_enter Tryd.func41, Tryd.ntmps41
      go_wp2_with (go_at_call 32; refine (l01In_any _ _ _ _).mono ?_; rintro e w' ⟨rfl, rfl⟩)
      refine (sUtf8Ok _ _ hs).mono ?_; rintro e w1 ⟨rfl, hb1⟩
      rw [hv]
      go_wp2_with fail
      go_ret
      exact ⟨ret_bool (by rw [HP.out, hb, hv, e0', e1']; rfl), hb1⟩
  · have e0' : (bt s 0 == 32) = true := by rw [q0]; simp at e0; simp; omega
    go_enter Tryd.func41, Tryd.ntmps41
    go_wp2_with (go_at_call 32; refine (l01In_any _ _ _ _).mono ?_; rintro e w' ⟨rfl, rfl⟩)
    refine (sUtf8Ok _ _ hs).mono ?_; rintro e w1 ⟨rfl, hb1⟩
    rw [hv]
    go_wp2_with fail
    go_ret
    exact ⟨ret_bool (by rw [HP.out, hb, hv, e0']; rfl), hb1⟩

end Go.Proofs.YtbjialckijphiaaDoor
