/- impl.PlainOk for every text; the law's walk. -/
import Derived.Test.YtbjialckijphiaaDoorPlainJ
namespace Go.Proofs.YtbjialckijphiaaDoor
open Go.RowKit

set_option maxRecDepth 100000 in
theorem iPlainAll (s : ByteArray) (w : World) (hs : s.size ≤ 1048576) (hT : Tabs w) :
    Calls Tryd.prog 42 #[.string s] w fun e w' => e = .returned (.bool (plainAll s)) ∧ Below w.heap.size w w' := by
  have HP := Lib.hid (show plainAll s = (betweenB s.size 1 400 && ((runesO s).isSome && (!(bt s 0 == 32) && (!(bt s (s.size - 1) == 32) && plainB s)))) from rfl)
  cases hb : betweenB (s.size : Int) 1 400
  · go_enter Tryd.func42, Tryd.ntmps42
    go_wp2_with (go_at_call 34; refine (within_any _ _ _ _).mono ?_; rintro e w' ⟨rfl, rfl⟩)
    go_ret
    exact ⟨ret_bool (by rw [HP.out, hb]; rfl), Below.refl _ _⟩
  have h1 : 0 < s.size := by have := hb; simp [betweenB] at this; omega
  have HU := fun w0 hT => iUtf8Ok s w0 hs hT
  cases hv : (runesO s).isSome
  · rw [hv] at HU
    go_enter Tryd.func42, Tryd.ntmps42
    go_wp2_with (first | (go_at_call 34; refine (within_any _ _ _ _).mono ?_; rintro e w' ⟨rfl, rfl⟩) | (go_at_call 44; refine (HU _ hT).mono ?_; rintro e w1 ⟨rfl, hb1⟩))
    go_ret
    exact ⟨ret_bool (by rw [HP.out, hb, hv]; rfl), hb1⟩
  rw [hv] at HU
  have q0 := bt_eq s 0 (by omega)
  have q1 := bt_eq s (s.size - 1) (by omega)
  have hcx : ∀ w0 : World, Calls Tryd.prog 49 #[.string badFirst, .int .u8 (s[0].toNat : Int)] w0 fun e w' => e = .returned (.int .i64 (Lib.indexByte badFirst.data.toList s[0])) ∧ w' = w0 := fun w0 => by
    have := Tryd.strings_IndexByte badFirst (s[0].toNat : Int) w0
    simpa using this
  have HX := firstBad_ix s h1
  generalize Lib.indexByte badFirst.data.toList s[0] = ix at HX hcx
  cases hf : firstBad s
  · have hx : decide ((0 : Int) ≤ ix) = false := by rw [← HX]; exact hf
    have HC := Lib.hid hcx; have HU2 := Lib.hid HU; have HT := Lib.hid hT
    clear HX hcx HU hT
    cases e0 : ((s[0].toNat : Int) == 32)
    · have e0' : (bt s 0 == 32) = false := by rw [q0]; simp at e0; simp; omega
      cases e1 : ((s[s.size - 1].toNat : Int) == 32)
      · have e1' : (bt s (s.size - 1) == 32) = false := by rw [q1]; simp at e1; simp; omega
        refine (iPlainOk s w hs HT.out h1 hb hv hf e0 e1).mono ?_
        rintro e w' ⟨rfl, hb1⟩
        exact ⟨ret_bool (by rw [HP.out, hb, hv, e0', e1']; rfl), hb1⟩
      · have e1' : (bt s (s.size - 1) == 32) = true := by rw [q1]; simp at e1; simp; omega
        go_enter Tryd.func42, Tryd.ntmps42
        go_wp2_with (first | (go_at_call 34; refine (within_any _ _ _ _).mono ?_; rintro e w' ⟨rfl, rfl⟩) | (go_at_call 44; refine (HU2.out _ HT.out).mono ?_; rintro e w1 ⟨rfl, hb1⟩) | (go_at_call 49; refine (HC.out _).mono ?_; rintro e w2 ⟨rfl, rfl⟩))
        go_ret
        exact ⟨ret_bool (by rw [HP.out, hb, hv, e0', e1']; rfl), hb1⟩
    · have e0' : (bt s 0 == 32) = true := by rw [q0]; simp at e0; simp; omega
      go_enter Tryd.func42, Tryd.ntmps42
      go_wp2_with (first | (go_at_call 34; refine (within_any _ _ _ _).mono ?_; rintro e w' ⟨rfl, rfl⟩) | (go_at_call 44; refine (HU2.out _ HT.out).mono ?_; rintro e w1 ⟨rfl, hb1⟩) | (go_at_call 49; refine (HC.out _).mono ?_; rintro e w2 ⟨rfl, rfl⟩))
      go_ret
      exact ⟨ret_bool (by rw [HP.out, hb, hv, e0']; rfl), hb1⟩
  · have hx : decide ((0 : Int) ≤ ix) = true := by rw [← HX]; exact hf
    go_enter Tryd.func42, Tryd.ntmps42
    go_wp2_with (first | (go_at_call 34; refine (within_any _ _ _ _).mono ?_; rintro e w' ⟨rfl, rfl⟩) | (go_at_call 44; refine (HU _ hT).mono ?_; rintro e w1 ⟨rfl, hb1⟩) | (go_at_call 49; refine (hcx _).mono ?_; rintro e w2 ⟨rfl, rfl⟩))
    go_ret
    exact ⟨ret_bool (by rw [HP.out, ← plainB_first hf]; simp), hb1⟩

end Go.Proofs.YtbjialckijphiaaDoor
