/- KeyText: contracts of both texts; the law. -/
import Derived.Test.YtbjialckijphiaaDoorQuoI
import Derived.Test.YtbjialckijphiaaDoorPlainL
namespace Go.Proofs.YtbjialckijphiaaDoor
open Go.RowKit

def keyTextB (s : ByteArray) : ByteArray := if plainAll s = true then s else quotedB s

theorem sKeyText (s : ByteArray) (w : World) (hs : s.size ≤ 1048576) :
    Calls Tryd.prog 30 #[.string s] w fun e w' => e = .returned (.string (keyTextB s)) ∧ Below w.heap.size w w' := by
  have HK : Hid (keyTextB s = if plainAll s = true then s else quotedB s) := rfl
  have hp := sPlainAll s w hs
  cases h : plainAll s
  all_goals
    rw [h] at hp
    go_enter Tryd.func30, Tryd.ntmps30
    go_wp2_with (first | (go_at_call 41; refine hp.mono ?_; rintro e w1 ⟨rfl, hb1⟩) | (go_at_call 36; refine (sQuoted _ _ hs).mono ?_; rintro e w2 ⟨rfl, hb2⟩))
    go_ret
  · exact ⟨ret_str (by rw [HK.out, h]; rfl), bnext hb1 hb2⟩
  · exact ⟨ret_str (by rw [HK.out, h]; rfl), hb1⟩

theorem iKeyText (s : ByteArray) (w : World) (hs : s.size ≤ 1048576) (hT : Tabs w) :
    Calls Tryd.prog 31 #[.string s] w fun e w' => e = .returned (.string (keyTextB s)) ∧ Below w.heap.size w w' := by
  have HK : Hid (keyTextB s = if plainAll s = true then s else quotedB s) := rfl
  have hp := iPlainAll s w hs hT
  have HT := Lib.hid hT; clear hT
  cases h : plainAll s
  all_goals
    rw [h] at hp
    go_enter Tryd.func31, Tryd.ntmps31
    go_wp2_with (first | (go_at_call 42; refine hp.mono ?_; rintro e w1 ⟨rfl, hb1⟩) | (go_at_call 39; refine (iQuoted _ _ hs (tabs_keep HT.out hb1)).mono ?_; rintro e w2 ⟨rfl, hb2⟩))
    go_ret
  · exact ⟨ret_str (by rw [HK.out, h]; rfl), bnext hb1 hb2⟩
  · exact ⟨ret_str (by rw [HK.out, h]; rfl), hb1⟩

end Go.Proofs.YtbjialckijphiaaDoor
