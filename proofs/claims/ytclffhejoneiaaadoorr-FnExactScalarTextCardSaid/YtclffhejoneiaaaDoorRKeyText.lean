/- KeyText: contracts of both texts; the law. -/
import Derived.Test.YtclffhejoneiaaaDoorRQuoI
import Derived.Test.YtclffhejoneiaaaDoorRPlainL
namespace Go.Proofs.YtclffhejoneiaaaDoorR
open Go.RowKit

def keyTextB (s : ByteArray) : ByteArray := if plainAll s = true then s else quotedB s
theorem sKeyText (s : ByteArray) (w : World) (hs : s.size ≤ 1048576) :
    Calls Tryd.prog 64 #[.string s] w fun e w' => e = .returned (.string (keyTextB s)) ∧ Below w.heap.size w w' := by
  have HK : Hid (keyTextB s = if plainAll s = true then s else quotedB s) := rfl
  have hp := sPlainAll s w hs
  cases h : plainAll s
  all_goals
    rw [h] at hp
    go_enter Tryd.func64, Tryd.ntmps64
    go_wp2_with (first | (go_at_call 103; refine hp.mono ?_; rintro e w1 ⟨rfl, hb1⟩) | (go_at_call 104; refine (sQuoted _ _ hs).mono ?_; rintro e w2 ⟨rfl, hb2⟩))
    go_ret
  · exact ⟨ret_str (by rw [HK.out, h]; rfl), bnext hb1 hb2⟩
  · exact ⟨ret_str (by rw [HK.out, h]; rfl), hb1⟩
theorem iKeyText (s : ByteArray) (w : World) (hs : s.size ≤ 1048576) (hT : Tabs w) :
    Calls Tryd.prog 67 #[.string s] w fun e w' => e = .returned (.string (keyTextB s)) ∧ Below w.heap.size w w' := by
  have HK : Hid (keyTextB s = if plainAll s = true then s else quotedB s) := rfl
  have hp := iPlainAll s w hs hT
  have HT := Lib.hid hT; clear hT
  cases h : plainAll s
  all_goals
    rw [h] at hp
    go_enter Tryd.func67, Tryd.ntmps67
    go_wp2_with (first | (go_at_call 105; refine hp.mono ?_; rintro e w1 ⟨rfl, hb1⟩) | (go_at_call 106; refine (iQuoted _ _ hs (tabs_keep HT.out hb1)).mono ?_; rintro e w2 ⟨rfl, hb2⟩))
    go_ret
  · exact ⟨ret_str (by rw [HK.out, h]; rfl), bnext hb1 hb2⟩
  · exact ⟨ret_str (by rw [HK.out, h]; rfl), hb1⟩

end Go.Proofs.YtclffhejoneiaaaDoorR
