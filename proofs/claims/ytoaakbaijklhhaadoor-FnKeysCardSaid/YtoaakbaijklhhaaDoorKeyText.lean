/- KeyText: contracts of both texts; the law. -/
import Derived.Test.YtoaakbaijklhhaaDoorQuoI
import Derived.Test.YtoaakbaijklhhaaDoorPlainL
namespace Go.Proofs.YtoaakbaijklhhaaDoor
open Go.RowKit

def keyTextB (s : ByteArray) : ByteArray := if plainAll s = true then s else quotedB s
theorem sKeyText (s : ByteArray) (w : World) (hs : s.size ≤ 1048576) :
    Calls Tryd.prog 24 #[.string s] w fun e w' => e = .returned (.string (keyTextB s)) ∧ Below w.heap.size w w' := by
  have HK : Hid (keyTextB s = if plainAll s = true then s else quotedB s) := rfl
  have hp := sPlainAll s w hs
  cases h : plainAll s
  all_goals
    rw [h] at hp
    go_enter Tryd.func24, Tryd.ntmps24
    go_wp2_with (first | (go_at_call 20; refine hp.mono ?_; rintro e w1 ⟨rfl, hb1⟩) | (go_at_call 22; refine (sQuoted _ _ hs).mono ?_; rintro e w2 ⟨rfl, hb2⟩))
    go_ret
  · exact ⟨ret_str (by rw [HK.out, h]; rfl), bnext hb1 hb2⟩
  · exact ⟨ret_str (by rw [HK.out, h]; rfl), hb1⟩
theorem iKeyText (s : ByteArray) (w : World) (hs : s.size ≤ 1048576) (hT : Tabs w) :
    Calls Tryd.prog 25 #[.string s] w fun e w' => e = .returned (.string (keyTextB s)) ∧ Below w.heap.size w w' := by
  have HK : Hid (keyTextB s = if plainAll s = true then s else quotedB s) := rfl
  have hp := iPlainAll s w hs hT
  have HT := Lib.hid hT; clear hT
  cases h : plainAll s
  all_goals
    rw [h] at hp
    go_enter Tryd.func25, Tryd.ntmps25
    go_wp2_with (first | (go_at_call 21; refine hp.mono ?_; rintro e w1 ⟨rfl, hb1⟩) | (go_at_call 23; refine (iQuoted _ _ hs (tabs_keep HT.out hb1)).mono ?_; rintro e w2 ⟨rfl, hb2⟩))
    go_ret
  · exact ⟨ret_str (by rw [HK.out, h]; rfl), bnext hb1 hb2⟩
  · exact ⟨ret_str (by rw [HK.out, h]; rfl), hb1⟩

theorem lawKeyText (s : ByteArray) (hm : s.size ≤ maxLen) {w : World} (ha : Lib.VarReads Tryd.prog w "unicode/utf8.acceptRanges" Rows.laid_unicode_utf8_acceptRanges) (hf : Lib.VarReads Tryd.prog w "unicode/utf8.first" Rows.laid_unicode_utf8_first) :
    Calls Tryd.prog 6 #[.string s] w fun e w' => e = .returned (.bool true) ∧ Below w.heap.size w w' := by
  have hT := tabs_of ha hf
  clear ha hf
  unfold maxLen at hm
  by_cases hs : s.size ≤ 1048576
  · have HT := Lib.hid hT; clear hT
    go_enter Tryd.func6, Tryd.ntmps6
    go_wp2_with fail
    refine (sKeyText _ _ hs).mono ?_; rintro e w1 ⟨rfl, hb1⟩
    go_wp2_with fail
    refine (iKeyText _ _ hs (tabs_keep HT.out hb1)).mono ?_; rintro e w2 ⟨rfl, hb2⟩
    have e2 := beq_self_eq_true (keyTextB s).toList
    go_wp2
    go_ret
    exact ⟨rfl, bnext hb1 hb2⟩
  · go_enter Tryd.func6, Tryd.ntmps6
    go_wp2
    go_ret
    exact ⟨rfl, Below.refl _ _⟩

end Go.Proofs.YtoaakbaijklhhaaDoor
