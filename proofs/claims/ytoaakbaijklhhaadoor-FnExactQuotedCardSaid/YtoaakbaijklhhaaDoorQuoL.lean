/- The law of Quoted. -/
import Derived.Test.YtoaakbaijklhhaaDoorQuoI
namespace Go.Proofs.YtoaakbaijklhhaaDoor
open Go.RowKit

theorem lawQuoted (s : ByteArray) (hm : s.size ≤ maxLen) {w : World} (ha : Lib.VarReads Tryd.prog w "unicode/utf8.acceptRanges" Rows.laid_unicode_utf8_acceptRanges) (hf : Lib.VarReads Tryd.prog w "unicode/utf8.first" Rows.laid_unicode_utf8_first) :
    Calls Tryd.prog 5 #[.string s] w fun e w' => e = .returned (.bool true) ∧ Below w.heap.size w w' := by
  have hT := tabs_of ha hf
  clear ha hf
  unfold maxLen at hm
  by_cases hs : s.size ≤ 1048576
  · have HT := Lib.hid hT; clear hT
    go_enter Tryd.func5, Tryd.ntmps5
    go_wp2_with fail
    refine (sQuoted _ _ hs).mono ?_; rintro e w1 ⟨rfl, hb1⟩
    go_wp2_with fail
    refine (iQuoted _ _ hs (tabs_keep HT.out hb1)).mono ?_; rintro e w2 ⟨rfl, hb2⟩
    have e2 := beq_self_eq_true (quotedB s).toList
    go_wp2
    go_ret
    exact ⟨rfl, bnext hb1 hb2⟩
  · go_enter Tryd.func5, Tryd.ntmps5
    go_wp2
    go_ret
    exact ⟨rfl, Below.refl _ _⟩

end Go.Proofs.YtoaakbaijklhhaaDoor
