/- The law of ReadQuoted. -/
import Derived.Test.YtoaakbaijklhhaaDoorRqJ
import Derived.PinnedBridge
namespace Go.Proofs.YtoaakbaijklhhaaDoor
open Go.RowKit

theorem cases_of {W : World} (h : Lib.VarReads Tryd.prog W "unicode.CaseRanges" Rows.laid_unicode_CaseRanges) : Cases W :=
  caseVar_of_reads (ρ := Tryd.lays204_ren) { Tryd.lays204 with } Tryd.lays204.t206 ⟨by kernel_rfl, by kernel_rfl, by kernel_rfl, by kernel_rfl, by kernel_rfl, by kernel_rfl⟩ (Pinned.caseRanges_eq ▸ h)

theorem lawReadQuoted (s : ByteArray) (hm : s.size ≤ maxLen) (p : Int) (_hp : (Lit.int .i64 p).wf = true) {w : World} (ha : Lib.VarReads Tryd.prog w "unicode/utf8.acceptRanges" Rows.laid_unicode_utf8_acceptRanges) (hc : Lib.VarReads Tryd.prog w "unicode.CaseRanges" Rows.laid_unicode_CaseRanges) (hf : Lib.VarReads Tryd.prog w "unicode/utf8.first" Rows.laid_unicode_utf8_first) :
    Calls Tryd.prog 9 #[.string s, .int .i64 p] w fun e w' => e = .returned (.bool true) ∧ Below w.heap.size w w' := by
  have hT := tabs_of ha hf
  have hV := cases_of hc
  clear ha hf hc
  unfold maxLen at hm
  by_cases hs : s.size ≤ 1048576
  · have HT := Lib.hid hT; have HV := Lib.hid hV; clear hT hV
    go_enter Tryd.func9, Tryd.ntmps9
    go_wp2_with fail
    refine (sReadQuoted _ _ _ hs).mono ?_; rintro e w1 ⟨rfl, hb1⟩
    go_wp2_with fail
    refine (iReadQuoted _ _ _ hs (tabs_keep HT.out hb1) (cases_keep HV.out hb1)).mono ?_; rintro e w2 ⟨rfl, hb2⟩
    have e2 := beq_self_eq_true (qText (readQ s p)).toList
    have e3 : (qEnd (readQ s p) != qEnd (readQ s p)) = false := by simp
    go_wp2
    go_ret
    exact ⟨rfl, bnext hb1 hb2⟩
  · go_enter Tryd.func9, Tryd.ntmps9
    go_wp2
    go_ret
    exact ⟨rfl, Below.refl _ _⟩

end Go.Proofs.YtoaakbaijklhhaaDoor
