/- The law's walk of LabelsOk. -/
import Derived.Test.YtjkfjdapkkhkfaaLabOk
import Derived.Test.YtjkfjdapkkhkfaaMemL
namespace Go.Proofs.Ytjkfjdapkkhkfaa
open Go.RowKit

theorem lawLabelsOk {H : Type} {enc : TypeId × Value → H} {W : World} {base : Nat} {v : Value} {d : DataW H} {p : List MemPlace} (hval : Value.okWide Try.prog W .any base 22 v)
    (h : DataW.Trod enc Try.prog W 0 (fun _ => true) true 22 v d p) :
    Calls Try.prog 3 #[v] W fun e w' => e = .returned (.bool true) ∧ Below W.heap.size W w' := by
  obtain ⟨a, cap, L, rfl, hn, hL, hsz⟩ := openLabels hval h
  clear h hval
  have hn2 := hn
  unfold maxLen at hn2
  have hl0 : (0 : Int) ≤ L.length := by omega
  have hl1 : (0 : Int) ≤ lenSum L L.length := by omega
  by_cases hs : (1048576 : Int) < L.length + lenSum L L.length
  · have hy := lessZ_neg hs
    go_enter Try.func3, Try.ntmps3
    go_wp2_with (go_at_call 10; refine (szLabelS_any L a cap _ _ hn hsz (by omega) (by omega) hL).mono ?_; rintro e w1 ⟨rfl, hb1⟩)
    go_ret
    exact ⟨rfl, hb1⟩
  have hy := lessZ_pos hs
  have hz : (0 : Int) ≤ 1048576 - (L.length + lenSum L L.length) := by omega
  have hL20 : L.length ≤ 1048576 := by omega
  have HS := Lib.hid (size_le_sum L 1048576 (by omega))
  have e1 := beq_self_eq_true (labsOkB L)
  go_enter Try.func3, Try.ntmps3
  go_wp2_with fail
  refine (szLabelS_any L a cap _ _ hn hsz (by omega) (by omega) hL).mono ?_; rintro e w1 ⟨rfl, hb1⟩
  go_wp2_with fail
  have hL1 := hL.keep hb1
  refine (toLabelS_any L a cap _ hL20 hL1).mono ?_; rintro e w2 ⟨⟨g, F, rfl, hg, hrow, hF⟩, hb2⟩
  have hT := SlAt.of_row hrow (Nat.le_refl _) hF
  have HF := Lib.hid hF; clear hF
  go_wp2_with fail
  refine (sLabelsOk L _ _ _ hL20 hT HS.out).mono ?_; rintro e w3 ⟨rfl, hb3⟩
  go_wp2_with fail
  refine (toLabelS_any L a cap _ hL20 ((hL1.keep hb2).keep hb3)).mono ?_; rintro e w4 ⟨⟨g', F', rfl, hg', hrow', hF'⟩, hb4⟩
  have hT' := SlAt.of_row hrow' (Nat.le_refl _) hF'
  have HF' := Lib.hid hF'; clear hF'
  go_wp2_with fail
  refine (iLabelsOk L _ _ _ hL20 hT' HS.out).mono ?_; rintro e w5 ⟨rfl, hb5⟩
  go_wp2_with fail
  refine (toLabelS_any L a cap _ hL20 ((((hL1.keep hb2).keep hb3).keep hb4).keep hb5)).mono ?_; rintro e w6 ⟨⟨g'', F'', rfl, hg'', hrow'', hF''⟩, hb6⟩
  have hT'' := SlAt.of_row hrow'' (Nat.le_refl _) hF''
  have HF'' := Lib.hid hF''; clear hF''
  go_wp2_with fail
  refine (eqLabelS_same L _ _ _ _ _ hL20 ((hT'.keep hb5).keep hb6) hT'').mono ?_; rintro e w7 ⟨rfl, hb7⟩
  go_wp2
  go_ret
  exact ⟨rfl, bnext (bnext (bnext (bnext (bnext (bnext hb1 hb2) hb3) hb4) hb5) hb6) hb7⟩

end Go.Proofs.Ytjkfjdapkkhkfaa
