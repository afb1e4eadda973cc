/- How an argument of labels is opened; the laws' walks of LabelAt and SameLabels. -/
import Derived.Test.YtfblkmldonommaaMemC
import Derived.Deep.SlicePairs
import Derived.ProofKit
namespace Go.Proofs.Ytfblkmldonommaa
open Go.RowKit Go.Deep Go.ChangeShapes Go.WideShapes

theorem Try.cells36 : Try.prog.cellsOf 37 = 2 := by kernel_rfl
theorem Try.cellsStr : Try.prog.cellsOf 9 = 1 := by kernel_rfl
theorem Try.undLabel : ∃ f0 f1 : Field, Try.prog.underlying 37 = some (.struct #[f0, f1]) ∧ f0.offset = 0 ∧ f1.offset = 1 ∧ f0.type = 9 ∧ f1.type = 9 := ⟨_, _, Try.underlying37, rfl, rfl, rfl, rfl⟩

theorem keyAt_map (n : Nat) (f g : Nat → ByteArray) (i : Nat) (h : i < n) : keyAt ((List.range n).map fun i => (f i, g i)) i = f i := by
  simp [keyAt, List.getD_eq_getElem?_getD, h]
theorem valAt_map (n : Nat) (f g : Nat → ByteArray) (i : Nat) (h : i < n) : valAt ((List.range n).map fun i => (f i, g i)) i = g i := by
  simp [valAt, List.getD_eq_getElem?_getD, h]

theorem openLabels {H : Type} {enc : TypeId × Value → H} {W : World} {base : Nat} {v : Value} {d : DataW H} {p : List MemPlace} (hval : Value.okWide Try.prog W .any base 23 v)
    (h : DataW.Trod enc Try.prog W 0 (fun _ => true) true 23 v d p) :
    ∃ (a : Option Addr) (cap : Nat) (L : List (ByteArray × ByteArray)), v = .slice a L.length cap ∧ L.length ≤ maxLen ∧ SlAt W a L.length 2 (labF L) ∧ ∀ i, i < L.length → (keyAt L i).size ≤ maxLen ∧ (valAt L i).size ≤ maxLen := by
  obtain ⟨a, len, cap, rfl⟩ := okWide_slice Try.underlying23 hval
  obtain ⟨fuel, hf⟩ := h
  obtain ⟨f0, f1, hu, o0, o1, t0, t1⟩ := Try.undLabel
  rcases open_slice_pairs Try.underlying23 hu Try.cells36 o0 o1 (by rw [t0]; exact Try.cellsStr) (by rw [t1]; exact Try.cellsStr) hf with ⟨hcs, _⟩ | ⟨x, l, c, m, n, V0, V1, D0, D1, P0, P1, hcs, _, hl, hm, hmm, _, hx⟩
  · simp [Value.cells] at hcs
    obtain ⟨rfl, rfl, rfl⟩ := hcs
    exact ⟨none, 0, [], rfl, by simp, .inl rfl, fun i hi => by simp at hi⟩
  · simp [Value.cells] at hcs
    obtain ⟨rfl, rfl, rfl⟩ := hcs
    have hlm : len ≤ m := by rw [hmm]; split <;> omega
    have each : ∀ i, i < len → ∃ q : ByteArray × ByteArray, W.cell? (x.add (i * 2)) = some (.string q.1) ∧ W.cell? (x.add (i * 2 + 1)) = some (.string q.2) ∧ q.1.size ≤ maxLen ∧ q.2.size ≤ maxLen := fun i hi => by
      obtain ⟨c0, c1, r0, r1⟩ := hx i (by omega)
      rw [t0] at r0; rw [t1] at r1
      obtain ⟨s0, e0, -, z0⟩ := DataW.trod_string Try.underlying9 r0
      obtain ⟨s1, e1, -, z1⟩ := DataW.trod_string Try.underlying9 r1
      simp only [List.cons.injEq, and_true] at e0 e1
      exact ⟨(s0, s1), by rw [c0, e0], by rw [c1, e1], z0, z1⟩
    obtain ⟨q, hq⟩ := choose_lt each
    refine ⟨some x, cap, (List.range len).map fun i => ((q i).1, (q i).2), by simp, by simp; omega, ?_, ?_⟩
    · rw [List.length_map, List.length_range]
      rcases Nat.eq_zero_or_pos len with h0 | h0
      · exact .inl h0
      · obtain ⟨b, o, spot⟩ := x
        have hs : spot = none := by simpa [Addr.add] using World.cell?_spot (hq 0 h0).1
        subst hs
        refine .inr ⟨b, o, rfl, fun i hi j hj => ?_⟩
        obtain ⟨c0, c1, -, -⟩ := hq i hi
        rw [addr_add] at c0 c1
        rcases (show j = 0 ∨ j = 1 by omega) with rfl | rfl
        · rw [labF, if_pos rfl, keyAt_map _ _ _ _ hi]; exact c0
        · rw [labF, if_neg (by omega), valAt_map _ _ _ _ hi, Nat.add_assoc]; exact c1
    · intro i hi
      rw [List.length_map, List.length_range] at hi
      rw [keyAt_map _ _ _ _ hi, valAt_map _ _ _ _ hi]
      exact ⟨(hq i hi).2.2.1, (hq i hi).2.2.2⟩

theorem lawLabelAt {H : Type} {enc : TypeId × Value → H} {W : World} {base : Nat} {v : Value} {d : DataW H} {p : List MemPlace} (hval : Value.okWide Try.prog W .any base 23 v)
    (h : DataW.Trod enc Try.prog W 0 (fun _ => true) true 23 v d p) (key : ByteArray) (hkm : key.size ≤ maxLen) :
    Calls Try.prog 6 #[v, .string key] W fun e w' => e = .returned (.bool true) ∧ Below W.heap.size W w' := by
  obtain ⟨a, cap, L, rfl, hn, hL, hsz⟩ := openLabels hval h
  clear h hval
  unfold maxLen at hkm
  have hn2 := hn
  unfold maxLen at hn2
  have hl0 : (0 : Int) ≤ L.length := by omega
  have hl1 : (0 : Int) ≤ lenSum L L.length := by omega
  by_cases hk : key.size ≤ 1048576
  rotate_left
  · go_enter Try.func6, Try.ntmps6
    go_wp2
    go_ret
    exact ⟨rfl, Below.refl _ _⟩
  by_cases hs : (1048576 : Int) < L.length + lenSum L L.length
  · have hy := lessZ_neg hs
    go_enter Try.func6, Try.ntmps6
    go_wp2_with (go_at_call 14; refine (szLabelS_any L a cap _ _ hn hsz (by omega) (by omega) hL).mono ?_; rintro e w1 ⟨rfl, hb1⟩)
    go_ret
    exact ⟨rfl, hb1⟩
  have hy := lessZ_pos hs
  have hz : (0 : Int) ≤ 1048576 - (L.length + lenSum L L.length) := by omega
  have hL20 : L.length ≤ 1048576 := by omega
  have e1 := selfEq (lookV L key)
  have e2 := beq_self_eq_true (lookB L key)
  go_enter Try.func6, Try.ntmps6
  go_wp2_with fail
  refine (szLabelS_any L a cap _ _ hn hsz (by omega) (by omega) hL).mono ?_; rintro e w1 ⟨rfl, hb1⟩
  go_wp2_with fail
  have hL1 := hL.keep hb1
  refine (toLabelS_any L a cap _ hL20 hL1).mono ?_; rintro e w2 ⟨⟨g, F, rfl, hg, hrow, hF⟩, hb2⟩
  have hT := SlAt.of_row hrow (Nat.le_refl _) hF
  have HF := Lib.hid hF; clear hF
  go_wp2_with fail
  refine (sLabelAt L _ _ key _ hL20 hT).mono ?_; rintro e w3 ⟨rfl, rfl⟩
  go_wp2_with fail
  refine (toLabelS_any L a cap _ hL20 (hL1.keep hb2)).mono ?_; rintro e w4 ⟨⟨g', F', rfl, hg', hrow', hF'⟩, hb4⟩
  have hT' := SlAt.of_row hrow' (Nat.le_refl _) hF'
  have HF' := Lib.hid hF'; clear hF'
  go_wp2_with fail
  refine (iLabelAt L _ _ key _ hL20 hT').mono ?_; rintro e w5 ⟨rfl, hb5⟩
  go_wp2_with fail
  refine (toLabelS_any L a cap _ hL20 (((hL1.keep hb2).keep hb4).keep hb5)).mono ?_; rintro e w6 ⟨⟨g'', F'', rfl, hg'', hrow'', hF''⟩, hb6⟩
  have hT'' := SlAt.of_row hrow'' (Nat.le_refl _) hF''
  have HF'' := Lib.hid hF''; clear hF''
  go_wp2_with fail
  refine (eqLabelS_same L _ _ _ _ _ hL20 ((hT'.keep hb5).keep hb6) hT'').mono ?_; rintro e w7 ⟨rfl, hb7⟩
  go_wp2
  go_ret
  exact ⟨rfl, bnext (bnext (bnext (bnext (bnext hb1 hb2) hb4) hb5) hb6) hb7⟩
theorem lawSameLabels {H : Type} {enc : TypeId × Value → H} {W : World} {base base' : Nat} {v v' : Value} {d d' : DataW H} {p p' : List MemPlace} (hval : Value.okWide Try.prog W .any base 23 v)
    (h : DataW.Trod enc Try.prog W 0 (fun _ => true) true 23 v d p) (hval' : Value.okWide Try.prog W .any base' 23 v')
    (h' : DataW.Trod enc Try.prog W 0 (fun _ => true) true 23 v' d' p') :
    Calls Try.prog 7 #[v, v'] W fun e w' => e = .returned (.bool true) ∧ Below W.heap.size W w' := by
  obtain ⟨a, cap, L, rfl, hn, hL, hsz⟩ := openLabels hval h
  obtain ⟨a', cap', M, rfl, hm, hM, hszm⟩ := openLabels hval' h'
  clear h hval h' hval'
  have hn2 := hn
  have hm2 := hm
  unfold maxLen at hn2 hm2
  have hl0 : (0 : Int) ≤ L.length := by omega
  have hl1 : (0 : Int) ≤ lenSum L L.length := by omega
  have hm0 : (0 : Int) ≤ M.length := by omega
  have hm1 : (0 : Int) ≤ lenSum M M.length := by omega
  by_cases hs : (1048576 : Int) < L.length + lenSum L L.length
  · have hy := lessZ_neg hs
    go_enter Try.func7, Try.ntmps7
    go_wp2_with (go_at_call 14; refine (szLabelS_any L a cap _ _ hn hsz (by omega) (by omega) hL).mono ?_; rintro e w1 ⟨rfl, hb1⟩)
    go_ret
    exact ⟨rfl, hb1⟩
  have hy := lessZ_pos hs
  have hz : (0 : Int) ≤ 1048576 - (L.length + lenSum L L.length) := by omega
  have hL20 : L.length ≤ 1048576 := by omega
  by_cases hs' : (1048576 : Int) - (L.length + lenSum L L.length) < M.length + lenSum M M.length
  · have hy' := lessZ_neg hs'
    go_enter Try.func7, Try.ntmps7
    go_wp2_with fail
    refine (szLabelS_any L a cap _ _ hn hsz (by omega) (by omega) hL).mono ?_; rintro e w1 ⟨rfl, hb1⟩
    go_wp2_with fail
    refine (szLabelS_any M a' cap' _ _ hm hszm (by omega) (by omega) (hM.keep hb1)).mono ?_; rintro e w2 ⟨rfl, hb2⟩
    go_wp2
    go_ret
    exact ⟨rfl, bnext hb1 hb2⟩
  have hy' := lessZ_pos hs'
  have hz' : (0 : Int) ≤ 1048576 - (L.length + lenSum L L.length) - (M.length + lenSum M M.length) := by omega
  have hM20 : M.length ≤ 1048576 := by omega
  go_enter Try.func7, Try.ntmps7
  go_wp2_with fail
  refine (szLabelS_any L a cap _ _ hn hsz (by omega) (by omega) hL).mono ?_; rintro e w1 ⟨rfl, hb1⟩
  go_wp2_with fail
  refine (szLabelS_any M a' cap' _ _ hm hszm (by omega) (by omega) (hM.keep hb1)).mono ?_; rintro e w2 ⟨rfl, hb2⟩
  have hb12 := bnext hb1 hb2
  go_wp2_with fail
  refine (toLabelS_any L a cap _ hL20 (hL.keep hb12)).mono ?_; rintro e w3 ⟨⟨g1, F1, rfl, hg1, hrow1, hF1⟩, hb3⟩
  have hT1 := SlAt.of_row hrow1 (Nat.le_refl _) hF1
  have HF1 := Lib.hid hF1; clear hF1
  have hb13 := bnext hb12 hb3
  go_wp2_with fail
  refine (toLabelS_any M a' cap' _ hM20 (hM.keep hb13)).mono ?_; rintro e w4 ⟨⟨g2, F2, rfl, hg2, hrow2, hF2⟩, hb4⟩
  have hT2 := SlAt.of_row hrow2 (Nat.le_refl _) hF2
  have HF2 := Lib.hid hF2; clear hF2
  have hb14 := bnext hb13 hb4
  go_wp2_with fail
  refine (sSameLabels L M _ _ _ _ _ hL20 hM20 (hT1.keep hb4) hT2).mono ?_; rintro e w5 ⟨rfl, hb5⟩
  have hb15 := bnext hb14 hb5
  go_wp2_with fail
  refine (toLabelS_any L a cap _ hL20 (hL.keep hb15)).mono ?_; rintro e w6 ⟨⟨g3, F3, rfl, hg3, hrow3, hF3⟩, hb6⟩
  have hT3 := SlAt.of_row hrow3 (Nat.le_refl _) hF3
  have HF3 := Lib.hid hF3; clear hF3
  have hb16 := bnext hb15 hb6
  go_wp2_with fail
  refine (toLabelS_any M a' cap' _ hM20 (hM.keep hb16)).mono ?_; rintro e w7 ⟨⟨g4, F4, rfl, hg4, hrow4, hF4⟩, hb7⟩
  have hT4 := SlAt.of_row hrow4 (Nat.le_refl _) hF4
  have HF4 := Lib.hid hF4; clear hF4
  have hb17 := bnext hb16 hb7
  go_wp2_with fail
  refine (iSameLabels L M _ _ _ _ _ hL20 hM20 (hT3.keep hb7) hT4).mono ?_; rintro e w8 ⟨rfl, hb8⟩
  have hb18 := bnext hb17 hb8
  have e2 := beq_self_eq_true (sameLabs L M)
  go_wp2_with fail
  refine (toLabelS_any L a cap _ hL20 (hL.keep hb18)).mono ?_; rintro e w9 ⟨⟨g5, F5, rfl, hg5, hrow5, hF5⟩, hb9⟩
  have hT5 := SlAt.of_row hrow5 (Nat.le_refl _) hF5
  have HF5 := Lib.hid hF5; clear hF5
  have hb19 := bnext hb18 hb9
  go_wp2_with fail
  refine (eqLabelS_same L _ _ _ _ _ hL20 (((hT3.keep hb7).keep hb8).keep hb9) hT5).mono ?_; rintro e w10 ⟨rfl, hb10⟩
  have hb110 := bnext hb19 hb10
  go_wp2_with fail
  refine (toLabelS_any M a' cap' _ hM20 (hM.keep hb110)).mono ?_; rintro e w11 ⟨⟨g6, F6, rfl, hg6, hrow6, hF6⟩, hb11⟩
  have hT6 := SlAt.of_row hrow6 (Nat.le_refl _) hF6
  have HF6 := Lib.hid hF6; clear hF6
  go_wp2_with fail
  refine (eqLabelS_same M _ _ _ _ _ hM20 ((((hT4.keep hb8).keep hb9).keep hb10).keep hb11) hT6).mono ?_; rintro e w12 ⟨rfl, hb12'⟩
  go_wp2
  go_ret
  exact ⟨rfl, bnext (bnext hb110 hb11) hb12'⟩

end Go.Proofs.Ytfblkmldonommaa
