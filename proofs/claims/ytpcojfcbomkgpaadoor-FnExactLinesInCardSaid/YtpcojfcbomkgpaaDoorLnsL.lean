/- LinesIn: the law (printed by wip/gen/flatlaw.py). -/
import Derived.Test.YtpcojfcbomkgpaaDoorLnsI
namespace Go.Proofs.YtpcojfcbomkgpaaDoor
open Go.RowKit

theorem below_apart {W w w' : World} {L : List Nat} {lo : Nat} (h : Below W.heap.size W w) (ha : Apart L w w') (hd : ∀ x, x ∈ L → lo ≤ x) (hl : W.heap.size ≤ lo) : Below W.heap.size W w' :=
  h.trans (ha.below h.size fun x hx => Nat.le_trans hl (hd x hx))
/-- A fault in a local. -/
def FC (w : World) (b : Nat) (c p : Int) : Prop := w.rowIs b 30 3 (ZFl (.int .i64 c) (.int .i64 p) (.string ⟨#[]⟩))
theorem FC.new (w : World) (c p : Int) : FC (w.alloc (.cells #[.int .i64 c, .int .i64 p, .string ⟨#[]⟩] 30)) w.heap.size c p := World.rowIs_alloc w #[.int .i64 c, .int .i64 p, .string ⟨#[]⟩] 30 (ZFl (.int .i64 c) (.int .i64 p) (.string ⟨#[]⟩)) (ZFl_get _ _ _)
theorem FC.keep {w w' : World} {b : Nat} {c p : Int} (h : FC w b c p) (hb : Below w.heap.size w w') : FC w' b c p := rowIs_keep h hb
theorem FC.far {w w' : World} {b : Nat} {c p : Int} {L : List Nat} (h : FC w b c p) (ha : Apart L w w') (hd : ∀ x, x ∈ L → x ≠ b) : FC w' b c p :=
  World.rowIs.of_block h (ha.block _ (World.rowIs.lt h) fun hx => hd _ hx rfl)
theorem FC.cells {w : World} {b : Nat} {c p : Int} (h : FC w b c p) : w.cell? ⟨b, 0, none⟩ = some (.int .i64 c) ∧ w.cell? ⟨b, 1, none⟩ = some (.int .i64 p) ∧ w.cell? ⟨b, 2, none⟩ = some (.string ⟨#[]⟩) :=
  ⟨World.rowIs.cell h (by omega), World.rowIs.cell h (by omega), World.rowIs.cell h (by omega)⟩
theorem eqFault_same (c p : Int) (w : World) : Calls Tryd.prog 19 #[.agg #[.int .i64 c, .int .i64 p, .string ⟨#[]⟩], .agg #[.int .i64 c, .int .i64 p, .string ⟨#[]⟩]] w fun e w' => e = .returned (.bool true) ∧ Below w.heap.size w w' := by
  have e0 : (c != c) = false := by simp [bne]
  have e1 : (p != p) = false := by simp [bne]
  go_enter Tryd.func19, Tryd.ntmps19
  go_wp2
  go_ret
  exact ⟨rfl, by repeat (first | exact Below.refl _ _ | (refine Below.alloc ?_ (by first | omega | (simp; done) | (simp; omega)) _) | (refine Below.setCell ?_ (by first | omega | (simp; done) | (simp; omega)) _) | (refine Below.drew ?_) | (refine below_drewN ?_ _))⟩

set_option maxRecDepth 100000 in
set_option maxHeartbeats 4000000 in
theorem lawLinesIn (s : ByteArray) (hm : s.size ≤ maxLen) {w : World} (ha : Lib.VarReads Tryd.prog w "unicode/utf8.acceptRanges" Rows.laid_unicode_utf8_acceptRanges) (hf : Lib.VarReads Tryd.prog w "unicode/utf8.first" Rows.laid_unicode_utf8_first) (hsh : w.ShapedOpen Tryd.prog) :
    Calls Tryd.prog 5 #[.string s] w fun e w' => e = .returned (.bool true) ∧ Below w.heap.size w w' := by
  have hM : MaxOk w := Tryd.laysM146.s1_3 w hsh
  have hTb := tabs_of ha hf
  clear ha hf hsh
  unfold maxLen at hm
  by_cases hs : s.size ≤ 1048576
  · skip
    have hS := fun w0 => sLinesIn s w0 hs
    have hI := fun w0 (hb : Below w.heap.size w w0) => iLinesIn s w0 hs (tabs_keep hTb hb) (hM.keep hb)
    have hlen := lns_len s
    unfold LnsV at hS hI
    generalize lnsC s = C at hS hI
    generalize lnsP s = Q at hS hI
    generalize lnsL s = l at hS hI hlen
    have HS := Lib.hid hS; have HI := Lib.hid hI
    clear hS hI hM hTb
    obtain ⟨m, hmm⟩ : ∃ m : Int, m = 1 + 3 * (l.length : Int) := ⟨_, rfl⟩
    have hmd : decide (m < 0) = false := decide_eq_false (by omega)
    have HM := Lib.hid hmm; clear hmm
    have em : (m != m) = false := by simp
    have HB := Lib.hid (Below.refl w.heap.size w)
    go_enter Tryd.func5, Tryd.ntmps5
    go_wp2_with fail
    refine (HS.out _).mono ?_
    rintro e w1 ⟨⟨a1, n1, f1, rfl, hg1⟩, hb1⟩
    have HB := Lib.hid (bnext HB.out (hb1))
    have hz1 := hb1.size; (try simp only [World.size_alloc] at hz1 hg1); clear hb1
    have Hw := Lib.hid hg1; clear hg1
    have hal := allocBel w1 (.cells #[.int .i64 C, .int .i64 Q, .string ⟨#[]⟩] 30)
    have HB := Lib.hid (bnext HB.out (hal))
    have Hw := Lib.hid (Hw.out.keep (hal))
    clear hal
    have Hp := Lib.hid (FC.new w1 C Q)
    go_wp2_with fail
    refine (HI.out _ HB.out).mono ?_
    rintro e w2 ⟨⟨a2, n2, f2, rfl, hg2⟩, hb2⟩
    have HB := Lib.hid (bnext HB.out (hb2))
    have Hw := Lib.hid (Hw.out.keep (hb2))
    have Hp := Lib.hid (Hp.out.keep (hb2))
    have hz2 := hb2.size; (try simp only [World.size_alloc] at hz2 hg2); clear hb2
    have Hg := Lib.hid hg2; clear hg2
    have hal := allocBel w2 (.cells #[.int .i64 C, .int .i64 Q, .string ⟨#[]⟩] 30)
    have HB := Lib.hid (bnext HB.out (hal))
    have Hw := Lib.hid (Hw.out.keep (hal))
    have Hp := Lib.hid (Hp.out.keep (hal))
    have Hg := Lib.hid (Hg.out.keep (hal))
    clear hal
    have Hq := Lib.hid (FC.new w2 C Q)
    obtain ⟨c1_0, c1_1, c1_2⟩ := (Hq.out).cells
    obtain ⟨c2_0, c2_1, c2_2⟩ := (Hp.out).cells
    go_wp2_with fail
    clear c1_0 c1_1 c1_2 c2_0 c2_1 c2_2
    refine (eqLineS_same l _ _ _ _ _ (by omega) Hg.out.own.sl Hw.out.own.sl).mono ?_
    rintro e w3 ⟨rfl, hb3⟩
    have HB := Lib.hid (bnext HB.out (hb3))
    have Hw := Lib.hid (Hw.out.keep (hb3))
    have Hp := Lib.hid (Hp.out.keep (hb3))
    have Hg := Lib.hid (Hg.out.keep (hb3))
    have Hq := Lib.hid (Hq.out.keep (hb3))
    have hz3 := hb3.size; (try simp only [World.size_alloc] at hz3); clear hb3
    obtain ⟨c3_0, c3_1, c3_2⟩ := (Hq.out).cells
    obtain ⟨c4_0, c4_1, c4_2⟩ := (Hp.out).cells
    go_wp2_with fail
    clear c3_0 c3_1 c3_2 c4_0 c4_1 c4_2
    refine (eqFault_same C Q _).mono ?_
    rintro e w4 ⟨rfl, hb4⟩
    have HB := Lib.hid (bnext HB.out (hb4))
    have Hw := Lib.hid (Hw.out.keep (hb4))
    have Hp := Lib.hid (Hp.out.keep (hb4))
    have Hg := Lib.hid (Hg.out.keep (hb4))
    have Hq := Lib.hid (Hq.out.keep (hb4))
    have hz4 := hb4.size; clear hb4
    go_wp2_with fail
    refine (mark1Line l.length _ a2 n2 f2 _ m (by omega) HM.out Hg.out.own).mono ?_
    rintro e w5 ⟨rfl, ho5, ha5⟩
    have HB' := Lib.hid (below_apart HB.out ha5 (fun x hx => (Hg.out.fb x hx).1) (by omega))
    have Hw' := Lib.hid (Hw.out.far ha5 (fun x hx => by have := Hg.out.fb x hx; omega))
    have Hp' := Lib.hid (Hp.out.far ha5 (fun x hx => by have := Hg.out.fb x hx; omega))
    have Hq' := Lib.hid (Hq.out.far ha5 (fun x hx => by have := Hg.out.fb x hx; omega))
    have Hg' : Hid (GFlat _ _ _ _ l.length 3 (markLine 1) f2) := Lib.hid ⟨ho5, Hg.out.fb⟩
    have HB := Lib.hid HB'.out
    clear HB'
    have Hw := Lib.hid Hw'.out
    clear Hw'
    have Hp := Lib.hid Hp'.out
    clear Hp'
    have Hg := Lib.hid Hg'.out
    clear Hg'
    have Hq := Lib.hid Hq'.out
    clear Hq'
    have hz5 := ha5.size; clear ha5 ho5
    go_wp2_with fail
    refine (held1Line l.length a2 n2 _ m (by omega) HM.out Hg.out.own.sl).mono ?_
    rintro e w6 ⟨rfl, hb6⟩
    have HB := Lib.hid (bnext HB.out (hb6))
    have Hw := Lib.hid (Hw.out.keep (hb6))
    have Hp := Lib.hid (Hp.out.keep (hb6))
    have Hg := Lib.hid (Hg.out.keep (hb6))
    have Hq := Lib.hid (Hq.out.keep (hb6))
    have hz6 := hb6.size; clear hb6
    go_wp2_with fail
    refine (HI.out _ HB.out).mono ?_
    rintro e w7 ⟨⟨a7, n7, f7, rfl, hg7⟩, hb7⟩
    have HB := Lib.hid (bnext HB.out (hb7))
    have Hw := Lib.hid (Hw.out.keep (hb7))
    have Hp := Lib.hid (Hp.out.keep (hb7))
    have Hg := Lib.hid (Hg.out.keep (hb7))
    have Hq := Lib.hid (Hq.out.keep (hb7))
    have hz7 := hb7.size; (try simp only [World.size_alloc] at hz7 hg7); clear hb7
    have Hh := Lib.hid hg7; clear hg7
    have hal := allocBel w7 (.cells #[.int .i64 C, .int .i64 Q, .string ⟨#[]⟩] 30)
    have HB := Lib.hid (bnext HB.out (hal))
    have Hw := Lib.hid (Hw.out.keep (hal))
    have Hp := Lib.hid (Hp.out.keep (hal))
    have Hg := Lib.hid (Hg.out.keep (hal))
    have Hq := Lib.hid (Hq.out.keep (hal))
    have Hh := Lib.hid (Hh.out.keep (hal))
    clear hal
    have Hr := Lib.hid (FC.new w7 C Q)
    obtain ⟨c5_0, c5_1, c5_2⟩ := (Hr.out).cells
    obtain ⟨c6_0, c6_1, c6_2⟩ := (Hp.out).cells
    go_wp2_with fail
    clear c5_0 c5_1 c5_2 c6_0 c6_1 c6_2
    refine (eqLineS_same l _ _ _ _ _ (by omega) Hh.out.own.sl Hw.out.own.sl).mono ?_
    rintro e w8 ⟨rfl, hb8⟩
    have HB := Lib.hid (bnext HB.out (hb8))
    have Hw := Lib.hid (Hw.out.keep (hb8))
    have Hp := Lib.hid (Hp.out.keep (hb8))
    have Hg := Lib.hid (Hg.out.keep (hb8))
    have Hq := Lib.hid (Hq.out.keep (hb8))
    have Hh := Lib.hid (Hh.out.keep (hb8))
    have Hr := Lib.hid (Hr.out.keep (hb8))
    have hz8 := hb8.size; (try simp only [World.size_alloc] at hz8); clear hb8
    obtain ⟨c7_0, c7_1, c7_2⟩ := (Hr.out).cells
    obtain ⟨c8_0, c8_1, c8_2⟩ := (Hp.out).cells
    go_wp2_with fail
    clear c7_0 c7_1 c7_2 c8_0 c8_1 c8_2
    refine (eqFault_same C Q _).mono ?_
    rintro e w9 ⟨rfl, hb9⟩
    have HB := Lib.hid (bnext HB.out (hb9))
    have Hw := Lib.hid (Hw.out.keep (hb9))
    have Hp := Lib.hid (Hp.out.keep (hb9))
    have Hg := Lib.hid (Hg.out.keep (hb9))
    have Hq := Lib.hid (Hq.out.keep (hb9))
    have Hh := Lib.hid (Hh.out.keep (hb9))
    have Hr := Lib.hid (Hr.out.keep (hb9))
    have hz9 := hb9.size; clear hb9
    go_wp2_with fail
    refine (held1Line l.length a2 n2 _ m (by omega) HM.out Hg.out.own.sl).mono ?_
    rintro e w10 ⟨rfl, hb10⟩
    have HB := Lib.hid (bnext HB.out (hb10))
    have Hw := Lib.hid (Hw.out.keep (hb10))
    have Hp := Lib.hid (Hp.out.keep (hb10))
    have Hg := Lib.hid (Hg.out.keep (hb10))
    have Hq := Lib.hid (Hq.out.keep (hb10))
    have Hh := Lib.hid (Hh.out.keep (hb10))
    have Hr := Lib.hid (Hr.out.keep (hb10))
    have hz10 := hb10.size; clear hb10
    go_wp2
    go_ret
    exact ⟨rfl, HB.out⟩
  · go_enter Tryd.func5, Tryd.ntmps5
    go_wp2
    go_ret
    exact ⟨rfl, Below.refl _ _⟩

end Go.Proofs.YtpcojfcbomkgpaaDoor
