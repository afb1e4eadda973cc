/- The law's walk of ReadLabelsLine. -/
import Derived.Test.YtjkfjdapkkhkfaaDoorReadLI
import Derived.Test.YtjkfjdapkkhkfaaDoorMarkLab
import Derived.Lib.LaidU8
namespace Go.Proofs.YtjkfjdapkkhkfaaDoor
open Go.RowKit

theorem markL1 (n : Nat) (f : Nat → Nat → Value) (a : Option Addr) (cap : Nat) (fp : List Nat) (w : World) (m : Int) (hn : n ≤ 1000000) (hm : m = 1 + 2 * (n : Int)) (ho : FlatOwn w (.slice a n cap) n 2 f fp) :
    Calls Tryd.prog 17 #[.slice a n cap, .int .i64 1] w fun e w' => e = .returned (.int .i64 m) ∧ FlatOwn w' (.slice a n cap) n 2 (markLab 1) fp ∧ Apart fp w w' := by
  refine (markLabelS_own n f a cap fp 1 w (by omega) ho).mono ?_
  rintro e w' ⟨rfl, h1⟩
  exact ⟨ret_int (by omega), h1⟩
theorem heldL1 (n : Nat) (a : Option Addr) (cap : Nat) (w : World) (m : Int) (hn : n ≤ 1000000) (hm : m = 1 + 2 * (n : Int)) (hc : SlAt w a n 2 (markLab 1)) :
    Calls Tryd.prog 18 #[.slice a n cap, .int .i64 1] w fun e w' => e = .returned (.int .i64 m) ∧ Below w.heap.size w w' := by
  refine (heldLabelS_in n a cap 1 w (by omega) hc).mono ?_
  rintro e w' ⟨rfl, h1⟩
  exact ⟨ret_int (by omega), h1⟩
theorem readL_len (s : ByteArray) : (readL s).length ≤ 6 := by
  unfold readL
  split
  · simp
  · split
    · rename_i hd h
      have hd' : dashB s = false := by simpa using hd
      rw [readOkB, hd'] at h
      simp only [Bool.false_or, Bool.and_eq_true, decide_eq_true_eq] at h
      exact (labs_len h.2.2).1
    · simp

set_option maxRecDepth 100000 in
set_option maxHeartbeats 2000000 in
theorem lawReadLabelsLine (s : ByteArray) (hm : s.size ≤ maxLen) {w : World} (_ha : Lib.VarReads Tryd.prog w "unicode/utf8.acceptRanges" Rows.laid_unicode_utf8_acceptRanges) (_hf : Lib.VarReads Tryd.prog w "unicode/utf8.first" Rows.laid_unicode_utf8_first) (hsh : w.ShapedOpen Tryd.prog) :
    Calls Tryd.prog 6 #[.string s] w fun e w' => e = .returned (.bool true) ∧ Below w.heap.size w w' := by
  have hM : MaxOk w := Tryd.laysM146.s1_3 w hsh
  clear _ha _hf hsh
  unfold maxLen at hm
  by_cases hs : s.size ≤ 1048576
  · have hS := fun w0 => sReadLabels s w0 hs
    have hI := fun w0 hT => iReadLabels s w0 hs hT
    have hlen := readL_len s
    unfold ReadP ReadF at hS hI
    generalize readOkB s = V at hS hI
    generalize readL s = l at hS hI hlen
    have HS := Lib.hid hS; have HI := Lib.hid hI; have HT := Lib.hid hM
    clear hS hI hM
    obtain ⟨m, hmm⟩ : ∃ m : Int, m = 1 + 2 * (l.length : Int) := ⟨_, rfl⟩
    have hm0 : (m < 0) = False := by simp; omega
    have hmd : decide (m < 0) = false := by simp; omega
    have HM := Lib.hid hmm; clear hmm hm0
    have eV : (V != V) = false := by simp
    have em : (m != m) = false := by simp
    go_enter Tryd.func6, Tryd.ntmps6
    go_wp2_with fail
    refine (HS.out _).mono ?_; rintro e w1 ⟨⟨a1, n1, fp1, rfl, hg1⟩, hb1⟩
    have hz1 := hb1.size
    have G1 := Lib.hid hg1; have HB := Lib.hid hb1; clear hg1 hb1
    go_wp2_with fail
    refine (HI.out _ (HT.out.keep HB.out)).mono ?_; rintro e w2 ⟨⟨a2, n2, fp2, rfl, hg2⟩, hb2⟩
    have hz2 := hb2.size
    have G2 := Lib.hid hg2; have G1' := Lib.hid (G1.out.keep hb2); have HB2 := Lib.hid (bnext HB.out hb2); clear hg2 hb2 G1 HB
    go_wp2_with fail
    refine (eqLabelS_same l _ _ _ _ _ (by omega) G2.out.own.sl G1'.out.own.sl).mono ?_; rintro e w3 ⟨rfl, hb3⟩
    have hz3 := hb3.size
    have G3 := Lib.hid (G2.out.keep hb3); have G1 := Lib.hid (G1'.out.keep hb3); have HB3 := Lib.hid (bnext HB2.out hb3); clear hb3 G2 G1' HB2
    go_wp2_with fail
    refine (markL1 l.length _ a2 n2 fp2 _ m (by omega) HM.out G3.out.own).mono ?_; rintro e w4 ⟨rfl, ho4, hap⟩
    have hz4 := hap.size
    have G4 : Hid (GFlat w4 w1.heap.size w2.heap.size (.slice a2 l.length n2) l.length 2 (markLab 1) fp2) := ⟨ho4, G3.out.fb⟩
    have G1' := Lib.hid (G1.out.far hap (fun x hx => by have := G3.out.fb x hx; omega))
    have HB4 := Lib.hid (HB3.out.trans (hap.below (by omega) (fun x hx => by have := G3.out.fb x hx; omega)))
    clear ho4 hap G3 G1 HB3
    go_wp2_with fail
    refine (heldL1 l.length a2 n2 _ m (by omega) HM.out G4.out.own.sl).mono ?_; rintro e w5 ⟨rfl, hb5⟩
    have hz5 := hb5.size
    have G5 := Lib.hid (G4.out.keep hb5); have G1 := Lib.hid (G1'.out.keep hb5); have HB5 := Lib.hid (bnext HB4.out hb5); clear hb5 G4 G1' HB4
    go_wp2_with fail
    refine (HI.out _ (HT.out.keep HB5.out)).mono ?_; rintro e w6 ⟨⟨a3, n3, fp3, rfl, hg3⟩, hb6⟩
    have hz6 := hb6.size
    have G6 := Lib.hid hg3; have G7 := Lib.hid (G5.out.keep hb6); have G1' := Lib.hid (G1.out.keep hb6); have HB6 := Lib.hid (bnext HB5.out hb6); clear hg3 hb6 G5 G1 HB5
    go_wp2_with fail
    refine (eqLabelS_same l _ _ _ _ _ (by omega) G6.out.own.sl G1'.out.own.sl).mono ?_; rintro e w7 ⟨rfl, hb7⟩
    have G8 := Lib.hid (G7.out.keep hb7); have HB7 := Lib.hid (bnext HB6.out hb7); clear hb7 G6 G7 G1' HB6
    go_wp2_with fail
    refine (heldL1 l.length a2 n2 _ m (by omega) HM.out G8.out.own.sl).mono ?_; rintro e w8 ⟨rfl, hb8⟩
    have HB8 := Lib.hid (bnext HB7.out hb8); clear hb8 G8 HB7
    go_wp2
    go_ret
    exact ⟨rfl, HB8.out⟩
  · clear hM
    go_enter Tryd.func6, Tryd.ntmps6
    go_wp2
    go_ret
    exact ⟨rfl, Below.refl _ _⟩

end Go.Proofs.YtjkfjdapkkhkfaaDoor
