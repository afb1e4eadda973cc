/- eqIntS; RunesOf in flat rows; the law's walk. -/
import Derived.Test.YtoaakbaijklhhaaDoorRunesI
import Derived.Test.YtoaakbaijklhhaaDoorFlatInt
namespace Go.Proofs.YtoaakbaijklhhaaDoor
open Go.RowKit

def runF (l : List Nat) (i _j : Nat) : Value := .int .i64 ((l.getD i 0 : Nat) : Int)
theorem rgo_len (s : ByteArray) : ∀ f k acc L, rgo s f k acc = some L → acc.length ≤ k → k ≤ s.size → L.length ≤ s.size
  | 0, _, _, _, h, _, _ => by cases h
  | f + 1, k, acc, L, h, h1, h2 => by
    rw [rgo] at h
    by_cases hk : s.size ≤ k
    · rw [if_pos hk] at h; cases h; omega
    · rw [if_neg hk] at h
      split at h
      · cases h
      · have := Lib.decode_width_pos s k (by omega)
        have := width_le s k (by omega)
        exact rgo_len s f _ _ L h (by simp; omega) (by omega)
theorem runes_len (s : ByteArray) : ((runesO s).getD []).length ≤ s.size := by
  cases h : runesO s with
  | none => simp
  | some L => exact rgo_len s _ 0 [] L h (by simp) (by omega)

def RunesF (s : ByteArray) (w : World) (e : Ending) (w' : World) : Prop := ∃ a cap fp, e = .returned (.tuple #[.slice a ((runesO s).getD []).length cap, .bool (runesO s).isSome]) ∧ GFlat w' w.heap.size w'.heap.size (.slice a ((runesO s).getD []).length cap) ((runesO s).getD []).length 1 (runF ((runesO s).getD [])) fp
theorem runesF_of {s : ByteArray} {w w' : World} {e : Ending} (h : RunesPost s w.heap.size e w') : RunesF s w e w' := by
  obtain ⟨v, l, rfl, ho, rfl⟩ := h
  obtain ⟨fp, h1, h2⟩ := FlatOwn.of_owns (f := runF ((runesO s).getD [])) (c := 1) ho (fun i hi j hj => by
    obtain rfl : j = 0 := by omega
    simp [ints, runF, hi])
  obtain ⟨a, cap, rfl⟩ := h1.shape
  exact ⟨a, cap, fp, rfl, .new h1 h2⟩

theorem eqIntS_same (l : List Nat) (a a' : Option Addr) (cap cap' : Nat) (w : World) (hn : l.length ≤ 1073741824) (hc : SlAt w a l.length 1 (runF l)) (hc' : SlAt w a' l.length 1 (runF l)) :
    Calls Tryd.prog 17 #[.slice a l.length cap, .slice a' l.length cap'] w fun e w' => e = .returned (.bool true) ∧ Below w.heap.size w w' := by
  go_enter Tryd.func17, Tryd.ntmps17
  have e0 : ((l.length : Int) != (l.length : Int)) = false := by simp
  go_wp2
  clear e0
  go_loopw [5] (fun s3 wr => ∃ j : Nat, j ≤ l.length ∧ s3 = .int .i64 j ∧ Below w.heap.size w wr) (fun s3 _ => l.length - (intOf s3).toNat)
  case atStart => exact ⟨0, by omega, rfl, Below.refl _ _⟩
  case round =>
    obtain ⟨j, hj, rfl, hb⟩ := hrel
    by_cases hlt : j < l.length
    · obtain ⟨b, off, rfl, hcell⟩ := (hc.keep hb).at (by omega)
      obtain ⟨b', off', rfl, hcell'⟩ := (hc'.keep hb).at (by omega)
      have c0 : wr.cell? ⟨b, off + j, none⟩ = some (.int .i64 ((l.getD j 0 : Nat) : Int)) := by
        have := hcell j hlt 0 (by omega); simpa [runF] using this
      have c0' : wr.cell? ⟨b', off' + j, none⟩ = some (.int .i64 ((l.getD j 0 : Nat) : Int)) := by
        have := hcell' j hlt 0 (by omega); simpa [runF] using this
      clear hcell hc hcell' hc'
      generalize ((l.getD j 0 : Nat) : Int) = z at c0 c0'
      have e0 : (z != z) = false := by simp
      go_wp2_with fail
      go_quiet (fail)
      go_wp2
      go_roundw
      case rel => exact ⟨j + 1, by omega, by go_num, ⟨hb.os, hb.tape, hb.output, hb.size, hb.block⟩⟩
      case measure => simp [intOf]; omega
    · obtain rfl : j = l.length := by omega
      go_wp2
      go_ret
      exact ⟨rfl, hb⟩

theorem markI1 (n : Nat) (f : Nat → Nat → Value) (a : Option Addr) (cap : Nat) (fp : List Nat) (w : World) (m : Int) (hn : n ≤ 1048576) (hm : m = 1 + (n : Int)) (ho : FlatOwn w (.slice a n cap) n 1 f fp) :
    Calls Tryd.prog 18 #[.slice a n cap, .int .i64 1] w fun e w' => e = .returned (.int .i64 m) ∧ FlatOwn w' (.slice a n cap) n 1 (markInt 1) fp ∧ Apart fp w w' := by
  refine (markIntS_own n f a cap fp 1 w (by omega) ho).mono ?_
  rintro e w' ⟨rfl, h1, h2⟩
  exact ⟨ret_int (by omega), h1, h2⟩
theorem heldI1 (n : Nat) (a : Option Addr) (cap : Nat) (w : World) (m : Int) (hn : n ≤ 1048576) (hm : m = 1 + (n : Int)) (hc : SlAt w a n 1 (markInt 1)) :
    Calls Tryd.prog 19 #[.slice a n cap, .int .i64 1] w fun e w' => e = .returned (.int .i64 m) ∧ Below w.heap.size w w' := by
  refine (heldIntS_in n a cap 1 w (by omega) hc).mono ?_
  rintro e w' ⟨rfl, h1⟩
  exact ⟨ret_int (by omega), h1⟩

set_option maxRecDepth 100000 in
set_option maxHeartbeats 2000000 in
theorem lawRunesOf (s : ByteArray) (hm : s.size ≤ maxLen) {w : World} (ha : Lib.VarReads Tryd.prog w "unicode/utf8.acceptRanges" Rows.laid_unicode_utf8_acceptRanges) (hf : Lib.VarReads Tryd.prog w "unicode/utf8.first" Rows.laid_unicode_utf8_first) :
    Calls Tryd.prog 3 #[.string s] w fun e w' => e = .returned (.bool true) ∧ Below w.heap.size w w' := by
  have hT := tabs_of ha hf
  clear ha hf
  unfold maxLen at hm
  by_cases hs : s.size ≤ 1048576
  · have hS := fun w0 => (sRunesOf s w0 hs).mono (fun e w1 h => (⟨runesF_of h.1, h.2⟩ : RunesF s w0 e w1 ∧ Below w0.heap.size w0 w1))
    have hI := fun w0 hT => (iRunesOf s w0 hs hT).mono (fun e w1 h => (⟨runesF_of h.1, h.2⟩ : RunesF s w0 e w1 ∧ Below w0.heap.size w0 w1))
    have hlen := runes_len s
    unfold RunesF at hS hI
    generalize (runesO s).isSome = V at hS hI
    generalize (runesO s).getD [] = l at hS hI hlen
    have HS := Lib.hid hS; have HI := Lib.hid hI; have HT := Lib.hid hT
    clear hS hI hT
    obtain ⟨m, hmm⟩ : ∃ m : Int, m = 1 + (l.length : Int) := ⟨_, rfl⟩
    have hm0 : (m < 0) = False := by simp; omega
    have hmd : decide (m < 0) = false := by simp; omega
    have HM := Lib.hid hmm; clear hmm hm0
    have eV : (V != V) = false := by simp
    have em : (m != m) = false := by simp
    have eV2 := beq_self_eq_true V
    go_enter Tryd.func3, Tryd.ntmps3
    go_wp2_with fail
    refine (HS.out _).mono ?_; rintro e w1 ⟨⟨a1, n1, fp1, rfl, hg1⟩, hb1⟩
    have hz1 := hb1.size
    have G1 := Lib.hid hg1; have HB := Lib.hid hb1; clear hg1 hb1
    go_wp2_with fail
    refine (HI.out _ (tabs_keep HT.out HB.out)).mono ?_; rintro e w2 ⟨⟨a2, n2, fp2, rfl, hg2⟩, hb2⟩
    have hz2 := hb2.size
    have G2 := Lib.hid hg2; have G1' := Lib.hid (G1.out.keep hb2); have HB2 := Lib.hid (bnext HB.out hb2); clear hg2 hb2 G1 HB
    go_wp2_with fail
    refine (eqIntS_same l _ _ _ _ _ (by omega) G2.out.own.sl G1'.out.own.sl).mono ?_; rintro e w3 ⟨rfl, hb3⟩
    have hz3 := hb3.size
    have G3 := Lib.hid (G2.out.keep hb3); have G1 := Lib.hid (G1'.out.keep hb3); have HB3 := Lib.hid (bnext HB2.out hb3); clear hb3 G2 G1' HB2
    go_wp2_with fail
    refine (markI1 l.length _ a2 n2 fp2 _ m (by omega) HM.out G3.out.own).mono ?_; rintro e w4 ⟨rfl, ho4, hap⟩
    have hz4 := hap.size
    have G4 : Hid (GFlat w4 w1.heap.size w2.heap.size (.slice a2 l.length n2) l.length 1 (markInt 1) fp2) := ⟨ho4, G3.out.fb⟩
    have G1' := Lib.hid (G1.out.far hap (fun x hx => by have := G3.out.fb x hx; omega))
    have HB4 := Lib.hid (HB3.out.trans (hap.below (by omega) (fun x hx => by have := G3.out.fb x hx; omega)))
    clear ho4 hap G3 G1 HB3
    go_wp2_with fail
    refine (heldI1 l.length a2 n2 _ m (by omega) HM.out G4.out.own.sl).mono ?_; rintro e w5 ⟨rfl, hb5⟩
    have hz5 := hb5.size
    have G5 := Lib.hid (G4.out.keep hb5); have G1 := Lib.hid (G1'.out.keep hb5); have HB5 := Lib.hid (bnext HB4.out hb5); clear hb5 G4 G1' HB4
    go_wp2_with fail
    refine (HI.out _ (tabs_keep HT.out HB5.out)).mono ?_; rintro e w6 ⟨⟨a3, n3, fp3, rfl, hg3⟩, hb6⟩
    have hz6 := hb6.size
    have G6 := Lib.hid hg3; have G7 := Lib.hid (G5.out.keep hb6); have G1' := Lib.hid (G1.out.keep hb6); have HB6 := Lib.hid (bnext HB5.out hb6); clear hg3 hb6 G5 G1 HB5
    go_wp2_with fail
    refine (eqIntS_same l _ _ _ _ _ (by omega) G6.out.own.sl G1'.out.own.sl).mono ?_; rintro e w7 ⟨rfl, hb7⟩
    have G8 := Lib.hid (G7.out.keep hb7); have HB7 := Lib.hid (bnext HB6.out hb7); clear hb7 G6 G7 G1' HB6
    go_wp2_with fail
    refine (heldI1 l.length a2 n2 _ m (by omega) HM.out G8.out.own.sl).mono ?_; rintro e w8 ⟨rfl, hb8⟩
    have HB8 := Lib.hid (bnext HB7.out hb8); clear hb8 G8 HB7
    go_wp2
    go_ret
    exact ⟨rfl, HB8.out⟩
  · go_enter Tryd.func3, Tryd.ntmps3
    go_wp2
    go_ret
    exact ⟨rfl, Below.refl _ _⟩

end Go.Proofs.YtoaakbaijklhhaaDoor
