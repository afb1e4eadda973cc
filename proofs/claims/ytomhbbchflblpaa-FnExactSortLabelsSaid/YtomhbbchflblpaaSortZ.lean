/- The law's walk of SortLabels. -/
import Derived.Test.YtomhbbchflblpaaSortY
import Derived.Test.YtomhbbchflblpaaMarkLab
import Derived.Test.YtomhbbchflblpaaMemL
namespace Go.Proofs.Ytomhbbchflblpaa
open Go.RowKit

theorem markL1 (n : Nat) (f : Nat → Nat → Value) (a : Option Addr) (cap : Nat) (fp : List Nat) (w : World) (m : Int) (hn : n ≤ 2000000) (hm : m = 1 + 2 * (n : Int)) (ho : FlatOwn w (.slice a n cap) n 2 f fp) :
    Calls Try.prog 9 #[.slice a n cap, .int .i64 1] w fun e w' => e = .returned (.int .i64 m) ∧ FlatOwn w' (.slice a n cap) n 2 (markLab 1) fp ∧ Apart fp w w' := by
  refine (markLabelS_own n f a cap fp 1 w (by omega) ho).mono ?_
  rintro e w' ⟨rfl, h1⟩
  exact ⟨ret_int (by omega), h1⟩
theorem heldL1 (n : Nat) (a : Option Addr) (cap : Nat) (w : World) (m : Int) (hn : n ≤ 2000000) (hm : m = 1 + 2 * (n : Int)) (hc : SlAt w a n 2 (markLab 1)) :
    Calls Try.prog 10 #[.slice a n cap, .int .i64 1] w fun e w' => e = .returned (.int .i64 m) ∧ Below w.heap.size w w' := by
  refine (heldLabelS_in n a cap 1 w (by omega) hc).mono ?_
  rintro e w' ⟨rfl, h1⟩
  exact ⟨ret_int (by omega), h1⟩
/-- A copy of the argument. -/
theorem toLabG (L : List Lb) (a : Option Addr) (cap : Nat) (w : World) (hn : L.length ≤ 1048576) (hc : SlAt w a L.length 2 (labF L)) :
    Calls Try.prog 6 #[.slice a L.length cap] w fun e w' => (∃ g, e = .returned (.slice (some ⟨g, 0, none⟩) L.length L.length) ∧ GFlat w' w.heap.size w'.heap.size (.slice (some ⟨g, 0, none⟩) L.length L.length) L.length 2 (labF L) [g]) ∧ Below w.heap.size w w' := by
  refine (toLabelS_any L a cap w hn hc).mono ?_
  rintro e w' ⟨⟨g, F, rfl, hg, hrow, hF⟩, hb⟩
  exact ⟨⟨g, rfl, GFlat.new (.inr ⟨g, L.length, _, _, F, rfl, rfl, hrow, Nat.le_refl _, hF⟩) (fun x hx => by simp at hx; omega)⟩, hb⟩
def SortG (R : List Lb) (V : Bool) (w : World) (e : Ending) (w' : World) : Prop :=
  (∃ a cap fp, e = .returned (.tuple #[.slice a R.length cap, .bool V]) ∧ GFlat w' w.heap.size w'.heap.size (.slice a R.length cap) R.length 2 (labF R) fp) ∧ Below w.heap.size w w'
theorem SortV.flat {L : List Lb} {w w' : World} {e : Ending} (h : SortV L w e w') : SortG (sortR L) (sortOk L) w e w' := by
  obtain ⟨⟨a, cap, fp, h1, h2, h3⟩, hb⟩ := h
  exact ⟨⟨a, cap, fp, h1, GFlat.new h2 h3⟩, hb⟩
theorem sortR_len (L : List Lb) : (sortR L).length = L.length := by
  unfold sortR
  split
  · exact sortN_len _ _
  · rfl

set_option maxRecDepth 100000 in
set_option maxHeartbeats 4000000 in
theorem lawSortLabels {H : Type} {enc : TypeId × Value → H} {W : World} {base : Nat} {v : Value} {d : DataW H} {p : List MemPlace} (hval : Value.okWide Try.prog W .any base 22 v)
    (h : DataW.Trod enc Try.prog W 0 (fun _ => true) true 22 v d p) :
    Calls Try.prog 3 #[v] W fun e w' => e = .returned (.bool true) ∧ Below W.heap.size W w' := by
  obtain ⟨a, cap, L, rfl, hn, hL, hsz⟩ := openLabels hval h
  clear h hval
  have hn2 := hn
  unfold maxLen at hn2
  have hl0 : (0 : Int) ≤ L.length := by omega
  have hl1 : (0 : Int) ≤ lenSum L L.length := by omega
  by_cases hs : (1048576 : Int) < L.length + lenSum L L.length
  · have hy := lessZ_neg hs
    go_enter Try.func3, Try.ntmps3
    go_wp2_with (go_at_call 4; refine (szLabelS_any L a cap _ _ hn hsz (by omega) (by omega) hL).mono ?_; rintro e w1 ⟨rfl, hb1⟩)
    go_ret
    exact ⟨rfl, hb1⟩
  have hy := lessZ_pos hs
  have hz : (0 : Int) ≤ 1048576 - (L.length + lenSum L L.length) := by omega
  have hL20 : L.length ≤ 1048576 := by omega
  have hsz20 := size_le_sum L 1048576 (by omega)
  have HTO := Lib.hid (fun (w0 : World) (hb : Below W.heap.size W w0) => toLabG L a cap w0 hL20 (hL.keep hb))
  have hS := fun (a' : Option Addr) (c' : Nat) (w0 : World) (h0 : SlAt w0 a' L.length 2 (labF L)) => (sSortLabels L a' c' w0 hL20 h0 hsz20).mono fun e w' h => SortV.flat h
  have hI := fun (a' : Option Addr) (c' : Nat) (w0 : World) (h0 : SlAt w0 a' L.length 2 (labF L)) => (iSortLabels L a' c' w0 hL20 h0 hsz20).mono fun e w' h => SortV.flat h
  have hlen := sortR_len L
  generalize sortR L = R at hS hI hlen
  generalize sortOk L = V at hS hI
  have HS := Lib.hid hS; have HI := Lib.hid hI
  have HZ := Lib.hid (fun (w0 : World) (hb : Below W.heap.size W w0) => szLabelS_any L a cap w0 1048576 hn hsz (by omega) (by omega) (hL.keep hb))
  have hR20 : R.length ≤ 1048576 := by omega
  clear hS hI hsz20
  obtain ⟨m, hmm⟩ : ∃ m : Int, m = 1 + 2 * (L.length : Int) := ⟨_, rfl⟩
  have hmR : m = 1 + 2 * (R.length : Int) := by rw [hlen]; exact hmm
  have hm0 : (m < 0) = False := by simp; omega
  have hmd : decide (m < 0) = false := by simp; omega
  have HM := Lib.hid hmm; have HMR := Lib.hid hmR; clear hmm hmR hm0 hlen hL hn hsz hl0 hl1 hn2
  have eV : (V != V) = false := by simp
  have em : (m != m) = false := by simp
  go_enter Try.func3, Try.ntmps3
  go_wp2_with fail
  refine (HZ.out _ (Below.refl _ _)).mono ?_; rintro e w0 ⟨rfl, hb0⟩
  have HB0 := Lib.hid hb0; clear hb0 HZ
  go_wp2_with fail
  refine (HTO.out _ HB0.out).mono ?_; rintro e w1 ⟨⟨g1, rfl, hg1⟩, hb1⟩
  have G1 := Lib.hid hg1; have HB1 := Lib.hid (bnext HB0.out hb1); clear hg1 hb1 HB0
  go_wp2_with fail
  refine (HS.out _ _ _ G1.out.own.sl).mono ?_; rintro e w2 ⟨⟨a2, n2, fp2, rfl, hg2⟩, hb2⟩
  have G2 := Lib.hid hg2; have HB2 := Lib.hid (bnext HB1.out hb2); clear hg2 hb2 HB1 G1
  have hzW := HB2.out.size
  go_wp2_with fail
  refine (HTO.out _ HB2.out).mono ?_; rintro e w3 ⟨⟨g3, rfl, hg3⟩, hb3⟩
  have hz3 := hb3.size
  have G3 := Lib.hid hg3; have G2' := Lib.hid (G2.out.keep hb3); have HB3 := Lib.hid (bnext HB2.out hb3); clear hg3 hb3 HB2 G2
  go_wp2_with fail
  refine (HI.out _ _ _ G3.out.own.sl).mono ?_; rintro e w4 ⟨⟨a4, n4, fp4, rfl, hg4⟩, hb4⟩
  have hz4 := hb4.size
  have G4 := Lib.hid hg4; have G2 := Lib.hid (G2'.out.keep hb4); have G3' := Lib.hid (G3.out.keep hb4); have HB4 := Lib.hid (bnext HB3.out hb4); clear hg4 hb4 HB3 G2' G3
  go_wp2_with fail
  refine (eqLabelS_same R _ _ _ _ _ hR20 G4.out.own.sl G2.out.own.sl).mono ?_; rintro e w5 ⟨rfl, hb5⟩
  have hz5 := hb5.size
  have G4' := Lib.hid (G4.out.keep hb5); have G2' := Lib.hid (G2.out.keep hb5); have G3 := Lib.hid (G3'.out.keep hb5); have HB5 := Lib.hid (bnext HB4.out hb5); clear hb5 HB4 G2 G3' G4
  go_wp2_with fail
  refine (HTO.out _ HB5.out).mono ?_; rintro e w6 ⟨⟨g6, rfl, hg6⟩, hb6⟩
  have hz6 := hb6.size
  have G6 := Lib.hid hg6; have G4 := Lib.hid (G4'.out.keep hb6); have G2 := Lib.hid (G2'.out.keep hb6); have G3' := Lib.hid (G3.out.keep hb6); have HB6 := Lib.hid (bnext HB5.out hb6); clear hg6 hb6 HB5 G2' G3 G4'
  go_wp2_with fail
  refine (eqLabelS_same L _ _ _ _ _ hL20 G3'.out.own.sl G6.out.own.sl).mono ?_; rintro e w7 ⟨rfl, hb7⟩
  have hz7 := hb7.size
  have G4' := Lib.hid (G4.out.keep hb7); have G2' := Lib.hid (G2.out.keep hb7); have G3 := Lib.hid (G3'.out.keep hb7); have HB7 := Lib.hid (bnext HB6.out hb7); clear hb7 HB6 G2 G3' G4 G6
  go_wp2_with fail
  refine (markL1 L.length _ _ _ [g3] _ m (by omega) HM.out G3.out.own).mono ?_; rintro e w8 ⟨rfl, ho8, hap8⟩
  have hz8 := hap8.size
  have G4 := Lib.hid (G4'.out.far hap8 (fun x hx => by have := G3.out.fb x hx; omega))
  have G2 := Lib.hid (G2'.out.far hap8 (fun x hx => by have := G3.out.fb x hx; omega))
  have HB8 := Lib.hid (HB7.out.trans (hap8.below (by omega) (fun x hx => by have := G3.out.fb x hx; have := HB7.out.size; omega)))
  clear ho8 hap8 HB7 G2' G3 G4'
  go_wp2_with fail
  refine (eqLabelS_same R _ _ _ _ _ hR20 G4.out.own.sl G2.out.own.sl).mono ?_; rintro e w9 ⟨rfl, hb9⟩
  have hz9 := hb9.size
  have G4' := Lib.hid (G4.out.keep hb9); have G2' := Lib.hid (G2.out.keep hb9); have HB9 := Lib.hid (bnext HB8.out hb9); clear hb9 HB8 G2 G4
  go_wp2_with fail
  refine (markL1 R.length _ _ _ fp4 _ m (by omega) HMR.out G4'.out.own).mono ?_; rintro e wa ⟨rfl, hoa, hapa⟩
  have hza := hapa.size
  have G4 : Hid (GFlat wa w3.heap.size w4.heap.size (.slice a4 R.length n4) R.length 2 (markLab 1) fp4) := ⟨hoa, G4'.out.fb⟩
  have G2 := Lib.hid (G2'.out.far hapa (fun x hx => by have := G4'.out.fb x hx; omega))
  have HBa := Lib.hid (HB9.out.trans (hapa.below (by omega) (fun x hx => by have := G4'.out.fb x hx; omega)))
  clear hoa hapa HB9 G2' G4'
  go_wp2_with fail
  refine (heldL1 R.length a4 n4 _ m (by omega) HMR.out G4.out.own.sl).mono ?_; rintro e wb ⟨rfl, hbb⟩
  have G4' := Lib.hid (G4.out.keep hbb); have G2' := Lib.hid (G2.out.keep hbb); have HBb := Lib.hid (bnext HBa.out hbb); clear hbb HBa G2 G4
  go_wp2_with fail
  refine (HTO.out _ HBb.out).mono ?_; rintro e wc ⟨⟨gc, rfl, hgc⟩, hbc⟩
  have Gc := Lib.hid hgc; have G4 := Lib.hid (G4'.out.keep hbc); have G2 := Lib.hid (G2'.out.keep hbc); have HBc := Lib.hid (bnext HBb.out hbc); clear hgc hbc HBb G2' G4'
  go_wp2_with fail
  refine (HI.out _ _ _ Gc.out.own.sl).mono ?_; rintro e wd ⟨⟨ad, nd, fpd, rfl, hgd⟩, hbd⟩
  have Gd := Lib.hid hgd; have G4' := Lib.hid (G4.out.keep hbd); have G2' := Lib.hid (G2.out.keep hbd); have HBd := Lib.hid (bnext HBc.out hbd); clear hgd hbd HBc G2 G4 Gc
  go_wp2_with fail
  refine (eqLabelS_same R _ _ _ _ _ hR20 Gd.out.own.sl G2'.out.own.sl).mono ?_; rintro e we ⟨rfl, hbe⟩
  have G4 := Lib.hid (G4'.out.keep hbe); have HBe := Lib.hid (bnext HBd.out hbe); clear hbe HBd G2' G4' Gd
  go_wp2_with fail
  refine (heldL1 R.length a4 n4 _ m (by omega) HMR.out G4.out.own.sl).mono ?_; rintro e wf ⟨rfl, hbf⟩
  have HBf := Lib.hid (bnext HBe.out hbf); clear hbf G4 HBe
  go_wp2
  go_ret
  exact ⟨rfl, HBf.out⟩

end Go.Proofs.Ytomhbbchflblpaa
