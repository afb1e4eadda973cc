/- eqLineS, markLineS, heldLineS (printed by wip/gen/flat3.py). -/
import Derived.Test.YtpcojfcbomkgpaaDoorFlat
import Derived.Test.YtpcojfcbomkgpaaDoorSoft
import Derived.StillTailTactics
import Derived.Test.YtpcojfcbomkgpaaDoorLineP
namespace Go.Proofs.YtpcojfcbomkgpaaDoor
open Go.RowKit

def atLine (L : List (Ln)) (i : Nat) : Ln := L.getD i ⟨0, emptyB, 0⟩
def oneLine (X : Ln) (m : Nat) : Value := if m = 0 then .int .i64 (X.pre : Int) else if m = 1 then .string X.text else if m = 2 then .int .i64 (X.row : Int) else undef
def fLine (L : List (Ln)) (i m : Nat) : Value := oneLine (atLine L i) m
def cellsLine (L : List (Ln)) : List Value := L.flatMap fun X => [.int .i64 (X.pre : Int), .string X.text, .int .i64 (X.row : Int)]
theorem cellsLine_snoc (L : List (Ln)) (X : Ln) : cellsLine (L ++ [X]) = cellsLine L ++ [.int .i64 (X.pre : Int), .string X.text, .int .i64 (X.row : Int)] := by simp [cellsLine]
theorem cellLine : ∀ (L : List (Ln)) (i : Nat), i < L.length → ∀ j, j < 3 → (cellsLine L)[i * 3 + j]? = some (fLine L i j)
  | [], i, h, _, _ => by simp at h
  | X :: L, 0, _, j, hj => by
    rcases (show j = 0 ∨ j = 1 ∨ j = 2 by omega) with rfl | rfl | rfl <;> rfl
  | X :: L, i + 1, h, j, hj => by
    have ih := cellLine L i (by simpa using h) j hj
    have e : cellsLine (X :: L) = .int .i64 (X.pre : Int) :: .string X.text :: .int .i64 (X.row : Int) :: cellsLine L := rfl
    rw [e, show (i + 1) * 3 + j = (i * 3 + j) + 1 + 1 + 1 by omega, List.getElem?_cons_succ, List.getElem?_cons_succ, List.getElem?_cons_succ, ih]
    rfl

theorem eqLine_same (x0 : Int) (x1 : ByteArray) (x2 : Int) (w : World) :
    Calls Tryd.prog 89 #[.agg #[.int .i64 x0, .string x1, .int .i64 x2], .agg #[.int .i64 x0, .string x1, .int .i64 x2]] w fun e w' => e = .returned (.bool true) ∧ Below w.heap.size w w' := by
  have e0 : (x0 != x0) = false := by simp [bne]
  have e1 : (x1.toList != x1.toList) = false := by simp [bne]
  have e2 : (x2 != x2) = false := by simp [bne]
  go_enter Tryd.func89, Tryd.ntmps89
  go_wp2
  go_ret
  exact ⟨rfl, by repeat (first | exact Below.refl _ _ | (refine Below.alloc ?_ (by first | omega | (simp; done) | (simp; omega)) _) | (refine Below.setCell ?_ (by first | omega | (simp; done) | (simp; omega)) _) | (refine Below.drew ?_) | (refine below_drewN ?_ _))⟩

set_option maxRecDepth 100000 in
theorem eqLineS_same (L : List (Ln)) (a a' : Option Addr) (cap cap' : Nat) (w : World) (hn : L.length ≤ 1073741824) (hc : SlAt w a L.length 3 (fLine L)) (hc' : SlAt w a' L.length 3 (fLine L)) :
    Calls Tryd.prog 24 #[.slice a L.length cap, .slice a' L.length cap'] w fun e w' => e = .returned (.bool true) ∧ Below w.heap.size w w' := by
  have e0 : ((L.length : Int) != (L.length : Int)) = false := by simp
  go_enter Tryd.func24, Tryd.ntmps24
  go_wp2
  clear e0
  go_loopw [5] (fun i wr => ∃ k : Nat, k ≤ L.length ∧ i = .int .i64 k ∧ Below w.heap.size w wr) (fun i _ => L.length - (intOf i).toNat)
  case atStart => exact ⟨0, by omega, rfl, Below.refl _ _⟩
  case round =>
    obtain ⟨k, hk, rfl, hb⟩ := hrel
    by_cases hlt : k < L.length
    · obtain ⟨b, off, rfl, hcell⟩ := (hc.keep hb).at (by omega)
      obtain ⟨b', off', rfl, hcell'⟩ := (hc'.keep hb).at (by omega)
      have c0 : wr.cell? ⟨b, off + k * 3, none⟩ = some (.int .i64 ((atLine L k).pre : Int)) := by simpa [fLine, oneLine] using hcell k hlt 0 (by omega)
      have c1 : wr.cell? ⟨b, off + k * 3 + 1, none⟩ = some (.string (atLine L k).text) := by simpa [fLine, oneLine] using hcell k hlt 1 (by omega)
      have c2 : wr.cell? ⟨b, off + k * 3 + 2, none⟩ = some (.int .i64 ((atLine L k).row : Int)) := by simpa [fLine, oneLine] using hcell k hlt 2 (by omega)
      have d0 : wr.cell? ⟨b', off' + k * 3, none⟩ = some (.int .i64 ((atLine L k).pre : Int)) := by simpa [fLine, oneLine] using hcell' k hlt 0 (by omega)
      have d1 : wr.cell? ⟨b', off' + k * 3 + 1, none⟩ = some (.string (atLine L k).text) := by simpa [fLine, oneLine] using hcell' k hlt 1 (by omega)
      have d2 : wr.cell? ⟨b', off' + k * 3 + 2, none⟩ = some (.int .i64 ((atLine L k).row : Int)) := by simpa [fLine, oneLine] using hcell' k hlt 2 (by omega)
      clear hcell hc hcell' hc'
      go_wp2_with fail
      go_still_tail 8, (by kernel_rfl)
      change wpList _ _ _ _ _ wr.drew
      go_wp2_with (go_at_call 89; refine (eqLine_same _ _ _ _).mono ?_; rintro e w1 ⟨rfl, hb1⟩)
      go_roundw
      case rel => exact ⟨k + 1, by omega, by go_num, bnext hb.drew hb1⟩
      case measure => simp [intOf]; omega
    · obtain rfl : k = L.length := by omega
      go_wp2
      go_ret
      exact ⟨rfl, hb⟩

def markLine (k i m : Nat) : Value := if m = 0 then .int .i64 ((k + 3 * i + 0 : Nat) : Int) else if m = 1 then .string (mtext (k + 3 * i + 1)) else if m = 2 then .int .i64 ((k + 3 * i + 2 : Nat) : Int) else undef
def partLine (k j : Nat) (f : Nat → Nat → Value) (i m : Nat) : Value := if i < j then markLine k i m else f i m
theorem markLine_0 (k i : Nat) : markLine k i 0 = .int .i64 ((k + 3 * i + 0 : Nat) : Int) := rfl
theorem markLine_1 (k i : Nat) : markLine k i 1 = .string (mtext (k + 3 * i + 1)) := rfl
theorem markLine_2 (k i : Nat) : markLine k i 2 = .int .i64 ((k + 3 * i + 2 : Nat) : Int) := rfl

set_option maxRecDepth 100000 in
set_option maxHeartbeats 2000000 in
theorem markLineS_own (n : Nat) (f : Nat → Nat → Value) (a : Option Addr) (cap : Nat) (fp : List Nat) (k : Nat) (w : World) (hk : k + 3 * n ≤ 1073741824) (ho : FlatOwn w (.slice a n cap) n 3 f fp) :
    Calls Tryd.prog 25 #[.slice a n cap, .int .i64 k] w fun e w' => e = .returned (.int .i64 ((k : Int) + 3 * (n : Int))) ∧ FlatOwn w' (.slice a n cap) n 3 (markLine k) fp ∧ Apart fp w w' := by
  go_enter Tryd.func25, Tryd.ntmps25
  go_wp2
  go_loopw [1, 5] (fun s1 s5 wr => ∃ j kk : Nat, j ≤ n ∧ s5 = .int .i64 j ∧ s1 = .int .i64 kk ∧ Hid (kk = k + 3 * j) ∧ Hid (FlatOwn wr (.slice a n cap) n 3 (partLine k j f) fp) ∧ Apart fp w wr) (fun _ s5 _ => n - (intOf s5).toNat)
  case atStart => exact ⟨0, k, by omega, rfl, rfl, rfl, ho.congr fun i _ m _ => by simp [partLine], Apart.refl _ _⟩
  case round =>
    obtain ⟨j, kk, hj, rfl, rfl, HKK, HO, hap⟩ := hrel
    clear ho
    by_cases hlt : j < n
    · rcases HO.out with ⟨e, _⟩ | ⟨g, cap', e, N, F, hv, hfp, hrow, hN, hF⟩
      · omega
      simp only [Value.slice.injEq] at hv
      obtain ⟨rfl, -, rfl⟩ := hv
      have HFP := Lib.hid hfp
      have HF := Lib.hid hF
      have hNj : (j + 1) * 3 ≤ N := Nat.le_trans (Nat.mul_le_mul_right _ hlt) hN
      have HN := Lib.hid hN
      have hkb : kk + 3 ≤ 1073741824 := by have := HKK.out; omega
      have HAP := Lib.hid hap; have HROW := Lib.hid hrow
      clear hF hfp HO hN hap hrow
      have HMT1 := Lib.hid (fun w0 => (show Calls Tryd.prog 82 #[.int .i64 ((kk : Int) + 1)] w0 fun e w' => e = .returned (.string (mtext (kk + 1))) ∧ Below w0.heap.size w0 w' from by
        have := markText_any (kk + 1) w0 (by omega)
        rw [show (kk : Int) + 1 = ((kk + 1 : Nat) : Int) by omega]; exact this))
      have hrow0 := HROW.out
      have d0 := hrow0.cell (i := j * 3) (by omega)
      have f0 := hrow0.frozen (j * 3)
      clear hrow0
      go_wp2_with fail
      refine (HMT1.out _).mono ?_
      rintro e w1 ⟨rfl, hb1⟩
      have HROW := Lib.hid (rowIs_keep (HROW.out.set (j * 3) (.int .i64 ((kk : Int)))) hb1)
      have HAP := Lib.hid ((HAP.out.setCell (p := ⟨g, j * 3, none⟩) (by rw [HFP.out]; simp) (.int .i64 ((kk : Int)))).trans (Apart.of_below hb1 _))
      clear hb1 d0 f0
      have hrow0 := HROW.out
      have d1 := hrow0.cell (i := j * 3 + 1) (by omega)
      have f1 := hrow0.frozen (j * 3 + 1)
      have d2 := hrow0.cell (i := j * 3 + 2) (by omega)
      have f2 := hrow0.frozen (j * 3 + 2)
      clear hrow0
      go_wp2
      go_roundw
      case rel =>
        refine ⟨j + 1, kk + 3, by omega, by go_num, by go_num, by unfold Hid; have := HKK.out; omega, .inr ⟨g, _, _, _, _, rfl, HFP.out, ((HROW.out.set (j * 3 + 1) (.string (mtext (kk + 1)))).set (j * 3 + 2) (.int .i64 ((kk : Int) + 1 + 1))), HN.out, fun i hi m hm => ?_⟩, ((HAP.out.setCell (p := ⟨g, j * 3 + 1, none⟩) (by rw [HFP.out]; simp) (.string (mtext (kk + 1)))).setCell (p := ⟨g, j * 3 + 2, none⟩) (by rw [HFP.out]; simp) (.int .i64 ((kk : Int) + 1 + 1)))⟩
        have hkk := HKK.out
        show (if i * 3 + m = j * 3 + 2 then .int .i64 ((kk : Int) + 1 + 1) else if i * 3 + m = j * 3 + 1 then .string (mtext (kk + 1)) else if i * 3 + m = j * 3 then .int .i64 ((kk : Int)) else F (i * 3 + m)) = _
        by_cases hij : i = j
        · subst hij
          rw [show partLine k (i + 1) f i m = markLine k i m from by unfold partLine; rw [if_pos (by omega)]]
          rcases (show m = 0 ∨ m = 1 ∨ m = 2 by omega) with rfl | rfl | rfl
          · rw [if_neg (by omega), if_neg (by omega), if_pos (by omega), markLine_0]
            rw [hkk]; congr 1 <;> omega
          · rw [if_neg (by omega), if_pos (by omega), markLine_1]
            rw [hkk]
          · rw [if_pos (by omega), markLine_2]
            rw [hkk]; congr 1 <;> omega
        · rw [if_neg (by omega), if_neg (by omega), if_neg (by omega), HF.out i hi m hm]
          unfold partLine
          by_cases hl : i < j
          · rw [if_pos hl, if_pos (by omega)]
          · rw [if_neg hl, if_neg (by omega)]
      case measure => simp [intOf] <;> omega
    · obtain rfl : j = n := by omega
      go_wp2
      go_ret
      exact ⟨ret_int (by have := HKK.out; omega), HO.out.congr fun i hi m _ => by rw [partLine, if_pos hi], hap⟩

set_option maxRecDepth 100000 in
set_option maxHeartbeats 2000000 in
theorem heldLineS_in (n : Nat) (a : Option Addr) (cap k : Nat) (w : World) (hk : k + 3 * n ≤ 1073741824) (hc : SlAt w a n 3 (markLine k)) :
    Calls Tryd.prog 26 #[.slice a n cap, .int .i64 k] w fun e w' => e = .returned (.int .i64 ((k : Int) + 3 * (n : Int))) ∧ Below w.heap.size w w' := by
  go_enter Tryd.func26, Tryd.ntmps26
  go_wp2
  go_loopw [1, 5] (fun s1 s5 wr => ∃ j kk : Nat, j ≤ n ∧ s5 = .int .i64 j ∧ s1 = .int .i64 kk ∧ Hid (kk = k + 3 * j) ∧ Below w.heap.size w wr) (fun _ s5 _ => n - (intOf s5).toNat)
  case atStart => exact ⟨0, k, by omega, rfl, rfl, rfl, Below.refl _ _⟩
  case round =>
    obtain ⟨j, kk, hj, rfl, rfl, HKK, hb⟩ := hrel
    by_cases hlt : j < n
    · obtain ⟨b, off, rfl, hcell⟩ := (hc.keep hb).at (by omega)
      have hkb : kk + 3 ≤ 1073741824 := by have := HKK.out; omega
      have c0 : wr.cell? ⟨b, off + j * 3, none⟩ = some (.int .i64 ((kk : Int))) := by
        have := hcell j hlt 0 (by omega)
        rw [markLine_0, ← HKK.out] at this
        rw [show ((kk + 0 : Nat) : Int) = (kk : Int) by omega] at this; simpa using this
      have e0 : (((kk : Int)) != ((kk : Int))) = false := by simp
      have c1 : wr.cell? ⟨b, off + j * 3 + 1, none⟩ = some (.string (mtext (kk + 1))) := by
        have := hcell j hlt 1 (by omega)
        rw [markLine_1, ← HKK.out] at this
        simpa using this
      have e1 : ((mtext (kk + 1)).toList != (mtext (kk + 1)).toList) = false := by simp [bne]
      have HMT1 := Lib.hid (fun w0 => (show Calls Tryd.prog 82 #[.int .i64 ((kk : Int) + 1)] w0 fun e w' => e = .returned (.string (mtext (kk + 1))) ∧ Below w0.heap.size w0 w' from by
        have := markText_any (kk + 1) w0 (by omega)
        rw [show (kk : Int) + 1 = ((kk + 1 : Nat) : Int) by omega]; exact this))
      have c2 : wr.cell? ⟨b, off + j * 3 + 2, none⟩ = some (.int .i64 ((kk : Int) + 1 + 1)) := by
        have := hcell j hlt 2 (by omega)
        rw [markLine_2, ← HKK.out] at this
        rw [show ((kk + 2 : Nat) : Int) = (kk : Int) + 1 + 1 by omega] at this; simpa using this
      have e2 : (((kk : Int) + 1 + 1) != ((kk : Int) + 1 + 1)) = false := by simp
      clear hcell hc
      have q0 := aft_cell c0
      have q1 := aft_cell c1
      have q2 := aft_cell c2
      go_wp2_with fail
      refine wp_region_soft_lit (by kernel_rfl) (by kernel_rfl) ?_
      repeat (go_big_quiet_step ((go_at_call 82; exact soft_call (HMT1.out _))))
      refine wpQuiet_nil ?_
      intro _ hw'
      obtain ⟨xq, hw''⟩ := hw'
      subst hw''
      have HBX := Lib.hid (bnext hb xq.bel)
      go_wp2
      go_roundw
      case rel => exact ⟨j + 1, kk + 3, by omega, by go_num, by go_num, by unfold Hid; have := HKK.out; omega, HBX.out⟩
      case measure => simp [intOf] <;> omega
    · obtain rfl : j = n := by omega
      go_wp2
      go_ret
      exact ⟨ret_int (by have := HKK.out; omega), hb⟩

theorem mark1Line (n : Nat) (f : Nat → Nat → Value) (a : Option Addr) (cap : Nat) (fp : List Nat) (w : World) (m : Int) (hn : n ≤ 2000000) (hm : m = 1 + 3 * (n : Int)) (ho : FlatOwn w (.slice a n cap) n 3 f fp) :
    Calls Tryd.prog 25 #[.slice a n cap, .int .i64 1] w fun e w' => e = .returned (.int .i64 m) ∧ FlatOwn w' (.slice a n cap) n 3 (markLine 1) fp ∧ Apart fp w w' := by
  refine (markLineS_own n f a cap fp 1 w (by omega) ho).mono ?_
  rintro e w' ⟨rfl, h1⟩
  exact ⟨ret_int (by omega), h1⟩
theorem held1Line (n : Nat) (a : Option Addr) (cap : Nat) (w : World) (m : Int) (hn : n ≤ 2000000) (hm : m = 1 + 3 * (n : Int)) (hc : SlAt w a n 3 (markLine 1)) :
    Calls Tryd.prog 26 #[.slice a n cap, .int .i64 1] w fun e w' => e = .returned (.int .i64 m) ∧ Below w.heap.size w w' := by
  refine (heldLineS_in n a cap 1 w (by omega) hc).mono ?_
  rintro e w' ⟨rfl, h1⟩
  exact ⟨ret_int (by omega), h1⟩

end Go.Proofs.YtpcojfcbomkgpaaDoor
