/- SignF, Fault, SgsV, SgsS, merged. -/
import Derived.Test.YtpcojfcbomkgpaaDoorFlat
import Derived.Test.YtpcojfcbomkgpaaDoorSoft
import Derived.StillTailTactics
import Derived.Test.YtpcojfcbomkgpaaDoorSignsP
import Derived.Test.YtpcojfcbomkgpaaDoorRuneA
import Derived.Test.YtpcojfcbomkgpaaDoorRuneB
import Derived.Test.YtpcojfcbomkgpaaDoorRuneI
import Derived.Test.YtpcojfcbomkgpaaDoorZero
import Derived.Test.YtpcojfcbomkgpaaDoorRowC
import Derived.Test.YtpcojfcbomkgpaaDoorSignS
namespace Go.Proofs.YtpcojfcbomkgpaaDoor
open Go.RowKit

def atSign (L : List (Sg × Nat)) (i : Nat) : Sg × Nat := L.getD i (⟨0, emptyB, 0, 0⟩, 0)
def oneSign (X : Sg × Nat) (m : Nat) : Value := if m = 0 then .int .i64 X.1.kind else if m = 1 then .string X.1.text else if m = 2 then .int .i64 X.1.num else if m = 3 then .int .i64 (X.2 : Int) else undef
def fSign (L : List (Sg × Nat)) (i m : Nat) : Value := oneSign (atSign L i) m
def cellsSign (L : List (Sg × Nat)) : List Value := L.flatMap fun X => [.int .i64 X.1.kind, .string X.1.text, .int .i64 X.1.num, .int .i64 (X.2 : Int)]
theorem cellsSign_snoc (L : List (Sg × Nat)) (X : Sg × Nat) : cellsSign (L ++ [X]) = cellsSign L ++ [.int .i64 X.1.kind, .string X.1.text, .int .i64 X.1.num, .int .i64 (X.2 : Int)] := by simp [cellsSign]
theorem cellSign : ∀ (L : List (Sg × Nat)) (i : Nat), i < L.length → ∀ j, j < 4 → (cellsSign L)[i * 4 + j]? = some (fSign L i j)
  | [], i, h, _, _ => by simp at h
  | X :: L, 0, _, j, hj => by
    rcases (show j = 0 ∨ j = 1 ∨ j = 2 ∨ j = 3 by omega) with rfl | rfl | rfl | rfl <;> rfl
  | X :: L, i + 1, h, j, hj => by
    have ih := cellSign L i (by simpa using h) j hj
    have e : cellsSign (X :: L) = .int .i64 X.1.kind :: .string X.1.text :: .int .i64 X.1.num :: .int .i64 (X.2 : Int) :: cellsSign L := rfl
    rw [e, show (i + 1) * 4 + j = (i * 4 + j) + 1 + 1 + 1 + 1 by omega, List.getElem?_cons_succ, List.getElem?_cons_succ, List.getElem?_cons_succ, List.getElem?_cons_succ, ih]
    rfl

theorem eqSign_same (x0 : Int) (x1 : ByteArray) (x2 : Int) (x3 : Int) (w : World) :
    Calls Tryd.prog 15 #[.agg #[.int .i64 x0, .string x1, .int .i64 x2, .int .i64 x3], .agg #[.int .i64 x0, .string x1, .int .i64 x2, .int .i64 x3]] w fun e w' => e = .returned (.bool true) ∧ Below w.heap.size w w' := by
  have e0 : (x0 != x0) = false := by simp [bne]
  have e1 : (x1.toList != x1.toList) = false := by simp [bne]
  have e2 : (x2 != x2) = false := by simp [bne]
  have e3 : (x3 != x3) = false := by simp [bne]
  go_enter Tryd.func15, Tryd.ntmps15
  go_wp2
  go_ret
  exact ⟨rfl, by repeat (first | exact Below.refl _ _ | (refine Below.alloc ?_ (by first | omega | (simp; done) | (simp; omega)) _) | (refine Below.setCell ?_ (by first | omega | (simp; done) | (simp; omega)) _) | (refine Below.drew ?_) | (refine below_drewN ?_ _))⟩

set_option maxRecDepth 100000 in
theorem eqSignS_same (L : List (Sg × Nat)) (a a' : Option Addr) (cap cap' : Nat) (w : World) (hn : L.length ≤ 1073741824) (hc : SlAt w a L.length 4 (fSign L)) (hc' : SlAt w a' L.length 4 (fSign L)) :
    Calls Tryd.prog 18 #[.slice a L.length cap, .slice a' L.length cap'] w fun e w' => e = .returned (.bool true) ∧ Below w.heap.size w w' := by
  have e0 : ((L.length : Int) != (L.length : Int)) = false := by simp
  go_enter Tryd.func18, Tryd.ntmps18
  go_wp2
  clear e0
  go_loopw [5] (fun i wr => ∃ k : Nat, k ≤ L.length ∧ i = .int .i64 k ∧ Below w.heap.size w wr) (fun i _ => L.length - (intOf i).toNat)
  case atStart => exact ⟨0, by omega, rfl, Below.refl _ _⟩
  case round =>
    obtain ⟨k, hk, rfl, hb⟩ := hrel
    by_cases hlt : k < L.length
    · obtain ⟨b, off, rfl, hcell⟩ := (hc.keep hb).at (by omega)
      obtain ⟨b', off', rfl, hcell'⟩ := (hc'.keep hb).at (by omega)
      have c0 : wr.cell? ⟨b, off + k * 4, none⟩ = some (.int .i64 (atSign L k).1.kind) := by simpa [fSign, oneSign] using hcell k hlt 0 (by omega)
      have c1 : wr.cell? ⟨b, off + k * 4 + 1, none⟩ = some (.string (atSign L k).1.text) := by simpa [fSign, oneSign] using hcell k hlt 1 (by omega)
      have c2 : wr.cell? ⟨b, off + k * 4 + 2, none⟩ = some (.int .i64 (atSign L k).1.num) := by simpa [fSign, oneSign] using hcell k hlt 2 (by omega)
      have c3 : wr.cell? ⟨b, off + k * 4 + 3, none⟩ = some (.int .i64 ((atSign L k).2 : Int)) := by simpa [fSign, oneSign] using hcell k hlt 3 (by omega)
      have d0 : wr.cell? ⟨b', off' + k * 4, none⟩ = some (.int .i64 (atSign L k).1.kind) := by simpa [fSign, oneSign] using hcell' k hlt 0 (by omega)
      have d1 : wr.cell? ⟨b', off' + k * 4 + 1, none⟩ = some (.string (atSign L k).1.text) := by simpa [fSign, oneSign] using hcell' k hlt 1 (by omega)
      have d2 : wr.cell? ⟨b', off' + k * 4 + 2, none⟩ = some (.int .i64 (atSign L k).1.num) := by simpa [fSign, oneSign] using hcell' k hlt 2 (by omega)
      have d3 : wr.cell? ⟨b', off' + k * 4 + 3, none⟩ = some (.int .i64 ((atSign L k).2 : Int)) := by simpa [fSign, oneSign] using hcell' k hlt 3 (by omega)
      clear hcell hc hcell' hc'
      go_wp2_with fail
      go_still_tail 8, (by kernel_rfl)
      change wpList _ _ _ _ _ wr.drew
      go_wp2_with (go_at_call 15; refine (eqSign_same _ _ _ _ _).mono ?_; rintro e w1 ⟨rfl, hb1⟩)
      go_roundw
      case rel => exact ⟨k + 1, by omega, by go_num, bnext hb.drew hb1⟩
      case measure => simp [intOf]; omega
    · obtain rfl : k = L.length := by omega
      go_wp2
      go_ret
      exact ⟨rfl, hb⟩

def markSign (k i m : Nat) : Value := if m = 0 then .int .i64 ((k + 4 * i + 0 : Nat) : Int) else if m = 1 then .string (mtext (k + 4 * i + 1)) else if m = 2 then .int .i64 ((k + 4 * i + 2 : Nat) : Int) else if m = 3 then .int .i64 ((k + 4 * i + 3 : Nat) : Int) else undef
def partSign (k j : Nat) (f : Nat → Nat → Value) (i m : Nat) : Value := if i < j then markSign k i m else f i m
theorem markSign_0 (k i : Nat) : markSign k i 0 = .int .i64 ((k + 4 * i + 0 : Nat) : Int) := rfl
theorem markSign_1 (k i : Nat) : markSign k i 1 = .string (mtext (k + 4 * i + 1)) := rfl
theorem markSign_2 (k i : Nat) : markSign k i 2 = .int .i64 ((k + 4 * i + 2 : Nat) : Int) := rfl
theorem markSign_3 (k i : Nat) : markSign k i 3 = .int .i64 ((k + 4 * i + 3 : Nat) : Int) := rfl

set_option maxRecDepth 100000 in
set_option maxHeartbeats 2000000 in
theorem markSignS_own (n : Nat) (f : Nat → Nat → Value) (a : Option Addr) (cap : Nat) (fp : List Nat) (k : Nat) (w : World) (hk : k + 4 * n ≤ 1073741824) (ho : FlatOwn w (.slice a n cap) n 4 f fp) :
    Calls Tryd.prog 20 #[.slice a n cap, .int .i64 k] w fun e w' => e = .returned (.int .i64 ((k : Int) + 4 * (n : Int))) ∧ FlatOwn w' (.slice a n cap) n 4 (markSign k) fp ∧ Apart fp w w' := by
  go_enter Tryd.func20, Tryd.ntmps20
  go_wp2
  go_loopw [1, 5] (fun s1 s5 wr => ∃ j kk : Nat, j ≤ n ∧ s5 = .int .i64 j ∧ s1 = .int .i64 kk ∧ Hid (kk = k + 4 * j) ∧ Hid (FlatOwn wr (.slice a n cap) n 4 (partSign k j f) fp) ∧ Apart fp w wr) (fun _ s5 _ => n - (intOf s5).toNat)
  case atStart => exact ⟨0, k, by omega, rfl, rfl, rfl, ho.congr fun i _ m _ => by simp [partSign], Apart.refl _ _⟩
  case round =>
    obtain ⟨j, kk, hj, rfl, rfl, HKK, HO, hap⟩ := hrel
    clear ho
    by_cases hlt : j < n
    · rcases HO.out with ⟨e, _⟩ | ⟨g, cap', e, N, F, hv, hfp, hrow, hN, hF⟩
      · omega
      simp only [Value.slice.injEq] at hv
      obtain ⟨rfl, -, rfl⟩ := hv
      have HFP := Lib.hid hfp
      have HF := Lib.hid hF
      have hNj : (j + 1) * 4 ≤ N := Nat.le_trans (Nat.mul_le_mul_right _ hlt) hN
      have HN := Lib.hid hN
      have hkb : kk + 4 ≤ 1073741824 := by have := HKK.out; omega
      have HAP := Lib.hid hap; have HROW := Lib.hid hrow
      clear hF hfp HO hN hap hrow
      have HMT1 := Lib.hid (fun w0 => (show Calls Tryd.prog 82 #[.int .i64 ((kk : Int) + 1)] w0 fun e w' => e = .returned (.string (mtext (kk + 1))) ∧ Below w0.heap.size w0 w' from by
        have := markText_any (kk + 1) w0 (by omega)
        rw [show (kk : Int) + 1 = ((kk + 1 : Nat) : Int) by omega]; exact this))
      have hrow0 := HROW.out
      have d0 := hrow0.cell (i := j * 4) (by omega)
      have f0 := hrow0.frozen (j * 4)
      clear hrow0
      go_wp2_with fail
      refine (HMT1.out _).mono ?_
      rintro e w1 ⟨rfl, hb1⟩
      have HROW := Lib.hid (rowIs_keep (HROW.out.set (j * 4) (.int .i64 ((kk : Int)))) hb1)
      have HAP := Lib.hid ((HAP.out.setCell (p := ⟨g, j * 4, none⟩) (by rw [HFP.out]; simp) (.int .i64 ((kk : Int)))).trans (Apart.of_below hb1 _))
      clear hb1 d0 f0
      have hrow0 := HROW.out
      have d1 := hrow0.cell (i := j * 4 + 1) (by omega)
      have f1 := hrow0.frozen (j * 4 + 1)
      have d2 := hrow0.cell (i := j * 4 + 2) (by omega)
      have f2 := hrow0.frozen (j * 4 + 2)
      have d3 := hrow0.cell (i := j * 4 + 3) (by omega)
      have f3 := hrow0.frozen (j * 4 + 3)
      clear hrow0
      go_wp2
      go_roundw
      case rel =>
        refine ⟨j + 1, kk + 4, by omega, by go_num, by go_num, by unfold Hid; have := HKK.out; omega, .inr ⟨g, _, _, _, _, rfl, HFP.out, (((HROW.out.set (j * 4 + 1) (.string (mtext (kk + 1)))).set (j * 4 + 2) (.int .i64 ((kk : Int) + 1 + 1))).set (j * 4 + 3) (.int .i64 ((kk : Int) + 1 + 1 + 1))), HN.out, fun i hi m hm => ?_⟩, (((HAP.out.setCell (p := ⟨g, j * 4 + 1, none⟩) (by rw [HFP.out]; simp) (.string (mtext (kk + 1)))).setCell (p := ⟨g, j * 4 + 2, none⟩) (by rw [HFP.out]; simp) (.int .i64 ((kk : Int) + 1 + 1))).setCell (p := ⟨g, j * 4 + 3, none⟩) (by rw [HFP.out]; simp) (.int .i64 ((kk : Int) + 1 + 1 + 1)))⟩
        have hkk := HKK.out
        show (if i * 4 + m = j * 4 + 3 then .int .i64 ((kk : Int) + 1 + 1 + 1) else if i * 4 + m = j * 4 + 2 then .int .i64 ((kk : Int) + 1 + 1) else if i * 4 + m = j * 4 + 1 then .string (mtext (kk + 1)) else if i * 4 + m = j * 4 then .int .i64 ((kk : Int)) else F (i * 4 + m)) = _
        by_cases hij : i = j
        · subst hij
          rw [show partSign k (i + 1) f i m = markSign k i m from by unfold partSign; rw [if_pos (by omega)]]
          rcases (show m = 0 ∨ m = 1 ∨ m = 2 ∨ m = 3 by omega) with rfl | rfl | rfl | rfl
          · rw [if_neg (by omega), if_neg (by omega), if_neg (by omega), if_pos (by omega), markSign_0]
            rw [hkk]; congr 1 <;> omega
          · rw [if_neg (by omega), if_neg (by omega), if_pos (by omega), markSign_1]
            rw [hkk]
          · rw [if_neg (by omega), if_pos (by omega), markSign_2]
            rw [hkk]; congr 1 <;> omega
          · rw [if_pos (by omega), markSign_3]
            rw [hkk]; congr 1 <;> omega
        · rw [if_neg (by omega), if_neg (by omega), if_neg (by omega), if_neg (by omega), HF.out i hi m hm]
          unfold partSign
          by_cases hl : i < j
          · rw [if_pos hl, if_pos (by omega)]
          · rw [if_neg hl, if_neg (by omega)]
      case measure => simp [intOf] <;> omega
    · obtain rfl : j = n := by omega
      go_wp2
      go_ret
      exact ⟨ret_int (by have := HKK.out; omega), HO.out.congr fun i hi m _ => by rw [partSign, if_pos hi], hap⟩

set_option maxRecDepth 100000 in
set_option maxHeartbeats 2000000 in
theorem heldSignS_in (n : Nat) (a : Option Addr) (cap k : Nat) (w : World) (hk : k + 4 * n ≤ 1073741824) (hc : SlAt w a n 4 (markSign k)) :
    Calls Tryd.prog 21 #[.slice a n cap, .int .i64 k] w fun e w' => e = .returned (.int .i64 ((k : Int) + 4 * (n : Int))) ∧ Below w.heap.size w w' := by
  go_enter Tryd.func21, Tryd.ntmps21
  go_wp2
  go_loopw [1, 5] (fun s1 s5 wr => ∃ j kk : Nat, j ≤ n ∧ s5 = .int .i64 j ∧ s1 = .int .i64 kk ∧ Hid (kk = k + 4 * j) ∧ Below w.heap.size w wr) (fun _ s5 _ => n - (intOf s5).toNat)
  case atStart => exact ⟨0, k, by omega, rfl, rfl, rfl, Below.refl _ _⟩
  case round =>
    obtain ⟨j, kk, hj, rfl, rfl, HKK, hb⟩ := hrel
    by_cases hlt : j < n
    · obtain ⟨b, off, rfl, hcell⟩ := (hc.keep hb).at (by omega)
      have hkb : kk + 4 ≤ 1073741824 := by have := HKK.out; omega
      have c0 : wr.cell? ⟨b, off + j * 4, none⟩ = some (.int .i64 ((kk : Int))) := by
        have := hcell j hlt 0 (by omega)
        rw [markSign_0, ← HKK.out] at this
        rw [show ((kk + 0 : Nat) : Int) = (kk : Int) by omega] at this; simpa using this
      have e0 : (((kk : Int)) != ((kk : Int))) = false := by simp
      have c1 : wr.cell? ⟨b, off + j * 4 + 1, none⟩ = some (.string (mtext (kk + 1))) := by
        have := hcell j hlt 1 (by omega)
        rw [markSign_1, ← HKK.out] at this
        simpa using this
      have e1 : ((mtext (kk + 1)).toList != (mtext (kk + 1)).toList) = false := by simp [bne]
      have HMT1 := Lib.hid (fun w0 => (show Calls Tryd.prog 82 #[.int .i64 ((kk : Int) + 1)] w0 fun e w' => e = .returned (.string (mtext (kk + 1))) ∧ Below w0.heap.size w0 w' from by
        have := markText_any (kk + 1) w0 (by omega)
        rw [show (kk : Int) + 1 = ((kk + 1 : Nat) : Int) by omega]; exact this))
      have c2 : wr.cell? ⟨b, off + j * 4 + 2, none⟩ = some (.int .i64 ((kk : Int) + 1 + 1)) := by
        have := hcell j hlt 2 (by omega)
        rw [markSign_2, ← HKK.out] at this
        rw [show ((kk + 2 : Nat) : Int) = (kk : Int) + 1 + 1 by omega] at this; simpa using this
      have e2 : (((kk : Int) + 1 + 1) != ((kk : Int) + 1 + 1)) = false := by simp
      have c3 : wr.cell? ⟨b, off + j * 4 + 3, none⟩ = some (.int .i64 ((kk : Int) + 1 + 1 + 1)) := by
        have := hcell j hlt 3 (by omega)
        rw [markSign_3, ← HKK.out] at this
        rw [show ((kk + 3 : Nat) : Int) = (kk : Int) + 1 + 1 + 1 by omega] at this; simpa using this
      have e3 : (((kk : Int) + 1 + 1 + 1) != ((kk : Int) + 1 + 1 + 1)) = false := by simp
      clear hcell hc
      have q0 := aft_cell c0
      have q1 := aft_cell c1
      have q2 := aft_cell c2
      have q3 := aft_cell c3
      go_wp2_with fail
      refine wp_region_soft_lit (by kernel_rfl) (by kernel_rfl) ?_
      repeat (go_big_quiet_step ((go_at_call 82; exact soft_call (HMT1.out _))))
      refine wpQuiet_nil ?_
      intro _ hw'
      obtain ⟨xq, hw''⟩ := hw'
      subst hw''
      have HBX := Lib.hid (bnext hb xq.bel)
      go_wp2
      go_roundw
      case rel => exact ⟨j + 1, kk + 4, by omega, by go_num, by go_num, by unfold Hid; have := HKK.out; omega, HBX.out⟩
      case measure => simp [intOf] <;> omega
    · obtain rfl : j = n := by omega
      go_wp2
      go_ret
      exact ⟨ret_int (by have := HKK.out; omega), hb⟩

theorem mark1Sign (n : Nat) (f : Nat → Nat → Value) (a : Option Addr) (cap : Nat) (fp : List Nat) (w : World) (m : Int) (hn : n ≤ 2000000) (hm : m = 1 + 4 * (n : Int)) (ho : FlatOwn w (.slice a n cap) n 4 f fp) :
    Calls Tryd.prog 20 #[.slice a n cap, .int .i64 1] w fun e w' => e = .returned (.int .i64 m) ∧ FlatOwn w' (.slice a n cap) n 4 (markSign 1) fp ∧ Apart fp w w' := by
  refine (markSignS_own n f a cap fp 1 w (by omega) ho).mono ?_
  rintro e w' ⟨rfl, h1⟩
  exact ⟨ret_int (by omega), h1⟩
theorem held1Sign (n : Nat) (a : Option Addr) (cap : Nat) (w : World) (m : Int) (hn : n ≤ 2000000) (hm : m = 1 + 4 * (n : Int)) (hc : SlAt w a n 4 (markSign 1)) :
    Calls Tryd.prog 21 #[.slice a n cap, .int .i64 1] w fun e w' => e = .returned (.int .i64 m) ∧ Below w.heap.size w w' := by
  refine (heldSignS_in n a cap 1 w (by omega) hc).mono ?_
  rintro e w' ⟨rfl, h1⟩
  exact ⟨ret_int (by omega), h1⟩

end Go.Proofs.YtpcojfcbomkgpaaDoor
namespace Go.Proofs.YtpcojfcbomkgpaaDoor
open Go.RowKit

def badZ : Option Nat → Int | none => -1 | some k => k
set_option maxRecDepth 100000 in
theorem sRunes (s : ByteArray) (w : World) (hs : s.size ≤ 1048576) : Calls Tryd.prog 80 #[.string s] w fun e w' => e = .returned (.int .i64 (badZ (badA s))) ∧ Below w.heap.size w w' := by
  have H0 := Lib.hid (badAt_start s)
  generalize badA s = R at H0
  go_enter Tryd.func80, Tryd.ntmps80
  go_wp2
  go_loopw [3] (fun a wr => ∃ k : Nat, k ≤ s.size ∧ a = .int .i64 k ∧ Hid (BadAt s R k) ∧ Below w.heap.size w wr) (fun a _ => s.size - (intOf a).toNat)
  case atStart => exact ⟨0, by omega, rfl, H0, Below.refl _ _⟩
  case round =>
    obtain ⟨k, hk, rfl, HA, hb⟩ := hrel
    by_cases hlt : k < s.size
    · have HRA := Lib.hid (fun w0 => sRuneAt s k w0 hs (by omega))
      cases hbad : badD (Utf8.decode s k)
      · have g := rAt_good s k (Utf8.decode s k).1 (Utf8.decode s k).2 hlt rfl hbad
        have hw1 := Lib.decode_width_pos s k hlt
        have hw2 := width_le s k hlt
        have HA2 := Lib.hid (badAt_step HA.out hlt hbad)
        rw [g.1, g.2] at HRA
        clear g hbad
        generalize (Utf8.decode s k).1 = d1 at HRA
        generalize (Utf8.decode s k).2 = d2 at HRA hw1 hw2 HA2
        go_wp2_with (go_at_call 134; refine (HRA.out _).mono ?_; rintro e w1 ⟨rfl, hb1⟩)
        go_roundw
        case rel => exact ⟨k + d2, hw2, by go_num, HA2, bnext hb hb1⟩
        case measure => simp [intOf]; omega
      · have g := rAt_bad s k hbad
        have H := Lib.hid (badAt_bad HA.out hlt hbad)
        rw [g.1, g.2] at HRA
        clear g hbad
        go_wp2_with (go_at_call 134; refine (HRA.out _).mono ?_; rintro e w1 ⟨rfl, hb1⟩)
        go_ret
        exact ⟨ret_int (by rw [H.out]; rfl), bnext hb hb1⟩
    · have H := Lib.hid (badAt_end HA.out (by omega))
      go_wp2
      go_ret
      exact ⟨ret_int (by rw [H.out]; rfl), hb⟩

def FaultV (o : Option (Int × Int)) : Value := .agg #[.int .i64 (ftC o), .int .i64 (ftP o), .string ⟨#[]⟩]
set_option maxRecDepth 100000 in
theorem iFault (s : ByteArray) (w : World) (hs : s.size ≤ 1048576) (hT : Tabs w) : Calls Tryd.prog 81 #[.string s] w fun e w' => e = .returned (FaultV (ftO s)) ∧ Below w.heap.size w w' := by
  have HT := Lib.hid hT; clear hT
  have HZ := Lib.hid (ZF.new w)
  by_cases hl : 20000 < s.size
  · have H := Lib.hid (ft_long hl)
    have hd : decide ((20000 : Int) < (s.size : Int)) = true := decide_eq_true (by omega)
    have hd2 : decide (20000 < s.size) = true := decide_eq_true hl
    clear hl
    go_enter Tryd.func81, Tryd.ntmps81
    obtain ⟨r0, r1, r2⟩ := HZ.out.cells
    obtain ⟨g0, g1, g2⟩ := HZ.out.frozen
    go_wp2
    refine bodyPost_ret (v := .agg #[.int .i64 1, .int .i64 0, .string ⟨#[]⟩]) (by first | (simp [results, Tryd.results81, go_sem]; done) | simp [results, Tryd.results81, go_sem, HZ.out.cells]) rfl ?_
    exact ⟨by rw [H.out]; rfl, by repeat (first | exact (by first | exact HZ.out.2 | exact Below.refl _ _) | (refine Below.alloc ?_ (by first | omega | (simp; done) | (simp; omega)) _) | (refine Below.setCell ?_ (by first | omega | (simp; done) | (simp; omega)) _) | (refine Below.drew ?_) | (refine below_drewN ?_ _))⟩
  have HB := Lib.hid (fun k h => ft_bad (k := k) hl h)
  have HG := Lib.hid (fun h => ft_none hl h)
  have hd : decide ((20000 : Int) < (s.size : Int)) = false := decide_eq_false (by omega)
  have hd2 : decide (20000 < s.size) = false := decide_eq_false hl
  have H0 := Lib.hid (badAt_start s)
  generalize badA s = R at H0 HB HG
  clear hl
  go_enter Tryd.func81, Tryd.ntmps81
  go_wp2
  clear hd hd2
  go_loopw [3] (fun a wr => ∃ k : Nat, k ≤ s.size ∧ a = .int .i64 k ∧ Hid (BadAt s R k) ∧ Hid (ZF w wr)) (fun a _ => s.size - (intOf a).toNat)
  case atStart => exact ⟨0, by omega, rfl, H0, HZ⟩
  case round =>
    obtain ⟨k, hk, rfl, HA, HZ⟩ := hrel
    by_cases hlt : k < s.size
    · have HRA := Lib.hid (fun w0 hT => iRuneAt s k w0 hs hT)
      cases hbad : badD (Utf8.decode s k)
      · have g := rAt_good s k (Utf8.decode s k).1 (Utf8.decode s k).2 hlt rfl hbad
        have hw1 := Lib.decode_width_pos s k hlt
        have hw2 := width_le s k hlt
        have HA2 := Lib.hid (badAt_step HA.out hlt hbad)
        rw [g.1, g.2] at HRA
        clear g hbad
        generalize (Utf8.decode s k).1 = d1 at HRA
        generalize (Utf8.decode s k).2 = d2 at HRA hw1 hw2 HA2
        go_wp2_with (go_at_call 139; refine (HRA.out _ (tabs_keep HT.out HZ.out.2)).mono ?_; rintro e w1 ⟨rfl, hb1⟩)
        go_roundw
        case rel => exact ⟨k + d2, hw2, by go_num, HA2, Lib.hid (HZ.out.keep hb1)⟩
        case measure => simp [intOf]; omega
      · have g := rAt_bad s k hbad
        have H := Lib.hid (HB.out k (badAt_bad HA.out hlt hbad))
        rw [g.1, g.2] at HRA
        clear g hbad
        go_wp2_with fail
        refine (HRA.out _ (tabs_keep HT.out HZ.out.2)).mono ?_; rintro e w1 ⟨rfl, hb1⟩
        have HZ := Lib.hid (HZ.out.keep hb1); clear hb1
        obtain ⟨r0, r1, r2⟩ := HZ.out.cells
        obtain ⟨g0, g1, g2⟩ := HZ.out.frozen
        go_wp2
        refine bodyPost_ret (v := .agg #[.int .i64 2, .int .i64 k, .string ⟨#[]⟩]) (by first | (simp [results, Tryd.results81, go_sem]; done) | simp [results, Tryd.results81, go_sem, HZ.out.cells]) rfl ?_
        exact ⟨by rw [H.out]; rfl, by repeat (first | exact (by first | exact HZ.out.2 | exact Below.refl _ _) | (refine Below.alloc ?_ (by first | omega | (simp; done) | (simp; omega)) _) | (refine Below.setCell ?_ (by first | omega | (simp; done) | (simp; omega)) _) | (refine Below.drew ?_) | (refine below_drewN ?_ _))⟩
    · have H := Lib.hid (HG.out (badAt_end HA.out (by omega)))
      obtain ⟨r0, r1, r2⟩ := HZ.out.cells
      obtain ⟨g0, g1, g2⟩ := HZ.out.frozen
      go_wp2
      refine bodyPost_ret (v := .agg #[.int .i64 0, .int .i64 0, .string ⟨#[]⟩]) (by first | (simp [results, Tryd.results81, go_sem]; done) | simp [results, Tryd.results81, go_sem, HZ.out.cells]) rfl ?_
      exact ⟨by rw [H.out]; rfl, by repeat (first | exact (by first | exact HZ.out.2 | exact Below.refl _ _) | (refine Below.alloc ?_ (by first | omega | (simp; done) | (simp; omega)) _) | (refine Below.setCell ?_ (by first | omega | (simp; done) | (simp; omega)) _) | (refine Below.drew ?_) | (refine below_drewN ?_ _))⟩

end Go.Proofs.YtpcojfcbomkgpaaDoor
namespace Go.Proofs.YtpcojfcbomkgpaaDoor
open Go.RowKit

theorem rowAlloc (w : World) (o : Obj) : Below w.heap.size w (w.alloc o) := (Below.refl _ _).alloc (Nat.le_refl _) _
theorem Tryd.infoSign : (Tryd.prog.info? 23).map (fun i => (i.zero, i.size, i.bytes)) = some (some (.agg #[.int .i64 0, .string ⟨#[]⟩, .int .i64 0, .int .i64 0]), 4, 40) := by kernel_rfl
theorem Tryd.elSign : ElemT 28 23 4 := by
  obtain ⟨i0, hi, hz0, hz1, hz2⟩ := info_parts Tryd.infoSign
  exact ⟨i0, _, Tryd.underlying28, hi, hz0, hz1, by omega, rfl, by omega⟩
def SgsV (s : ByteArray) (w : World) (e : Ending) (w' : World) : Prop :=
  (∃ a cap fp, e = .returned (.tuple #[.slice a (sgsL s).length cap, .agg #[.int .i64 (sgsC s), .int .i64 (sgsP s), .string ⟨#[]⟩]]) ∧ GFlat w' w.heap.size w'.heap.size (.slice a (sgsL s).length cap) (sgsL s).length 4 (fSign (sgsL s)) fp) ∧ Below w.heap.size w w'
theorem sgs_no {s : ByteArray} {w w' : World} (a : Option Addr) (cap : Nat) {c p : Int} (h : sgsL s = [] ∧ sgsC s = c ∧ sgsP s = p) (hb : Below w.heap.size w w') :
    SgsV s w (.returned (.tuple #[.slice a 0 cap, .agg #[.int .i64 c, .int .i64 p, .string ⟨#[]⟩]])) w' := by
  obtain ⟨h1, rfl, rfl⟩ := h
  unfold SgsV
  rw [h1]
  exact ⟨⟨a, cap, [], rfl, ⟨.inl ⟨rfl, rfl, a, cap, rfl⟩, fun x hx => by simp at hx⟩⟩, hb⟩
theorem sgs_yes {s : ByteArray} {w w' : World} {v : Value} {L : List (Sg × Nat)} (h : sgsL s = L ∧ sgsC s = 0 ∧ sgsP s = 0) (hr : RowB 23 4 w w' v L.length (cellsSign L)) :
    SgsV s w (.returned (.tuple #[v, .agg #[.int .i64 0, .int .i64 0, .string ⟨#[]⟩]])) w' := by
  obtain ⟨rfl, h2, h3⟩ := h
  obtain ⟨a, cap, fp, rfl, h4, h5, -⟩ := hr.sl (cellSign _)
  unfold SgsV
  rw [h2, h3]
  exact ⟨⟨a, cap, fp, rfl, GFlat.new h4 h5⟩, hr.bel⟩
theorem ws_facts {b : Nat} (h : wsN b = false) : ((b : Int) == 32) = false ∧ ((b : Int) == 9) = false ∧ ((b : Int) == 10) = false ∧ ((b : Int) == 13) = false := by
  simp only [wsN, Bool.or_eq_false_iff, beq_eq_false_iff_ne] at h
  refine ⟨?_, ?_, ?_, ?_⟩ <;> rw [beq_eq_false_iff_ne] <;> omega

end Go.Proofs.YtpcojfcbomkgpaaDoor
namespace Go.Proofs.YtpcojfcbomkgpaaDoor
open Go.RowKit

theorem row_apart2 {w w' : World} {L : List Nat} {base e size : Nat} {v : Value} {n : Nat} {xs : List Value} (h : w.ownsRow base e size v n xs) (ha : Apart L w w') (hL : ∀ x, x ∈ L → x < base) : w'.ownsRow base e size v n xs := by
  obtain ⟨h1, h2⟩ := h
  refine ⟨h1, ?_⟩
  rcases h2 with h2 | ⟨b, cap, cur, hv, hb, hh, r⟩
  · exact .inl h2
  · have : b < w.heap.size := (Array.getElem?_eq_some_iff.1 hh).1
    exact .inr ⟨b, cap, cur, hv, hb, by rw [ha.block b this (fun hx => by have := hL b hx; omega)]; exact hh, r⟩
/-- A row stands, while a cell of the call's own that is older than it turns. -/
theorem RowB.past2 {e c b : Nat} {w W0 wr wx : World} {v : Value} {n : Nat} {xs : List Value} (h : RowB e c W0 wr v n xs) (hb : Below w.heap.size w W0) (h1 : w.heap.size ≤ b) (h2 : b < W0.heap.size) (ha : Apart [b] wr wx) : RowB e c w wx v n xs :=
  ⟨row_mono (row_apart2 h.own ha (fun x hx => by simp at hx; omega)) hb.size, (bnext hb h.bel).trans (ha.below (bnext hb h.bel).size (fun x hx => by simp at hx; omega))⟩
theorem ws_true {b : Nat} (h : wsN b = true) : ((b : Int) == 32) = true ∨ (((b : Int) == 32) = false ∧ ((b : Int) == 9) = true) ∨ (((b : Int) == 32) = false ∧ ((b : Int) == 9) = false ∧ ((b : Int) == 10) = true) ∨ (((b : Int) == 32) = false ∧ ((b : Int) == 9) = false ∧ ((b : Int) == 10) = false ∧ ((b : Int) == 13) = true) := by
  simp only [wsN, Bool.or_eq_true, beq_iff_eq] at h
  simp only [beq_iff_eq, beq_eq_false_iff_ne]
  omega
theorem sgn_none {s : ByteArray} {k : Nat} (hk : k < s.size) (h : signO s k = none) {w w' : World} {e : Ending} (hp : SignP s (k : Int) w e w') : e = .returned (.tuple #[.agg #[.int .i64 0, .string ⟨#[]⟩, .int .i64 0, .int .i64 0], .int .i64 (-1)]) ∧ Below w.heap.size w w' := by
  unfold SignP at hp
  rw [sign_in hk, h] at hp
  exact hp
theorem sgn_some {s : ByteArray} {k : Nat} (hk : k < s.size) {x : Sg} (h : signO s k = some x) {w w' : World} {e : Ending} (hp : SignP s (k : Int) w e w') : e = .returned (.tuple #[.agg #[.int .i64 x.kind, .string x.text, .int .i64 x.num, .int .i64 (k : Int)], .int .i64 (x.fin : Int)]) ∧ Below w.heap.size w w' := by
  unfold SignP at hp
  rw [sign_in hk, h] at hp
  exact hp

set_option maxRecDepth 100000 in
set_option maxHeartbeats 4000000 in
theorem sSignsOf (s : ByteArray) (w : World) (hs : s.size ≤ 1048576) : Calls Tryd.prog 16 #[.string s] w (SgsV s w) := by
  have HZ := Lib.hid (ZF.new w)
  by_cases hl : 20000 < s.size
  · have H := Lib.hid (sgs_fault (ft_long hl))
    have hd : decide ((20000 : Int) < (s.size : Int)) = true := decide_eq_true (by omega)
    have hd2 : decide (20000 < s.size) = true := decide_eq_true hl
    have HZ := Lib.hid (HZ.out.keep (rowAlloc _ (.cells #[] 23)))
    clear hl
    go_enter Tryd.func16, Tryd.ntmps16
    obtain ⟨r0, r1, r2⟩ := HZ.out.cells
    obtain ⟨g0, g1, g2⟩ := HZ.out.frozen
    go_wp2
    refine bodyPost_ret (v := .tuple #[.slice (some ⟨w.heap.size + 1, 0, none⟩) 0 0, .agg #[.int .i64 1, .int .i64 0, .string ⟨#[]⟩]]) (by first | (simp [results, Tryd.results16, go_sem]; done) | simp [results, Tryd.results16, go_sem, r0, r1, r2]) rfl ?_
    exact sgs_no _ _ H.out (by repeat (first | exact (by first | exact HZ.out.2 | exact Below.refl _ _) | (refine Below.alloc ?_ (by first | omega | (simp; done) | (simp; omega)) _) | (refine Below.setCell ?_ (by first | omega | (simp; done) | (simp; omega)) _) | (refine Below.drew ?_) | (refine below_drewN ?_ _)))
  have hd : decide ((20000 : Int) < (s.size : Int)) = false := decide_eq_false (by omega)
  have hd2 : decide (20000 < s.size) = false := decide_eq_false hl
  have HZ := Lib.hid (HZ.out.keep (rowAlloc _ (.cells #[] 23)))
  have HC := Lib.hid (fun w0 => sRunes s w0 hs)
  cases hb : badA s with
  | some k =>
    have H := Lib.hid (sgs_fault (ft_bad hl hb))
    rw [hb] at HC
    have hc : decide ((0 : Int) ≤ badZ (some k)) = true := decide_eq_true (by show (0 : Int) ≤ (k : Int); omega)
    clear hl hb
    go_enter Tryd.func16, Tryd.ntmps16
    go_wp2_with fail
    refine (HC.out _).mono ?_; rintro e w1 ⟨rfl, hb1⟩
    have HZ := Lib.hid (HZ.out.keep hb1)
    obtain ⟨r0, r1, r2⟩ := HZ.out.cells
    obtain ⟨g0, g1, g2⟩ := HZ.out.frozen
    go_wp2
    refine bodyPost_ret (v := .tuple #[.slice (some ⟨w.heap.size + 1, 0, none⟩) 0 0, .agg #[.int .i64 2, .int .i64 (k : Int), .string ⟨#[]⟩]]) (by first | (simp [results, Tryd.results16, go_sem, badZ]; done) | simp [results, Tryd.results16, go_sem, badZ, r0, r1, r2]) rfl ?_
    exact sgs_no _ _ H.out (by repeat (first | exact (by first | exact HZ.out.2 | exact Below.refl _ _) | (refine Below.alloc ?_ (by first | omega | (simp; done) | (simp; omega)) _) | (refine Below.setCell ?_ (by first | omega | (simp; done) | (simp; omega)) _) | (refine Below.drew ?_) | (refine below_drewN ?_ _)))
  | none =>
    have hft := ft_none hl hb
    rw [hb] at HC
    have hc : decide ((0 : Int) ≤ badZ none) = false := decide_eq_false (by show ¬ (0 : Int) ≤ -1; omega)
    have HFB := Lib.hid (fun k h => sgs_bad (k := k) hft h)
    have HFG := Lib.hid (fun L h => sgs_good (L := L) hft h)
    have HLS := Lib.hid (tgAt_start s)
    generalize toksR s = R at HLS HFB HFG
    clear hl hb hft
    go_enter Tryd.func16, Tryd.ntmps16
    go_wp2_with fail
    refine (HC.out _).mono ?_; rintro e w1 ⟨rfl, hb1⟩
    have HZ1 := Lib.hid (HZ.out.keep hb1)
    have HR0 := Lib.hid (RowB.start 23 4 w1 #[] rfl)
    have hlw := HZ1.out.lt
    clear hb1 HZ
    go_wp2_with fail
    go_loopw [6, 7] (fun v i wr => ∃ (k : Nat) (acc : List (Sg × Nat)), k ≤ s.size ∧ acc.length ≤ k ∧ i = .int .i64 k ∧ Hid (RowB 23 4 w1 wr v acc.length (cellsSign acc)) ∧ Hid (TgAt s R k acc)) (fun _ i _ => s.size - (intOf i).toNat)
    case atStart => exact ⟨0, [], by omega, by simp, rfl, HR0, HLS⟩
    case round =>
      obtain ⟨k, acc, hk, hak, rfl, HR, HTG⟩ := hrel
      by_cases hlt : k < s.size
      rotate_left
      · have H := Lib.hid (HFG.out acc (tgAt_end HTG.out (by omega)))
        have HZ := Lib.hid (HZ1.out.keep HR.out.bel)
        obtain ⟨r0, r1, r2⟩ := HZ.out.cells
        obtain ⟨g0, g1, g2⟩ := HZ.out.frozen
        go_wp2
        refine bodyPost_ret (v := .tuple #[u6, .agg #[.int .i64 0, .int .i64 0, .string ⟨#[]⟩]]) (by first | (simp [results, Tryd.results16, go_sem]; done) | simp [results, Tryd.results16, go_sem, r0, r1, r2]) rfl ?_
        exact sgs_yes H.out (RowB.past2 (b := w.heap.size) HR.out HZ1.out.2 (Nat.le_refl _) hlw (by repeat (first | exact Apart.refl _ _ | refine Apart.setCell ?_ (by simp) _)))
      have hbt := bt_eq s k hlt
      cases hw : wsN (bt s k)
      rotate_left
      · have HN := Lib.hid (tgAt_ws HTG.out hlt hw)
        rw [hbt] at hw
        rcases ws_true hw with h | ⟨h, h'⟩ | ⟨h, h', h''⟩ | ⟨h, h', h'', h3⟩
        all_goals
          clear hw hbt
          go_wp2_with fail
          go_roundw
          case rel => exact ⟨k + 1, acc, by omega, by omega, by go_num, HR, HN⟩
          case measure => simp [intOf]; omega
      cases hsg : signO s k with
      | none =>
        have HCS : Hid (∀ w0, Calls Tryd.prog 13 #[.string s, .int .i64 (k : Int)] w0 fun e w' => e = .returned (.tuple #[.agg #[.int .i64 0, .string ⟨#[]⟩, .int .i64 0, .int .i64 0], .int .i64 (-1)]) ∧ Below w0.heap.size w0 w') := Lib.hid (fun w0 => (sSignAt s k w0 hs).mono fun _ _ => sgn_none hlt hsg)
        have H := Lib.hid (HFB.out k (tgAt_bad HTG.out hlt hw hsg))
        rw [hbt] at hw
        obtain ⟨h1, h2, h3, h4⟩ := ws_facts hw
        clear hw hbt hsg HTG
        go_wp2_with fail
        refine (HCS.out _).mono ?_; rintro e w4 ⟨rfl, hb4⟩
        have HZ := Lib.hid (((HZ1.out.keep HR.out.bel).keep hb4).keep (rowAlloc w4 (.cells #[.int .i64 0, .string ⟨#[]⟩, .int .i64 0, .int .i64 0] 23)))
        obtain ⟨r0, r1, r2⟩ := HZ.out.cells
        obtain ⟨g0, g1, g2⟩ := HZ.out.frozen
        clear hb4
        go_wp2
        refine bodyPost_ret (v := .tuple #[.slice (some ⟨w.heap.size + 1, 0, none⟩) 0 0, .agg #[.int .i64 3, .int .i64 (k : Int), .string ⟨#[]⟩]]) (by first | (simp [results, Tryd.results16, go_sem]; done) | simp [results, Tryd.results16, go_sem, r0, r1, r2]) rfl ?_
        exact sgs_no _ _ H.out (by repeat (first | exact (by first | exact HZ.out.2 | exact Below.refl _ _) | (refine Below.alloc ?_ (by first | omega | (simp; done) | (simp; omega)) _) | (refine Below.setCell ?_ (by first | omega | (simp; done) | (simp; omega)) _) | (refine Below.drew ?_) | (refine below_drewN ?_ _)))
      | some x =>
        have HCS : Hid (∀ w0, Calls Tryd.prog 13 #[.string s, .int .i64 (k : Int)] w0 fun e w' => e = .returned (.tuple #[.agg #[.int .i64 x.kind, .string x.text, .int .i64 x.num, .int .i64 (k : Int)], .int .i64 (x.fin : Int)]) ∧ Below w0.heap.size w0 w') := Lib.hid (fun w0 => (sSignAt s k w0 hs).mono fun _ _ => sgn_some hlt hsg)
        have hfin := sign_fin hlt hsg
        have HN := Lib.hid (tgAt_step HTG.out hlt hw hsg)
        rw [hbt] at hw
        obtain ⟨h1, h2, h3, h4⟩ := ws_facts hw
        have hdf : decide ((x.fin : Int) < 0) = false := decide_eq_false (by omega)
        clear hw hbt hsg HTG
        go_wp2_with fail
        refine (HCS.out _).mono ?_; rintro e w4 ⟨rfl, hb4⟩
        have HR4 := Lib.hid ((HR.out.keep hb4).alloc (.cells #[.int .i64 x.kind, .string x.text, .int .i64 x.num, .int .i64 (k : Int)] 23))
        clear hb4 HR
        go_wp2_with (at_builtin; go_loud (refine wpList_row Tryd.elSign (by rfl) _ _ (by rfl) _ _ _ [.int .i64 x.kind, .string x.text, .int .i64 x.num, .int .i64 (k : Int)] w1 _ (by rfl) HR4.out _ 1 1 (by rfl) rfl (by simp [Value.oneCell']) (by first | rfl | (rw [World.size_alloc]; rfl) | (simp only [World.size_alloc]; rfl)) (by omega) ?_; intro v' w' hrow'))
        go_roundw
        case rel => exact ⟨x.fin, acc ++ [(x, k)], by omega, by simp; omega, by go_num, Lib.hid (by rw [cellsSign_snoc, List.length_append]; exact hrow'), HN⟩
        case measure => simp [intOf]; omega

end Go.Proofs.YtpcojfcbomkgpaaDoor
