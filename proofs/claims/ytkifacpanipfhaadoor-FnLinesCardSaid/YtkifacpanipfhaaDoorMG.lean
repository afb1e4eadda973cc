/- LineF, CutT, Fault, LnsV, LnsS, LnsI, DrawT, DrT, LnF, merged. -/
import Derived.Test.YtkifacpanipfhaaDoorFlat
import Derived.Test.YtkifacpanipfhaaDoorSoft
import Derived.StillTailTactics
import Derived.Test.YtkifacpanipfhaaDoorMF
import Derived.Test.YtkifacpanipfhaaDoorMB
import Derived.Test.YtkifacpanipfhaaDoorME
import Derived.Test.YtkifacpanipfhaaDoorRuneA
import Derived.Test.YtkifacpanipfhaaDoorRuneB
import Derived.Test.YtkifacpanipfhaaDoorMA
import Derived.Test.YtkifacpanipfhaaDoorLayD
import Derived.Test.YtkifacpanipfhaaDoorLA
import Derived.OpenShut
import Derived.Test.YtkifacpanipfhaaDoorLD
namespace Go.Proofs.YtkifacpanipfhaaDoor
open Go.RowKit

def atLine (L : List (Ln)) (i : Nat) : Ln := L.getD i ⟨0, emptyB, 0⟩
def oneLine (X : Ln) (m : Nat) : Value := if m = 0 then .int .i64 (X.pre : Int) else if m = 1 then .string X.text else if m = 2 then .int .i64 (X.row : Int) else undef
def fLine (L : List (Ln)) (i m : Nat) : Value := oneLine (atLine L i) m
def cellsLine (L : List (Ln)) : List Value := L.flatMap fun X => [.int .i64 (X.pre : Int), .string X.text, .int .i64 (X.row : Int)]
theorem cellsLine_snoc (L : List (Ln)) (X : Ln) : cellsLine (L ++ [X]) = cellsLine L ++ [.int .i64 (X.pre : Int), .string X.text, .int .i64 (X.row : Int)] := by simp [cellsLine]
theorem cellLine : ∀ (L : List (Ln)) (i : Nat), i < L.length → ∀ j, j < 3 → (cellsLine L)[i * 3 + j]? = some (fLine L i j)
  | [], i, h, _, _ => by simp at h
  | X :: L, 0, _, j, hj => by
    rcases (show j = 0 ∨ j = 1 ∨ j = 2 by omega) with rfl | rfl | rfl <;> rfl
  | X :: L, i + 1, h, j, hj => by
    have ih := cellLine L i (by simpa using h) j hj
    have e : cellsLine (X :: L) = .int .i64 (X.pre : Int) :: .string X.text :: .int .i64 (X.row : Int) :: cellsLine L := rfl
    rw [e, show (i + 1) * 3 + j = (i * 3 + j) + 1 + 1 + 1 by omega, List.getElem?_cons_succ, List.getElem?_cons_succ, List.getElem?_cons_succ, ih]
    rfl

def markLine (k i m : Nat) : Value := if m = 0 then .int .i64 ((k + 3 * i + 0 : Nat) : Int) else if m = 1 then .string (mtext (k + 3 * i + 1)) else if m = 2 then .int .i64 ((k + 3 * i + 2 : Nat) : Int) else undef
def partLine (k j : Nat) (f : Nat → Nat → Value) (i m : Nat) : Value := if i < j then markLine k i m else f i m
theorem markLine_0 (k i : Nat) : markLine k i 0 = .int .i64 ((k + 3 * i + 0 : Nat) : Int) := rfl
theorem markLine_1 (k i : Nat) : markLine k i 1 = .string (mtext (k + 3 * i + 1)) := rfl
theorem markLine_2 (k i : Nat) : markLine k i 2 = .int .i64 ((k + 3 * i + 2 : Nat) : Int) := rfl

end Go.Proofs.YtkifacpanipfhaaDoor
namespace Go.Proofs.YtkifacpanipfhaaDoor
open Go.RowKit

def CutAt (c : UInt8) (s : ByteArray) (done : List ByteArray) (b : Nat) : Prop := cutL c s.data.toList = done.map (·.data.toList) ++ cutL c (s.data.toList.drop b)

def NoneIn (c : UInt8) (s : ByteArray) (b k : Nat) : Prop := c ∉ (s.data.toList.drop b).take (k - b)

theorem data_get (s : ByteArray) (k : Nat) (h : k < s.size) : s.data.toList[k]? = some s[k] := by
  rw [List.getElem?_eq_getElem (by simpa using h)]; rfl

theorem none_start (c : UInt8) (s : ByteArray) (b : Nat) : NoneIn c s b b := by simp [NoneIn]

theorem none_step {c : UInt8} {s : ByteArray} {b k : Nat} (h : NoneIn c s b k) (hb : b ≤ k) (hk : k < s.size) (hc : s[k] ≠ c) : NoneIn c s b (k + 1) := by
  unfold NoneIn at h ⊢
  rw [show k + 1 - b = (k - b) + 1 by omega, List.take_add_one, List.getElem?_drop, show b + (k - b) = k by omega, data_get s k hk]
  simp only [Option.toList_some, List.mem_append, List.mem_singleton, not_or]
  exact ⟨h, Ne.symm hc⟩

theorem cut_start (c : UInt8) (s : ByteArray) : CutAt c s [] 0 := by simp [CutAt]

theorem cut_step {c : UInt8} {s : ByteArray} {done : List ByteArray} {b k : Nat} (h : CutAt c s done b) (hn : NoneIn c s b k) (hb : b ≤ k) (hk : k < s.size) (hc : s[k] = c) : CutAt c s (done ++ [s.extract b k]) (k + 1) := by
  unfold CutAt NoneIn at *
  have hlen : s.data.toList.length = s.size := by simp
  have e : s.data.toList.drop b = (s.data.toList.drop b).take (k - b) ++ c :: s.data.toList.drop (k + 1) := by
    conv => lhs; rw [← List.take_append_drop (k - b) (s.data.toList.drop b)]
    rw [List.drop_drop, show b + (k - b) = k by omega, List.drop_eq_getElem_cons (i := k) (by omega)]
    congr 2
  rw [h, e, cutL_hit c _ _ hn, List.map_append, List.append_assoc]
  congr 1
  simp

theorem cut_end {c : UInt8} {s : ByteArray} {done : List ByteArray} {b : Nat} (h : CutAt c s done b) (hn : NoneIn c s b s.size) : done ++ [s.extract b s.size] = partsL c s := by
  unfold CutAt NoneIn at *
  have hlen : s.data.toList.length = s.size := by simp
  rw [List.take_of_length_le (by rw [List.length_drop]; omega)] at hn
  apply map_data
  rw [parts_data, h, cutL_miss c _ hn, List.map_append]
  congr 1
  simp [Lib.extract_from]

def CutRow (c : UInt8) (s : ByteArray) (w : World) (e : Ending) (w' : World) : Prop := ∃ v, e = .returned v ∧ RowB 9 1 w w' v (partsL c s).length ((partsL c s).map Value.string)

end Go.Proofs.YtkifacpanipfhaaDoor
namespace Go.Proofs.YtkifacpanipfhaaDoor
open Go.RowKit

def badZ : Option Nat → Int | none => -1 | some k => k

def FaultV (o : Option (Int × Int)) : Value := .agg #[.int .i64 (ftC o), .int .i64 (ftP o), .string ⟨#[]⟩]

set_option maxRecDepth 100000 in
theorem iFault (s : ByteArray) (w : World) (hs : s.size ≤ 1048576) (hT : Tabs w) : Calls Tryd.prog 65 #[.string s] w fun e w' => e = .returned (FaultV (ftO s)) ∧ Below w.heap.size w w' := by
  have HT := Lib.hid hT; clear hT
  have HZ := Lib.hid (ZF.new w)
  by_cases hl : 20000 < s.size
  · have H := Lib.hid (ft_long hl)
    have hd : decide ((20000 : Int) < (s.size : Int)) = true := decide_eq_true (by omega)
    have hd2 : decide (20000 < s.size) = true := decide_eq_true hl
    clear hl
    go_enter Tryd.func65, Tryd.ntmps65
    obtain ⟨r0, r1, r2⟩ := HZ.out.cells
    obtain ⟨g0, g1, g2⟩ := HZ.out.frozen
    go_wp2
    refine bodyPost_ret (v := .agg #[.int .i64 1, .int .i64 0, .string ⟨#[]⟩]) (by first | (simp [results, Tryd.results65, go_sem]; done) | simp [results, Tryd.results65, go_sem, HZ.out.cells]) rfl ?_
    exact ⟨by rw [H.out]; rfl, by repeat (first | exact (by first | exact HZ.out.2 | exact Below.refl _ _) | (refine Below.alloc ?_ (by first | omega | (simp; done) | (simp; omega)) _) | (refine Below.setCell ?_ (by first | omega | (simp; done) | (simp; omega)) _) | (refine Below.drew ?_) | (refine below_drewN ?_ _))⟩
  have HB := Lib.hid (fun k h => ft_bad (k := k) hl h)
  have HG := Lib.hid (fun h => ft_none hl h)
  have hd : decide ((20000 : Int) < (s.size : Int)) = false := decide_eq_false (by omega)
  have hd2 : decide (20000 < s.size) = false := decide_eq_false hl
  have H0 := Lib.hid (badAt_start s)
  generalize badA s = R at H0 HB HG
  clear hl
  go_enter Tryd.func65, Tryd.ntmps65
  go_wp2
  clear hd hd2
  go_loopw [3] (fun a wr => ∃ k : Nat, k ≤ s.size ∧ a = .int .i64 k ∧ Hid (BadAt s R k) ∧ Hid (ZF w wr)) (fun a _ => s.size - (intOf a).toNat)
  case atStart => exact ⟨0, by omega, rfl, H0, HZ⟩
  case round =>
    obtain ⟨k, hk, rfl, HA, HZ⟩ := hrel
    by_cases hlt : k < s.size
    · have HRA := Lib.hid (fun w0 hT => iRuneAt s k w0 hs hT)
      cases hbad : badD (Utf8.decode s k)
      · have g := rAt_good s k (Utf8.decode s k).1 (Utf8.decode s k).2 hlt rfl hbad
        have hw1 := Lib.decode_width_pos s k hlt
        have hw2 := width_le s k hlt
        have HA2 := Lib.hid (badAt_step HA.out hlt hbad)
        rw [g.1, g.2] at HRA
        clear g hbad
        generalize (Utf8.decode s k).1 = d1 at HRA
        generalize (Utf8.decode s k).2 = d2 at HRA hw1 hw2 HA2
        go_wp2_with (go_at_call 94; refine (HRA.out _ (tabs_keep HT.out HZ.out.2)).mono ?_; rintro e w1 ⟨rfl, hb1⟩)
        go_roundw
        case rel => exact ⟨k + d2, hw2, by go_num, HA2, Lib.hid (HZ.out.keep hb1)⟩
        case measure => simp [intOf]; omega
      · have g := rAt_bad s k hbad
        have H := Lib.hid (HB.out k (badAt_bad HA.out hlt hbad))
        rw [g.1, g.2] at HRA
        clear g hbad
        go_wp2_with fail
        refine (HRA.out _ (tabs_keep HT.out HZ.out.2)).mono ?_; rintro e w1 ⟨rfl, hb1⟩
        have HZ := Lib.hid (HZ.out.keep hb1); clear hb1
        obtain ⟨r0, r1, r2⟩ := HZ.out.cells
        obtain ⟨g0, g1, g2⟩ := HZ.out.frozen
        go_wp2
        refine bodyPost_ret (v := .agg #[.int .i64 2, .int .i64 k, .string ⟨#[]⟩]) (by first | (simp [results, Tryd.results65, go_sem]; done) | simp [results, Tryd.results65, go_sem, HZ.out.cells]) rfl ?_
        exact ⟨by rw [H.out]; rfl, by repeat (first | exact (by first | exact HZ.out.2 | exact Below.refl _ _) | (refine Below.alloc ?_ (by first | omega | (simp; done) | (simp; omega)) _) | (refine Below.setCell ?_ (by first | omega | (simp; done) | (simp; omega)) _) | (refine Below.drew ?_) | (refine below_drewN ?_ _))⟩
    · have H := Lib.hid (HG.out (badAt_end HA.out (by omega)))
      obtain ⟨r0, r1, r2⟩ := HZ.out.cells
      obtain ⟨g0, g1, g2⟩ := HZ.out.frozen
      go_wp2
      refine bodyPost_ret (v := .agg #[.int .i64 0, .int .i64 0, .string ⟨#[]⟩]) (by first | (simp [results, Tryd.results65, go_sem]; done) | simp [results, Tryd.results65, go_sem, HZ.out.cells]) rfl ?_
      exact ⟨by rw [H.out]; rfl, by repeat (first | exact (by first | exact HZ.out.2 | exact Below.refl _ _) | (refine Below.alloc ?_ (by first | omega | (simp; done) | (simp; omega)) _) | (refine Below.setCell ?_ (by first | omega | (simp; done) | (simp; omega)) _) | (refine Below.drew ?_) | (refine below_drewN ?_ _))⟩

end Go.Proofs.YtkifacpanipfhaaDoor
namespace Go.Proofs.YtkifacpanipfhaaDoor
open Go.RowKit

theorem allocBel (w : World) (o : Obj) : Below w.heap.size w (w.alloc o) := (Below.refl _ _).alloc (Nat.le_refl _) _

theorem Tryd.infoLine : (Tryd.prog.info? 55).map (fun i => (i.zero, i.size, i.bytes)) = some (some (.agg #[.int .i64 0, .string ⟨#[]⟩, .int .i64 0]), 3, 32) := by kernel_rfl

theorem Tryd.elLine : ElemT 49 55 3 := by
  obtain ⟨i0, hi, hz0, hz1, hz2⟩ := info_parts Tryd.infoLine
  exact ⟨i0, _, Tryd.underlying49, hi, hz0, hz1, by omega, rfl, by omega⟩

def LnsV (s : ByteArray) (w : World) (e : Ending) (w' : World) : Prop :=
  (∃ a cap fp, e = .returned (.tuple #[.slice a (lnsL s).length cap, .agg #[.int .i64 (lnsC s), .int .i64 (lnsP s), .string ⟨#[]⟩]]) ∧ GFlat w' w.heap.size w'.heap.size (.slice a (lnsL s).length cap) (lnsL s).length 3 (fLine (lnsL s)) fp) ∧ Below w.heap.size w w'

theorem lns_no {s : ByteArray} {w w' : World} (a : Option Addr) (cap : Nat) {c p : Int} (h : lnsL s = [] ∧ lnsC s = c ∧ lnsP s = p) (hb : Below w.heap.size w w') :
    LnsV s w (.returned (.tuple #[.slice a 0 cap, .agg #[.int .i64 c, .int .i64 p, .string ⟨#[]⟩]])) w' := by
  obtain ⟨h1, rfl, rfl⟩ := h
  unfold LnsV
  rw [h1]
  exact ⟨⟨a, cap, [], rfl, ⟨.inl ⟨rfl, rfl, a, cap, rfl⟩, fun x hx => by simp at hx⟩⟩, hb⟩

theorem lns_yes {s : ByteArray} {w w' : World} {v : Value} {L : List Ln} (h : lnsL s = L ∧ lnsC s = 0 ∧ lnsP s = 0) (hr : RowB 55 3 w w' v L.length (cellsLine L)) :
    LnsV s w (.returned (.tuple #[v, .agg #[.int .i64 0, .int .i64 0, .string ⟨#[]⟩]])) w' := by
  obtain ⟨rfl, h2, h3⟩ := h
  obtain ⟨a, cap, fp, rfl, h4, h5, -⟩ := hr.sl (cellLine _)
  unfold LnsV
  rw [h2, h3]
  exact ⟨⟨a, cap, fp, rfl, GFlat.new h4 h5⟩, hr.bel⟩

theorem row_apart {w w' : World} {L : List Nat} {base e size : Nat} {v : Value} {n : Nat} {xs : List Value} (h : w.ownsRow base e size v n xs) (ha : Apart L w w') (hL : ∀ x, x ∈ L → x < base) : w'.ownsRow base e size v n xs := by
  obtain ⟨h1, h2⟩ := h
  refine ⟨h1, ?_⟩
  rcases h2 with h2 | ⟨b, cap, cur, hv, hb, hh, r⟩
  · exact .inl h2
  · have : b < w.heap.size := (Array.getElem?_eq_some_iff.1 hh).1
    exact .inr ⟨b, cap, cur, hv, hb, by rw [ha.block b this (fun hx => by have := hL b hx; omega)]; exact hh, r⟩

/-- A row stands, while a cell of the call's own that is older than it turns. -/
theorem RowB.past {e c b : Nat} {w W0 wr wx : World} {v : Value} {n : Nat} {xs : List Value} (h : RowB e c W0 wr v n xs) (hb : Below w.heap.size w W0) (h1 : w.heap.size ≤ b) (h2 : b < W0.heap.size) (ha : Apart [b] wr wx) : RowB e c w wx v n xs :=
  ⟨row_mono (row_apart h.own ha (fun x hx => by simp at hx; omega)) hb.size, (bnext hb h.bel).trans (ha.below (bnext hb h.bel).size (fun x hx => by simp at hx; omega))⟩

theorem past_bel {b : Nat} {w wr wx : World} (hb : Below w.heap.size w wr) (h1 : w.heap.size ≤ b) (ha : Apart [b] wr wx) : Below w.heap.size w wx :=
  hb.trans (ha.below hb.size (fun x hx => by simp at hx; omega))

theorem rowSof {e c : Nat} {W0 w w2 : World} {v : Value} {n : Nat} {xs : List Value} (h : RowB e c W0 w v n xs) (hb : Below w.heap.size w w2) : RowS e c w.heap.size w2.heap.size W0 w2 v n xs :=
  ⟨h.keep hb, fun b hb' => .inl (h.own.lt b hb').2, Nat.le_refl _⟩

theorem strsOf {w w2 : World} {lv : Value} {L : List ByteArray} (h : RowB 9 1 w w2 lv L.length (L.map Value.string)) : ∃ a cap fp, lv = .slice a L.length cap ∧ GFlat w2 w.heap.size w2.heap.size (.slice a L.length cap) L.length 1 (strF L) fp := by
  obtain ⟨a, cap, fp, rfl, h1, h2, -⟩ := h.sl (strCell L)
  exact ⟨a, cap, fp, rfl, GFlat.new h1 h2⟩

theorem partAt {c : UInt8} {s : ByteArray} {k : Nat} (hk : k < (partsL c s).length) : (strAt (partsL c s) k).size ≤ s.size := by
  have := part_size (List.getElem_mem hk)
  rw [strAt, List.getD_eq_getElem?_getD, List.getElem?_eq_getElem hk]
  exact this

/-- The lines that are done, each shorter than what stands before it. -/
theorem lgAt_len {P : List ByteArray} {R : List Ln × Option Nat} {k : Nat} {acc : List Ln} (h : LgAt P R k acc) : R.1.length ≤ acc.length + P.length := by
  have := lgo_len (P.drop k) k acc
  rw [LgAt] at h
  rw [h] at this
  have h2 : (P.drop k).length ≤ P.length := by simp
  omega

theorem empty_is {B : ByteArray} (h : B.toList.isEmpty = true) : B = ⟨#[]⟩ := by
  apply ByteArray.ext
  apply Array.ext'
  rw [List.isEmpty_iff, ByteArray.toList_eq] at h
  exact h

theorem trimR_le (l : List UInt8) (c : UInt8) : (Lib.trimRightB l c).length ≤ l.length := by
  unfold Lib.trimRightB
  first
    | (rw [List.length_reverse]; refine Nat.le_trans (List.dropWhile_sublist _).length_le ?_; rw [List.length_reverse]; exact Nat.le_refl _)
    | (exact (List.rdropWhile_sublist _ _).length_le)
    | (simp)

theorem bareB_le (s : ByteArray) : (bareB s).size ≤ s.size := by
  have h1 := trimR_le (s.extract 0 (bareE s)).data.toList 32
  have h2 : (s.extract 0 (bareE s)).data.toList.length = (s.extract 0 (bareE s)).size := by simp
  rw [h2, ByteArray.size_extract] at h1
  unfold bareB
  show (List.toArray _).size ≤ _
  rw [List.size_toArray]; omega

theorem ln_cells (acc : List Ln) (p B : ByteArray) (hB : bareB p = B) (k : Nat) : cellsLine (acc ++ [lnOf p k]) = cellsLine acc ++ [.int .i64 (ind B.data.toList), .string (B.extract (ind B.data.toList) B.size), .int .i64 ((k : Int) + 1)] := by
  subst hB
  rw [cellsLine_snoc]; rfl

end Go.Proofs.YtkifacpanipfhaaDoor
namespace Go.Proofs.YtkifacpanipfhaaDoor
open Go.RowKit

end Go.Proofs.YtkifacpanipfhaaDoor
namespace Go.Proofs.YtkifacpanipfhaaDoor
open Go.RowKit

def low (n : Nat) : Bool := decide (n < 32)

theorem dec_far (s : ByteArray) (k : Nat) (h : 128 ≤ bt s k) : 128 ≤ (Utf8.decode s k).1 ∧ ∀ i, i < (Utf8.decode s k).2 → 128 ≤ bt s (k + i) := by
  have one : ∀ i, i < 1 → 128 ≤ bt s (k + i) := fun i hi => by (obtain rfl : i = 0 := (by omega)); exact h
  rw [decode_eq, if_neg (by omega)]
  split
  · rename_i h0
    simp only [Bool.and_eq_true, beq_iff_eq, decide_eq_true_eq] at h0
    split
    · refine ⟨by show 128 ≤ _; omega, fun i hi => ?_⟩
      have hi : i < 2 := hi
      rcases (show i = 0 ∨ i = 1 by omega) with rfl | rfl
      · exact h
      · omega
    · exact ⟨by show 128 ≤ 65533; omega, one⟩
  split
  · rename_i h0
    simp only [Bool.and_eq_true, beq_iff_eq, decide_eq_true_eq] at h0
    split
    · rename_i h1
      simp only [Bool.and_eq_true, decide_eq_true_eq] at h1
      refine ⟨by show 128 ≤ _; omega, fun i hi => ?_⟩
      have hi : i < 3 := hi
      rcases (show i = 0 ∨ i = 1 ∨ i = 2 by omega) with rfl | rfl | rfl
      · exact h
      · omega
      · omega
    · exact ⟨by show 128 ≤ 65533; omega, one⟩
  split
  · rename_i h0
    simp only [Bool.and_eq_true, beq_iff_eq, decide_eq_true_eq] at h0
    split
    · rename_i h1
      simp only [Bool.and_eq_true, decide_eq_true_eq] at h1
      refine ⟨by show 128 ≤ _; omega, fun i hi => ?_⟩
      have hi : i < 4 := hi
      rcases (show i = 0 ∨ i = 1 ∨ i = 2 ∨ i = 3 by omega) with rfl | rfl | rfl | rfl
      · exact h
      · omega
      · omega
      · omega
    · exact ⟨by show 128 ≤ 65533; omega, one⟩
  · exact ⟨by show 128 ≤ 65533; omega, one⟩

theorem dec_near (s : ByteArray) (k : Nat) (h : bt s k < 128) : Utf8.decode s k = (bt s k, 1) := by rw [decode_eq, if_pos h]

theorem idx_low (p : ByteArray) : ∀ f pos, p.size ≤ pos + f → (0 ≤ Lib.idxFuncFrom low true p f pos ↔ ∃ k, pos ≤ k ∧ k < p.size ∧ bt p k < 32)
  | 0, pos, hf => by
    unfold Lib.idxFuncFrom
    constructor
    · intro h; omega
    · rintro ⟨k, h1, h2, h3⟩; omega
  | f + 1, pos, hf => by
    unfold Lib.idxFuncFrom
    by_cases hp : pos < p.size
    rotate_left
    · rw [if_neg hp]
      constructor
      · intro h; omega
      · rintro ⟨k, h1, h2, h3⟩; omega
    rw [if_pos hp]
    by_cases hb : bt p pos < 128
    · rw [dec_near p pos hb]
      by_cases h32 : bt p pos < 32
      · rw [if_pos (by simpa [low] using h32)]
        exact ⟨fun _ => ⟨pos, Nat.le_refl _, hp, h32⟩, fun _ => by omega⟩
      · rw [if_neg (by simpa [low] using h32), idx_low p f (pos + 1) (by omega)]
        constructor
        · rintro ⟨k, h1, h2, h3⟩; exact ⟨k, by omega, h2, h3⟩
        · rintro ⟨k, h1, h2, h3⟩
          refine ⟨k, ?_, h2, h3⟩
          rcases Nat.lt_or_ge pos k with g | g
          · exact g
          · obtain rfl : k = pos := by omega
            exact absurd h3 h32
    · have hd := dec_far p pos (by omega)
      have hw := Lib.decode_width_pos p pos hp
      rw [if_neg (by simp [low]; omega), idx_low p f (pos + (Utf8.decode p pos).2) (by omega)]
      constructor
      · rintro ⟨k, h1, h2, h3⟩; exact ⟨k, by omega, h2, h3⟩
      · rintro ⟨k, h1, h2, h3⟩
        refine ⟨k, ?_, h2, h3⟩
        rcases Nat.lt_or_ge k (pos + (Utf8.decode p pos).2) with g | g
        · have := hd.2 (k - pos) (by omega)
          rw [show pos + (k - pos) = k by omega] at this
          omega
        · exact g

theorem idx_ctl (p : ByteArray) : decide ((0 : Int) ≤ Lib.idxFunc low true p) = ctlB p := by
  have h := idx_low p p.size 0 (by omega)
  unfold Lib.idxFunc
  cases hc : ctlB p
  · refine decide_eq_false fun hh => ?_
    obtain ⟨k, -, h2, h3⟩ := h.1 hh
    rw [bt_eq p k h2] at h3
    rw [ctl_at h2 h3] at hc; cases hc
  · refine decide_eq_true (h.2 ?_)
    rcases Classical.em (∃ k, 0 ≤ k ∧ k < p.size ∧ bt p k < 32) with g | g
    · exact g
    · exact absurd hc (by rw [ctl_no (fun k hk hh => g ⟨k, Nat.zero_le _, hk, by rw [bt_eq p k hk]; exact hh⟩)]; decide)

def MaxOk (w : World) : Prop := ∃ m, w.cell? ⟨2, 0, none⟩ = some (.int .i64 m)

theorem MaxOk.keep {w w' : World} (h : MaxOk w) (hb : Below w.heap.size w w') : MaxOk w' := by
  obtain ⟨m, hm⟩ := h
  exact ⟨m, bkeep hb hm⟩

theorem iSplit (s : ByteArray) (c : UInt8) (w : World) (hs : s.size ≤ 1048576) (hM : MaxOk w) : Calls Tryd.prog 66 #[.string s, .string ⟨#[c]⟩] w (CutRow c s w) := by
  obtain ⟨m, hm⟩ := hM
  refine (Tryd.strings_Split s ⟨#[c]⟩ m w (by omega) hm (by show 1 ≤ 1; omega)).mono ?_
  rintro e w' ⟨rfl, rfl⟩
  have hl : Lib.countB s ⟨#[c]⟩ + 1 = (partsL c s).length := by
    rw [← Lib.splitB_all ⟨#[c]⟩ (by show 1 ≤ 1; omega) 0 _ s rfl, split_parts]
  rw [hl, split_parts]
  refine ⟨_, rfl, ?_, allocBel _ _⟩
  have hp := parts_len c s
  have := World.ownsRow_lit (base := w.heap.size) (e := 9) (size := 1) w ((partsL c s).map Value.string).toArray (partsL c s).length (Nat.le_refl _) (by unfold maxLen; omega) (by simp)
  simpa using this

theorem iLow (x : Nat) (w : World) : Calls Tryd.prog 68 #[.int .i32 (x : Int)] w fun e w' => e = .returned (.bool (low x)) ∧ ∃ q, w' = w.drewN q := by
  rcases Nat.lt_or_ge x 32 with h | h
  · have hd : decide ((x : Int) < 32) = true := decide_eq_true (by omega)
    have H := Lib.hid (show low x = true from decide_eq_true h)
    clear h
    go_enter Tryd.func68, Tryd.ntmps68
    go_wp2
    go_ret
    exact ⟨ret_bool H.out.symm, 0, rfl⟩
  · have hd : decide ((x : Int) < 32) = false := decide_eq_false (by omega)
    have H := Lib.hid (show low x = false from decide_eq_false (by omega))
    clear h
    go_enter Tryd.func68, Tryd.ntmps68
    go_wp2
    go_ret
    exact ⟨ret_bool H.out.symm, 0, rfl⟩

theorem iIndexLow (p : ByteArray) (w : World) : Calls Tryd.prog 67 #[.string p, .func (.func 68) #[] #[]] w fun e w' => e = .returned (.int .i64 (Lib.idxFunc low true p)) ∧ Below w.heap.size w w' :=
  Tryd.strings_IndexFunc_runes 68 #[] (enters_of Tryd.func68 (by kernel_rfl) rfl) low p w (fun W x _ _ => iLow x W)

set_option maxRecDepth 100000 in
set_option maxHeartbeats 4000000 in
theorem iLinesIn (s : ByteArray) (w : World) (hs : s.size ≤ 1048576) (hT : Tabs w) (hM : MaxOk w) : Calls Tryd.prog 33 #[.string s] w (LnsV s w) := by
  have HZ := Lib.hid (ZF.new w)
  have HTM := Lib.hid (And.intro hT hM); clear hT hM
  have HC := Lib.hid (fun w0 (hb : Below w.heap.size w w0) => iFault s w0 hs (tabs_keep HTM.out.1 hb))
  rcases ft_code (s := s) with ⟨h0, hft⟩ | ⟨h1, h2, x, hft⟩
  rotate_left
  · obtain ⟨c, p⟩ := x
    have H := Lib.hid (lns_fault hft)
    rw [hft] at HC h1 h2
    have h1 : (0 : Int) < c := h1
    have hc : (c == 0) = false := by rw [beq_eq_false_iff_ne]; omega
    have hc2 : (c != 0) = true := by rw [bne, hc]; rfl
    have HC2 : Hid (∀ w0, Below w.heap.size w w0 → Calls Tryd.prog 65 #[.string s] w0 fun e w' => e = .returned (.agg #[.int .i64 c, .int .i64 p, .string ⟨#[]⟩]) ∧ Below w0.heap.size w0 w') := Lib.hid (fun w0 hb => HC.out w0 hb)
    clear HC h1 h2 hft
    go_enter Tryd.func33, Tryd.ntmps33
    go_wp2_with fail
    refine (HC2.out _ HZ.out.2).mono ?_; rintro e w1 ⟨rfl, hb1⟩
    have HZ1 := Lib.hid (HZ.out.keep hb1)
    have HZ2 := Lib.hid (HZ1.out.keep (allocBel w1 (.cells #[.int .i64 c, .int .i64 p, .string ⟨#[]⟩] 51)))
    obtain ⟨r0, r1, r2⟩ := HZ2.out.cells
    obtain ⟨g0, g1, g2⟩ := HZ2.out.frozen
    go_wp2_with fail
    go_region
    all_goals
      go_wp2
      refine bodyPost_ret (v := .tuple #[.slice none 0 0, .agg #[.int .i64 c, .int .i64 p, .string ⟨#[]⟩]]) (by first | (simp [results, Tryd.results33, go_sem]; done) | simp [results, Tryd.results33, go_sem, r0, r1, r2]) rfl ?_
      exact lns_no _ _ H.out (by repeat (first | exact (by first | exact HZ2.out.2 | exact Below.refl _ _) | (refine Below.alloc ?_ (by first | omega | (simp; done) | (simp; omega)) _) | (refine Below.setCell ?_ (by first | omega | (simp; done) | (simp; omega)) _) | (refine Below.drew ?_) | (refine below_drewN ?_ _)))
  · have hpl := parts_len 10 s
    have HFB := Lib.hid (fun k h => lns_bad (k := k) hft h)
    have HFG := Lib.hid (fun L h => lns_good (L := L) hft h)
    have HLS := Lib.hid (lgAt_start s)
    have HPZ := Lib.hid (fun k h => partAt (c := 10) (s := s) (k := k) h)
    have HCUT := Lib.hid (fun w0 (hb : Below w.heap.size w w0) => iSplit s 10 w0 hs (HTM.out.2.keep hb))
    unfold CutRow at HCUT
    rw [hft] at HC
    have HC2 : Hid (∀ w0, Below w.heap.size w w0 → Calls Tryd.prog 65 #[.string s] w0 fun e w' => e = .returned (.agg #[.int .i64 0, .int .i64 0, .string ⟨#[]⟩]) ∧ Below w0.heap.size w0 w') := Lib.hid (fun w0 hb => HC.out w0 hb)
    generalize linesR s = R at HLS HFB HFG
    generalize partsL 10 s = P at HCUT HPZ HLS hpl
    clear HC h0 hft HTM
    go_enter Tryd.func33, Tryd.ntmps33
    go_wp2_with fail
    refine (HC2.out _ HZ.out.2).mono ?_; rintro e w1 ⟨rfl, hb1⟩
    have HZ0 := Lib.hid (HZ.out.keep hb1)
    obtain ⟨wf, hwf⟩ : ∃ wf, wf = w1.alloc (.cells #[.int .i64 0, .int .i64 0, .string ⟨#[]⟩] 51) := ⟨_, rfl⟩
    have HSZ := Lib.hid (show w1.heap.size + 1 = wf.heap.size by rw [hwf]; exact (World.size_alloc ..).symm)
    have HZ1 := Lib.hid (show ZF w wf by rw [hwf]; exact HZ0.out.keep (allocBel _ _))
    have HR0 := Lib.hid (RowB.start 55 3 wf #[] rfl)
    have HBW := Lib.hid (bnext HZ1.out.2 (allocBel wf (.cells #[] 55)))
    clear hb1 HZ HZ0
    subst hwf
    go_wp2_with fail
    refine (HCUT.out _ HBW.out).mono ?_; rintro e w3 ⟨v3, rfl, hr3⟩
    generalize w1.alloc (.cells #[.int .i64 0, .int .i64 0, .string ⟨#[]⟩] 51) = wf at HZ1 HR0 hr3 HBW HSZ ⊢
    obtain ⟨a, cap, fp, rfl, hG⟩ := strsOf hr3
    have HRS := Lib.hid (rowSof HR0.out hr3.bel)
    have HG := Lib.hid hG
    have hlw := HZ1.out.lt
    clear hr3 hG HR0 HBW
    go_wp2_with fail
    go_loopw [5, 20] (fun v i wr => ∃ (k : Nat) (acc : List Ln), k ≤ P.length ∧ acc.length ≤ k ∧ i = .int .i64 k ∧ Hid (RowS 55 3 (wf.alloc (.cells #[] 55)).heap.size w3.heap.size wf wr v acc.length (cellsLine acc)) ∧ Hid (GFlat wr (wf.alloc (.cells #[] 55)).heap.size w3.heap.size (.slice a P.length cap) P.length 1 (strF P) fp) ∧ Hid (LgAt P R k acc)) (fun _ i _ => P.length - (intOf i).toNat)
    case atStart => exact ⟨0, [], by omega, by simp, rfl, by rw [HSZ.out]; exact HRS, HG, HLS⟩
    case round =>
      obtain ⟨k, acc, hk, hak, rfl, HRS, HG, HLG⟩ := hrel
      by_cases hlt : k < P.length
      rotate_left
      · have H := Lib.hid (HFG.out acc (lgAt_end HLG.out (by omega)))
        have HZ := Lib.hid (HZ1.out.keep HRS.out.row.bel)
        obtain ⟨r0, r1, r2⟩ := HZ.out.cells
        obtain ⟨g0, g1, g2⟩ := HZ.out.frozen
        go_wp2
        refine bodyPost_ret (v := .tuple #[u5, .agg #[.int .i64 0, .int .i64 0, .string ⟨#[]⟩]]) (by first | (simp [results, Tryd.results33, go_sem]; done) | simp [results, Tryd.results33, go_sem, r0, r1, r2]) rfl ?_
        exact lns_yes H.out (RowB.past (b := w.heap.size) HRS.out.row HZ1.out.2 (Nat.le_refl _) hlw (by repeat (first | exact Apart.refl _ _ | refine Apart.setCell ?_ (by simp) _)))
      obtain ⟨b, off, rfl, hcell⟩ := HG.out.own.sl.at (by omega)
      have c0 : wr.cell? ⟨b, off + k, none⟩ = some (.string (strAt P k)) := by simpa [strF] using hcell k hlt 0 (by omega)
      have hps := HPZ.out k hlt
      have HBA := Lib.hid (fun hc => HFB.out (k + 1) (lgAt_bad HLG.out hlt hc))
      have HEM := Lib.hid (fun hc he => lgAt_empty HLG.out hlt hc he)
      have HSP := Lib.hid (fun hc he => lgAt_step HLG.out hlt hc he)
      have HBR := Lib.hid (fun w0 => iBareLine (strAt P k) w0 (by omega))
      have HIX := Lib.hid (fun w0 => iIndexLow (strAt P k) w0)
      have hdx := idx_ctl (strAt P k)
      have hBz : (bareB (strAt P k)).size ≤ (strAt P k).size := bareB_le _
      have HLC := Lib.hid (fun B hB => ln_cells acc (strAt P k) B hB k)
      clear hcell HLG
      generalize strAt P k = p at c0 hps HBA HEM HSP HBR hBz HLC HIX hdx
      generalize Lib.idxFunc low true p = ix at HIX hdx
      cases hct : ctlB p
      rotate_left
      · rw [hct] at hdx
        have H := Lib.hid (HBA.out hct)
        clear hct
        go_wp2_with fail
        refine (HIX.out _).mono ?_; rintro e w4 ⟨rfl, hb4⟩
        have HZ := Lib.hid ((HZ1.out.keep HRS.out.row.bel).keep hb4)
        obtain ⟨r0, r1, r2⟩ := HZ.out.cells
        obtain ⟨g0, g1, g2⟩ := HZ.out.frozen
        go_wp2
        refine bodyPost_ret (v := .tuple #[.slice none 0 0, .agg #[.int .i64 3, .int .i64 ((k : Int) + 1), .string ⟨#[]⟩]]) (by first | (simp [results, Tryd.results33, go_sem]; done) | simp [results, Tryd.results33, go_sem, r0, r1, r2]) rfl ?_
        exact lns_no _ _ H.out (by repeat (first | exact (by first | exact HZ.out.2 | exact Below.refl _ _) | (refine Below.alloc ?_ (by first | omega | (simp; done) | (simp; omega)) _) | (refine Below.setCell ?_ (by first | omega | (simp; done) | (simp; omega)) _) | (refine Below.drew ?_) | (refine below_drewN ?_ _)))
      rw [hct] at hdx
      have HEM := Lib.hid (HEM.out hct); have HSP := Lib.hid (HSP.out hct)
      clear HBA hct
      obtain ⟨B, hB⟩ : ∃ B, bareB p = B := ⟨_, rfl⟩
      have HLC := Lib.hid (HLC.out B hB)
      rw [hB] at HBR HEM HSP hBz
      clear hB
      go_wp2_with fail
      refine (HIX.out _).mono ?_; rintro e w4 ⟨rfl, hb4⟩
      have HRS := Lib.hid (HRS.out.keep hb4); have HG := Lib.hid (HG.out.keep hb4)
      clear c0 hb4
      cases he : B.toList.isEmpty
      · have hSP := HSP.out he
        have hil : ind B.data.toList ≤ B.size := by have := ind_le B.data.toList; simpa using this
        have HIN := Lib.hid (fun w0 => iIndentOf B w0 (by omega))
        generalize ind B.data.toList = n at HIN HLC hil
        go_wp2_with (first | (go_at_call 35; refine (HBR.out _).mono ?_; rintro e w5 ⟨rfl, rfl⟩) | (go_at_call 34; refine (HIN.out _).mono ?_; rintro e w6 ⟨rfl, rfl⟩) | (at_builtin; refine wpList_rowS Tryd.elLine (by rfl) _ _ (by rfl) _ _ _ [.int .i64 n, .string (B.extract n B.size), .int .i64 ((k : Int) + 1)] wf _ (by rfl) HRS.out _ 1 1 (by rfl) rfl (by simp [Value.oneCell']) (by rfl) (by omega) ?_; intro v' w' hrow' hg'; have HG' := Lib.hid (GFlat.grown (HRS.out.alloc _) hg' (HG.out.keep (allocBel _ _)))))
        go_roundw
        case rel => exact ⟨k + 1, acc ++ [lnOf p k], by omega, by simp; omega, by go_num, Lib.hid (by rw [HLC.out, List.length_append]; exact hrow'), HG', Lib.hid hSP⟩
        case measure => simp [intOf]; omega
      · obtain rfl := empty_is he
        have hEM := HEM.out he
        go_wp2_with (go_at_call 35; refine (HBR.out _).mono ?_; rintro e w5 ⟨rfl, rfl⟩)
        go_roundw
        case rel => exact ⟨k + 1, acc, by omega, by omega, by go_num, HRS, HG, Lib.hid hEM⟩
        case measure => simp [intOf]; omega

end Go.Proofs.YtkifacpanipfhaaDoor
namespace Go.Proofs.YtkifacpanipfhaaDoor
open Go.RowKit Go.ChangeShapes Go.WideShapes

theorem Tryd.cellsU8 : Tryd.prog.cellsOf 5 = 1 := by kernel_rfl
set_option maxRecDepth 100000 in
theorem openCode {H : Type} {enc : TypeId × Value → H} {W : World} {base : Nat} {v : Value} {d : DataW H} {p : List MemPlace} (hval : Value.okWide Tryd.prog W .any base 22 v)
    (h : DataW.Trod enc Tryd.prog W 0 (fun _ => true) true 22 v d p) :
    ∃ (a : Option Addr) (n cap : Nat), v = .slice a n cap ∧ n ≤ maxLen ∧ CodeAt W W.heap.size a n := by
  obtain ⟨a, len, cap, rfl⟩ := okWide_slice Tryd.underlying22 hval
  obtain ⟨fuel, hf⟩ := h
  rcases open_ints Tryd.underlying22 Tryd.underlying5 Tryd.cellsU8 hf with ⟨hcs, _⟩ | ⟨x, l, c, zs, hcs, _, hl, hm, hz, _, hx, hw⟩
  · simp [Value.cells] at hcs
    obtain ⟨rfl, rfl, rfl⟩ := hcs
    exact ⟨none, 0, 0, rfl, Nat.zero_le _, fun _ => 0, fun _ => ⟨Int.le_refl _, (by decide : (0 : Int) ≤ 255)⟩, .inl rfl⟩
  · simp [Value.cells] at hcs
    obtain ⟨rfl, rfl, rfl⟩ := hcs
    have hzl : len ≤ zs.length := by rw [hz]; split <;> omega
    refine ⟨some x, len, cap, rfl, Nat.le_trans hl hm, fun i => zs[i]?.getD 0, fun i => range_u8 hw i, ?_⟩
    rcases Nat.eq_zero_or_pos len with h0 | h0
    · exact .inl h0
    · obtain ⟨b, o, spot⟩ := x
      have hs : spot = none := by simpa [Addr.add] using World.cell?_spot (hx 0 (by omega))
      subst hs
      refine .inr ⟨b, o, rfl, ?_, fun i hi => ?_⟩
      · have := hx 0 (by omega)
        rw [addr_add] at this
        exact lt_of_cell this
      · have := hx i (by omega)
        rw [addr_add, List.getD_eq_getElem?_getD] at this
        exact this
theorem CodeAt.keep {w w' : World} {a : Option Addr} {n : Nat} (h : CodeAt w w.heap.size a n) (hb : Below w.heap.size w w') : CodeAt w' w'.heap.size a n :=
  (h.same fun k hk _ => hb.block k hk).mono hb.size

theorem big_any (a : Option Addr) (n cap : Nat) (w : World) : Calls Tryd.prog 7 #[.slice a n cap] w fun e w' => e = .returned (.bool (decide (1048576 < (n : Int)))) ∧ w = w' := by
  go_enter Tryd.func7, Tryd.ntmps7
  go_wp2
  go_ret
  exact ⟨rfl, rfl⟩

def IntQ (w : World) (e : Ending) (w' : World) : Prop := ∃ x : Int, e = .returned (.int .i64 x) ∧ Below w.heap.size w w'
def ListQ (m : Nat) (w : World) (e : Ending) (w' : World) : Prop := ∃ (l : List Int) (a : Option Addr) (cap : Nat), e = .returned (.slice a l.length cap) ∧ l.length ≤ m ∧ SlAt w' a l.length 1 (intF l) ∧ Below w.heap.size w w'
def StrQ (Q : ByteArray → Prop) (w : World) (e : Ending) (w' : World) : Prop := ∃ s : ByteArray, Q s ∧ e = .returned (.string s) ∧ Below w.heap.size w w'

end Go.Proofs.YtkifacpanipfhaaDoor
namespace Go.Proofs.YtkifacpanipfhaaDoor
open Go.RowKit

/-- A drawn tree of depth at most 4, all of it new. -/
def TrQ (w : World) (e : Ending) (w' : World) : Prop :=
  ∃ t vk vs fp, Drn 3 t ∧ e = .returned (.agg #[.int .i64 t.kind, .bool t.flag, .int .i64 t.num, .string t.text, vk, vs]) ∧ TreeOwn w' t vk vs fp ∧ fp.Nodup ∧ (∀ b, b ∈ fp → w.heap.size ≤ b) ∧ Below w.heap.size w w'
set_option maxRecDepth 100000 in
set_option maxHeartbeats 1000000 in
theorem drawTree (a : Option Addr) (n cap : Nat) (w : World) (hn : n ≤ 1048576) (hc : CodeAt w w.heap.size a n) : Calls Tryd.prog 8 #[.slice a n cap] w (TrQ w) := by
  have hz := ZeroAt.new w
  have hal := alloc_below w #[.int .i64 0, .bool false, .int .i64 0, .string ⟨#[]⟩, .slice none 0 0, .slice none 0 0] 27
  have HZ := Lib.hid (And.intro hz hal)
  have HC := Lib.hid (hc.keep hal)
  have HT := Lib.hid (show ∀ (g : Nat) (w : World), Cur w g → Calls Tryd.prog 36 #[.pointer (some ⟨g, 0, none⟩), .int .i64 4] w (TrP g 3 w) from fun g w hC => by
    have := tree_any 3 (by omega) g w hC
    simpa using this)
  clear hz hal hc
  go_enter Tryd.func8, Tryd.ntmps8
  go_wp2_with fail
  refine (l01New_any a n cap _ hn HC.out).mono ?_
  rintro e w1 ⟨g, rfl, hg, hc1, hb1⟩
  have H1 := Lib.hid (And.intro hg (And.intro hc1 (And.intro (bnext HZ.out.2 hb1) (HZ.out.1.keep hb1))))
  clear hg hc1 hb1 HC
  go_wp2_with fail
  refine (HT.out g _ H1.out.2.1).mono ?_
  rintro e w2 ⟨t, vk, vs, fp, hdr, rfl, hto, hnd, hge, hc2, ha2⟩
  obtain ⟨fk9, fs9, hfe9, hso9, hko9⟩ := treeOwn_iff.1 hto
  obtain ⟨a1, m1, rfl⟩ := str_shape hso9
  obtain ⟨a2, m2, rfl⟩ := kids_shape hko9
  clear hfe9 hso9 hko9
  have hgw : w.heap.size + 1 ≤ g := by have := H1.out.1; simpa using this
  have hs1 := H1.out.2.2.1.size
  have hz2 : ZeroAt w2 w.heap.size := ha2.row H1.out.2.2.2 (by simp; omega)
  obtain ⟨r0, r1, r2, r3, r4, r5⟩ := hz2.cells
  obtain ⟨g0, g1, g2, g3, g4, g5⟩ := hz2.frozen
  have H2 := Lib.hid (And.intro hdr (And.intro hto (And.intro hnd (And.intro hge (H1.out.2.2.1.trans (ha2.below hs1 (fun x hx => by simp at hx; omega)))))))
  have HLZ := Lib.hid H1.out.2.2.2.lt
  clear hdr hto hnd hge hc2 ha2 hz2
  go_wp2
  refine bodyPost_ret (v := .agg #[.int .i64 t.kind, .bool t.flag, .int .i64 t.num, .string t.text, .slice a1 t.keys.length m1, .slice a2 t.kids.length m2]) (by simp [results, Tryd.results8, go_sem, r0, r1, r2, r3, r4, r5]) rfl ?_
  obtain ⟨hdr, hto, hnd, hge, hb⟩ := H2.out
  have hlz := HLZ.out
  exact ⟨t, _, _, fp, hdr, rfl, TreeOwn.same _ _ _ _ hto fun x hx _ => put6w_heap _ _ _ _ _ _ _ _ _ (by have := hge x hx; omega), hnd, fun b hb' => by have := hge b hb'; omega, put6w_below hb _ (Nat.le_refl _) _ _ _ _ _ _⟩

end Go.Proofs.YtkifacpanipfhaaDoor
namespace Go.Proofs.YtkifacpanipfhaaDoor
open Go.RowKit

theorem cell_new0 (w : World) (x y z : Value) (e : TypeId) : (w.alloc (.cells #[x, y, z] e)).cell? ⟨w.heap.size, 0, none⟩ = some x :=
  (World.rowIs_alloc w #[x, y, z] e (fun j => if j = 0 then x else if j = 1 then y else z) (fun i hi => by
    rcases (show i = 0 ∨ i = 1 ∨ i = 2 by simp at hi; omega) with rfl | rfl | rfl <;> rfl)).cell (i := 0) (by simp)
theorem lnsA_get {L : List ByteArray} {k : Nat} (h : k < L.length) : atLine (lnsA L 0) k = lnA (strAt L k) (k + 1) := by
  rw [atLine, List.getD_eq_getElem?_getD, lnsA_at L 0 k h, Nat.zero_add]; rfl
theorem lnsB_get {L : List ByteArray} {k : Nat} (h : k < L.length) : atLine (lnsB L 1) k = lnA (strAt L k) (2 + 2 * k) := by
  rw [atLine, List.getD_eq_getElem?_getD, lnsB_at L 1 k h, show 1 + 2 * k + 1 = 2 + 2 * k by omega]; rfl

set_option maxRecDepth 100000 in
set_option maxHeartbeats 8000000 in
theorem lawLines {H : Type} {enc : TypeId × Value → H} {W : World} {base : Nat} {v : Value} {d : DataW H} {p : List MemPlace} (hval : Value.okWide Tryd.prog W .any base 22 v)
    (h : DataW.Trod enc Tryd.prog W 0 (fun _ => true) true 22 v d p) (ha : Lib.VarReads Tryd.prog W "unicode/utf8.acceptRanges" Rows.laid_unicode_utf8_acceptRanges) (hf : Lib.VarReads Tryd.prog W "unicode/utf8.first" Rows.laid_unicode_utf8_first) (hsh : W.ShapedOpen Tryd.prog) :
    Calls Tryd.prog 6 #[v] W fun e w' => e = .returned (.bool true) ∧ Below W.heap.size W w' := by
  obtain ⟨a, n, cap, rfl, hnm, hcode⟩ := openCode hval h
  have hT := tabs_of ha hf
  have hM : MaxOk W := Tryd.laysM146.s1_3 W hsh
  clear hval h ha hf hnm hsh
  by_cases hn : n ≤ 1048576
  rotate_left
  · have hd : decide ((1048576 : Int) < (n : Int)) = true := decide_eq_true (by omega)
    clear hn hT hM hcode
    go_enter Tryd.func6, Tryd.ntmps6
    go_wp2_with (go_at_call 7; refine (big_any _ _ _ _).mono ?_; rintro e w' ⟨rfl, rfl⟩)
    go_ret
    exact ⟨rfl, Below.refl _ _⟩
  have hd : decide ((1048576 : Int) < (n : Int)) = false := decide_eq_false (by omega)
  have HN := Lib.hid hn; have HTM := Lib.hid (And.intro hT hM); have HC := Lib.hid hcode
  clear hn hT hM hcode
  go_enter Tryd.func6, Tryd.ntmps6
  go_wp2_with (go_at_call 7; refine (big_any _ _ _ _).mono ?_; rintro e w' ⟨rfl, rfl⟩)
  clear hd
  refine (drawTree a n cap _ HN.out HC.out).mono ?_
  rintro e w1 ⟨t, vk, vs, fp, hdr, rfl, hto, hnd, hge, hb1⟩
  obtain ⟨fk9, fs9, hfe9, hso9, hko9⟩ := treeOwn_iff.1 hto
  obtain ⟨a1, m1, rfl⟩ := str_shape hso9
  obtain ⟨a2, m2, rfl⟩ := kids_shape hko9
  clear hfe9 hso9 hko9
  have hti := hto.toIn (S := Any) _ _ _ _ (fun _ _ => trivial)
  have HD := Lib.hid hdr
  have HB1 := Lib.hid hb1
  have hs3 := Spill.new w1 t (.slice a1 t.keys.length m1) (.slice a2 t.kids.length m2) 27
  have hal3 := alloc_below w1 #[.int .i64 t.kind, .bool t.flag, .int .i64 t.num, .string t.text, .slice a1 t.keys.length m1, .slice a2 t.kids.length m2] 27
  obtain ⟨p0, p1, p2, p3, p4, p5⟩ := hs3.cells
  have HI := Lib.hid (And.intro (hti.keep hal3) (bnext hb1 hal3))
  clear hto hnd hge hdr hb1 HC HN hti hs3 hal3
  go_wp2_with fail
  refine (sIndentedLines t Any _ _ _ (by have := (drn_ok HD.out).2; omega) HD.out.sm.nums HI.out.1).mono ?_
  rintro e w2 ⟨lv, rfl, hr⟩
  have hbel2 := hr.bel
  obtain ⟨aL0, cL0, fL0, rfl, hgL⟩ := strsOf hr
  clear hr
  have eL : idtL t = linesT t := if_pos (drn_ok HD.out).1
  have hLok : ∀ l ∈ linesT t, LOk l.data.toList := lines_ok t HD.out.sm.shape HD.out.sm.nums
  have hL3 := drn_lines3 HD.out
  rw [eL] at hgL ⊢
  clear eL p0 p1 p2 p3 p4 p5
  have HB2 := Lib.hid (bnext HI.out.2 hbel2)
  clear hbel2 HD HI
  generalize linesT t = L at hgL hLok hL3 ⊢
  have HSL := Lib.hid hgL.own.sl
  have HL := Lib.hid hLok
  have HL3 := Lib.hid hL3
  have hl84 : L.length ≤ 84 := hL3.1
  clear hgL hLok hL3
  go_wp2
  go_loop [5, 6, 7] (fun s5 s6 s7 => ∃ k : Nat, k ≤ L.length ∧ s5 = .string (textA L k) ∧ s6 = .string (textB L k) ∧ s7 = .int .i64 k) (fun _ _ s7 => L.length - (intOf s7).toNat)
  case atStart => exact ⟨0, by omega, rfl, rfl, rfl⟩
  case round =>
    obtain ⟨k, hk, rfl, rfl, rfl⟩ := hrel
    have hA1 := textA_size L k
    have hB1 := textB_size L k
    have hS := HL3.out.2.2
    by_cases hlt : k < L.length
    · obtain ⟨b, off, rfl, hcell⟩ := HSL.out.at (by omega)
      have c0 : w2.cell? ⟨b, off + k, none⟩ = some (.string (strAt L k)) := by
        have := hcell k hlt 0 (by omega); simpa [strF] using this
      have HA := Lib.hid (textA_next hlt)
      have HB := Lib.hid (textB_next hlt)
      have hC1 : (strAt L k).size ≤ 20000 := by
        have h1 := textA_size L (k + 1)
        rw [← HA.out, ByteArray.size_append, ByteArray.size_append] at h1; omega
      clear hcell
      go_wp2
      go_round
      case rel => exact ⟨k + 1, by omega, by rw [← HA.out], by rw [← HB.out], by go_num⟩
      case measure => simp [intOf]; omega
    obtain rfl : k = L.length := by omega
    have hsA : (textA L L.length).size ≤ 20000 := by omega
    have hsB : (textB L L.length).size ≤ 20000 := by omega
    have CA := Lib.hid (fun (w0 : World) (hb : Below W.heap.size W w0) => by
      have h0 := lines_a HL.out (textA_full L) hsA
      have h := iLinesIn (textA L L.length) w0 (by omega) (tabs_keep HTM.out.1 hb) (HTM.out.2.keep hb)
      unfold LnsV at h
      rw [h0.1, h0.2.1, h0.2.2, lnsA_len] at h
      exact h)
    have CB := Lib.hid (fun (w0 : World) (hb : Below W.heap.size W w0) => by
      have h0 := lines_b HL.out (textB_full L) hsB
      have h := iLinesIn (textB L L.length) w0 (by omega) (tabs_keep HTM.out.1 hb) (HTM.out.2.keep hb)
      unfold LnsV at h
      rw [h0.1, h0.2.1, h0.2.2, lnsB_len] at h
      exact h)
    clear hA1 hB1 hS hlt hk
    generalize textA L L.length = TA at CA hsA ⊢
    generalize textB L L.length = TB at CB hsB ⊢
    go_wp2_with fail
    refine (CA.out _ HB2.out).mono ?_
    rintro e w4 ⟨⟨a3, c3, f3, rfl, hg3⟩, hb4⟩
    have hal4 := alloc_below w4 #[.int .i64 0, .int .i64 0, .string ⟨#[]⟩] 51
    have HB4 := Lib.hid (bnext HB2.out (bnext hb4 hal4))
    have H4 := Lib.hid (And.intro (hg3.own.sl.keep hal4) (And.intro (HSL.out.keep (bnext hb4 hal4)) (cell_new0 w4 (.int .i64 0) (.int .i64 0) (.string ⟨#[]⟩) 51)))
    clear hg3 hb4 hal4
    go_wp2_with fail
    refine (CB.out _ HB4.out).mono ?_
    rintro e w6 ⟨⟨a5, c5, f5, rfl, hg5⟩, hb6⟩
    have hal6 := alloc_below w6 #[.int .i64 0, .int .i64 0, .string ⟨#[]⟩] 51
    have HB6 := Lib.hid (bnext HB4.out (bnext hb6 hal6))
    have q4 := bkeep (bnext hb6 hal6) H4.out.2.2
    have q6 := cell_new0 w6 (.int .i64 0) (.int .i64 0) (.string ⟨#[]⟩) 51
    have H6 := Lib.hid (And.intro (H4.out.1.keep (bnext hb6 hal6)) (And.intro (hg5.own.sl.keep hal6) (H4.out.2.1.keep (bnext hb6 hal6))))
    clear hg5 hb6 hal6
    have hpos : 0 < L.length := HL3.out.2.1
    have z0 : ((L.length : Int) != (L.length : Int)) = false := by simp
    have z1 : ((L.length : Int) == 0) = false := by rw [beq_eq_false_iff_ne]; omega
    have z2 : ((0 : Int) != 0) = false := by simp
    go_wp2
    clear q4 q6 z0 z1 z2
    go_loopw [12] (fun s12 wr => ∃ k : Nat, k ≤ L.length ∧ s12 = .int .i64 k ∧ Hid (Below (w6.alloc (.cells #[.int .i64 0, .int .i64 0, .string ⟨#[]⟩] 51)).heap.size (w6.alloc (.cells #[.int .i64 0, .int .i64 0, .string ⟨#[]⟩] 51)) wr)) (fun s12 _ => L.length - (intOf s12).toNat)
    case atStart => exact ⟨0, by omega, rfl, Lib.hid (Below.refl _ _)⟩
    case round =>
      obtain ⟨k, hk, rfl, HBW⟩ := hrel
      by_cases hlt : k < L.length
      · obtain ⟨bx, ox, rfl, hx⟩ := (H6.out.1.keep HBW.out).at (by omega)
        obtain ⟨by', oy, rfl, hy⟩ := (H6.out.2.1.keep HBW.out).at (by omega)
        obtain ⟨bs, os, rfl, hs⟩ := (H6.out.2.2.keep HBW.out).at (by omega)
        have eA := lnsA_get hlt
        have eB := lnsB_get hlt
        have hlo := HL.out (strAt L k) (strAt_mem hlt)
        have hbare := bare_self hlo
        have hls : (strAt L k).size ≤ 20000 := by
          have h1 := HL3.out.2.2
          have h2 := sumS_take L (k + 1)
          rw [take_str L k hlt, sumS_app, sumS_cons] at h2; omega
        have x0 : wr.cell? ⟨bx, ox + k * 3, none⟩ = some (.int .i64 ((ind (strAt L k).data.toList : Nat) : Int)) := by have := hx k hlt 0 (by omega); simpa [fLine, oneLine, eA, lnA] using this
        have x1 : wr.cell? ⟨bx, ox + k * 3 + 1, none⟩ = some (.string ((strAt L k).extract (ind (strAt L k).data.toList) (strAt L k).size)) := by have := hx k hlt 1 (by omega); simpa [fLine, oneLine, eA, lnA] using this
        have x2 : wr.cell? ⟨bx, ox + k * 3 + 2, none⟩ = some (.int .i64 ((k : Int) + 1)) := by have := hx k hlt 2 (by omega); simpa [fLine, oneLine, eA, lnA] using this
        have y0 : wr.cell? ⟨by', oy + k * 3, none⟩ = some (.int .i64 ((ind (strAt L k).data.toList : Nat) : Int)) := by have := hy k hlt 0 (by omega); simpa [fLine, oneLine, eB, lnA] using this
        have y1 : wr.cell? ⟨by', oy + k * 3 + 1, none⟩ = some (.string ((strAt L k).extract (ind (strAt L k).data.toList) (strAt L k).size)) := by have := hy k hlt 1 (by omega); simpa [fLine, oneLine, eB, lnA] using this
        have y2 : wr.cell? ⟨by', oy + k * 3 + 2, none⟩ = some (.int .i64 (2 + 2 * (k : Int))) := by have := hy k hlt 2 (by omega); simpa [fLine, oneLine, eB, lnA] using this
        have s0 : wr.cell? ⟨bs, os + k, none⟩ = some (.string (strAt L k)) := by have := hs k hlt 0 (by omega); simpa [strF] using this
        clear hx hy hs eA eB hlo
        have C1 := Lib.hid (fun x : Aft wr => (show Calls Tryd.prog 34 #[.string (strAt L k)] x.now fun e w' => e = .returned (.int .i64 ((ind (strAt L k).data.toList : Nat) : Int)) ∧ Below x.now.heap.size x.now w' from (iIndentOf (strAt L k) x.now (by omega)).mono fun e w' ⟨h1, h2⟩ => ⟨h1, h2 ▸ Below.refl _ _⟩))
        have C2 := Lib.hid (fun x : Aft wr => (show Calls Tryd.prog 35 #[.string (strAt L k)] x.now fun e w' => e = .returned (.string (strAt L k)) ∧ Below x.now.heap.size x.now w' from (iBareLine (strAt L k) x.now (by omega)).mono fun e w' ⟨h1, h2⟩ => ⟨by rw [h1, hbare], h2 ▸ Below.refl _ _⟩))
        generalize (strAt L k).extract (ind (strAt L k).data.toList) (strAt L k).size = tx at x1 y1
        generalize ind (strAt L k).data.toList = ni at x0 y0 C1
        generalize strAt L k = sl at s0 C1 C2
        clear hbare hls
        have x0a := aft_cell x0
        have x1a := aft_cell x1
        have x2a := aft_cell x2
        have y0a := aft_cell y0
        have y1a := aft_cell y1
        have y2a := aft_cell y2
        have s0a := aft_cell s0
        clear x0 x1 x2 y0 y1 y2 s0
        have u1 : IntKind.i64.wrap (2 * (k : Int)) = 2 * (k : Int) := IntWalk.i64_in _ (by omega)
        have u2 : IntKind.i64.wrap (2 + 2 * (k : Int)) = 2 + 2 * (k : Int) := IntWalk.i64_in _ (by omega)
        have u3 : IntKind.i64.wrap ((k : Int) + 1) = (k : Int) + 1 := IntWalk.i64_in _ (by omega)
        have n0 : (0 : Int) ≤ (k : Int) := by omega
        have n1 : (k : Int) < (L.length : Int) := by omega
        go_upto_region 19 with fail
        refine wp_region_soft_lit (by kernel_rfl) (by kernel_rfl) ?_
        simp only [List.append]
        go_big_quiet_step (fail)
        repeat (go_big_quiet_step ((first | (go_at_call 34; exact soft_call (C1.out _)) | (go_at_call 35; exact soft_call (C2.out _)))))
        refine wpQuiet_nil ?_
        intro _ hw'
        obtain ⟨xq, hw''⟩ := hw'
        subst hw''
        go_wp2
        go_roundw
        case rel => exact ⟨k + 1, by omega, by go_num, Lib.hid (bnext HBW.out xq.bel)⟩
        case measure => simp [intOf]; omega
      · obtain rfl : k = L.length := by omega
        go_wp2
        go_ret
        exact ⟨rfl, bnext HB6.out HBW.out⟩

end Go.Proofs.YtkifacpanipfhaaDoor
