/- Fault, SgsV, SgsS, merged. -/
import Derived.Test.YtomhbbchflblpaaGreatDoorZJ
import Derived.Test.YtomhbbchflblpaaGreatDoorRuneA
import Derived.Test.YtomhbbchflblpaaGreatDoorRuneB
import Derived.Test.YtomhbbchflblpaaGreatDoorZB
import Derived.Test.YtomhbbchflblpaaGreatDoorZK
namespace Go.Proofs.YtomhbbchflblpaaGreatDoor
open Go.RowKit

def badZ : Option Nat → Int | none => -1 | some k => k

set_option maxRecDepth 100000 in
theorem sRunes (s : ByteArray) (w : World) (hs : s.size ≤ 1048576) : Calls Tryz.prog 26 #[.string s] w fun e w' => e = .returned (.int .i64 (badZ (badA s))) ∧ Below w.heap.size w w' := by
  have H0 := Lib.hid (badAt_start s)
  generalize badA s = R at H0
  go_enter Tryz.func26, Tryz.ntmps26
  go_wp2
  go_loopw [3] (fun a wr => ∃ k : Nat, k ≤ s.size ∧ a = .int .i64 k ∧ Hid (BadAt s R k) ∧ Below w.heap.size w wr) (fun a _ => s.size - (intOf a).toNat)
  case atStart => exact ⟨0, by omega, rfl, H0, Below.refl _ _⟩
  case round =>
    obtain ⟨k, hk, rfl, HA, hb⟩ := hrel
    by_cases hlt : k < s.size
    · have HRA := Lib.hid (fun w0 => sRuneAt s k w0 hs (by omega))
      cases hbad : badD (Utf8.decode s k)
      · have g := rAt_good s k (Utf8.decode s k).1 (Utf8.decode s k).2 hlt rfl hbad
        have hw1 := Lib.decode_width_pos s k hlt
        have hw2 := width_le s k hlt
        have HA2 := Lib.hid (badAt_step HA.out hlt hbad)
        rw [g.1, g.2] at HRA
        clear g hbad
        generalize (Utf8.decode s k).1 = d1 at HRA
        generalize (Utf8.decode s k).2 = d2 at HRA hw1 hw2 HA2
        go_wp2_with (go_at_call 61; refine (HRA.out _).mono ?_; rintro e w1 ⟨rfl, hb1⟩)
        go_roundw
        case rel => exact ⟨k + d2, hw2, by go_num, HA2, bnext hb hb1⟩
        case measure => simp [intOf]; omega
      · have g := rAt_bad s k hbad
        have H := Lib.hid (badAt_bad HA.out hlt hbad)
        rw [g.1, g.2] at HRA
        clear g hbad
        go_wp2_with (go_at_call 61; refine (HRA.out _).mono ?_; rintro e w1 ⟨rfl, hb1⟩)
        go_ret
        exact ⟨ret_int (by rw [H.out]; rfl), bnext hb hb1⟩
    · have H := Lib.hid (badAt_end HA.out (by omega))
      go_wp2
      go_ret
      exact ⟨ret_int (by rw [H.out]; rfl), hb⟩

def FaultV (o : Option (Int × Int)) : Value := .agg #[.int .i64 (ftC o), .int .i64 (ftP o), .string ⟨#[]⟩]

set_option maxRecDepth 100000 in
theorem iFault (s : ByteArray) (w : World) (hs : s.size ≤ 1048576) (hT : Tabs w) : Calls Tryz.prog 24 #[.string s] w fun e w' => e = .returned (FaultV (ftO s)) ∧ Below w.heap.size w w' := by
  have HT := Lib.hid hT; clear hT
  have HZ := Lib.hid (ZF.new w)
  by_cases hl : 20000 < s.size
  · have H := Lib.hid (ft_long hl)
    have hd : decide ((20000 : Int) < (s.size : Int)) = true := decide_eq_true (by omega)
    have hd2 : decide (20000 < s.size) = true := decide_eq_true hl
    clear hl
    go_enter Tryz.func24, Tryz.ntmps24
    obtain ⟨r0, r1, r2⟩ := HZ.out.cells
    obtain ⟨g0, g1, g2⟩ := HZ.out.frozen
    go_wp2
    refine bodyPost_ret (v := .agg #[.int .i64 1, .int .i64 0, .string ⟨#[]⟩]) (by first | (simp [results, Tryz.results24, go_sem]; done) | simp [results, Tryz.results24, go_sem, HZ.out.cells]) rfl ?_
    exact ⟨by rw [H.out]; rfl, by repeat (first | exact (by first | exact HZ.out.2 | exact Below.refl _ _) | (refine Below.alloc ?_ (by first | omega | (simp; done) | (simp; omega)) _) | (refine Below.setCell ?_ (by first | omega | (simp; done) | (simp; omega)) _) | (refine Below.drew ?_) | (refine below_drewN ?_ _))⟩
  have HB := Lib.hid (fun k h => ft_bad (k := k) hl h)
  have HG := Lib.hid (fun h => ft_none hl h)
  have hd : decide ((20000 : Int) < (s.size : Int)) = false := decide_eq_false (by omega)
  have hd2 : decide (20000 < s.size) = false := decide_eq_false hl
  have H0 := Lib.hid (badAt_start s)
  generalize badA s = R at H0 HB HG
  clear hl
  go_enter Tryz.func24, Tryz.ntmps24
  go_wp2
  clear hd hd2
  go_loopw [3] (fun a wr => ∃ k : Nat, k ≤ s.size ∧ a = .int .i64 k ∧ Hid (BadAt s R k) ∧ Hid (ZF w wr)) (fun a _ => s.size - (intOf a).toNat)
  case atStart => exact ⟨0, by omega, rfl, H0, HZ⟩
  case round =>
    obtain ⟨k, hk, rfl, HA, HZ⟩ := hrel
    by_cases hlt : k < s.size
    · have HRA := Lib.hid (fun w0 hT => iRuneAt s k w0 hs hT)
      cases hbad : badD (Utf8.decode s k)
      · have g := rAt_good s k (Utf8.decode s k).1 (Utf8.decode s k).2 hlt rfl hbad
        have hw1 := Lib.decode_width_pos s k hlt
        have hw2 := width_le s k hlt
        have HA2 := Lib.hid (badAt_step HA.out hlt hbad)
        rw [g.1, g.2] at HRA
        clear g hbad
        generalize (Utf8.decode s k).1 = d1 at HRA
        generalize (Utf8.decode s k).2 = d2 at HRA hw1 hw2 HA2
        go_wp2_with (go_at_call 59; refine (HRA.out _ (tabs_keep HT.out HZ.out.2)).mono ?_; rintro e w1 ⟨rfl, hb1⟩)
        go_roundw
        case rel => exact ⟨k + d2, hw2, by go_num, HA2, Lib.hid (HZ.out.keep hb1)⟩
        case measure => simp [intOf]; omega
      · have g := rAt_bad s k hbad
        have H := Lib.hid (HB.out k (badAt_bad HA.out hlt hbad))
        rw [g.1, g.2] at HRA
        clear g hbad
        go_wp2_with fail
        refine (HRA.out _ (tabs_keep HT.out HZ.out.2)).mono ?_; rintro e w1 ⟨rfl, hb1⟩
        have HZ := Lib.hid (HZ.out.keep hb1); clear hb1
        obtain ⟨r0, r1, r2⟩ := HZ.out.cells
        obtain ⟨g0, g1, g2⟩ := HZ.out.frozen
        go_wp2
        refine bodyPost_ret (v := .agg #[.int .i64 2, .int .i64 k, .string ⟨#[]⟩]) (by first | (simp [results, Tryz.results24, go_sem]; done) | simp [results, Tryz.results24, go_sem, HZ.out.cells]) rfl ?_
        exact ⟨by rw [H.out]; rfl, by repeat (first | exact (by first | exact HZ.out.2 | exact Below.refl _ _) | (refine Below.alloc ?_ (by first | omega | (simp; done) | (simp; omega)) _) | (refine Below.setCell ?_ (by first | omega | (simp; done) | (simp; omega)) _) | (refine Below.drew ?_) | (refine below_drewN ?_ _))⟩
    · have H := Lib.hid (HG.out (badAt_end HA.out (by omega)))
      obtain ⟨r0, r1, r2⟩ := HZ.out.cells
      obtain ⟨g0, g1, g2⟩ := HZ.out.frozen
      go_wp2
      refine bodyPost_ret (v := .agg #[.int .i64 0, .int .i64 0, .string ⟨#[]⟩]) (by first | (simp [results, Tryz.results24, go_sem]; done) | simp [results, Tryz.results24, go_sem, HZ.out.cells]) rfl ?_
      exact ⟨by rw [H.out]; rfl, by repeat (first | exact (by first | exact HZ.out.2 | exact Below.refl _ _) | (refine Below.alloc ?_ (by first | omega | (simp; done) | (simp; omega)) _) | (refine Below.setCell ?_ (by first | omega | (simp; done) | (simp; omega)) _) | (refine Below.drew ?_) | (refine below_drewN ?_ _))⟩

end Go.Proofs.YtomhbbchflblpaaGreatDoor
namespace Go.Proofs.YtomhbbchflblpaaGreatDoor
open Go.RowKit

theorem rowAlloc (w : World) (o : Obj) : Below w.heap.size w (w.alloc o) := (Below.refl _ _).alloc (Nat.le_refl _) _
theorem Tryz.infoSign : (Tryz.prog.info? 37).map (fun i => (i.zero, i.size, i.bytes)) = some (some (.agg #[.int .i64 0, .string ⟨#[]⟩, .int .i64 0, .int .i64 0]), 4, 40) := by kernel_rfl
theorem Tryz.elSign : ElemT 30 37 4 := by
  obtain ⟨i0, hi, hz0, hz1, hz2⟩ := info_parts Tryz.infoSign
  exact ⟨i0, _, Tryz.underlying30, hi, hz0, hz1, by omega, rfl, by omega⟩
def SgsV (s : ByteArray) (w : World) (e : Ending) (w' : World) : Prop :=
  (∃ a cap fp, e = .returned (.tuple #[.slice a (sgsL s).length cap, .agg #[.int .i64 (sgsC s), .int .i64 (sgsP s), .string ⟨#[]⟩]]) ∧ GFlat w' w.heap.size w'.heap.size (.slice a (sgsL s).length cap) (sgsL s).length 4 (fSign (sgsL s)) fp) ∧ Below w.heap.size w w'
theorem sgs_no {s : ByteArray} {w w' : World} (a : Option Addr) (cap : Nat) {c p : Int} (h : sgsL s = [] ∧ sgsC s = c ∧ sgsP s = p) (hb : Below w.heap.size w w') :
    SgsV s w (.returned (.tuple #[.slice a 0 cap, .agg #[.int .i64 c, .int .i64 p, .string ⟨#[]⟩]])) w' := by
  obtain ⟨h1, rfl, rfl⟩ := h
  unfold SgsV
  rw [h1]
  exact ⟨⟨a, cap, [], rfl, ⟨.inl ⟨rfl, rfl, a, cap, rfl⟩, fun x hx => by simp at hx⟩⟩, hb⟩
theorem sgs_yes {s : ByteArray} {w w' : World} {v : Value} {L : List (Sg × Nat)} (h : sgsL s = L ∧ sgsC s = 0 ∧ sgsP s = 0) (hr : RowB 37 4 w w' v L.length (cellsSign L)) :
    SgsV s w (.returned (.tuple #[v, .agg #[.int .i64 0, .int .i64 0, .string ⟨#[]⟩]])) w' := by
  obtain ⟨rfl, h2, h3⟩ := h
  obtain ⟨a, cap, fp, rfl, h4, h5, -⟩ := hr.sl (cellSign _)
  unfold SgsV
  rw [h2, h3]
  exact ⟨⟨a, cap, fp, rfl, GFlat.new h4 h5⟩, hr.bel⟩
theorem ws_facts {b : Nat} (h : wsN b = false) : ((b : Int) == 32) = false ∧ ((b : Int) == 9) = false ∧ ((b : Int) == 10) = false ∧ ((b : Int) == 13) = false := by
  simp only [wsN, Bool.or_eq_false_iff, beq_eq_false_iff_ne] at h
  refine ⟨?_, ?_, ?_, ?_⟩ <;> rw [beq_eq_false_iff_ne] <;> omega

end Go.Proofs.YtomhbbchflblpaaGreatDoor
namespace Go.Proofs.YtomhbbchflblpaaGreatDoor
open Go.RowKit

theorem row_apart2 {w w' : World} {L : List Nat} {base e size : Nat} {v : Value} {n : Nat} {xs : List Value} (h : w.ownsRow base e size v n xs) (ha : Apart L w w') (hL : ∀ x, x ∈ L → x < base) : w'.ownsRow base e size v n xs := by
  obtain ⟨h1, h2⟩ := h
  refine ⟨h1, ?_⟩
  rcases h2 with h2 | ⟨b, cap, cur, hv, hb, hh, r⟩
  · exact .inl h2
  · have : b < w.heap.size := (Array.getElem?_eq_some_iff.1 hh).1
    exact .inr ⟨b, cap, cur, hv, hb, by rw [ha.block b this (fun hx => by have := hL b hx; omega)]; exact hh, r⟩
/-- A row stands, while a cell of the call's own that is older than it turns. -/
theorem RowB.past2 {e c b : Nat} {w W0 wr wx : World} {v : Value} {n : Nat} {xs : List Value} (h : RowB e c W0 wr v n xs) (hb : Below w.heap.size w W0) (h1 : w.heap.size ≤ b) (h2 : b < W0.heap.size) (ha : Apart [b] wr wx) : RowB e c w wx v n xs :=
  ⟨row_mono (row_apart2 h.own ha (fun x hx => by simp at hx; omega)) hb.size, (bnext hb h.bel).trans (ha.below (bnext hb h.bel).size (fun x hx => by simp at hx; omega))⟩
theorem ws_true {b : Nat} (h : wsN b = true) : ((b : Int) == 32) = true ∨ (((b : Int) == 32) = false ∧ ((b : Int) == 9) = true) ∨ (((b : Int) == 32) = false ∧ ((b : Int) == 9) = false ∧ ((b : Int) == 10) = true) ∨ (((b : Int) == 32) = false ∧ ((b : Int) == 9) = false ∧ ((b : Int) == 10) = false ∧ ((b : Int) == 13) = true) := by
  simp only [wsN, Bool.or_eq_true, beq_iff_eq] at h
  simp only [beq_iff_eq, beq_eq_false_iff_ne]
  omega
theorem sgn_none {s : ByteArray} {k : Nat} (hk : k < s.size) (h : signO s k = none) {w w' : World} {e : Ending} (hp : SignP s (k : Int) w e w') : e = .returned (.tuple #[.agg #[.int .i64 0, .string ⟨#[]⟩, .int .i64 0, .int .i64 0], .int .i64 (-1)]) ∧ Below w.heap.size w w' := by
  unfold SignP at hp
  rw [sign_in hk, h] at hp
  exact hp
theorem sgn_some {s : ByteArray} {k : Nat} (hk : k < s.size) {x : Sg} (h : signO s k = some x) {w w' : World} {e : Ending} (hp : SignP s (k : Int) w e w') : e = .returned (.tuple #[.agg #[.int .i64 x.kind, .string x.text, .int .i64 x.num, .int .i64 (k : Int)], .int .i64 (x.fin : Int)]) ∧ Below w.heap.size w w' := by
  unfold SignP at hp
  rw [sign_in hk, h] at hp
  exact hp

set_option maxRecDepth 100000 in
set_option maxHeartbeats 4000000 in
theorem sSignsOf (s : ByteArray) (w : World) (hs : s.size ≤ 1048576) : Calls Tryz.prog 9 #[.string s] w (SgsV s w) := by
  have HZ := Lib.hid (ZF.new w)
  by_cases hl : 20000 < s.size
  · have H := Lib.hid (sgs_fault (ft_long hl))
    have hd : decide ((20000 : Int) < (s.size : Int)) = true := decide_eq_true (by omega)
    have hd2 : decide (20000 < s.size) = true := decide_eq_true hl
    have HZ := Lib.hid (HZ.out.keep (rowAlloc _ (.cells #[] 37)))
    clear hl
    go_enter Tryz.func9, Tryz.ntmps9
    obtain ⟨r0, r1, r2⟩ := HZ.out.cells
    obtain ⟨g0, g1, g2⟩ := HZ.out.frozen
    go_wp2
    refine bodyPost_ret (v := .tuple #[.slice (some ⟨w.heap.size + 1, 0, none⟩) 0 0, .agg #[.int .i64 1, .int .i64 0, .string ⟨#[]⟩]]) (by first | (simp [results, Tryz.results9, go_sem]; done) | simp [results, Tryz.results9, go_sem, r0, r1, r2]) rfl ?_
    exact sgs_no _ _ H.out (by repeat (first | exact (by first | exact HZ.out.2 | exact Below.refl _ _) | (refine Below.alloc ?_ (by first | omega | (simp; done) | (simp; omega)) _) | (refine Below.setCell ?_ (by first | omega | (simp; done) | (simp; omega)) _) | (refine Below.drew ?_) | (refine below_drewN ?_ _)))
  have hd : decide ((20000 : Int) < (s.size : Int)) = false := decide_eq_false (by omega)
  have hd2 : decide (20000 < s.size) = false := decide_eq_false hl
  have HZ := Lib.hid (HZ.out.keep (rowAlloc _ (.cells #[] 37)))
  have HC := Lib.hid (fun w0 => sRunes s w0 hs)
  cases hb : badA s with
  | some k =>
    have H := Lib.hid (sgs_fault (ft_bad hl hb))
    rw [hb] at HC
    have hc : decide ((0 : Int) ≤ badZ (some k)) = true := decide_eq_true (by show (0 : Int) ≤ (k : Int); omega)
    clear hl hb
    go_enter Tryz.func9, Tryz.ntmps9
    go_wp2_with fail
    refine (HC.out _).mono ?_; rintro e w1 ⟨rfl, hb1⟩
    have HZ := Lib.hid (HZ.out.keep hb1)
    obtain ⟨r0, r1, r2⟩ := HZ.out.cells
    obtain ⟨g0, g1, g2⟩ := HZ.out.frozen
    go_wp2
    refine bodyPost_ret (v := .tuple #[.slice (some ⟨w.heap.size + 1, 0, none⟩) 0 0, .agg #[.int .i64 2, .int .i64 (k : Int), .string ⟨#[]⟩]]) (by first | (simp [results, Tryz.results9, go_sem, badZ]; done) | simp [results, Tryz.results9, go_sem, badZ, r0, r1, r2]) rfl ?_
    exact sgs_no _ _ H.out (by repeat (first | exact (by first | exact HZ.out.2 | exact Below.refl _ _) | (refine Below.alloc ?_ (by first | omega | (simp; done) | (simp; omega)) _) | (refine Below.setCell ?_ (by first | omega | (simp; done) | (simp; omega)) _) | (refine Below.drew ?_) | (refine below_drewN ?_ _)))
  | none =>
    have hft := ft_none hl hb
    rw [hb] at HC
    have hc : decide ((0 : Int) ≤ badZ none) = false := decide_eq_false (by show ¬ (0 : Int) ≤ -1; omega)
    have HFB := Lib.hid (fun k h => sgs_bad (k := k) hft h)
    have HFG := Lib.hid (fun L h => sgs_good (L := L) hft h)
    have HLS := Lib.hid (tgAt_start s)
    generalize toksR s = R at HLS HFB HFG
    clear hl hb hft
    go_enter Tryz.func9, Tryz.ntmps9
    go_wp2_with fail
    refine (HC.out _).mono ?_; rintro e w1 ⟨rfl, hb1⟩
    have HZ1 := Lib.hid (HZ.out.keep hb1)
    have HR0 := Lib.hid (RowB.start 37 4 w1 #[] rfl)
    have hlw := HZ1.out.lt
    clear hb1 HZ
    go_wp2_with fail
    go_loopw [6, 7] (fun v i wr => ∃ (k : Nat) (acc : List (Sg × Nat)), k ≤ s.size ∧ acc.length ≤ k ∧ i = .int .i64 k ∧ Hid (RowB 37 4 w1 wr v acc.length (cellsSign acc)) ∧ Hid (TgAt s R k acc)) (fun _ i _ => s.size - (intOf i).toNat)
    case atStart => exact ⟨0, [], by omega, by simp, rfl, HR0, HLS⟩
    case round =>
      obtain ⟨k, acc, hk, hak, rfl, HR, HTG⟩ := hrel
      by_cases hlt : k < s.size
      rotate_left
      · have H := Lib.hid (HFG.out acc (tgAt_end HTG.out (by omega)))
        have HZ := Lib.hid (HZ1.out.keep HR.out.bel)
        obtain ⟨r0, r1, r2⟩ := HZ.out.cells
        obtain ⟨g0, g1, g2⟩ := HZ.out.frozen
        go_wp2
        refine bodyPost_ret (v := .tuple #[u6, .agg #[.int .i64 0, .int .i64 0, .string ⟨#[]⟩]]) (by first | (simp [results, Tryz.results9, go_sem]; done) | simp [results, Tryz.results9, go_sem, r0, r1, r2]) rfl ?_
        exact sgs_yes H.out (RowB.past2 (b := w.heap.size) HR.out HZ1.out.2 (Nat.le_refl _) hlw (by repeat (first | exact Apart.refl _ _ | refine Apart.setCell ?_ (by simp) _)))
      have hbt := bt_eq s k hlt
      cases hw : wsN (bt s k)
      rotate_left
      · have HN := Lib.hid (tgAt_ws HTG.out hlt hw)
        rw [hbt] at hw
        rcases ws_true hw with h | ⟨h, h'⟩ | ⟨h, h', h''⟩ | ⟨h, h', h'', h3⟩
        all_goals
          clear hw hbt
          go_wp2_with fail
          go_roundw
          case rel => exact ⟨k + 1, acc, by omega, by omega, by go_num, HR, HN⟩
          case measure => simp [intOf]; omega
      cases hsg : signO s k with
      | none =>
        have HCS : Hid (∀ w0, Calls Tryz.prog 27 #[.string s, .int .i64 (k : Int)] w0 fun e w' => e = .returned (.tuple #[.agg #[.int .i64 0, .string ⟨#[]⟩, .int .i64 0, .int .i64 0], .int .i64 (-1)]) ∧ Below w0.heap.size w0 w') := Lib.hid (fun w0 => (sSignAt s k w0 hs).mono fun _ _ => sgn_none hlt hsg)
        have H := Lib.hid (HFB.out k (tgAt_bad HTG.out hlt hw hsg))
        rw [hbt] at hw
        obtain ⟨h1, h2, h3, h4⟩ := ws_facts hw
        clear hw hbt hsg HTG
        go_wp2_with fail
        refine (HCS.out _).mono ?_; rintro e w4 ⟨rfl, hb4⟩
        have HZ := Lib.hid (((HZ1.out.keep HR.out.bel).keep hb4).keep (rowAlloc w4 (.cells #[.int .i64 0, .string ⟨#[]⟩, .int .i64 0, .int .i64 0] 37)))
        obtain ⟨r0, r1, r2⟩ := HZ.out.cells
        obtain ⟨g0, g1, g2⟩ := HZ.out.frozen
        clear hb4
        go_wp2
        refine bodyPost_ret (v := .tuple #[.slice (some ⟨w.heap.size + 1, 0, none⟩) 0 0, .agg #[.int .i64 3, .int .i64 (k : Int), .string ⟨#[]⟩]]) (by first | (simp [results, Tryz.results9, go_sem]; done) | simp [results, Tryz.results9, go_sem, r0, r1, r2]) rfl ?_
        exact sgs_no _ _ H.out (by repeat (first | exact (by first | exact HZ.out.2 | exact Below.refl _ _) | (refine Below.alloc ?_ (by first | omega | (simp; done) | (simp; omega)) _) | (refine Below.setCell ?_ (by first | omega | (simp; done) | (simp; omega)) _) | (refine Below.drew ?_) | (refine below_drewN ?_ _)))
      | some x =>
        have HCS : Hid (∀ w0, Calls Tryz.prog 27 #[.string s, .int .i64 (k : Int)] w0 fun e w' => e = .returned (.tuple #[.agg #[.int .i64 x.kind, .string x.text, .int .i64 x.num, .int .i64 (k : Int)], .int .i64 (x.fin : Int)]) ∧ Below w0.heap.size w0 w') := Lib.hid (fun w0 => (sSignAt s k w0 hs).mono fun _ _ => sgn_some hlt hsg)
        have hfin := sign_fin hlt hsg
        have HN := Lib.hid (tgAt_step HTG.out hlt hw hsg)
        rw [hbt] at hw
        obtain ⟨h1, h2, h3, h4⟩ := ws_facts hw
        have hdf : decide ((x.fin : Int) < 0) = false := decide_eq_false (by omega)
        clear hw hbt hsg HTG
        go_wp2_with fail
        refine (HCS.out _).mono ?_; rintro e w4 ⟨rfl, hb4⟩
        have HR4 := Lib.hid ((HR.out.keep hb4).alloc (.cells #[.int .i64 x.kind, .string x.text, .int .i64 x.num, .int .i64 (k : Int)] 37))
        clear hb4 HR
        go_wp2_with (at_builtin; go_loud (refine wpList_row Tryz.elSign (by rfl) _ _ (by rfl) _ _ _ [.int .i64 x.kind, .string x.text, .int .i64 x.num, .int .i64 (k : Int)] w1 _ (by rfl) HR4.out _ 1 1 (by rfl) rfl (by simp [Value.oneCell']) (by first | rfl | (rw [World.size_alloc]; rfl) | (simp only [World.size_alloc]; rfl)) (by omega) ?_; intro v' w' hrow'))
        go_roundw
        case rel => exact ⟨x.fin, acc ++ [(x, k)], by omega, by simp; omega, by go_num, Lib.hid (by rw [cellsSign_snoc, List.length_append]; exact hrow'), HN⟩
        case measure => simp [intOf]; omega

end Go.Proofs.YtomhbbchflblpaaGreatDoor
