/- spec.l09Runes and impl.textFault: the contracts. -/
import Derived.Test.YtpcojfcbomkgpaaDoorSignsP
import Derived.Test.YtpcojfcbomkgpaaDoorRuneA
import Derived.Test.YtpcojfcbomkgpaaDoorRuneB
import Derived.Test.YtpcojfcbomkgpaaDoorRuneI
import Derived.Test.YtpcojfcbomkgpaaDoorZero
namespace Go.Proofs.YtpcojfcbomkgpaaDoor
open Go.RowKit

def badZ : Option Nat → Int | none => -1 | some k => k
set_option maxRecDepth 100000 in
theorem sRunes (s : ByteArray) (w : World) (hs : s.size ≤ 1048576) : Calls Tryd.prog 80 #[.string s] w fun e w' => e = .returned (.int .i64 (badZ (badA s))) ∧ Below w.heap.size w w' := by
  have H0 := Lib.hid (badAt_start s)
  generalize badA s = R at H0
  go_enter Tryd.func80, Tryd.ntmps80
  go_wp2
  go_loopw [3] (fun a wr => ∃ k : Nat, k ≤ s.size ∧ a = .int .i64 k ∧ Hid (BadAt s R k) ∧ Below w.heap.size w wr) (fun a _ => s.size - (intOf a).toNat)
  case atStart => exact ⟨0, by omega, rfl, H0, Below.refl _ _⟩
  case round =>
    obtain ⟨k, hk, rfl, HA, hb⟩ := hrel
    by_cases hlt : k < s.size
    · have HRA := Lib.hid (fun w0 => sRuneAt s k w0 hs (by omega))
      cases hbad : badD (Utf8.decode s k)
      · have g := rAt_good s k (Utf8.decode s k).1 (Utf8.decode s k).2 hlt rfl hbad
        have hw1 := Lib.decode_width_pos s k hlt
        have hw2 := width_le s k hlt
        have HA2 := Lib.hid (badAt_step HA.out hlt hbad)
        rw [g.1, g.2] at HRA
        clear g hbad
        generalize (Utf8.decode s k).1 = d1 at HRA
        generalize (Utf8.decode s k).2 = d2 at HRA hw1 hw2 HA2
        go_wp2_with (go_at_call 134; refine (HRA.out _).mono ?_; rintro e w1 ⟨rfl, hb1⟩)
        go_roundw
        case rel => exact ⟨k + d2, hw2, by go_num, HA2, bnext hb hb1⟩
        case measure => simp [intOf]; omega
      · have g := rAt_bad s k hbad
        have H := Lib.hid (badAt_bad HA.out hlt hbad)
        rw [g.1, g.2] at HRA
        clear g hbad
        go_wp2_with (go_at_call 134; refine (HRA.out _).mono ?_; rintro e w1 ⟨rfl, hb1⟩)
        go_ret
        exact ⟨ret_int (by rw [H.out]; rfl), bnext hb hb1⟩
    · have H := Lib.hid (badAt_end HA.out (by omega))
      go_wp2
      go_ret
      exact ⟨ret_int (by rw [H.out]; rfl), hb⟩

def FaultV (o : Option (Int × Int)) : Value := .agg #[.int .i64 (ftC o), .int .i64 (ftP o), .string ⟨#[]⟩]
set_option maxRecDepth 100000 in
theorem iFault (s : ByteArray) (w : World) (hs : s.size ≤ 1048576) (hT : Tabs w) : Calls Tryd.prog 81 #[.string s] w fun e w' => e = .returned (FaultV (ftO s)) ∧ Below w.heap.size w w' := by
  have HT := Lib.hid hT; clear hT
  have HZ := Lib.hid (ZF.new w)
  by_cases hl : 20000 < s.size
  · have H := Lib.hid (ft_long hl)
    have hd : decide ((20000 : Int) < (s.size : Int)) = true := decide_eq_true (by omega)
    have hd2 : decide (20000 < s.size) = true := decide_eq_true hl
    clear hl
    go_enter Tryd.func81, Tryd.ntmps81
    obtain ⟨r0, r1, r2⟩ := HZ.out.cells
    obtain ⟨g0, g1, g2⟩ := HZ.out.frozen
    go_wp2
    refine bodyPost_ret (v := .agg #[.int .i64 1, .int .i64 0, .string ⟨#[]⟩]) (by first | (simp [results, Tryd.results81, go_sem]; done) | simp [results, Tryd.results81, go_sem, HZ.out.cells]) rfl ?_
    exact ⟨by rw [H.out]; rfl, by repeat (first | exact (by first | exact HZ.out.2 | exact Below.refl _ _) | (refine Below.alloc ?_ (by first | omega | (simp; done) | (simp; omega)) _) | (refine Below.setCell ?_ (by first | omega | (simp; done) | (simp; omega)) _) | (refine Below.drew ?_) | (refine below_drewN ?_ _))⟩
  have HB := Lib.hid (fun k h => ft_bad (k := k) hl h)
  have HG := Lib.hid (fun h => ft_none hl h)
  have hd : decide ((20000 : Int) < (s.size : Int)) = false := decide_eq_false (by omega)
  have hd2 : decide (20000 < s.size) = false := decide_eq_false hl
  have H0 := Lib.hid (badAt_start s)
  generalize badA s = R at H0 HB HG
  clear hl
  go_enter Tryd.func81, Tryd.ntmps81
  go_wp2
  clear hd hd2
  go_loopw [3] (fun a wr => ∃ k : Nat, k ≤ s.size ∧ a = .int .i64 k ∧ Hid (BadAt s R k) ∧ Hid (ZF w wr)) (fun a _ => s.size - (intOf a).toNat)
  case atStart => exact ⟨0, by omega, rfl, H0, HZ⟩
  case round =>
    obtain ⟨k, hk, rfl, HA, HZ⟩ := hrel
    by_cases hlt : k < s.size
    · have HRA := Lib.hid (fun w0 hT => iRuneAt s k w0 hs hT)
      cases hbad : badD (Utf8.decode s k)
      · have g := rAt_good s k (Utf8.decode s k).1 (Utf8.decode s k).2 hlt rfl hbad
        have hw1 := Lib.decode_width_pos s k hlt
        have hw2 := width_le s k hlt
        have HA2 := Lib.hid (badAt_step HA.out hlt hbad)
        rw [g.1, g.2] at HRA
        clear g hbad
        generalize (Utf8.decode s k).1 = d1 at HRA
        generalize (Utf8.decode s k).2 = d2 at HRA hw1 hw2 HA2
        go_wp2_with (go_at_call 139; refine (HRA.out _ (tabs_keep HT.out HZ.out.2)).mono ?_; rintro e w1 ⟨rfl, hb1⟩)
        go_roundw
        case rel => exact ⟨k + d2, hw2, by go_num, HA2, Lib.hid (HZ.out.keep hb1)⟩
        case measure => simp [intOf]; omega
      · have g := rAt_bad s k hbad
        have H := Lib.hid (HB.out k (badAt_bad HA.out hlt hbad))
        rw [g.1, g.2] at HRA
        clear g hbad
        go_wp2_with fail
        refine (HRA.out _ (tabs_keep HT.out HZ.out.2)).mono ?_; rintro e w1 ⟨rfl, hb1⟩
        have HZ := Lib.hid (HZ.out.keep hb1); clear hb1
        obtain ⟨r0, r1, r2⟩ := HZ.out.cells
        obtain ⟨g0, g1, g2⟩ := HZ.out.frozen
        go_wp2
        refine bodyPost_ret (v := .agg #[.int .i64 2, .int .i64 k, .string ⟨#[]⟩]) (by first | (simp [results, Tryd.results81, go_sem]; done) | simp [results, Tryd.results81, go_sem, HZ.out.cells]) rfl ?_
        exact ⟨by rw [H.out]; rfl, by repeat (first | exact (by first | exact HZ.out.2 | exact Below.refl _ _) | (refine Below.alloc ?_ (by first | omega | (simp; done) | (simp; omega)) _) | (refine Below.setCell ?_ (by first | omega | (simp; done) | (simp; omega)) _) | (refine Below.drew ?_) | (refine below_drewN ?_ _))⟩
    · have H := Lib.hid (HG.out (badAt_end HA.out (by omega)))
      obtain ⟨r0, r1, r2⟩ := HZ.out.cells
      obtain ⟨g0, g1, g2⟩ := HZ.out.frozen
      go_wp2
      refine bodyPost_ret (v := .agg #[.int .i64 0, .int .i64 0, .string ⟨#[]⟩]) (by first | (simp [results, Tryd.results81, go_sem]; done) | simp [results, Tryd.results81, go_sem, HZ.out.cells]) rfl ?_
      exact ⟨by rw [H.out]; rfl, by repeat (first | exact (by first | exact HZ.out.2 | exact Below.refl _ _) | (refine Below.alloc ?_ (by first | omega | (simp; done) | (simp; omega)) _) | (refine Below.setCell ?_ (by first | omega | (simp; done) | (simp; omega)) _) | (refine Below.drew ?_) | (refine below_drewN ?_ _))⟩

end Go.Proofs.YtpcojfcbomkgpaaDoor
