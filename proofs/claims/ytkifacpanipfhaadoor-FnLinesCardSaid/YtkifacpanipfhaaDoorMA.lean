/- RuneI, QuoI, Plain, PlainS, PlainT, PlainI, PlainJ, PlainL, KeyText, merged. -/
import Derived.Test.YtkifacpanipfhaaDoorRunesI
import Derived.Shelf.Strings.MapAny
import Derived.Test.YtkifacpanipfhaaDoorLI
import Derived.Deep.RegionLaw
import Derived.Lib.IndexAny
namespace Go.Proofs.YtkifacpanipfhaaDoor
open Go.RowKit

theorem encode_eq {n : Int} (h : runeOkZ n = true) : Utf8.encode n = ⟨(rtext n).toArray⟩ := by
  have h0 : 0 ≤ n := by simp [runeOkZ, betweenB] at h; omega
  obtain ⟨m, rfl⟩ := Int.eq_ofNat_of_zero_le h0
  have ho : runeOkN m = true := by rw [← runeOkZ_nat]; exact h
  have hv : Utf8.valid (m : Int) = true := by rw [valid_iff]; exact ho
  rw [rtext_nat, runeBytes, if_pos ho]
  unfold Utf8.encode
  simp only [hv, if_true, Int.toNat_natCast]
  by_cases g1 : m < 128
  · rw [if_pos g1, if_pos g1]; rfl
  rw [if_neg g1, if_neg g1]
  by_cases g2 : m < 2048
  · rw [if_pos g2, if_pos g2]; rfl
  rw [if_neg g2, if_neg g2]
  by_cases g3 : m < 65536
  · rw [if_pos g3, if_pos g3]; rfl
  · rw [if_neg g3, if_neg g3]; rfl

set_option maxRecDepth 100000 in
theorem iRuneAt (s : ByteArray) (p : Int) (w : World) (hs : s.size ≤ 1048576) (hT : Tabs w) :
    Calls Tryd.prog 94 #[.string s, .int .i64 p] w fun e w' => e = .returned (.tuple #[.int .i64 (rN s p), .int .i64 (rNext s p)]) ∧ Below w.heap.size w w' := by
  by_cases h0 : p < 0
  · have E := Lib.hid (rAt_out s p (by simp [betweenB]; omega))
    go_enter Tryd.func94, Tryd.ntmps94
    go_wp2
    go_ret2
    exact ⟨ret_at E.out.1.symm E.out.2.symm, Below.refl _ _⟩
  by_cases h1 : p < (s.size : Int)
  rotate_left
  · have E := Lib.hid (rAt_out s p (by simp [betweenB]; omega))
    go_enter Tryd.func94, Tryd.ntmps94
    go_wp2
    go_ret2
    exact ⟨ret_at E.out.1.symm E.out.2.symm, Below.refl _ _⟩
  obtain ⟨k, rfl⟩ := Int.eq_ofNat_of_zero_le (show 0 ≤ p by omega)
  have hk : k < s.size := by omega
  have hk2 : k ≤ s.size := by omega
  clear h0 h1
  have hc := fun w0 hT => Tryd.utf8_DecodeRuneInString (s.extract k s.size) w0 hT
  rw [Lib.decodeGo_extract s k hk] at hc
  have hw1 := Lib.decode_width_pos s k hk
  have hw2 := width_le s k hk
  have hle := decode_le s k
  have HB := Lib.hid (rAt_bad s k)
  have HG := Lib.hid (rAt_good s k (Utf8.decode s k).1 (Utf8.decode s k).2 hk rfl)
  generalize Utf8.decode s k = d at hc hw1 hw2 hle HB HG
  obtain ⟨d1, d2⟩ := d
  simp only at hc hw1 hw2 hle HB HG
  have HC := Lib.hid (hc _ hT); clear hc
  cases e1 : ((d1 : Int) == 65533)
  · have E := Lib.hid (HG.out (by have g := e1; simp at g; simp [badD]; omega))
    go_enter Tryd.func94, Tryd.ntmps94
    go_wp2_with (go_at_call 114; refine HC.out.mono ?_; rintro e w1 ⟨rfl, hb1⟩)
    go_ret2
    exact ⟨ret_at E.out.1.symm E.out.2.symm, hb1⟩
  · cases e2 : decide ((d2 : Int) ≤ 1)
    · have E := Lib.hid (HG.out (by have g := e2; simp at g; simp [badD]; omega))
      go_enter Tryd.func94, Tryd.ntmps94
      go_wp2_with (go_at_call 114; refine HC.out.mono ?_; rintro e w1 ⟨rfl, hb1⟩)
      go_ret2
      exact ⟨ret_at E.out.1.symm E.out.2.symm, hb1⟩
    · have E := Lib.hid (HB.out (by have g := e2; have g' := e1; simp at g; simp at g'; simp [badD]; omega))
      go_enter Tryd.func94, Tryd.ntmps94
      go_wp2_with (go_at_call 114; refine HC.out.mono ?_; rintro e w1 ⟨rfl, hb1⟩)
      go_ret2
      exact ⟨ret_at E.out.1.symm E.out.2.symm, hb1⟩

end Go.Proofs.YtkifacpanipfhaaDoor
namespace Go.Proofs.YtkifacpanipfhaaDoor
open Go.RowKit

def escBytes : ByteArray := ⟨#[8, 12, 10, 13, 9]⟩
def hexDig : ByteArray := ⟨#[48, 49, 50, 51, 52, 53, 54, 55, 56, 57, 97, 98, 99, 100, 101, 102]⟩
theorem hexDig_at (m : Nat) (h : m < hexDig.size) : hexDig[m] = figB m := by
  have h16 : m < 16 := h
  rcases (show m = 0 ∨ m = 1 ∨ m = 2 ∨ m = 3 ∨ m = 4 ∨ m = 5 ∨ m = 6 ∨ m = 7 ∨ m = 8 ∨ m = 9 ∨ m = 10 ∨ m = 11 ∨ m = 12 ∨ m = 13 ∨ m = 14 ∨ m = 15 by omega) with rfl | rfl | rfl | rfl | rfl | rfl | rfl | rfl | rfl | rfl | rfl | rfl | rfl | rfl | rfl | rfl <;> rfl

theorem esc_none (c : UInt8) (g3 : ¬ c = 8) (g4 : ¬ c = 12) (g5 : ¬ c = 10) (g6 : ¬ c = 13) (g7 : ¬ c = 9) : Lib.indexByte escBytes.data.toList c = -1 := by
  have ne : ∀ d : UInt8, ¬ c = d → ¬ d = c := fun d h e => h e.symm
  show Lib.indexByte [8, 12, 10, 13, 9] c = -1
  simp [Lib.indexByte, ne _ g3, ne _ g4, ne _ g5, ne _ g6, ne _ g7]
theorem escB_ctl (c : UInt8) (h : c.toNat < 32) (g3 : ¬ c = 8) (g4 : ¬ c = 12) (g5 : ¬ c = 10) (g6 : ¬ c = 13) (g7 : ¬ c = 9) : escB c = [92, 117, 48, 48, figB (c.toNat / 16), figB (c.toNat % 16)] := by
  have ne : ∀ d : UInt8, 32 ≤ d.toNat → ¬ c = d := fun d hd e => by rw [e] at h; omega
  unfold escB
  rw [if_neg (ne 34 (by decide)), if_neg (ne 92 (by decide)), if_neg g3, if_neg g4, if_neg g5, if_neg g6, if_neg g7, if_pos h]
theorem escB_plain (c : UInt8) (g1 : ¬ c = 34) (g2 : ¬ c = 92) (h : ¬ c.toNat < 32) (g3 : ¬ c = 8) (g4 : ¬ c = 12) (g5 : ¬ c = 10) (g6 : ¬ c = 13) (g7 : ¬ c = 9) : escB c = [c] := by
  unfold escB
  rw [if_neg g1, if_neg g2, if_neg g3, if_neg g4, if_neg g5, if_neg g6, if_neg g7, if_neg h]
theorem hex_six (c : UInt8) (h : c.toNat < 32) : #[Value.int .u8 92, Value.int .u8 117, Value.int .u8 48, Value.int .u8 48, Value.int .u8 (hexDig[(((c.toNat : Nat) : Int) / 16).toNat]'(by show _ < 16; omega)).toNat, Value.int .u8 (hexDig[(((c.toNat : Nat) : Int) % 16).toNat]'(by show _ < 16; omega)).toNat] =
    ([92, 117, 48, 48, figB (c.toNat / 16), figB (c.toNat % 16)].map byteV).toArray := by
  have e1 : (((c.toNat : Nat) : Int) / 16).toNat = c.toNat / 16 := by omega
  have e2 : (((c.toNat : Nat) : Int) % 16).toNat = c.toNat % 16 := by omega
  rw [hexDig_at, hexDig_at, e1, e2]
  rfl

end Go.Proofs.YtkifacpanipfhaaDoor
namespace Go.Proofs.YtkifacpanipfhaaDoor
open Go.RowKit

def endsB (s : ByteArray) (i : Nat) : Bool := bt s i == 58 && (decide (i + 1 = s.size) || bt s (i + 1) == 32)

theorem sEnds (s : ByteArray) (i : Nat) (w : World) (hi : i < s.size) (hs : s.size ≤ 1048576) :
    Calls Tryd.prog 127 #[.string s, .int .i64 i] w fun e w' => e = .returned (.bool (endsB s i)) ∧ Drew w w' := by
  have HE := Lib.hid (show endsB s i = (bt s i == 58 && (decide (i + 1 = s.size) || bt s (i + 1) == 32)) from rfl)
  rw [bt_eq s i hi] at HE
  by_cases h1 : i + 1 = s.size
  · have e1 : ((i : Int) == (s.size : Int) - 1) = true := by simp; omega
    cases h0 : ((s[i].toNat : Int) == 58)
    all_goals
      go_enter Tryd.func127, Tryd.ntmps127
      go_wp2_with fail
      go_ret
      refine ⟨ret_bool ?_, Drew.refl _⟩; rw [HE.out]; clear HE; have g0 := h0; (try have g2 := h2); simp at g0; (try simp at g2); simp [h1]; (try omega)
  · have e1 : ((i : Int) == (s.size : Int) - 1) = false := by simp; omega
    have hi2 : i + 1 < s.size := by omega
    rw [bt_eq s (i + 1) hi2] at HE
    cases h0 : ((s[i].toNat : Int) == 58) <;> cases h2 : ((s[i + 1].toNat : Int) == 32)
    all_goals
      go_enter Tryd.func127, Tryd.ntmps127
      go_wp2_with fail
      go_ret
      refine ⟨ret_bool ?_, Drew.refl _⟩; rw [HE.out]; clear HE; have g0 := h0; (try have g2 := h2); simp at g0; (try simp at g2); simp [h1]; (try omega)

end Go.Proofs.YtkifacpanipfhaaDoor
namespace Go.Proofs.YtkifacpanipfhaaDoor
open Go.RowKit

def badFirst : ByteArray := ⟨#[45, 63, 58, 44, 91, 93, 123, 125, 38, 42, 33, 124, 62, 39, 37, 64, 96]⟩
def charBad (s : ByteArray) (i : Nat) : Bool := decide (bt s i < 32) || bt s i == 34 || bt s i == 35 || bt s i == 92 || endsB s i
def digitN (s : ByteArray) (i : Nat) : Bool := decide (48 ≤ bt s i) && decide (bt s i ≤ 57)
def allTo (s : ByteArray) (p : ByteArray → Nat → Bool) (k : Nat) : Bool := (List.range k).all (p s)
theorem allTo_succ (s : ByteArray) (p : ByteArray → Nat → Bool) (k : Nat) : allTo s p (k + 1) = (allTo s p k && p s k) := by
  simp [allTo, List.range_succ]

def okC (s : ByteArray) (i : Nat) : Bool := !charBad s i
def firstBad (s : ByteArray) : Bool := (List.range 17).any fun j => bt s 0 == bt badFirst j
theorem firstBad_yes {s : ByteArray} {j : Nat} (h : j < 17) (e : (bt s 0 == bt badFirst j) = true) : firstBad s = true := List.any_eq_true.2 ⟨j, List.mem_range.2 h, e⟩
theorem firstBad_no {s : ByteArray} (h : ∀ j, j < 17 → (bt s 0 == bt badFirst j) = false) : firstBad s = false := by
  rw [firstBad, List.any_eq_false]; intro x hx; rw [h x (List.mem_range.1 hx)]; simp

def tailB (s : ByteArray) : Bool := !s.toList == [110, 117, 108, 108] && !s.toList == [126] && !s.toList == [116, 114, 117, 101] && !s.toList == [102, 97, 108, 115, 101]
/-- What PlainOk says of a text that is neither empty nor too long, no broken UTF-8, and has no blank at either end. -/
def plainB (s : ByteArray) : Bool := !firstBad s && (allTo s okC s.size && (!allTo s digitN s.size && tailB s))
theorem allTo_stop (s : ByteArray) (p : ByteArray → Nat → Bool) (n k : Nat) (h : k < n) (e : p s k = false) : allTo s p n = false := by
  rw [allTo, List.all_eq_false]; exact ⟨k, List.mem_range.2 h, by simp [e]⟩
theorem plainB_bad {s : ByteArray} {k : Nat} (h : k < s.size) (e : charBad s k = true) : false = plainB s := by
  simp [plainB, allTo_stop s okC s.size k h (by simp [okC, e])]
theorem plainB_first {s : ByteArray} (e : firstBad s = true) : false = plainB s := by simp [plainB, e]

set_option maxHeartbeats 1000000 in
set_option maxRecDepth 100000 in
theorem sPlainOk (s : ByteArray) (w : World) (hs : s.size ≤ 1048576) (h1 : 1 ≤ s.size) (hb : betweenB (s.size : Int) 1 400 = true) (hv : (runesO s).isSome = true) (e0 : ((s[0].toNat : Int) == 32) = false) (e1 : ((s[s.size - 1].toNat : Int) == 32) = false) :
    Calls Tryd.prog 112 #[.string s] w fun e w' => e = .returned (.bool (plainB s)) ∧ Below w.heap.size w w' := by
  have hB : badFirst = ⟨#[45, 63, 58, 44, 91, 93, 123, 125, 38, 42, 33, 124, 62, 39, 37, 64, 96]⟩ := rfl
  have hBS : badFirst.size = 17 := rfl
  go_enter Tryd.func112, Tryd.ntmps112
  go_wp2_with (go_at_call 89; refine (l01In_any _ _ _ _).mono ?_; rintro e w' ⟨rfl, rfl⟩)
  refine (sUtf8Ok _ _ hs).mono ?_; rintro e w1 ⟨rfl, hb1⟩
  rw [hv]
  go_wp2_with fail
  rw [← hB]
  clear hB
  have HFN := Lib.hid (fun h => firstBad_no (s := s) h)
  have HFY := Lib.hid (fun j h e => firstBad_yes (s := s) (j := j) h e)
  have HBT := Lib.hid (fun j h => bt_eq badFirst j h)
  have HB0 := Lib.hid (bt_eq s 0 (by omega))
  generalize badFirst = B at *
  go_loopw [4] (fun i wr => ∃ k : Nat, k ≤ 17 ∧ i = .int .i64 k ∧ (∀ j, j < k → (bt s 0 == bt B j) = false) ∧ Below w.heap.size w wr) (fun i _ => 17 - (intOf i).toNat)
  case atStart => exact ⟨0, by omega, rfl, fun j hj => by omega, hb1⟩
  case round =>
    obtain ⟨k, hk, rfl, hall, hb2⟩ := hrel
    have HA := Lib.hid hall; clear hall
    by_cases hlt : k < B.size
    · cases hq : ((s[0].toNat : Int) == (B[k].toNat : Int))
      all_goals
        go_wp2_with fail
        go_quiet (fail)
        go_wp2_with fail
      · go_roundw
        case rel =>
          refine ⟨k + 1, by omega, by go_num, fun j hj => ?_, ⟨hb2.os, hb2.tape, hb2.output, hb2.size, hb2.block⟩⟩
          by_cases hjk : j < k
          · exact HA.out j hjk
          · obtain rfl : j = k := by omega
            rw [HB0.out, HBT.out _ hlt]
            have g := hq; simp at g; simp; omega
        case measure => simp [intOf]; omega
      · go_ret
        refine ⟨ret_bool (plainB_first (HFY.out k (by omega) ?_)), ?_⟩
        · rw [HB0.out, HBT.out _ hlt]; have g := hq; simp at g; simp; omega
        exact ⟨hb2.os, hb2.tape, hb2.output, hb2.size, hb2.block⟩
    · obtain rfl : k = 17 := by omega
      have HF := Lib.hid (HFN.out HA.out)
      clear HFN HFY HBT HA hb1
      go_wp2_with fail
      clear hBS hlt
      go_loopw [5, 6] (fun f i wr => ∃ k : Nat, k ≤ s.size ∧ f = .bool (allTo s digitN k) ∧ i = .int .i64 k ∧ allTo s okC k = true ∧ Below w.heap.size w wr) (fun _ i _ => s.size - (intOf i).toNat)
      case atStart => exact ⟨0, by omega, rfl, rfl, rfl, hb2⟩
      case round =>
        obtain ⟨k, hk, rfl, rfl, hall, hb3⟩ := hrel
        have HA := Lib.hid hall; clear hall
        by_cases hlt : k < s.size
        · have HE := fun w0 => sEnds s k w0 hlt hs
          cases c1 : decide ((s[k].toNat : Int) < 32)
          · cases c2 : ((s[k].toNat : Int) == 34)
            · cases c3 : ((s[k].toNat : Int) == 35)
              · cases c4 : ((s[k].toNat : Int) == 92)
                · cases c5 : endsB s k
                  · rw [c5] at HE
                    cases d0 : allTo s digitN k <;> cases d1 : decide ((48 : Int) ≤ (s[k].toNat : Int)) <;> cases d2 : decide ((s[k].toNat : Int) ≤ 57)
                    all_goals
                      go_wp2_with (go_at_call 127; refine (HE _).mono ?_; rintro e w4 ⟨rfl, hd⟩)
                    all_goals
                      refine ⟨?_, ?measure⟩
                      (iterate 41 (apply Exists.intro))
                      refine ⟨?rel, rfl⟩
                      case rel =>
                        have hb4 := bnext hb3 hd.below
                        have hx := bt_eq s k hlt
                        refine ⟨k + 1, by omega, ?_, by go_num, by rw [allTo_succ, HA.out]; simp [okC, charBad, hx, c5]; simp at c1 c2 c3 c4; omega, ⟨hb4.os, hb4.tape, hb4.output, hb4.size, hb4.block⟩⟩
                        rw [allTo_succ, d0]; simp [digitN, hx]; (try simp at d1); (try simp at d2); (try omega)
                      case measure => simp [intOf]; omega
                  · rw [c5] at HE
                    go_wp2_with (go_at_call 127; refine (HE _).mono ?_; rintro e w4 ⟨rfl, hd⟩)
                    go_ret
                    exact ⟨ret_bool (plainB_bad hlt (by simp [charBad, c5])), bnext hb3 hd.below⟩
                · go_wp2_with fail
                  go_ret
                  exact ⟨ret_bool (plainB_bad hlt (by have hx := bt_eq s k hlt; simp at c4; simp [charBad, hx]; omega)), hb3⟩
              · go_wp2_with fail
                go_ret
                exact ⟨ret_bool (plainB_bad hlt (by have hx := bt_eq s k hlt; simp at c3; simp [charBad, hx]; omega)), hb3⟩
            · go_wp2_with fail
              go_ret
              exact ⟨ret_bool (plainB_bad hlt (by have hx := bt_eq s k hlt; simp at c2; simp [charBad, hx]; omega)), hb3⟩
          · go_wp2_with fail
            go_ret
            exact ⟨ret_bool (plainB_bad hlt (by have hx := bt_eq s k hlt; simp at c1; simp [charBad, hx]; omega)), hb3⟩
        · obtain rfl : k = s.size := by omega
          cases d0 : allTo s digitN s.size
          · have HP := Lib.hid (show plainB s = tailB s by rw [plainB, HF.out, HA.out, d0]; rfl)
            go_wp2_with fail
            all_goals
              go_ret
              refine ⟨ret_bool ?_, hb3⟩
              rw [HP.out, tailB]
              (try (first | rfl | simp [*]))
          · go_wp2_with fail
            go_ret
            exact ⟨ret_bool (by simp [plainB, d0]), hb3⟩
end Go.Proofs.YtkifacpanipfhaaDoor
namespace Go.Proofs.YtkifacpanipfhaaDoor
open Go.RowKit

def plainAll (s : ByteArray) : Bool := betweenB s.size 1 400 && ((runesO s).isSome && (!(bt s 0 == 32) && (!(bt s (s.size - 1) == 32) && plainB s)))

set_option maxRecDepth 100000 in
theorem sPlainAll (s : ByteArray) (w : World) (hs : s.size ≤ 1048576) :
    Calls Tryd.prog 112 #[.string s] w fun e w' => e = .returned (.bool (plainAll s)) ∧ Below w.heap.size w w' := by
  have HP := Lib.hid (show plainAll s = (betweenB s.size 1 400 && ((runesO s).isSome && (!(bt s 0 == 32) && (!(bt s (s.size - 1) == 32) && plainB s)))) from rfl)
  cases hb : betweenB (s.size : Int) 1 400
  · go_enter Tryd.func112, Tryd.ntmps112
    go_wp2_with (go_at_call 89; refine (l01In_any _ _ _ _).mono ?_; rintro e w' ⟨rfl, rfl⟩)
    go_ret
    exact ⟨ret_bool (by rw [HP.out, hb]; rfl), Below.refl _ _⟩
  have h1 : 1 ≤ s.size := by have := hb; simp [betweenB] at this; omega
  cases hv : (runesO s).isSome
  · go_enter Tryd.func112, Tryd.ntmps112
    go_wp2_with (go_at_call 89; refine (l01In_any _ _ _ _).mono ?_; rintro e w' ⟨rfl, rfl⟩)
    refine (sUtf8Ok _ _ hs).mono ?_; rintro e w1 ⟨rfl, hb1⟩
    rw [hv]
    go_wp2_with fail
    go_ret
    exact ⟨ret_bool (by rw [HP.out, hb, hv]; rfl), hb1⟩
  have q0 := bt_eq s 0 (by omega)
  have q1 := bt_eq s (s.size - 1) (by omega)
  cases e0 : ((s[0].toNat : Int) == 32)
  · have e0' : (bt s 0 == 32) = false := by rw [q0]; simp at e0; simp; omega
    cases e1 : ((s[s.size - 1].toNat : Int) == 32)
    · have e1' : (bt s (s.size - 1) == 32) = false := by rw [q1]; simp at e1; simp; omega
      refine (sPlainOk s w hs h1 hb hv e0 e1).mono ?_
      rintro e w' ⟨rfl, hb1⟩
      exact ⟨ret_bool (by rw [HP.out, hb, hv, e0', e1']; rfl), hb1⟩
    · have e1' : (bt s (s.size - 1) == 32) = true := by rw [q1]; simp at e1; simp; omega
      go_enter Tryd.func112, Tryd.ntmps112
      go_wp2_with (go_at_call 89; refine (l01In_any _ _ _ _).mono ?_; rintro e w' ⟨rfl, rfl⟩)
      refine (sUtf8Ok _ _ hs).mono ?_; rintro e w1 ⟨rfl, hb1⟩
      rw [hv]
      go_wp2_with fail
      go_ret
      exact ⟨ret_bool (by rw [HP.out, hb, hv, e0', e1']; rfl), hb1⟩
  · have e0' : (bt s 0 == 32) = true := by rw [q0]; simp at e0; simp; omega
    go_enter Tryd.func112, Tryd.ntmps112
    go_wp2_with (go_at_call 89; refine (l01In_any _ _ _ _).mono ?_; rintro e w' ⟨rfl, rfl⟩)
    refine (sUtf8Ok _ _ hs).mono ?_; rintro e w1 ⟨rfl, hb1⟩
    rw [hv]
    go_wp2_with fail
    go_ret
    exact ⟨ret_bool (by rw [HP.out, hb, hv, e0']; rfl), hb1⟩

end Go.Proofs.YtkifacpanipfhaaDoor
namespace Go.Proofs.YtkifacpanipfhaaDoor
open Go.RowKit

theorem firstBad_ix (s : ByteArray) (h : 0 < s.size) : firstBad s = decide ((0 : Int) ≤ Lib.indexByte badFirst.data.toList s[0]) := by
  rw [← Lib.contains_iff_indexByte, firstBad, bt_eq s 0 h]
  generalize s[0] = c
  rw [Bool.eq_iff_iff, List.any_eq_true, List.contains_iff_mem]
  constructor
  · rintro ⟨j, hj, e⟩
    have hj := List.mem_range.1 hj
    have hj2 : j < badFirst.size := hj
    rw [bt_eq badFirst j hj2] at e
    have e2 : c = badFirst[j] := UInt8.toNat_inj.1 (by simpa using e)
    rw [e2]
    exact List.getElem_mem (l := badFirst.data.toList) (by simpa using hj2)
  · intro hm
    obtain ⟨j, hj, e⟩ := List.getElem_of_mem hm
    have hj2 : j < badFirst.size := by simpa using hj
    refine ⟨j, List.mem_range.2 hj2, ?_⟩
    rw [bt_eq badFirst j hj2, ← e]
    simp
    rfl

end Go.Proofs.YtkifacpanipfhaaDoor
namespace Go.Proofs.YtkifacpanipfhaaDoor
open Go.RowKit

end Go.Proofs.YtkifacpanipfhaaDoor
namespace Go.Proofs.YtkifacpanipfhaaDoor
open Go.RowKit

def keyTextB (s : ByteArray) : ByteArray := if plainAll s = true then s else quotedB s

theorem sKeyText (s : ByteArray) (w : World) (hs : s.size ≤ 1048576) :
    Calls Tryd.prog 93 #[.string s] w fun e w' => e = .returned (.string (keyTextB s)) ∧ Below w.heap.size w w' := by
  have HK : Hid (keyTextB s = if plainAll s = true then s else quotedB s) := rfl
  have hp := sPlainAll s w hs
  cases h : plainAll s
  all_goals
    rw [h] at hp
    go_enter Tryd.func93, Tryd.ntmps93
    go_wp2_with (first | (go_at_call 112; refine hp.mono ?_; rintro e w1 ⟨rfl, hb1⟩) | (go_at_call 113; refine (sQuoted _ _ hs).mono ?_; rintro e w2 ⟨rfl, hb2⟩))
    go_ret
  · exact ⟨ret_str (by rw [HK.out, h]; rfl), bnext hb1 hb2⟩
  · exact ⟨ret_str (by rw [HK.out, h]; rfl), hb1⟩

end Go.Proofs.YtkifacpanipfhaaDoor
