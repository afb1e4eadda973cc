/- Plain, PlainS, PlainT, PlainI, PlainJ, PlainL, KeyText, IdtP, merged. -/
import Derived.Test.YtomhbbchflblpaaGreatDoorVA
import Derived.Lib.IndexAny
import Derived.Test.YtomhbbchflblpaaGreatDoorVB
namespace Go.Proofs.YtomhbbchflblpaaGreatDoor
open Go.RowKit

def endsB (s : ByteArray) (i : Nat) : Bool := bt s i == 58 && (decide (i + 1 = s.size) || bt s (i + 1) == 32)

theorem sEnds (s : ByteArray) (i : Nat) (w : World) (hi : i < s.size) (hs : s.size ≤ 1048576) :
    Calls Tryz.prog 48 #[.string s, .int .i64 i] w fun e w' => e = .returned (.bool (endsB s i)) ∧ Drew w w' := by
  have HE := Lib.hid (show endsB s i = (bt s i == 58 && (decide (i + 1 = s.size) || bt s (i + 1) == 32)) from rfl)
  rw [bt_eq s i hi] at HE
  by_cases h1 : i + 1 = s.size
  · have e1 : ((i : Int) == (s.size : Int) - 1) = true := by simp; omega
    cases h0 : ((s[i].toNat : Int) == 58)
    all_goals
      go_enter Tryz.func48, Tryz.ntmps48
      go_wp2_with fail
      go_ret
      refine ⟨ret_bool ?_, Drew.refl _⟩; rw [HE.out]; clear HE; have g0 := h0; (try have g2 := h2); simp at g0; (try simp at g2); simp [h1]; (try omega)
  · have e1 : ((i : Int) == (s.size : Int) - 1) = false := by simp; omega
    have hi2 : i + 1 < s.size := by omega
    rw [bt_eq s (i + 1) hi2] at HE
    cases h0 : ((s[i].toNat : Int) == 58) <;> cases h2 : ((s[i + 1].toNat : Int) == 32)
    all_goals
      go_enter Tryz.func48, Tryz.ntmps48
      go_wp2_with fail
      go_ret
      refine ⟨ret_bool ?_, Drew.refl _⟩; rw [HE.out]; clear HE; have g0 := h0; (try have g2 := h2); simp at g0; (try simp at g2); simp [h1]; (try omega)

theorem iEnds (s : ByteArray) (i : Nat) (w : World) (hi : i < s.size) (hs : s.size ≤ 1048576) :
    Calls Tryz.prog 79 #[.string s, .int .i64 i] w fun e w' => e = .returned (.bool (endsB s i)) ∧ Drew w w' := by
  have HE := Lib.hid (show endsB s i = (bt s i == 58 && (decide (i + 1 = s.size) || bt s (i + 1) == 32)) from rfl)
  rw [bt_eq s i hi] at HE
  by_cases h1 : i + 1 = s.size
  · have e1 : ((i : Int) + 1 == (s.size : Int)) = true := by simp; omega
    cases h0 : ((s[i].toNat : Int) == 58)
    all_goals
      go_enter Tryz.func79, Tryz.ntmps79
      go_wp2_with fail
      go_ret
      refine ⟨ret_bool ?_, Drew.refl _⟩; rw [HE.out]; clear HE; have g0 := h0; (try have g2 := h2); simp at g0; (try simp at g2); simp [h1]; (try omega)
  · have e1 : ((i : Int) + 1 == (s.size : Int)) = false := by simp; omega
    have hi2 : i + 1 < s.size := by omega
    rw [bt_eq s (i + 1) hi2] at HE
    cases h0 : ((s[i].toNat : Int) == 58) <;> cases h2 : ((s[i + 1].toNat : Int) == 32)
    all_goals
      go_enter Tryz.func79, Tryz.ntmps79
      go_wp2_with fail
      go_ret
      refine ⟨ret_bool ?_, Drew.refl _⟩; rw [HE.out]; clear HE; have g0 := h0; (try have g2 := h2); simp at g0; (try simp at g2); simp [h1]; (try omega)

end Go.Proofs.YtomhbbchflblpaaGreatDoor
namespace Go.Proofs.YtomhbbchflblpaaGreatDoor
open Go.RowKit

def badFirst : ByteArray := ⟨#[45, 63, 58, 44, 91, 93, 123, 125, 38, 42, 33, 124, 62, 39, 37, 64, 96]⟩
def charBad (s : ByteArray) (i : Nat) : Bool := decide (bt s i < 32) || bt s i == 34 || bt s i == 35 || bt s i == 92 || endsB s i
def digitN (s : ByteArray) (i : Nat) : Bool := decide (48 ≤ bt s i) && decide (bt s i ≤ 57)
def allTo (s : ByteArray) (p : ByteArray → Nat → Bool) (k : Nat) : Bool := (List.range k).all (p s)
theorem allTo_succ (s : ByteArray) (p : ByteArray → Nat → Bool) (k : Nat) : allTo s p (k + 1) = (allTo s p k && p s k) := by
  simp [allTo, List.range_succ]

def okC (s : ByteArray) (i : Nat) : Bool := !charBad s i
def firstBad (s : ByteArray) : Bool := (List.range 17).any fun j => bt s 0 == bt badFirst j
theorem firstBad_yes {s : ByteArray} {j : Nat} (h : j < 17) (e : (bt s 0 == bt badFirst j) = true) : firstBad s = true := List.any_eq_true.2 ⟨j, List.mem_range.2 h, e⟩
theorem firstBad_no {s : ByteArray} (h : ∀ j, j < 17 → (bt s 0 == bt badFirst j) = false) : firstBad s = false := by
  rw [firstBad, List.any_eq_false]; intro x hx; rw [h x (List.mem_range.1 hx)]; simp

def tailB (s : ByteArray) : Bool := !s.toList == [110, 117, 108, 108] && !s.toList == [126] && !s.toList == [116, 114, 117, 101] && !s.toList == [102, 97, 108, 115, 101]
/-- What PlainOk says of a text that is neither empty nor too long, no broken UTF-8, and has no blank at either end. -/
def plainB (s : ByteArray) : Bool := !firstBad s && (allTo s okC s.size && (!allTo s digitN s.size && tailB s))
theorem allTo_stop (s : ByteArray) (p : ByteArray → Nat → Bool) (n k : Nat) (h : k < n) (e : p s k = false) : allTo s p n = false := by
  rw [allTo, List.all_eq_false]; exact ⟨k, List.mem_range.2 h, by simp [e]⟩
theorem plainB_bad {s : ByteArray} {k : Nat} (h : k < s.size) (e : charBad s k = true) : false = plainB s := by
  simp [plainB, allTo_stop s okC s.size k h (by simp [okC, e])]
theorem plainB_first {s : ByteArray} (e : firstBad s = true) : false = plainB s := by simp [plainB, e]

set_option maxHeartbeats 1000000 in
set_option maxRecDepth 100000 in
theorem sPlainOk (s : ByteArray) (w : World) (hs : s.size ≤ 1048576) (h1 : 1 ≤ s.size) (hb : betweenB (s.size : Int) 1 400 = true) (hv : (runesO s).isSome = true) (e0 : ((s[0].toNat : Int) == 32) = false) (e1 : ((s[s.size - 1].toNat : Int) == 32) = false) :
    Calls Tryz.prog 20 #[.string s] w fun e w' => e = .returned (.bool (plainB s)) ∧ Below w.heap.size w w' := by
  have hB : badFirst = ⟨#[45, 63, 58, 44, 91, 93, 123, 125, 38, 42, 33, 124, 62, 39, 37, 64, 96]⟩ := rfl
  have hBS : badFirst.size = 17 := rfl
  go_enter Tryz.func20, Tryz.ntmps20
  go_wp2_with (go_at_call 46; refine (l01In_any _ _ _ _).mono ?_; rintro e w' ⟨rfl, rfl⟩)
  refine (sUtf8Ok _ _ hs).mono ?_; rintro e w1 ⟨rfl, hb1⟩
  rw [hv]
  go_wp2_with fail
  rw [← hB]
  clear hB
  have HFN := Lib.hid (fun h => firstBad_no (s := s) h)
  have HFY := Lib.hid (fun j h e => firstBad_yes (s := s) (j := j) h e)
  have HBT := Lib.hid (fun j h => bt_eq badFirst j h)
  have HB0 := Lib.hid (bt_eq s 0 (by omega))
  generalize badFirst = B at *
  go_loopw [4] (fun i wr => ∃ k : Nat, k ≤ 17 ∧ i = .int .i64 k ∧ (∀ j, j < k → (bt s 0 == bt B j) = false) ∧ Below w.heap.size w wr) (fun i _ => 17 - (intOf i).toNat)
  case atStart => exact ⟨0, by omega, rfl, fun j hj => by omega, hb1⟩
  case round =>
    obtain ⟨k, hk, rfl, hall, hb2⟩ := hrel
    have HA := Lib.hid hall; clear hall
    by_cases hlt : k < B.size
    · cases hq : ((s[0].toNat : Int) == (B[k].toNat : Int))
      all_goals
        go_wp2_with fail
        go_quiet (fail)
        go_wp2_with fail
      · go_roundw
        case rel =>
          refine ⟨k + 1, by omega, by go_num, fun j hj => ?_, ⟨hb2.os, hb2.tape, hb2.output, hb2.size, hb2.block⟩⟩
          by_cases hjk : j < k
          · exact HA.out j hjk
          · obtain rfl : j = k := by omega
            rw [HB0.out, HBT.out _ hlt]
            have g := hq; simp at g; simp; omega
        case measure => simp [intOf]; omega
      · go_ret
        refine ⟨ret_bool (plainB_first (HFY.out k (by omega) ?_)), ?_⟩
        · rw [HB0.out, HBT.out _ hlt]; have g := hq; simp at g; simp; omega
        exact ⟨hb2.os, hb2.tape, hb2.output, hb2.size, hb2.block⟩
    · obtain rfl : k = 17 := by omega
      have HF := Lib.hid (HFN.out HA.out)
      clear HFN HFY HBT HA hb1
      go_wp2_with fail
      clear hBS hlt
      go_loopw [5, 6] (fun f i wr => ∃ k : Nat, k ≤ s.size ∧ f = .bool (allTo s digitN k) ∧ i = .int .i64 k ∧ allTo s okC k = true ∧ Below w.heap.size w wr) (fun _ i _ => s.size - (intOf i).toNat)
      case atStart => exact ⟨0, by omega, rfl, rfl, rfl, hb2⟩
      case round =>
        obtain ⟨k, hk, rfl, rfl, hall, hb3⟩ := hrel
        have HA := Lib.hid hall; clear hall
        by_cases hlt : k < s.size
        · have HE := fun w0 => sEnds s k w0 hlt hs
          cases c1 : decide ((s[k].toNat : Int) < 32)
          · cases c2 : ((s[k].toNat : Int) == 34)
            · cases c3 : ((s[k].toNat : Int) == 35)
              · cases c4 : ((s[k].toNat : Int) == 92)
                · cases c5 : endsB s k
                  · rw [c5] at HE
                    cases d0 : allTo s digitN k <;> cases d1 : decide ((48 : Int) ≤ (s[k].toNat : Int)) <;> cases d2 : decide ((s[k].toNat : Int) ≤ 57)
                    all_goals
                      go_wp2_with (go_at_call 48; refine (HE _).mono ?_; rintro e w4 ⟨rfl, hd⟩)
                    all_goals
                      refine ⟨?_, ?measure⟩
                      (iterate 41 (apply Exists.intro))
                      refine ⟨?rel, rfl⟩
                      case rel =>
                        have hb4 := bnext hb3 hd.below
                        have hx := bt_eq s k hlt
                        refine ⟨k + 1, by omega, ?_, by go_num, by rw [allTo_succ, HA.out]; simp [okC, charBad, hx, c5]; simp at c1 c2 c3 c4; omega, ⟨hb4.os, hb4.tape, hb4.output, hb4.size, hb4.block⟩⟩
                        rw [allTo_succ, d0]; simp [digitN, hx]; (try simp at d1); (try simp at d2); (try omega)
                      case measure => simp [intOf]; omega
                  · rw [c5] at HE
                    go_wp2_with (go_at_call 48; refine (HE _).mono ?_; rintro e w4 ⟨rfl, hd⟩)
                    go_ret
                    exact ⟨ret_bool (plainB_bad hlt (by simp [charBad, c5])), bnext hb3 hd.below⟩
                · go_wp2_with fail
                  go_ret
                  exact ⟨ret_bool (plainB_bad hlt (by have hx := bt_eq s k hlt; simp at c4; simp [charBad, hx]; omega)), hb3⟩
              · go_wp2_with fail
                go_ret
                exact ⟨ret_bool (plainB_bad hlt (by have hx := bt_eq s k hlt; simp at c3; simp [charBad, hx]; omega)), hb3⟩
            · go_wp2_with fail
              go_ret
              exact ⟨ret_bool (plainB_bad hlt (by have hx := bt_eq s k hlt; simp at c2; simp [charBad, hx]; omega)), hb3⟩
          · go_wp2_with fail
            go_ret
            exact ⟨ret_bool (plainB_bad hlt (by have hx := bt_eq s k hlt; simp at c1; simp [charBad, hx]; omega)), hb3⟩
        · obtain rfl : k = s.size := by omega
          cases d0 : allTo s digitN s.size
          · have HP := Lib.hid (show plainB s = tailB s by rw [plainB, HF.out, HA.out, d0]; rfl)
            go_wp2_with fail
            all_goals
              go_ret
              refine ⟨ret_bool ?_, hb3⟩
              rw [HP.out, tailB]
              (try (first | rfl | simp [*]))
          · go_wp2_with fail
            go_ret
            exact ⟨ret_bool (by simp [plainB, d0]), hb3⟩
end Go.Proofs.YtomhbbchflblpaaGreatDoor
namespace Go.Proofs.YtomhbbchflblpaaGreatDoor
open Go.RowKit

def plainAll (s : ByteArray) : Bool := betweenB s.size 1 400 && ((runesO s).isSome && (!(bt s 0 == 32) && (!(bt s (s.size - 1) == 32) && plainB s)))

set_option maxRecDepth 100000 in
theorem sPlainAll (s : ByteArray) (w : World) (hs : s.size ≤ 1048576) :
    Calls Tryz.prog 20 #[.string s] w fun e w' => e = .returned (.bool (plainAll s)) ∧ Below w.heap.size w w' := by
  have HP := Lib.hid (show plainAll s = (betweenB s.size 1 400 && ((runesO s).isSome && (!(bt s 0 == 32) && (!(bt s (s.size - 1) == 32) && plainB s)))) from rfl)
  cases hb : betweenB (s.size : Int) 1 400
  · go_enter Tryz.func20, Tryz.ntmps20
    go_wp2_with (go_at_call 46; refine (l01In_any _ _ _ _).mono ?_; rintro e w' ⟨rfl, rfl⟩)
    go_ret
    exact ⟨ret_bool (by rw [HP.out, hb]; rfl), Below.refl _ _⟩
  have h1 : 1 ≤ s.size := by have := hb; simp [betweenB] at this; omega
  cases hv : (runesO s).isSome
  · go_enter Tryz.func20, Tryz.ntmps20
    go_wp2_with (go_at_call 46; refine (l01In_any _ _ _ _).mono ?_; rintro e w' ⟨rfl, rfl⟩)
    refine (sUtf8Ok _ _ hs).mono ?_; rintro e w1 ⟨rfl, hb1⟩
    rw [hv]
    go_wp2_with fail
    go_ret
    exact ⟨ret_bool (by rw [HP.out, hb, hv]; rfl), hb1⟩
  have q0 := bt_eq s 0 (by omega)
  have q1 := bt_eq s (s.size - 1) (by omega)
  cases e0 : ((s[0].toNat : Int) == 32)
  · have e0' : (bt s 0 == 32) = false := by rw [q0]; simp at e0; simp; omega
    cases e1 : ((s[s.size - 1].toNat : Int) == 32)
    · have e1' : (bt s (s.size - 1) == 32) = false := by rw [q1]; simp at e1; simp; omega
      refine (sPlainOk s w hs h1 hb hv e0 e1).mono ?_
      rintro e w' ⟨rfl, hb1⟩
      exact ⟨ret_bool (by rw [HP.out, hb, hv, e0', e1']; rfl), hb1⟩
    · have e1' : (bt s (s.size - 1) == 32) = true := by rw [q1]; simp at e1; simp; omega
      go_enter Tryz.func20, Tryz.ntmps20
      go_wp2_with (go_at_call 46; refine (l01In_any _ _ _ _).mono ?_; rintro e w' ⟨rfl, rfl⟩)
      refine (sUtf8Ok _ _ hs).mono ?_; rintro e w1 ⟨rfl, hb1⟩
      rw [hv]
      go_wp2_with fail
      go_ret
      exact ⟨ret_bool (by rw [HP.out, hb, hv, e0', e1']; rfl), hb1⟩
  · have e0' : (bt s 0 == 32) = true := by rw [q0]; simp at e0; simp; omega
    go_enter Tryz.func20, Tryz.ntmps20
    go_wp2_with (go_at_call 46; refine (l01In_any _ _ _ _).mono ?_; rintro e w' ⟨rfl, rfl⟩)
    refine (sUtf8Ok _ _ hs).mono ?_; rintro e w1 ⟨rfl, hb1⟩
    rw [hv]
    go_wp2_with fail
    go_ret
    exact ⟨ret_bool (by rw [HP.out, hb, hv, e0']; rfl), hb1⟩

end Go.Proofs.YtomhbbchflblpaaGreatDoor
namespace Go.Proofs.YtomhbbchflblpaaGreatDoor
open Go.RowKit

theorem firstBad_ix (s : ByteArray) (h : 0 < s.size) : firstBad s = decide ((0 : Int) ≤ Lib.indexByte badFirst.data.toList s[0]) := by
  rw [← Lib.contains_iff_indexByte, firstBad, bt_eq s 0 h]
  generalize s[0] = c
  rw [Bool.eq_iff_iff, List.any_eq_true, List.contains_iff_mem]
  constructor
  · rintro ⟨j, hj, e⟩
    have hj := List.mem_range.1 hj
    have hj2 : j < badFirst.size := hj
    rw [bt_eq badFirst j hj2] at e
    have e2 : c = badFirst[j] := UInt8.toNat_inj.1 (by simpa using e)
    rw [e2]
    exact List.getElem_mem (l := badFirst.data.toList) (by simpa using hj2)
  · intro hm
    obtain ⟨j, hj, e⟩ := List.getElem_of_mem hm
    have hj2 : j < badFirst.size := by simpa using hj
    refine ⟨j, List.mem_range.2 hj2, ?_⟩
    rw [bt_eq badFirst j hj2, ← e]
    simp
    rfl

end Go.Proofs.YtomhbbchflblpaaGreatDoor
namespace Go.Proofs.YtomhbbchflblpaaGreatDoor
open Go.RowKit

set_option maxHeartbeats 1000000 in
set_option maxRecDepth 100000 in
theorem iPlainOk (s : ByteArray) (w : World) (hs : s.size ≤ 1048576) (hT : Tabs w) (h1 : 0 < s.size) (hb : betweenB (s.size : Int) 1 400 = true) (hv : (runesO s).isSome = true) (hf : firstBad s = false) (e0 : ((s[0].toNat : Int) == 32) = false) (e1 : ((s[s.size - 1].toNat : Int) == 32) = false) :
    Calls Tryz.prog 39 #[.string s] w fun e w' => e = .returned (.bool (plainB s)) ∧ Below w.heap.size w w' := by
  have hx : decide ((0 : Int) ≤ Lib.indexByte badFirst.data.toList s[0]) = false := by rw [← firstBad_ix s h1]; exact hf
  have hcx : ∀ w0 : World, Calls Tryz.prog 25 #[.string badFirst, .int .u8 (s[0].toNat : Int)] w0 fun e w' => e = .returned (.int .i64 (Lib.indexByte badFirst.data.toList s[0])) ∧ w' = w0 := fun w0 => by
    have := Tryz.strings_IndexByte badFirst (s[0].toNat : Int) w0
    simpa using this
  generalize Lib.indexByte badFirst.data.toList s[0] = ix at hx hcx
  go_enter Tryz.func39, Tryz.ntmps39
  go_wp2_with (first | (go_at_call 77; refine (within_any _ _ _ _).mono ?_; rintro e w' ⟨rfl, rfl⟩) | (go_at_call 78; refine (iUtf8Ok s _ hs hT).mono ?_; rw [hv]; rintro e w1 ⟨rfl, hb1⟩) | (go_at_call 25; refine (hcx _).mono ?_; rintro e w2 ⟨rfl, rfl⟩))
  have HF := Lib.hid hf
  clear hT hx hcx hf e0 e1
  go_loopw [3, 36] (fun f i wr => ∃ k : Nat, k ≤ s.size ∧ f = .bool (allTo s digitN k) ∧ i = .int .i64 k ∧ allTo s okC k = true ∧ Below w.heap.size w wr) (fun _ i _ => s.size - (intOf i).toNat)
  case atStart => exact ⟨0, by omega, rfl, rfl, rfl, hb1⟩
  case round =>
    obtain ⟨k, hk, rfl, rfl, hall, hb3⟩ := hrel
    have HA := Lib.hid hall; clear hall
    by_cases hlt : k < s.size
    · have HE := fun w0 => iEnds s k w0 hlt hs
      cases c1 : decide ((s[k].toNat : Int) < 32)
      · cases c2 : ((s[k].toNat : Int) == 34)
        · cases c3 : ((s[k].toNat : Int) == 35)
          · cases c4 : ((s[k].toNat : Int) == 92)
            · cases c5 : endsB s k
              · rw [c5] at HE
                cases d0 : allTo s digitN k
                all_goals
                  go_wp2_with (first | (go_at_call 79; refine (HE _).mono ?_; rintro e w4 ⟨rfl, hd⟩) | (go_at_call 29; refine (isDigit_any _ _).mono ?_; rintro e w' ⟨rfl, rfl⟩))
                all_goals
                  have hb4 := bnext hb3 hd.below
                  have hx := bt_eq s k hlt
                  refine ⟨⟨k + 1, by omega, ?_, by go_num, by rw [allTo_succ, HA.out]; simp [okC, charBad, hx, c5]; simp at c1 c2 c3 c4; omega, hb4⟩, by simp [intOf]; omega⟩
                  rw [allTo_succ, d0, digitN, hx]
                  simp [digitB]
                (try (rw [Bool.eq_iff_iff]; simp; omega))
              · rw [c5] at HE
                go_wp2_with (go_at_call 79; refine (HE _).mono ?_; rintro e w4 ⟨rfl, hd⟩)
                go_ret
                exact ⟨ret_bool (plainB_bad hlt (by simp [charBad, c5])), bnext hb3 hd.below⟩
            · go_wp2_with fail
              go_ret
              exact ⟨ret_bool (plainB_bad hlt (by have hx := bt_eq s k hlt; simp at c4; simp [charBad, hx]; omega)), hb3⟩
          · go_wp2_with fail
            go_ret
            exact ⟨ret_bool (plainB_bad hlt (by have hx := bt_eq s k hlt; simp at c3; simp [charBad, hx]; omega)), hb3⟩
        · go_wp2_with fail
          go_ret
          exact ⟨ret_bool (plainB_bad hlt (by have hx := bt_eq s k hlt; simp at c2; simp [charBad, hx]; omega)), hb3⟩
      · go_wp2_with fail
        go_ret
        exact ⟨ret_bool (plainB_bad hlt (by have hx := bt_eq s k hlt; simp at c1; simp [charBad, hx]; omega)), hb3⟩
    · obtain rfl : k = s.size := by omega
      cases d0 : allTo s digitN s.size
      · have HP := Lib.hid (show plainB s = tailB s by rw [plainB, HF.out, HA.out, d0]; rfl)
        go_wp2_with fail
        all_goals
          go_ret
          refine ⟨ret_bool ?_, hb3⟩
          rw [HP.out, tailB]
          (try (first | rfl | simp [*]))
      · go_wp2_with fail
        go_ret
        exact ⟨ret_bool (by simp [plainB, d0]), hb3⟩
end Go.Proofs.YtomhbbchflblpaaGreatDoor
namespace Go.Proofs.YtomhbbchflblpaaGreatDoor
open Go.RowKit

set_option maxRecDepth 100000 in
theorem iPlainAll (s : ByteArray) (w : World) (hs : s.size ≤ 1048576) (hT : Tabs w) :
    Calls Tryz.prog 39 #[.string s] w fun e w' => e = .returned (.bool (plainAll s)) ∧ Below w.heap.size w w' := by
  have HP := Lib.hid (show plainAll s = (betweenB s.size 1 400 && ((runesO s).isSome && (!(bt s 0 == 32) && (!(bt s (s.size - 1) == 32) && plainB s)))) from rfl)
  cases hb : betweenB (s.size : Int) 1 400
  · go_enter Tryz.func39, Tryz.ntmps39
    go_wp2_with (go_at_call 77; refine (within_any _ _ _ _).mono ?_; rintro e w' ⟨rfl, rfl⟩)
    go_ret
    exact ⟨ret_bool (by rw [HP.out, hb]; rfl), Below.refl _ _⟩
  have h1 : 0 < s.size := by have := hb; simp [betweenB] at this; omega
  have HU := fun w0 hT => iUtf8Ok s w0 hs hT
  cases hv : (runesO s).isSome
  · rw [hv] at HU
    go_enter Tryz.func39, Tryz.ntmps39
    go_wp2_with (first | (go_at_call 77; refine (within_any _ _ _ _).mono ?_; rintro e w' ⟨rfl, rfl⟩) | (go_at_call 78; refine (HU _ hT).mono ?_; rintro e w1 ⟨rfl, hb1⟩))
    go_ret
    exact ⟨ret_bool (by rw [HP.out, hb, hv]; rfl), hb1⟩
  rw [hv] at HU
  have q0 := bt_eq s 0 (by omega)
  have q1 := bt_eq s (s.size - 1) (by omega)
  have hcx : ∀ w0 : World, Calls Tryz.prog 25 #[.string badFirst, .int .u8 (s[0].toNat : Int)] w0 fun e w' => e = .returned (.int .i64 (Lib.indexByte badFirst.data.toList s[0])) ∧ w' = w0 := fun w0 => by
    have := Tryz.strings_IndexByte badFirst (s[0].toNat : Int) w0
    simpa using this
  have HX := firstBad_ix s h1
  generalize Lib.indexByte badFirst.data.toList s[0] = ix at HX hcx
  cases hf : firstBad s
  · have hx : decide ((0 : Int) ≤ ix) = false := by rw [← HX]; exact hf
    have HC := Lib.hid hcx; have HU2 := Lib.hid HU; have HT := Lib.hid hT
    clear HX hcx HU hT
    cases e0 : ((s[0].toNat : Int) == 32)
    · have e0' : (bt s 0 == 32) = false := by rw [q0]; simp at e0; simp; omega
      cases e1 : ((s[s.size - 1].toNat : Int) == 32)
      · have e1' : (bt s (s.size - 1) == 32) = false := by rw [q1]; simp at e1; simp; omega
        refine (iPlainOk s w hs HT.out h1 hb hv hf e0 e1).mono ?_
        rintro e w' ⟨rfl, hb1⟩
        exact ⟨ret_bool (by rw [HP.out, hb, hv, e0', e1']; rfl), hb1⟩
      · have e1' : (bt s (s.size - 1) == 32) = true := by rw [q1]; simp at e1; simp; omega
        go_enter Tryz.func39, Tryz.ntmps39
        go_wp2_with (first | (go_at_call 77; refine (within_any _ _ _ _).mono ?_; rintro e w' ⟨rfl, rfl⟩) | (go_at_call 78; refine (HU2.out _ HT.out).mono ?_; rintro e w1 ⟨rfl, hb1⟩) | (go_at_call 25; refine (HC.out _).mono ?_; rintro e w2 ⟨rfl, rfl⟩))
        go_ret
        exact ⟨ret_bool (by rw [HP.out, hb, hv, e0', e1']; rfl), hb1⟩
    · have e0' : (bt s 0 == 32) = true := by rw [q0]; simp at e0; simp; omega
      go_enter Tryz.func39, Tryz.ntmps39
      go_wp2_with (first | (go_at_call 77; refine (within_any _ _ _ _).mono ?_; rintro e w' ⟨rfl, rfl⟩) | (go_at_call 78; refine (HU2.out _ HT.out).mono ?_; rintro e w1 ⟨rfl, hb1⟩) | (go_at_call 25; refine (HC.out _).mono ?_; rintro e w2 ⟨rfl, rfl⟩))
      go_ret
      exact ⟨ret_bool (by rw [HP.out, hb, hv, e0']; rfl), hb1⟩
  · have hx : decide ((0 : Int) ≤ ix) = true := by rw [← HX]; exact hf
    go_enter Tryz.func39, Tryz.ntmps39
    go_wp2_with (first | (go_at_call 77; refine (within_any _ _ _ _).mono ?_; rintro e w' ⟨rfl, rfl⟩) | (go_at_call 78; refine (HU _ hT).mono ?_; rintro e w1 ⟨rfl, hb1⟩) | (go_at_call 25; refine (hcx _).mono ?_; rintro e w2 ⟨rfl, rfl⟩))
    go_ret
    exact ⟨ret_bool (by rw [HP.out, ← plainB_first hf]; simp), hb1⟩

end Go.Proofs.YtomhbbchflblpaaGreatDoor
namespace Go.Proofs.YtomhbbchflblpaaGreatDoor
open Go.RowKit

def keyTextB (s : ByteArray) : ByteArray := if plainAll s = true then s else quotedB s

theorem iKeyText (s : ByteArray) (w : World) (hs : s.size ≤ 1048576) (hT : Tabs w) :
    Calls Tryz.prog 15 #[.string s] w fun e w' => e = .returned (.string (keyTextB s)) ∧ Below w.heap.size w w' := by
  have HK : Hid (keyTextB s = if plainAll s = true then s else quotedB s) := rfl
  have hp := iPlainAll s w hs hT
  have HT := Lib.hid hT; clear hT
  cases h : plainAll s
  all_goals
    rw [h] at hp
    go_enter Tryz.func15, Tryz.ntmps15
    go_wp2_with (first | (go_at_call 39; refine hp.mono ?_; rintro e w1 ⟨rfl, hb1⟩) | (go_at_call 40; refine (iQuoted _ _ hs (tabs_keep HT.out hb1)).mono ?_; rintro e w2 ⟨rfl, hb2⟩))
    go_ret
  · exact ⟨ret_str (by rw [HK.out, h]; rfl), bnext hb1 hb2⟩
  · exact ⟨ret_str (by rw [HK.out, h]; rfl), hb1⟩

end Go.Proofs.YtomhbbchflblpaaGreatDoor
namespace Go.Proofs.YtomhbbchflblpaaGreatDoor
open Go.RowKit

def bytesB (l : List UInt8) : ByteArray := ⟨l.toArray⟩
def scalTB (k : Int) (f : Bool) (n : Int) (s : ByteArray) : ByteArray :=
  if k = 1 then ⟨#[110, 117, 108, 108]⟩ else if k = 2 then (if f = true then ⟨#[116, 114, 117, 101]⟩ else ⟨#[102, 97, 108, 115, 101]⟩) else if k = 3 then ⟨(Lib.itoa n).toArray⟩ else if k = 4 then keyTextB s
  else if k = 5 then ⟨#[91, 93]⟩ else ⟨#[123, 125]⟩
theorem scal_null {k : Int} {f : Bool} {n : Int} {s : ByteArray} (h : k = 1) : scalTB k f n s = ⟨#[110, 117, 108, 108]⟩ := by rw [scalTB, if_pos h]
theorem scal_true {k : Int} {f : Bool} {n : Int} {s : ByteArray} (h : k = 2) (hf : f = true) : scalTB k f n s = ⟨#[116, 114, 117, 101]⟩ := by rw [scalTB, if_neg (by omega), if_pos h, if_pos hf]
theorem scal_false {k : Int} {f : Bool} {n : Int} {s : ByteArray} (h : k = 2) (hf : f = false) : scalTB k f n s = ⟨#[102, 97, 108, 115, 101]⟩ := by rw [scalTB, if_neg (by omega), if_pos h, if_neg (by simp [hf])]
theorem scal_int {k : Int} {f : Bool} {n : Int} {s : ByteArray} (h : k = 3) : scalTB k f n s = ⟨(Lib.itoa n).toArray⟩ := by rw [scalTB, if_neg (by omega), if_neg (by omega), if_pos h]
theorem scal_text {k : Int} {f : Bool} {n : Int} {s : ByteArray} (h : k = 4) : scalTB k f n s = keyTextB s := by rw [scalTB, if_neg (by omega), if_neg (by omega), if_neg (by omega), if_pos h]
theorem scal_list {k : Int} {f : Bool} {n : Int} {s : ByteArray} (h : k = 5) : scalTB k f n s = ⟨#[91, 93]⟩ := by rw [scalTB, if_neg (by omega), if_neg (by omega), if_neg (by omega), if_neg (by omega), if_pos h]
theorem scal_map {k : Int} {f : Bool} {n : Int} {s : ByteArray} (h : k = 6) : scalTB k f n s = ⟨#[123, 125]⟩ := by rw [scalTB, if_neg (by omega), if_neg (by omega), if_neg (by omega), if_neg (by omega), if_neg (by omega)]
/-- What the braced text of such a tree is. -/
theorem scal_say {t : Tr} (h : t.kind < 4) (h1 : 1 ≤ t.kind) : (⟨(sayB t).toArray⟩ : ByteArray) = scalTB t.kind t.flag t.num t.text := by
  rcases (show t.kind = 1 ∨ t.kind = 2 ∨ t.kind = 3 by omega) with e | e | e
  · rw [say_null e, scal_null e]; rfl
  · cases hf : t.flag
    · rw [say_false e hf, scal_false e rfl]; rfl
    · rw [say_true e hf, scal_true e rfl]; rfl
  · rw [say_int e, scal_int e]

def twoSp (l : ByteArray) : ByteArray := ⟨#[32, 32]⟩ ++ l
def firstB (L : List ByteArray) : ByteArray := strAt L 0
/-- The lines of one child. -/
def entryL (m : Bool) (key : ByteArray) (leaf : Bool) (L : List ByteArray) : List ByteArray :=
  if m = true then (if leaf = true then [(keyTextB key ++ ⟨#[58, 32]⟩) ++ firstB L] else (keyTextB key ++ ⟨#[58]⟩) :: L.map twoSp)
  else (⟨#[45, 32]⟩ ++ firstB L) :: (L.drop 1).map twoSp
mutual
def linesT : Tr → List ByteArray
  | .mk k f n s keys kids => if kids.isEmpty = true then [scalTB k f n s] else linesK (k == 6) keys 0 kids
def linesK (m : Bool) (keys : List ByteArray) (i : Nat) : List Tr → List ByteArray
  | [] => []
  | t :: ts => entryL m (strAt keys i) t.kids.isEmpty (linesT t) ++ linesK m keys (i + 1) ts
end
theorem lines_leaf {t : Tr} (h : t.kids.length = 0) : linesT t = [scalTB t.kind t.flag t.num t.text] := by
  cases t; simp only [Tr.kids] at h
  simp only [linesT, Tr.kind, Tr.flag, Tr.num, Tr.text]
  rw [if_pos (by rw [List.isEmpty_iff]; exact List.eq_nil_of_length_eq_zero h)]
theorem lines_node {t : Tr} (h : 0 < t.kids.length) : linesT t = linesK (t.kind == 6) t.keys 0 t.kids := by
  cases t; simp only [Tr.kids] at h
  simp only [linesT, Tr.kind, Tr.keys, Tr.kids]
  rw [if_neg]
  intro e
  rw [List.isEmpty_iff] at e
  rw [e] at h; simp at h
def LinesAt (m : Bool) (keys : List ByteArray) (kids : List Tr) (k : Nat) (acc all : List ByteArray) : Prop := acc ++ linesK m keys k (kids.drop k) = all
theorem linesAt_start (m : Bool) (keys : List ByteArray) (kids : List Tr) : LinesAt m keys kids 0 [] (linesK m keys 0 kids) := rfl
theorem linesAt_step {m : Bool} {keys : List ByteArray} {kids : List Tr} {k : Nat} {acc all : List ByteArray} (h : LinesAt m keys kids k acc all) (hk : k < kids.length) :
    LinesAt m keys kids (k + 1) (acc ++ entryL m (strAt keys k) (kidAt kids k).kids.isEmpty (linesT (kidAt kids k))) all := by
  rw [LinesAt, kids_drop hk, linesK] at h
  rw [LinesAt, ← h]; simp only [List.append_assoc]
theorem linesAt_end {m : Bool} {keys : List ByteArray} {kids : List Tr} {k : Nat} {acc all : List ByteArray} (h : LinesAt m keys kids k acc all) (hk : kids.length ≤ k) : acc = all := by
  rw [LinesAt, List.drop_of_length_le hk, linesK, List.append_nil] at h; exact h
theorem linesAt_len {m : Bool} {keys : List ByteArray} {kids : List Tr} {k : Nat} {acc all : List ByteArray} (h : LinesAt m keys kids k acc all) : acc.length ≤ all.length := by
  rw [LinesAt] at h; rw [← h]; simp only [List.length_append]; omega
theorem keyText_len (s : ByteArray) : (keyTextB s).size ≤ 6 * s.size + 2 := by
  have h := qL_len s
  unfold keyTextB
  split
  · omega
  · have e : (qL s).length = (quotedB s).size := by unfold qL; simp
    omega
theorem scal_len {k : Int} {f : Bool} {n : Int} {s : ByteArray} (hs : s.size ≤ 400) (hn : -9223372036854775808 ≤ n ∧ n ≤ 9223372036854775807) : (scalTB k f n s).size ≤ 2402 := by
  have h1 := keyText_len s
  have h2 := itoa_len n hn
  unfold scalTB
  split
  · decide
  split
  · split <;> decide
  split
  · show (Lib.itoa n).toArray.size ≤ 2402
    rw [List.size_toArray]; omega
  split
  · omega
  split <;> decide
theorem entry_len (m : Bool) (key : ByteArray) (leaf : Bool) (L : List ByteArray) : (entryL m key leaf L).length ≤ L.length + 1 ∧ 0 < (entryL m key leaf L).length := by
  unfold entryL
  split
  · split <;> simp
  · simp only [List.length_cons, List.length_map, List.length_drop]; omega
theorem strAt_le {L : List ByteArray} {B : Nat} (h : ∀ l, l ∈ L → l.size ≤ B) (i : Nat) : (strAt L i).size ≤ B := by
  rcases Nat.lt_or_ge i L.length with hi | hi
  · rw [strAt, List.getD_eq_getElem?_getD, List.getElem?_eq_getElem hi]; exact h _ (List.getElem_mem hi)
  · rw [strAt, List.getD_eq_getElem?_getD, List.getElem?_eq_none hi]; exact Nat.zero_le _
theorem entry_size {m : Bool} {key : ByteArray} {leaf : Bool} {L : List ByteArray} {B : Nat} (hk : key.size ≤ 400) (h : ∀ l, l ∈ L → l.size ≤ B) : ∀ l, l ∈ entryL m key leaf L → l.size ≤ B + 2404 := by
  have h1 := keyText_len key
  have h0 := strAt_le h 0
  have ht : ∀ l, l.size ≤ B → (twoSp l).size ≤ B + 2404 := fun l hl => by
    unfold twoSp; rw [ByteArray.size_append]
    have : (⟨#[32, 32]⟩ : ByteArray).size = 2 := rfl
    omega
  intro l hl
  unfold entryL firstB at hl
  split at hl
  · split at hl
    · simp only [List.mem_singleton] at hl; subst hl
      rw [ByteArray.size_append, ByteArray.size_append]
      have : (⟨#[58, 32]⟩ : ByteArray).size = 2 := rfl
      omega
    · simp only [List.mem_cons, List.mem_map] at hl
      rcases hl with rfl | ⟨x, hx, rfl⟩
      · rw [ByteArray.size_append]
        have : (⟨#[58]⟩ : ByteArray).size = 1 := rfl
        omega
      · exact ht x (h x hx)
  · simp only [List.mem_cons, List.mem_map] at hl
    rcases hl with rfl | ⟨x, hx, rfl⟩
    · rw [ByteArray.size_append]
      have : (⟨#[45, 32]⟩ : ByteArray).size = 2 := rfl
      omega
    · exact ht x (h x (List.mem_of_mem_drop hx))
mutual
theorem linesT_len : ∀ t : Tr, shapeB t = true → t.nums → (linesT t).length + 1 ≤ 2 * t.nodes ∧ 0 < (linesT t).length ∧ ∀ l, l ∈ linesT t → l.size ≤ 5000 * t.nodes
  | .mk k f n s keys kids, h, hn => by
    obtain ⟨h1, h2, h3⟩ := shape_parts h
    obtain ⟨a1, a2, a3, a4, a5, a6⟩ := head_kind h1
    simp only [Tr.text, Tr.keys, Tr.kids] at a3 h2 h3
    have hb := nums_bd hn
    simp only [Tr.num] at hb
    have hs := text_size a3
    simp only [Tr.nums] at hn
    rw [linesT]
    by_cases hk : kids.isEmpty = true
    · rw [if_pos hk]
      have := scal_len (k := k) (f := f) hs hb
      simp only [Tr.nodes]
      refine ⟨by simp; omega, by simp, fun l hl => ?_⟩
      simp only [List.mem_singleton] at hl; subst hl; omega
    · rw [if_neg hk]
      obtain ⟨b1, b2, b3⟩ := linesK_len (k == 6) keys (key_size h2) kids 0 h3 hn.2
      simp only [Tr.nodes]
      refine ⟨by omega, ?_, fun l hl => by have := b3 l hl; omega⟩
      cases kids with
      | nil => simp at hk
      | cons t ts =>
        have := entry_len (k == 6) (strAt keys 0) t.kids.isEmpty (linesT t)
        rw [linesK, List.length_append]; omega
theorem linesK_len (m : Bool) (keys : List ByteArray) (hk : ∀ j, (strAt keys j).size ≤ 400) : ∀ (l : List Tr) (i : Nat), shapeL l = true → numsL l → (linesK m keys i l).length ≤ 2 * nodesL l ∧ True ∧ ∀ x, x ∈ linesK m keys i l → x.size ≤ 5000 * nodesL l + 2404
  | [], i, _, _ => by simp [linesK]
  | t :: ts, i, h, hn => by
    rw [shapeL, Bool.and_eq_true] at h
    simp only [numsL] at hn
    obtain ⟨a1, a2, a3⟩ := linesT_len t h.1 hn.1
    obtain ⟨b1, b2, b3⟩ := linesK_len m keys hk ts (i + 1) h.2 hn.2
    have c := entry_len m (strAt keys i) t.kids.isEmpty (linesT t)
    have d := entry_size (m := m) (leaf := t.kids.isEmpty) (hk i) a3
    simp only [linesK, nodesL, List.length_append, List.mem_append]
    refine ⟨by omega, trivial, fun x hx => ?_⟩
    rcases hx with hx | hx
    · have := d x hx; omega
    · have := b3 x hx; omega
end

end Go.Proofs.YtomhbbchflblpaaGreatDoor
