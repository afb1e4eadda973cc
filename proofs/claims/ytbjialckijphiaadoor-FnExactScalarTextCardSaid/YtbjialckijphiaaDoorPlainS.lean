/- spec.PlainOk: the contract (under way). -/
import Derived.Test.YtbjialckijphiaaDoorPlain
namespace Go.Proofs.YtbjialckijphiaaDoor
open Go.RowKit

def badFirst : ByteArray := ⟨#[45, 63, 58, 44, 91, 93, 123, 125, 38, 42, 33, 124, 62, 39, 37, 64, 96]⟩
def charBad (s : ByteArray) (i : Nat) : Bool := decide (bt s i < 32) || bt s i == 34 || bt s i == 35 || bt s i == 92 || endsB s i
def digitN (s : ByteArray) (i : Nat) : Bool := decide (48 ≤ bt s i) && decide (bt s i ≤ 57)
def allTo (s : ByteArray) (p : ByteArray → Nat → Bool) (k : Nat) : Bool := (List.range k).all (p s)
theorem allTo_succ (s : ByteArray) (p : ByteArray → Nat → Bool) (k : Nat) : allTo s p (k + 1) = (allTo s p k && p s k) := by
  simp [allTo, List.range_succ]

def okC (s : ByteArray) (i : Nat) : Bool := !charBad s i
def firstBad (s : ByteArray) : Bool := (List.range 17).any fun j => bt s 0 == bt badFirst j
theorem firstBad_yes {s : ByteArray} {j : Nat} (h : j < 17) (e : (bt s 0 == bt badFirst j) = true) : firstBad s = true := List.any_eq_true.2 ⟨j, List.mem_range.2 h, e⟩
theorem firstBad_no {s : ByteArray} (h : ∀ j, j < 17 → (bt s 0 == bt badFirst j) = false) : firstBad s = false := by
  rw [firstBad, List.any_eq_false]; intro x hx; rw [h x (List.mem_range.1 hx)]; simp

def tailB (s : ByteArray) : Bool := !s.toList == [110, 117, 108, 108] && !s.toList == [126] && !s.toList == [116, 114, 117, 101] && !s.toList == [102, 97, 108, 115, 101]
/-- What PlainOk says of a text that is neither empty nor too long, no broken UTF-8, and has no blank at either end. -/
def plainB (s : ByteArray) : Bool := !firstBad s && (allTo s okC s.size && (!allTo s digitN s.size && tailB s))
theorem allTo_stop (s : ByteArray) (p : ByteArray → Nat → Bool) (n k : Nat) (h : k < n) (e : p s k = false) : allTo s p n = false := by
  rw [allTo, List.all_eq_false]; exact ⟨k, List.mem_range.2 h, by simp [e]⟩
theorem plainB_bad {s : ByteArray} {k : Nat} (h : k < s.size) (e : charBad s k = true) : false = plainB s := by
  simp [plainB, allTo_stop s okC s.size k h (by simp [okC, e])]
theorem plainB_first {s : ByteArray} (e : firstBad s = true) : false = plainB s := by simp [plainB, e]

set_option maxHeartbeats 1000000 in
set_option maxRecDepth 100000 in
theorem sPlainOk (s : ByteArray) (w : World) (hs : s.size ≤ 1048576) (h1 : 1 ≤ s.size) (hb : betweenB (s.size : Int) 1 400 = true) (hv : (runesO s).isSome = true) (e0 : ((s[0].toNat : Int) == 32) = false) (e1 : ((s[s.size - 1].toNat : Int) == 32) = false) :
    Calls Tryd.prog 41 #[.string s] w fun e w' => e = .returned (.bool (plainB s)) ∧ Below w.heap.size w w' := by
  have hB : badFirst = ⟨#[45, 63, 58, 44, 91, 93, 123, 125, 38, 42, 33, 124, 62, 39, 37, 64, 96]⟩ := rfl
  have hBS : badFirst.size = 17 := rfl
  go_enter Tryd.func41, Tryd.ntmps41
  go_wp2_with (go_at_call 32; refine (l01In_any _ _ _ _).mono ?_; rintro e w' ⟨rfl, rfl⟩)
  refine (sUtf8Ok _ _ hs).mono ?_; rintro e w1 ⟨rfl, hb1⟩
  rw [hv]
  go_wp2_with fail
  rw [← hB]
  clear hB
  have HFN := Lib.hid (fun h => firstBad_no (s := s) h)
  have HFY := Lib.hid (fun j h e => firstBad_yes (s := s) (j := j) h e)
  have HBT := Lib.hid (fun j h => bt_eq badFirst j h)
  have HB0 := Lib.hid (bt_eq s 0 (by omega))
  generalize badFirst = B at *
  go_loopw [4] (fun i wr => ∃ k : Nat, k ≤ 17 ∧ i = .int .i64 k ∧ (∀ j, j < k → (bt s 0 == bt B j) = false) ∧ Below w.heap.size w wr) (fun i _ => 17 - (intOf i).toNat)
  case atStart => exact ⟨0, by omega, rfl, fun j hj => by omega, hb1⟩
  case round =>
    obtain ⟨k, hk, rfl, hall, hb2⟩ := hrel
    have HA := Lib.hid hall; clear hall
    by_cases hlt : k < B.size
    · cases hq : ((s[0].toNat : Int) == (B[k].toNat : Int))
      all_goals
        go_wp2_with fail
        go_quiet (fail)
        go_wp2_with fail
      · go_roundw
        case rel =>
          refine ⟨k + 1, by omega, by go_num, fun j hj => ?_, ⟨hb2.os, hb2.tape, hb2.output, hb2.size, hb2.block⟩⟩
          by_cases hjk : j < k
          · exact HA.out j hjk
          · obtain rfl : j = k := by omega
            rw [HB0.out, HBT.out _ hlt]
            have g := hq; simp at g; simp; omega
        case measure => simp [intOf]; omega
      · go_ret
        refine ⟨ret_bool (plainB_first (HFY.out k (by omega) ?_)), ?_⟩
        · rw [HB0.out, HBT.out _ hlt]; have g := hq; simp at g; simp; omega
        exact ⟨hb2.os, hb2.tape, hb2.output, hb2.size, hb2.block⟩
    · obtain rfl : k = 17 := by omega
      have HF := Lib.hid (HFN.out HA.out)
      clear HFN HFY HBT HA hb1
      go_wp2_with fail
      clear hBS hlt
      go_loopw [5, 6] (fun f i wr => ∃ k : Nat, k ≤ s.size ∧ f = .bool (allTo s digitN k) ∧ i = .int .i64 k ∧ allTo s okC k = true ∧ Below w.heap.size w wr) (fun _ i _ => s.size - (intOf i).toNat)
      case atStart => exact ⟨0, by omega, rfl, rfl, rfl, hb2⟩
      case round =>
        obtain ⟨k, hk, rfl, rfl, hall, hb3⟩ := hrel
        have HA := Lib.hid hall; clear hall
        by_cases hlt : k < s.size
        · have HE := fun w0 => sEnds s k w0 hlt hs
          cases c1 : decide ((s[k].toNat : Int) < 32)
          · cases c2 : ((s[k].toNat : Int) == 34)
            · cases c3 : ((s[k].toNat : Int) == 35)
              · cases c4 : ((s[k].toNat : Int) == 92)
                · cases c5 : endsB s k
                  · rw [c5] at HE
                    cases d0 : allTo s digitN k <;> cases d1 : decide ((48 : Int) ≤ (s[k].toNat : Int)) <;> cases d2 : decide ((s[k].toNat : Int) ≤ 57)
                    all_goals
                      go_wp2_with (go_at_call 50; refine (HE _).mono ?_; rintro e w4 ⟨rfl, hd⟩)
                    all_goals
                      refine ⟨?_, ?measure⟩
                      (iterate 41 (apply Exists.intro))
                      refine ⟨?rel, rfl⟩
                      case rel =>
                        have hb4 := bnext hb3 hd.below
                        have hx := bt_eq s k hlt
                        refine ⟨k + 1, by omega, ?_, by go_num, by rw [allTo_succ, HA.out]; simp [okC, charBad, hx, c5]; simp at c1 c2 c3 c4; omega, ⟨hb4.os, hb4.tape, hb4.output, hb4.size, hb4.block⟩⟩
                        rw [allTo_succ, d0]; simp [digitN, hx]; (try simp at d1); (try simp at d2); (try omega)
                      case measure => simp [intOf]; omega
                  · rw [c5] at HE
                    go_wp2_with (go_at_call 50; refine (HE _).mono ?_; rintro e w4 ⟨rfl, hd⟩)
                    go_ret
                    exact ⟨ret_bool (plainB_bad hlt (by simp [charBad, c5])), bnext hb3 hd.below⟩
                · go_wp2_with fail
                  go_ret
                  exact ⟨ret_bool (plainB_bad hlt (by have hx := bt_eq s k hlt; simp at c4; simp [charBad, hx]; omega)), hb3⟩
              · go_wp2_with fail
                go_ret
                exact ⟨ret_bool (plainB_bad hlt (by have hx := bt_eq s k hlt; simp at c3; simp [charBad, hx]; omega)), hb3⟩
            · go_wp2_with fail
              go_ret
              exact ⟨ret_bool (plainB_bad hlt (by have hx := bt_eq s k hlt; simp at c2; simp [charBad, hx]; omega)), hb3⟩
          · go_wp2_with fail
            go_ret
            exact ⟨ret_bool (plainB_bad hlt (by have hx := bt_eq s k hlt; simp at c1; simp [charBad, hx]; omega)), hb3⟩
        · obtain rfl : k = s.size := by omega
          cases d0 : allTo s digitN s.size
          · have HP := Lib.hid (show plainB s = tailB s by rw [plainB, HF.out, HA.out, d0]; rfl)
            go_wp2_with fail
            all_goals
              go_ret
              refine ⟨ret_bool ?_, hb3⟩
              rw [HP.out, tailB]
              (try (first | rfl | simp [*]))
          · go_wp2_with fail
            go_ret
            exact ⟨ret_bool (by simp [plainB, d0]), hb3⟩
end Go.Proofs.YtbjialckijphiaaDoor
