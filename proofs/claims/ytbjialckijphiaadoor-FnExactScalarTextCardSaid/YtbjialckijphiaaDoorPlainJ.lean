/- impl.PlainOk: the contract (under way). -/
import Derived.Test.YtbjialckijphiaaDoorPlainI
namespace Go.Proofs.YtbjialckijphiaaDoor
open Go.RowKit

set_option maxHeartbeats 1000000 in
set_option maxRecDepth 100000 in
theorem iPlainOk (s : ByteArray) (w : World) (hs : s.size ≤ 1048576) (hT : Tabs w) (h1 : 0 < s.size) (hb : betweenB (s.size : Int) 1 400 = true) (hv : (runesO s).isSome = true) (hf : firstBad s = false) (e0 : ((s[0].toNat : Int) == 32) = false) (e1 : ((s[s.size - 1].toNat : Int) == 32) = false) :
    Calls Tryd.prog 42 #[.string s] w fun e w' => e = .returned (.bool (plainB s)) ∧ Below w.heap.size w w' := by
  have hx : decide ((0 : Int) ≤ Lib.indexByte badFirst.data.toList s[0]) = false := by rw [← firstBad_ix s h1]; exact hf
  have hcx : ∀ w0 : World, Calls Tryd.prog 49 #[.string badFirst, .int .u8 (s[0].toNat : Int)] w0 fun e w' => e = .returned (.int .i64 (Lib.indexByte badFirst.data.toList s[0])) ∧ w' = w0 := fun w0 => by
    have := Tryd.strings_IndexByte badFirst (s[0].toNat : Int) w0
    simpa using this
  generalize Lib.indexByte badFirst.data.toList s[0] = ix at hx hcx
  go_enter Tryd.func42, Tryd.ntmps42
  go_wp2_with (first | (go_at_call 34; refine (within_any _ _ _ _).mono ?_; rintro e w' ⟨rfl, rfl⟩) | (go_at_call 44; refine (iUtf8Ok s _ hs hT).mono ?_; rw [hv]; rintro e w1 ⟨rfl, hb1⟩) | (go_at_call 49; refine (hcx _).mono ?_; rintro e w2 ⟨rfl, rfl⟩))
  have HF := Lib.hid hf
  clear hT hx hcx hf e0 e1
  go_loopw [3, 36] (fun f i wr => ∃ k : Nat, k ≤ s.size ∧ f = .bool (allTo s digitN k) ∧ i = .int .i64 k ∧ allTo s okC k = true ∧ Below w.heap.size w wr) (fun _ i _ => s.size - (intOf i).toNat)
  case atStart => exact ⟨0, by omega, rfl, rfl, rfl, hb1⟩
  case round =>
    obtain ⟨k, hk, rfl, rfl, hall, hb3⟩ := hrel
    have HA := Lib.hid hall; clear hall
    by_cases hlt : k < s.size
    · have HE := fun w0 => iEnds s k w0 hlt hs
      cases c1 : decide ((s[k].toNat : Int) < 32)
      · cases c2 : ((s[k].toNat : Int) == 34)
        · cases c3 : ((s[k].toNat : Int) == 35)
          · cases c4 : ((s[k].toNat : Int) == 92)
            · cases c5 : endsB s k
              · rw [c5] at HE
                cases d0 : allTo s digitN k
                all_goals
                  go_wp2_with (first | (go_at_call 51; refine (HE _).mono ?_; rintro e w4 ⟨rfl, hd⟩) | (go_at_call 52; refine (isDigit_any _ _).mono ?_; rintro e w' ⟨rfl, rfl⟩))
                all_goals
                  have hb4 := bnext hb3 hd.below
                  have hx := bt_eq s k hlt
                  refine ⟨⟨k + 1, by omega, ?_, by go_num, by rw [allTo_succ, HA.out]; simp [okC, charBad, hx, c5]; simp at c1 c2 c3 c4; omega, hb4⟩, by simp [intOf]; omega⟩
                  rw [allTo_succ, d0, digitN, hx]
                  simp [digitB]
                (try (rw [Bool.eq_iff_iff]; simp; omega))
              · rw [c5] at HE
                go_wp2_with (go_at_call 51; refine (HE _).mono ?_; rintro e w4 ⟨rfl, hd⟩)
                go_ret
                exact ⟨ret_bool (plainB_bad hlt (by simp [charBad, c5])), bnext hb3 hd.below⟩
            · go_wp2_with fail
              go_ret
              exact ⟨ret_bool (plainB_bad hlt (by have hx := bt_eq s k hlt; simp at c4; simp [charBad, hx]; omega)), hb3⟩
          · go_wp2_with fail
            go_ret
            exact ⟨ret_bool (plainB_bad hlt (by have hx := bt_eq s k hlt; simp at c3; simp [charBad, hx]; omega)), hb3⟩
        · go_wp2_with fail
          go_ret
          exact ⟨ret_bool (plainB_bad hlt (by have hx := bt_eq s k hlt; simp at c2; simp [charBad, hx]; omega)), hb3⟩
      · go_wp2_with fail
        go_ret
        exact ⟨ret_bool (plainB_bad hlt (by have hx := bt_eq s k hlt; simp at c1; simp [charBad, hx]; omega)), hb3⟩
    · obtain rfl : k = s.size := by omega
      cases d0 : allTo s digitN s.size
      · have HP := Lib.hid (show plainB s = tailB s by rw [plainB, HF.out, HA.out, d0]; rfl)
        go_wp2_with fail
        all_goals
          go_ret
          refine ⟨ret_bool ?_, hb3⟩
          rw [HP.out, tailB]
          (try (first | rfl | simp [*]))
      · go_wp2_with fail
        go_ret
        exact ⟨ret_bool (by simp [plainB, d0]), hb3⟩
end Go.Proofs.YtbjialckijphiaaDoor
