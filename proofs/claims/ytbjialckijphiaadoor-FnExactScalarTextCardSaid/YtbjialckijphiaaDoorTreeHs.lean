/- spec.l08Shape: the contract (printed by wip/gen/shapes.py). -/
import Derived.Test.YtbjialckijphiaaDoorTreeX
namespace Go.Proofs.YtbjialckijphiaaDoor
open Go.RowKit

def headS (t : Tr) : Bool := betweenB t.kind 1 6 && (!(t.flag && t.kind != 2) && (!(t.num != 0 && t.kind != 3) && (!(!t.text.toList.isEmpty && t.kind != 4) && (!(decide (0 < t.keys.length) && t.kind != 6) && (!(decide (0 < t.kids.length) && decide (t.kind < 5)) && textOkB t.text)))))
theorem headB_S (t : Tr) : headB t = (headS t && !(t.kind == 6 && t.keys.length != t.kids.length)) := by
  unfold headB headS
  simp only [Bool.and_assoc]
def ShapeS (N : Nat) : Prop := ∀ (t : Tr) (S : Nat → Prop) (vk vs : Value) (w : World), t.nodes ≤ N → t.nodes ≤ 2000000 → TreeIn w S t vk vs →
    Calls Tryd.prog 19 #[.agg #[.int .i64 t.kind, .bool t.flag, .int .i64 t.num, .string t.text, vk, vs]] w fun e w' => e = .returned (.bool (shapeB t)) ∧ Below w.heap.size w w'
set_option maxRecDepth 100000 in
set_option maxHeartbeats 8000000 in
theorem sShape_step (N : Nat) (hIH : ShapeS N) : ShapeS (N + 1) := fun t S vk vs w h hb0 ht => by
    have IH := Lib.hid hIH; clear hIH
    obtain ⟨hk0, hs0⟩ := treeIn_iff.1 ht
    obtain ⟨a1, m1, rfl⟩ := hk0.len
    obtain ⟨a2, m2, rfl⟩ := hs0.len
    have HKS := Lib.hid (And.intro hk0 hs0)
    have HN := Lib.hid (show nodesL t.kids ≤ N ∧ t.kids.length ≤ 2000000 by have := nodes_eq t; have := len_nodes t.kids; omega)
    have hlk : t.kids.length ≤ 2000000 := HN.out.2
    have HN2 := Lib.hid (show nodesL t.kids ≤ 2000000 by have := nodes_eq t; omega)
    have HSH := Lib.hid (shape_eq t)
    have HHB := Lib.hid (headB_S t)
    clear ht hk0 hs0 h hb0
    have HT := Lib.hid (fun w0 => sText t.text w0)
    have HH : Hid (headS t = (betweenB t.kind 1 6 && (!(t.flag && t.kind != 2) && (!(t.num != 0 && t.kind != 3) && (!(!t.text.toList.isEmpty && t.kind != 4) && (!(decide (0 < t.keys.length) && t.kind != 6) && (!(decide (0 < t.kids.length) && decide (t.kind < 5)) && textOkB t.text))))))) := rfl
    go_enter Tryd.func19, Tryd.ntmps19
    go_upto_region 1 with (fail)
    go_cut [65] from 5 to 65 (fun c wx => c = .bool (!headS t) ∧ Below (w.alloc (.cells #[.int .i64 t.kind, .bool t.flag, .int .i64 t.num, .string t.text, .slice a1 t.keys.length m1, .slice a2 t.kids.length m2] 30)).heap.size (w.alloc (.cells #[.int .i64 t.kind, .bool t.flag, .int .i64 t.num, .string t.text, .slice a1 t.keys.length m1, .slice a2 t.kids.length m2] 30)) wx)
    case first =>
      cases hb : betweenB t.kind 1 6
      · go_wp2_with (first | (go_at_call 32; refine (l01In_any _ _ _ _).mono ?_; rintro e w' ⟨rfl, rfl⟩) | (go_at_call 33; refine (HT.out _).mono ?_; rintro e w1 ⟨rfl, hb1⟩))
        go_meet
        case rel => exact ⟨congrArg Value.bool (by rw [HH.out]; simp [hb]), Below.refl _ _⟩
      have hk : t.kind = 1 ∨ t.kind = 2 ∨ t.kind = 3 ∨ t.kind = 4 ∨ t.kind = 5 ∨ t.kind = 6 := by simp [betweenB] at hb; omega
      rcases hk with hk | hk | hk | hk | hk | hk
      · have q1 : (t.kind != 2) = true := by rw [hk]; rfl
        have q2 : (t.kind != 3) = true := by rw [hk]; rfl
        have q3 : (t.kind != 4) = true := by rw [hk]; rfl
        have q4 : (t.kind != 6) = true := by rw [hk]; rfl
        have q5 : decide (t.kind < 5) = true := by rw [hk]; rfl
        rcases Bool.eq_false_or_eq_true (t.flag) with p1 | p1
        · go_wp2_with (first | (go_at_call 32; refine (l01In_any _ _ _ _).mono ?_; rintro e w' ⟨rfl, rfl⟩) | (go_at_call 33; refine (HT.out _).mono ?_; rintro e w1 ⟨rfl, hb1⟩))
          refine Met.intro ?_
          go_step
          (repeat apply Exists.intro)
          refine ⟨?rel, ?fr⟩
          case fr => (try simp only [hk, p1]); rfl
          case rel => exact ⟨congrArg Value.bool (by rw [HH.out]; simp [betweenB, And.intro hb (And.intro hk (And.intro q1 (And.intro q2 (And.intro q3 (And.intro q4 (And.intro q5 p1))))))]), (by (try simp only [hk, p1]); exact Below.refl _ _)⟩
        · rcases Bool.eq_false_or_eq_true ((t.num != 0)) with p2 | p2
          · go_wp2_with (first | (go_at_call 32; refine (l01In_any _ _ _ _).mono ?_; rintro e w' ⟨rfl, rfl⟩) | (go_at_call 33; refine (HT.out _).mono ?_; rintro e w1 ⟨rfl, hb1⟩))
            refine Met.intro ?_
            go_step
            (repeat apply Exists.intro)
            refine ⟨?rel, ?fr⟩
            case fr => (try simp only [hk, p1]); rfl
            case rel => exact ⟨congrArg Value.bool (by rw [HH.out]; simp [betweenB, And.intro hb (And.intro hk (And.intro q1 (And.intro q2 (And.intro q3 (And.intro q4 (And.intro q5 (And.intro p1 p2)))))))]), (by (try simp only [hk, p1]); exact Below.refl _ _)⟩
          · rcases Bool.eq_false_or_eq_true (t.text.toList.isEmpty) with p3 | p3
            · rcases Bool.eq_false_or_eq_true (decide (0 < t.keys.length)) with p4 | p4
              · have p4' : decide ((0 : Int) < (t.keys.length : Int)) = decide (0 < t.keys.length) := decide_eq_decide.2 (by omega)
                rw [p4] at p4'
                go_wp2_with (first | (go_at_call 32; refine (l01In_any _ _ _ _).mono ?_; rintro e w' ⟨rfl, rfl⟩) | (go_at_call 33; refine (HT.out _).mono ?_; rintro e w1 ⟨rfl, hb1⟩))
                refine Met.intro ?_
                go_step
                (repeat apply Exists.intro)
                refine ⟨?rel, ?fr⟩
                case fr => (try simp only [hk, p1]); rfl
                case rel => exact ⟨congrArg Value.bool (by rw [HH.out]; simp [betweenB, And.intro hb (And.intro hk (And.intro q1 (And.intro q2 (And.intro q3 (And.intro q4 (And.intro q5 (And.intro p1 (And.intro p2 (And.intro p3 p4)))))))))]), (by (try simp only [hk, p1]); exact Below.refl _ _)⟩
              · have p4' : decide ((0 : Int) < (t.keys.length : Int)) = decide (0 < t.keys.length) := decide_eq_decide.2 (by omega)
                rw [p4] at p4'
                rcases Bool.eq_false_or_eq_true (decide (0 < t.kids.length)) with p5 | p5
                · have p5' : decide ((0 : Int) < (t.kids.length : Int)) = decide (0 < t.kids.length) := decide_eq_decide.2 (by omega)
                  rw [p5] at p5'
                  go_wp2_with (first | (go_at_call 32; refine (l01In_any _ _ _ _).mono ?_; rintro e w' ⟨rfl, rfl⟩) | (go_at_call 33; refine (HT.out _).mono ?_; rintro e w1 ⟨rfl, hb1⟩))
                  refine Met.intro ?_
                  go_step
                  (repeat apply Exists.intro)
                  refine ⟨?rel, ?fr⟩
                  case fr => (try simp only [hk, p1]); rfl
                  case rel => exact ⟨congrArg Value.bool (by rw [HH.out]; simp [betweenB, And.intro hb (And.intro hk (And.intro q1 (And.intro q2 (And.intro q3 (And.intro q4 (And.intro q5 (And.intro p1 (And.intro p2 (And.intro p3 (And.intro p4 p5))))))))))]), (by (try simp only [hk, p1]); exact Below.refl _ _)⟩
                · have p5' : decide ((0 : Int) < (t.kids.length : Int)) = decide (0 < t.kids.length) := decide_eq_decide.2 (by omega)
                  rw [p5] at p5'
                  rcases Bool.eq_false_or_eq_true (textOkB t.text) with pt | pt
                  · rw [pt] at HT
                    go_wp2_with (first | (go_at_call 32; refine (l01In_any _ _ _ _).mono ?_; rintro e w' ⟨rfl, rfl⟩) | (go_at_call 33; refine (HT.out _).mono ?_; rintro e w1 ⟨rfl, hb1⟩))
                    refine Met.intro ?_
                    go_step
                    (repeat apply Exists.intro)
                    refine ⟨?rel, ?fr⟩
                    case fr => (try simp only [hk, p1]); rfl
                    case rel => exact ⟨congrArg Value.bool (by rw [HH.out]; simp [betweenB, And.intro hb (And.intro hk (And.intro q1 (And.intro q2 (And.intro q3 (And.intro q4 (And.intro q5 (And.intro p1 (And.intro p2 (And.intro p3 (And.intro p4 (And.intro p5 pt)))))))))))]), (by (try simp only [hk, p1]); exact hb1)⟩
                  · rw [pt] at HT
                    go_wp2_with (first | (go_at_call 32; refine (l01In_any _ _ _ _).mono ?_; rintro e w' ⟨rfl, rfl⟩) | (go_at_call 33; refine (HT.out _).mono ?_; rintro e w1 ⟨rfl, hb1⟩))
                    refine Met.intro ?_
                    go_step
                    (repeat apply Exists.intro)
                    refine ⟨?rel, ?fr⟩
                    case fr => (try simp only [hk, p1]); rfl
                    case rel => exact ⟨congrArg Value.bool (by rw [HH.out]; simp [betweenB, And.intro hb (And.intro hk (And.intro q1 (And.intro q2 (And.intro q3 (And.intro q4 (And.intro q5 (And.intro p1 (And.intro p2 (And.intro p3 (And.intro p4 (And.intro p5 pt)))))))))))]), (by (try simp only [hk, p1]); exact hb1)⟩
            · go_wp2_with (first | (go_at_call 32; refine (l01In_any _ _ _ _).mono ?_; rintro e w' ⟨rfl, rfl⟩) | (go_at_call 33; refine (HT.out _).mono ?_; rintro e w1 ⟨rfl, hb1⟩))
              refine Met.intro ?_
              go_step
              (repeat apply Exists.intro)
              refine ⟨?rel, ?fr⟩
              case fr => (try simp only [hk, p1]); rfl
              case rel => exact ⟨congrArg Value.bool (by rw [HH.out]; simp [betweenB, And.intro hb (And.intro hk (And.intro q1 (And.intro q2 (And.intro q3 (And.intro q4 (And.intro q5 (And.intro p1 (And.intro p2 p3))))))))]), (by (try simp only [hk, p1]); exact Below.refl _ _)⟩
      · have q1 : (t.kind != 2) = false := by rw [hk]; rfl
        have q2 : (t.kind != 3) = true := by rw [hk]; rfl
        have q3 : (t.kind != 4) = true := by rw [hk]; rfl
        have q4 : (t.kind != 6) = true := by rw [hk]; rfl
        have q5 : decide (t.kind < 5) = true := by rw [hk]; rfl
        rcases Bool.eq_false_or_eq_true (t.flag) with p1 | p1
        · rcases Bool.eq_false_or_eq_true ((t.num != 0)) with p2 | p2
          · go_wp2_with (first | (go_at_call 32; refine (l01In_any _ _ _ _).mono ?_; rintro e w' ⟨rfl, rfl⟩) | (go_at_call 33; refine (HT.out _).mono ?_; rintro e w1 ⟨rfl, hb1⟩))
            refine Met.intro ?_
            go_step
            (repeat apply Exists.intro)
            refine ⟨?rel, ?fr⟩
            case fr => (try simp only [hk, p1]); rfl
            case rel => exact ⟨congrArg Value.bool (by rw [HH.out]; simp [betweenB, And.intro hb (And.intro hk (And.intro q1 (And.intro q2 (And.intro q3 (And.intro q4 (And.intro q5 (And.intro p1 p2)))))))]), (by (try simp only [hk, p1]); exact Below.refl _ _)⟩
          · rcases Bool.eq_false_or_eq_true (t.text.toList.isEmpty) with p3 | p3
            · rcases Bool.eq_false_or_eq_true (decide (0 < t.keys.length)) with p4 | p4
              · have p4' : decide ((0 : Int) < (t.keys.length : Int)) = decide (0 < t.keys.length) := decide_eq_decide.2 (by omega)
                rw [p4] at p4'
                go_wp2_with (first | (go_at_call 32; refine (l01In_any _ _ _ _).mono ?_; rintro e w' ⟨rfl, rfl⟩) | (go_at_call 33; refine (HT.out _).mono ?_; rintro e w1 ⟨rfl, hb1⟩))
                refine Met.intro ?_
                go_step
                (repeat apply Exists.intro)
                refine ⟨?rel, ?fr⟩
                case fr => (try simp only [hk, p1]); rfl
                case rel => exact ⟨congrArg Value.bool (by rw [HH.out]; simp [betweenB, And.intro hb (And.intro hk (And.intro q1 (And.intro q2 (And.intro q3 (And.intro q4 (And.intro q5 (And.intro p1 (And.intro p2 (And.intro p3 p4)))))))))]), (by (try simp only [hk, p1]); exact Below.refl _ _)⟩
              · have p4' : decide ((0 : Int) < (t.keys.length : Int)) = decide (0 < t.keys.length) := decide_eq_decide.2 (by omega)
                rw [p4] at p4'
                rcases Bool.eq_false_or_eq_true (decide (0 < t.kids.length)) with p5 | p5
                · have p5' : decide ((0 : Int) < (t.kids.length : Int)) = decide (0 < t.kids.length) := decide_eq_decide.2 (by omega)
                  rw [p5] at p5'
                  go_wp2_with (first | (go_at_call 32; refine (l01In_any _ _ _ _).mono ?_; rintro e w' ⟨rfl, rfl⟩) | (go_at_call 33; refine (HT.out _).mono ?_; rintro e w1 ⟨rfl, hb1⟩))
                  refine Met.intro ?_
                  go_step
                  (repeat apply Exists.intro)
                  refine ⟨?rel, ?fr⟩
                  case fr => (try simp only [hk, p1]); rfl
                  case rel => exact ⟨congrArg Value.bool (by rw [HH.out]; simp [betweenB, And.intro hb (And.intro hk (And.intro q1 (And.intro q2 (And.intro q3 (And.intro q4 (And.intro q5 (And.intro p1 (And.intro p2 (And.intro p3 (And.intro p4 p5))))))))))]), (by (try simp only [hk, p1]); exact Below.refl _ _)⟩
                · have p5' : decide ((0 : Int) < (t.kids.length : Int)) = decide (0 < t.kids.length) := decide_eq_decide.2 (by omega)
                  rw [p5] at p5'
                  rcases Bool.eq_false_or_eq_true (textOkB t.text) with pt | pt
                  · rw [pt] at HT
                    go_wp2_with (first | (go_at_call 32; refine (l01In_any _ _ _ _).mono ?_; rintro e w' ⟨rfl, rfl⟩) | (go_at_call 33; refine (HT.out _).mono ?_; rintro e w1 ⟨rfl, hb1⟩))
                    refine Met.intro ?_
                    go_step
                    (repeat apply Exists.intro)
                    refine ⟨?rel, ?fr⟩
                    case fr => (try simp only [hk, p1]); rfl
                    case rel => exact ⟨congrArg Value.bool (by rw [HH.out]; simp [betweenB, And.intro hb (And.intro hk (And.intro q1 (And.intro q2 (And.intro q3 (And.intro q4 (And.intro q5 (And.intro p1 (And.intro p2 (And.intro p3 (And.intro p4 (And.intro p5 pt)))))))))))]), (by (try simp only [hk, p1]); exact hb1)⟩
                  · rw [pt] at HT
                    go_wp2_with (first | (go_at_call 32; refine (l01In_any _ _ _ _).mono ?_; rintro e w' ⟨rfl, rfl⟩) | (go_at_call 33; refine (HT.out _).mono ?_; rintro e w1 ⟨rfl, hb1⟩))
                    refine Met.intro ?_
                    go_step
                    (repeat apply Exists.intro)
                    refine ⟨?rel, ?fr⟩
                    case fr => (try simp only [hk, p1]); rfl
                    case rel => exact ⟨congrArg Value.bool (by rw [HH.out]; simp [betweenB, And.intro hb (And.intro hk (And.intro q1 (And.intro q2 (And.intro q3 (And.intro q4 (And.intro q5 (And.intro p1 (And.intro p2 (And.intro p3 (And.intro p4 (And.intro p5 pt)))))))))))]), (by (try simp only [hk, p1]); exact hb1)⟩
            · go_wp2_with (first | (go_at_call 32; refine (l01In_any _ _ _ _).mono ?_; rintro e w' ⟨rfl, rfl⟩) | (go_at_call 33; refine (HT.out _).mono ?_; rintro e w1 ⟨rfl, hb1⟩))
              refine Met.intro ?_
              go_step
              (repeat apply Exists.intro)
              refine ⟨?rel, ?fr⟩
              case fr => (try simp only [hk, p1]); rfl
              case rel => exact ⟨congrArg Value.bool (by rw [HH.out]; simp [betweenB, And.intro hb (And.intro hk (And.intro q1 (And.intro q2 (And.intro q3 (And.intro q4 (And.intro q5 (And.intro p1 (And.intro p2 p3))))))))]), (by (try simp only [hk, p1]); exact Below.refl _ _)⟩
        · rcases Bool.eq_false_or_eq_true ((t.num != 0)) with p2 | p2
          · go_wp2_with (first | (go_at_call 32; refine (l01In_any _ _ _ _).mono ?_; rintro e w' ⟨rfl, rfl⟩) | (go_at_call 33; refine (HT.out _).mono ?_; rintro e w1 ⟨rfl, hb1⟩))
            refine Met.intro ?_
            go_step
            (repeat apply Exists.intro)
            refine ⟨?rel, ?fr⟩
            case fr => (try simp only [hk, p1]); rfl
            case rel => exact ⟨congrArg Value.bool (by rw [HH.out]; simp [betweenB, And.intro hb (And.intro hk (And.intro q1 (And.intro q2 (And.intro q3 (And.intro q4 (And.intro q5 (And.intro p1 p2)))))))]), (by (try simp only [hk, p1]); exact Below.refl _ _)⟩
          · rcases Bool.eq_false_or_eq_true (t.text.toList.isEmpty) with p3 | p3
            · rcases Bool.eq_false_or_eq_true (decide (0 < t.keys.length)) with p4 | p4
              · have p4' : decide ((0 : Int) < (t.keys.length : Int)) = decide (0 < t.keys.length) := decide_eq_decide.2 (by omega)
                rw [p4] at p4'
                go_wp2_with (first | (go_at_call 32; refine (l01In_any _ _ _ _).mono ?_; rintro e w' ⟨rfl, rfl⟩) | (go_at_call 33; refine (HT.out _).mono ?_; rintro e w1 ⟨rfl, hb1⟩))
                refine Met.intro ?_
                go_step
                (repeat apply Exists.intro)
                refine ⟨?rel, ?fr⟩
                case fr => (try simp only [hk, p1]); rfl
                case rel => exact ⟨congrArg Value.bool (by rw [HH.out]; simp [betweenB, And.intro hb (And.intro hk (And.intro q1 (And.intro q2 (And.intro q3 (And.intro q4 (And.intro q5 (And.intro p1 (And.intro p2 (And.intro p3 p4)))))))))]), (by (try simp only [hk, p1]); exact Below.refl _ _)⟩
              · have p4' : decide ((0 : Int) < (t.keys.length : Int)) = decide (0 < t.keys.length) := decide_eq_decide.2 (by omega)
                rw [p4] at p4'
                rcases Bool.eq_false_or_eq_true (decide (0 < t.kids.length)) with p5 | p5
                · have p5' : decide ((0 : Int) < (t.kids.length : Int)) = decide (0 < t.kids.length) := decide_eq_decide.2 (by omega)
                  rw [p5] at p5'
                  go_wp2_with (first | (go_at_call 32; refine (l01In_any _ _ _ _).mono ?_; rintro e w' ⟨rfl, rfl⟩) | (go_at_call 33; refine (HT.out _).mono ?_; rintro e w1 ⟨rfl, hb1⟩))
                  refine Met.intro ?_
                  go_step
                  (repeat apply Exists.intro)
                  refine ⟨?rel, ?fr⟩
                  case fr => (try simp only [hk, p1]); rfl
                  case rel => exact ⟨congrArg Value.bool (by rw [HH.out]; simp [betweenB, And.intro hb (And.intro hk (And.intro q1 (And.intro q2 (And.intro q3 (And.intro q4 (And.intro q5 (And.intro p1 (And.intro p2 (And.intro p3 (And.intro p4 p5))))))))))]), (by (try simp only [hk, p1]); exact Below.refl _ _)⟩
                · have p5' : decide ((0 : Int) < (t.kids.length : Int)) = decide (0 < t.kids.length) := decide_eq_decide.2 (by omega)
                  rw [p5] at p5'
                  rcases Bool.eq_false_or_eq_true (textOkB t.text) with pt | pt
                  · rw [pt] at HT
                    go_wp2_with (first | (go_at_call 32; refine (l01In_any _ _ _ _).mono ?_; rintro e w' ⟨rfl, rfl⟩) | (go_at_call 33; refine (HT.out _).mono ?_; rintro e w1 ⟨rfl, hb1⟩))
                    refine Met.intro ?_
                    go_step
                    (repeat apply Exists.intro)
                    refine ⟨?rel, ?fr⟩
                    case fr => (try simp only [hk, p1]); rfl
                    case rel => exact ⟨congrArg Value.bool (by rw [HH.out]; simp [betweenB, And.intro hb (And.intro hk (And.intro q1 (And.intro q2 (And.intro q3 (And.intro q4 (And.intro q5 (And.intro p1 (And.intro p2 (And.intro p3 (And.intro p4 (And.intro p5 pt)))))))))))]), (by (try simp only [hk, p1]); exact hb1)⟩
                  · rw [pt] at HT
                    go_wp2_with (first | (go_at_call 32; refine (l01In_any _ _ _ _).mono ?_; rintro e w' ⟨rfl, rfl⟩) | (go_at_call 33; refine (HT.out _).mono ?_; rintro e w1 ⟨rfl, hb1⟩))
                    refine Met.intro ?_
                    go_step
                    (repeat apply Exists.intro)
                    refine ⟨?rel, ?fr⟩
                    case fr => (try simp only [hk, p1]); rfl
                    case rel => exact ⟨congrArg Value.bool (by rw [HH.out]; simp [betweenB, And.intro hb (And.intro hk (And.intro q1 (And.intro q2 (And.intro q3 (And.intro q4 (And.intro q5 (And.intro p1 (And.intro p2 (And.intro p3 (And.intro p4 (And.intro p5 pt)))))))))))]), (by (try simp only [hk, p1]); exact hb1)⟩
            · go_wp2_with (first | (go_at_call 32; refine (l01In_any _ _ _ _).mono ?_; rintro e w' ⟨rfl, rfl⟩) | (go_at_call 33; refine (HT.out _).mono ?_; rintro e w1 ⟨rfl, hb1⟩))
              refine Met.intro ?_
              go_step
              (repeat apply Exists.intro)
              refine ⟨?rel, ?fr⟩
              case fr => (try simp only [hk, p1]); rfl
              case rel => exact ⟨congrArg Value.bool (by rw [HH.out]; simp [betweenB, And.intro hb (And.intro hk (And.intro q1 (And.intro q2 (And.intro q3 (And.intro q4 (And.intro q5 (And.intro p1 (And.intro p2 p3))))))))]), (by (try simp only [hk, p1]); exact Below.refl _ _)⟩
      · have q1 : (t.kind != 2) = true := by rw [hk]; rfl
        have q2 : (t.kind != 3) = false := by rw [hk]; rfl
        have q3 : (t.kind != 4) = true := by rw [hk]; rfl
        have q4 : (t.kind != 6) = true := by rw [hk]; rfl
        have q5 : decide (t.kind < 5) = true := by rw [hk]; rfl
        rcases Bool.eq_false_or_eq_true (t.flag) with p1 | p1
        · go_wp2_with (first | (go_at_call 32; refine (l01In_any _ _ _ _).mono ?_; rintro e w' ⟨rfl, rfl⟩) | (go_at_call 33; refine (HT.out _).mono ?_; rintro e w1 ⟨rfl, hb1⟩))
          refine Met.intro ?_
          go_step
          (repeat apply Exists.intro)
          refine ⟨?rel, ?fr⟩
          case fr => (try simp only [hk, p1]); rfl
          case rel => exact ⟨congrArg Value.bool (by rw [HH.out]; simp [betweenB, And.intro hb (And.intro hk (And.intro q1 (And.intro q2 (And.intro q3 (And.intro q4 (And.intro q5 p1))))))]), (by (try simp only [hk, p1]); exact Below.refl _ _)⟩
        · rcases Bool.eq_false_or_eq_true ((t.num != 0)) with p2 | p2
          · rcases Bool.eq_false_or_eq_true (t.text.toList.isEmpty) with p3 | p3
            · rcases Bool.eq_false_or_eq_true (decide (0 < t.keys.length)) with p4 | p4
              · have p4' : decide ((0 : Int) < (t.keys.length : Int)) = decide (0 < t.keys.length) := decide_eq_decide.2 (by omega)
                rw [p4] at p4'
                go_wp2_with (first | (go_at_call 32; refine (l01In_any _ _ _ _).mono ?_; rintro e w' ⟨rfl, rfl⟩) | (go_at_call 33; refine (HT.out _).mono ?_; rintro e w1 ⟨rfl, hb1⟩))
                refine Met.intro ?_
                go_step
                (repeat apply Exists.intro)
                refine ⟨?rel, ?fr⟩
                case fr => (try simp only [hk, p1]); rfl
                case rel => exact ⟨congrArg Value.bool (by rw [HH.out]; simp [betweenB, And.intro hb (And.intro hk (And.intro q1 (And.intro q2 (And.intro q3 (And.intro q4 (And.intro q5 (And.intro p1 (And.intro p2 (And.intro p3 p4)))))))))]), (by (try simp only [hk, p1]); exact Below.refl _ _)⟩
              · have p4' : decide ((0 : Int) < (t.keys.length : Int)) = decide (0 < t.keys.length) := decide_eq_decide.2 (by omega)
                rw [p4] at p4'
                rcases Bool.eq_false_or_eq_true (decide (0 < t.kids.length)) with p5 | p5
                · have p5' : decide ((0 : Int) < (t.kids.length : Int)) = decide (0 < t.kids.length) := decide_eq_decide.2 (by omega)
                  rw [p5] at p5'
                  go_wp2_with (first | (go_at_call 32; refine (l01In_any _ _ _ _).mono ?_; rintro e w' ⟨rfl, rfl⟩) | (go_at_call 33; refine (HT.out _).mono ?_; rintro e w1 ⟨rfl, hb1⟩))
                  refine Met.intro ?_
                  go_step
                  (repeat apply Exists.intro)
                  refine ⟨?rel, ?fr⟩
                  case fr => (try simp only [hk, p1]); rfl
                  case rel => exact ⟨congrArg Value.bool (by rw [HH.out]; simp [betweenB, And.intro hb (And.intro hk (And.intro q1 (And.intro q2 (And.intro q3 (And.intro q4 (And.intro q5 (And.intro p1 (And.intro p2 (And.intro p3 (And.intro p4 p5))))))))))]), (by (try simp only [hk, p1]); exact Below.refl _ _)⟩
                · have p5' : decide ((0 : Int) < (t.kids.length : Int)) = decide (0 < t.kids.length) := decide_eq_decide.2 (by omega)
                  rw [p5] at p5'
                  rcases Bool.eq_false_or_eq_true (textOkB t.text) with pt | pt
                  · rw [pt] at HT
                    go_wp2_with (first | (go_at_call 32; refine (l01In_any _ _ _ _).mono ?_; rintro e w' ⟨rfl, rfl⟩) | (go_at_call 33; refine (HT.out _).mono ?_; rintro e w1 ⟨rfl, hb1⟩))
                    refine Met.intro ?_
                    go_step
                    (repeat apply Exists.intro)
                    refine ⟨?rel, ?fr⟩
                    case fr => (try simp only [hk, p1]); rfl
                    case rel => exact ⟨congrArg Value.bool (by rw [HH.out]; simp [betweenB, And.intro hb (And.intro hk (And.intro q1 (And.intro q2 (And.intro q3 (And.intro q4 (And.intro q5 (And.intro p1 (And.intro p2 (And.intro p3 (And.intro p4 (And.intro p5 pt)))))))))))]), (by (try simp only [hk, p1]); exact hb1)⟩
                  · rw [pt] at HT
                    go_wp2_with (first | (go_at_call 32; refine (l01In_any _ _ _ _).mono ?_; rintro e w' ⟨rfl, rfl⟩) | (go_at_call 33; refine (HT.out _).mono ?_; rintro e w1 ⟨rfl, hb1⟩))
                    refine Met.intro ?_
                    go_step
                    (repeat apply Exists.intro)
                    refine ⟨?rel, ?fr⟩
                    case fr => (try simp only [hk, p1]); rfl
                    case rel => exact ⟨congrArg Value.bool (by rw [HH.out]; simp [betweenB, And.intro hb (And.intro hk (And.intro q1 (And.intro q2 (And.intro q3 (And.intro q4 (And.intro q5 (And.intro p1 (And.intro p2 (And.intro p3 (And.intro p4 (And.intro p5 pt)))))))))))]), (by (try simp only [hk, p1]); exact hb1)⟩
            · go_wp2_with (first | (go_at_call 32; refine (l01In_any _ _ _ _).mono ?_; rintro e w' ⟨rfl, rfl⟩) | (go_at_call 33; refine (HT.out _).mono ?_; rintro e w1 ⟨rfl, hb1⟩))
              refine Met.intro ?_
              go_step
              (repeat apply Exists.intro)
              refine ⟨?rel, ?fr⟩
              case fr => (try simp only [hk, p1]); rfl
              case rel => exact ⟨congrArg Value.bool (by rw [HH.out]; simp [betweenB, And.intro hb (And.intro hk (And.intro q1 (And.intro q2 (And.intro q3 (And.intro q4 (And.intro q5 (And.intro p1 (And.intro p2 p3))))))))]), (by (try simp only [hk, p1]); exact Below.refl _ _)⟩
          · rcases Bool.eq_false_or_eq_true (t.text.toList.isEmpty) with p3 | p3
            · rcases Bool.eq_false_or_eq_true (decide (0 < t.keys.length)) with p4 | p4
              · have p4' : decide ((0 : Int) < (t.keys.length : Int)) = decide (0 < t.keys.length) := decide_eq_decide.2 (by omega)
                rw [p4] at p4'
                go_wp2_with (first | (go_at_call 32; refine (l01In_any _ _ _ _).mono ?_; rintro e w' ⟨rfl, rfl⟩) | (go_at_call 33; refine (HT.out _).mono ?_; rintro e w1 ⟨rfl, hb1⟩))
                refine Met.intro ?_
                go_step
                (repeat apply Exists.intro)
                refine ⟨?rel, ?fr⟩
                case fr => (try simp only [hk, p1]); rfl
                case rel => exact ⟨congrArg Value.bool (by rw [HH.out]; simp [betweenB, And.intro hb (And.intro hk (And.intro q1 (And.intro q2 (And.intro q3 (And.intro q4 (And.intro q5 (And.intro p1 (And.intro p2 (And.intro p3 p4)))))))))]), (by (try simp only [hk, p1]); exact Below.refl _ _)⟩
              · have p4' : decide ((0 : Int) < (t.keys.length : Int)) = decide (0 < t.keys.length) := decide_eq_decide.2 (by omega)
                rw [p4] at p4'
                rcases Bool.eq_false_or_eq_true (decide (0 < t.kids.length)) with p5 | p5
                · have p5' : decide ((0 : Int) < (t.kids.length : Int)) = decide (0 < t.kids.length) := decide_eq_decide.2 (by omega)
                  rw [p5] at p5'
                  go_wp2_with (first | (go_at_call 32; refine (l01In_any _ _ _ _).mono ?_; rintro e w' ⟨rfl, rfl⟩) | (go_at_call 33; refine (HT.out _).mono ?_; rintro e w1 ⟨rfl, hb1⟩))
                  refine Met.intro ?_
                  go_step
                  (repeat apply Exists.intro)
                  refine ⟨?rel, ?fr⟩
                  case fr => (try simp only [hk, p1]); rfl
                  case rel => exact ⟨congrArg Value.bool (by rw [HH.out]; simp [betweenB, And.intro hb (And.intro hk (And.intro q1 (And.intro q2 (And.intro q3 (And.intro q4 (And.intro q5 (And.intro p1 (And.intro p2 (And.intro p3 (And.intro p4 p5))))))))))]), (by (try simp only [hk, p1]); exact Below.refl _ _)⟩
                · have p5' : decide ((0 : Int) < (t.kids.length : Int)) = decide (0 < t.kids.length) := decide_eq_decide.2 (by omega)
                  rw [p5] at p5'
                  rcases Bool.eq_false_or_eq_true (textOkB t.text) with pt | pt
                  · rw [pt] at HT
                    go_wp2_with (first | (go_at_call 32; refine (l01In_any _ _ _ _).mono ?_; rintro e w' ⟨rfl, rfl⟩) | (go_at_call 33; refine (HT.out _).mono ?_; rintro e w1 ⟨rfl, hb1⟩))
                    refine Met.intro ?_
                    go_step
                    (repeat apply Exists.intro)
                    refine ⟨?rel, ?fr⟩
                    case fr => (try simp only [hk, p1]); rfl
                    case rel => exact ⟨congrArg Value.bool (by rw [HH.out]; simp [betweenB, And.intro hb (And.intro hk (And.intro q1 (And.intro q2 (And.intro q3 (And.intro q4 (And.intro q5 (And.intro p1 (And.intro p2 (And.intro p3 (And.intro p4 (And.intro p5 pt)))))))))))]), (by (try simp only [hk, p1]); exact hb1)⟩
                  · rw [pt] at HT
                    go_wp2_with (first | (go_at_call 32; refine (l01In_any _ _ _ _).mono ?_; rintro e w' ⟨rfl, rfl⟩) | (go_at_call 33; refine (HT.out _).mono ?_; rintro e w1 ⟨rfl, hb1⟩))
                    refine Met.intro ?_
                    go_step
                    (repeat apply Exists.intro)
                    refine ⟨?rel, ?fr⟩
                    case fr => (try simp only [hk, p1]); rfl
                    case rel => exact ⟨congrArg Value.bool (by rw [HH.out]; simp [betweenB, And.intro hb (And.intro hk (And.intro q1 (And.intro q2 (And.intro q3 (And.intro q4 (And.intro q5 (And.intro p1 (And.intro p2 (And.intro p3 (And.intro p4 (And.intro p5 pt)))))))))))]), (by (try simp only [hk, p1]); exact hb1)⟩
            · go_wp2_with (first | (go_at_call 32; refine (l01In_any _ _ _ _).mono ?_; rintro e w' ⟨rfl, rfl⟩) | (go_at_call 33; refine (HT.out _).mono ?_; rintro e w1 ⟨rfl, hb1⟩))
              refine Met.intro ?_
              go_step
              (repeat apply Exists.intro)
              refine ⟨?rel, ?fr⟩
              case fr => (try simp only [hk, p1]); rfl
              case rel => exact ⟨congrArg Value.bool (by rw [HH.out]; simp [betweenB, And.intro hb (And.intro hk (And.intro q1 (And.intro q2 (And.intro q3 (And.intro q4 (And.intro q5 (And.intro p1 (And.intro p2 p3))))))))]), (by (try simp only [hk, p1]); exact Below.refl _ _)⟩
      · have q1 : (t.kind != 2) = true := by rw [hk]; rfl
        have q2 : (t.kind != 3) = true := by rw [hk]; rfl
        have q3 : (t.kind != 4) = false := by rw [hk]; rfl
        have q4 : (t.kind != 6) = true := by rw [hk]; rfl
        have q5 : decide (t.kind < 5) = true := by rw [hk]; rfl
        rcases Bool.eq_false_or_eq_true (t.flag) with p1 | p1
        · go_wp2_with (first | (go_at_call 32; refine (l01In_any _ _ _ _).mono ?_; rintro e w' ⟨rfl, rfl⟩) | (go_at_call 33; refine (HT.out _).mono ?_; rintro e w1 ⟨rfl, hb1⟩))
          refine Met.intro ?_
          go_step
          (repeat apply Exists.intro)
          refine ⟨?rel, ?fr⟩
          case fr => (try simp only [hk, p1]); rfl
          case rel => exact ⟨congrArg Value.bool (by rw [HH.out]; simp [betweenB, And.intro hb (And.intro hk (And.intro q1 (And.intro q2 (And.intro q3 (And.intro q4 (And.intro q5 p1))))))]), (by (try simp only [hk, p1]); exact Below.refl _ _)⟩
        · rcases Bool.eq_false_or_eq_true ((t.num != 0)) with p2 | p2
          · go_wp2_with (first | (go_at_call 32; refine (l01In_any _ _ _ _).mono ?_; rintro e w' ⟨rfl, rfl⟩) | (go_at_call 33; refine (HT.out _).mono ?_; rintro e w1 ⟨rfl, hb1⟩))
            refine Met.intro ?_
            go_step
            (repeat apply Exists.intro)
            refine ⟨?rel, ?fr⟩
            case fr => (try simp only [hk, p1]); rfl
            case rel => exact ⟨congrArg Value.bool (by rw [HH.out]; simp [betweenB, And.intro hb (And.intro hk (And.intro q1 (And.intro q2 (And.intro q3 (And.intro q4 (And.intro q5 (And.intro p1 p2)))))))]), (by (try simp only [hk, p1]); exact Below.refl _ _)⟩
          · rcases Bool.eq_false_or_eq_true (t.text.toList.isEmpty) with p3 | p3
            · rcases Bool.eq_false_or_eq_true (decide (0 < t.keys.length)) with p4 | p4
              · have p4' : decide ((0 : Int) < (t.keys.length : Int)) = decide (0 < t.keys.length) := decide_eq_decide.2 (by omega)
                rw [p4] at p4'
                go_wp2_with (first | (go_at_call 32; refine (l01In_any _ _ _ _).mono ?_; rintro e w' ⟨rfl, rfl⟩) | (go_at_call 33; refine (HT.out _).mono ?_; rintro e w1 ⟨rfl, hb1⟩))
                refine Met.intro ?_
                go_step
                (repeat apply Exists.intro)
                refine ⟨?rel, ?fr⟩
                case fr => (try simp only [hk, p1]); rfl
                case rel => exact ⟨congrArg Value.bool (by rw [HH.out]; simp [betweenB, And.intro hb (And.intro hk (And.intro q1 (And.intro q2 (And.intro q3 (And.intro q4 (And.intro q5 (And.intro p1 (And.intro p2 (And.intro p3 p4)))))))))]), (by (try simp only [hk, p1]); exact Below.refl _ _)⟩
              · have p4' : decide ((0 : Int) < (t.keys.length : Int)) = decide (0 < t.keys.length) := decide_eq_decide.2 (by omega)
                rw [p4] at p4'
                rcases Bool.eq_false_or_eq_true (decide (0 < t.kids.length)) with p5 | p5
                · have p5' : decide ((0 : Int) < (t.kids.length : Int)) = decide (0 < t.kids.length) := decide_eq_decide.2 (by omega)
                  rw [p5] at p5'
                  go_wp2_with (first | (go_at_call 32; refine (l01In_any _ _ _ _).mono ?_; rintro e w' ⟨rfl, rfl⟩) | (go_at_call 33; refine (HT.out _).mono ?_; rintro e w1 ⟨rfl, hb1⟩))
                  refine Met.intro ?_
                  go_step
                  (repeat apply Exists.intro)
                  refine ⟨?rel, ?fr⟩
                  case fr => (try simp only [hk, p1]); rfl
                  case rel => exact ⟨congrArg Value.bool (by rw [HH.out]; simp [betweenB, And.intro hb (And.intro hk (And.intro q1 (And.intro q2 (And.intro q3 (And.intro q4 (And.intro q5 (And.intro p1 (And.intro p2 (And.intro p3 (And.intro p4 p5))))))))))]), (by (try simp only [hk, p1]); exact Below.refl _ _)⟩
                · have p5' : decide ((0 : Int) < (t.kids.length : Int)) = decide (0 < t.kids.length) := decide_eq_decide.2 (by omega)
                  rw [p5] at p5'
                  rcases Bool.eq_false_or_eq_true (textOkB t.text) with pt | pt
                  · rw [pt] at HT
                    go_wp2_with (first | (go_at_call 32; refine (l01In_any _ _ _ _).mono ?_; rintro e w' ⟨rfl, rfl⟩) | (go_at_call 33; refine (HT.out _).mono ?_; rintro e w1 ⟨rfl, hb1⟩))
                    refine Met.intro ?_
                    go_step
                    (repeat apply Exists.intro)
                    refine ⟨?rel, ?fr⟩
                    case fr => (try simp only [hk, p1]); rfl
                    case rel => exact ⟨congrArg Value.bool (by rw [HH.out]; simp [betweenB, And.intro hb (And.intro hk (And.intro q1 (And.intro q2 (And.intro q3 (And.intro q4 (And.intro q5 (And.intro p1 (And.intro p2 (And.intro p3 (And.intro p4 (And.intro p5 pt)))))))))))]), (by (try simp only [hk, p1]); exact hb1)⟩
                  · rw [pt] at HT
                    go_wp2_with (first | (go_at_call 32; refine (l01In_any _ _ _ _).mono ?_; rintro e w' ⟨rfl, rfl⟩) | (go_at_call 33; refine (HT.out _).mono ?_; rintro e w1 ⟨rfl, hb1⟩))
                    refine Met.intro ?_
                    go_step
                    (repeat apply Exists.intro)
                    refine ⟨?rel, ?fr⟩
                    case fr => (try simp only [hk, p1]); rfl
                    case rel => exact ⟨congrArg Value.bool (by rw [HH.out]; simp [betweenB, And.intro hb (And.intro hk (And.intro q1 (And.intro q2 (And.intro q3 (And.intro q4 (And.intro q5 (And.intro p1 (And.intro p2 (And.intro p3 (And.intro p4 (And.intro p5 pt)))))))))))]), (by (try simp only [hk, p1]); exact hb1)⟩
            · rcases Bool.eq_false_or_eq_true (decide (0 < t.keys.length)) with p4 | p4
              · have p4' : decide ((0 : Int) < (t.keys.length : Int)) = decide (0 < t.keys.length) := decide_eq_decide.2 (by omega)
                rw [p4] at p4'
                go_wp2_with (first | (go_at_call 32; refine (l01In_any _ _ _ _).mono ?_; rintro e w' ⟨rfl, rfl⟩) | (go_at_call 33; refine (HT.out _).mono ?_; rintro e w1 ⟨rfl, hb1⟩))
                refine Met.intro ?_
                go_step
                (repeat apply Exists.intro)
                refine ⟨?rel, ?fr⟩
                case fr => (try simp only [hk, p1]); rfl
                case rel => exact ⟨congrArg Value.bool (by rw [HH.out]; simp [betweenB, And.intro hb (And.intro hk (And.intro q1 (And.intro q2 (And.intro q3 (And.intro q4 (And.intro q5 (And.intro p1 (And.intro p2 (And.intro p3 p4)))))))))]), (by (try simp only [hk, p1]); exact Below.refl _ _)⟩
              · have p4' : decide ((0 : Int) < (t.keys.length : Int)) = decide (0 < t.keys.length) := decide_eq_decide.2 (by omega)
                rw [p4] at p4'
                rcases Bool.eq_false_or_eq_true (decide (0 < t.kids.length)) with p5 | p5
                · have p5' : decide ((0 : Int) < (t.kids.length : Int)) = decide (0 < t.kids.length) := decide_eq_decide.2 (by omega)
                  rw [p5] at p5'
                  go_wp2_with (first | (go_at_call 32; refine (l01In_any _ _ _ _).mono ?_; rintro e w' ⟨rfl, rfl⟩) | (go_at_call 33; refine (HT.out _).mono ?_; rintro e w1 ⟨rfl, hb1⟩))
                  refine Met.intro ?_
                  go_step
                  (repeat apply Exists.intro)
                  refine ⟨?rel, ?fr⟩
                  case fr => (try simp only [hk, p1]); rfl
                  case rel => exact ⟨congrArg Value.bool (by rw [HH.out]; simp [betweenB, And.intro hb (And.intro hk (And.intro q1 (And.intro q2 (And.intro q3 (And.intro q4 (And.intro q5 (And.intro p1 (And.intro p2 (And.intro p3 (And.intro p4 p5))))))))))]), (by (try simp only [hk, p1]); exact Below.refl _ _)⟩
                · have p5' : decide ((0 : Int) < (t.kids.length : Int)) = decide (0 < t.kids.length) := decide_eq_decide.2 (by omega)
                  rw [p5] at p5'
                  rcases Bool.eq_false_or_eq_true (textOkB t.text) with pt | pt
                  · rw [pt] at HT
                    go_wp2_with (first | (go_at_call 32; refine (l01In_any _ _ _ _).mono ?_; rintro e w' ⟨rfl, rfl⟩) | (go_at_call 33; refine (HT.out _).mono ?_; rintro e w1 ⟨rfl, hb1⟩))
                    refine Met.intro ?_
                    go_step
                    (repeat apply Exists.intro)
                    refine ⟨?rel, ?fr⟩
                    case fr => (try simp only [hk, p1]); rfl
                    case rel => exact ⟨congrArg Value.bool (by rw [HH.out]; simp [betweenB, And.intro hb (And.intro hk (And.intro q1 (And.intro q2 (And.intro q3 (And.intro q4 (And.intro q5 (And.intro p1 (And.intro p2 (And.intro p3 (And.intro p4 (And.intro p5 pt)))))))))))]), (by (try simp only [hk, p1]); exact hb1)⟩
                  · rw [pt] at HT
                    go_wp2_with (first | (go_at_call 32; refine (l01In_any _ _ _ _).mono ?_; rintro e w' ⟨rfl, rfl⟩) | (go_at_call 33; refine (HT.out _).mono ?_; rintro e w1 ⟨rfl, hb1⟩))
                    refine Met.intro ?_
                    go_step
                    (repeat apply Exists.intro)
                    refine ⟨?rel, ?fr⟩
                    case fr => (try simp only [hk, p1]); rfl
                    case rel => exact ⟨congrArg Value.bool (by rw [HH.out]; simp [betweenB, And.intro hb (And.intro hk (And.intro q1 (And.intro q2 (And.intro q3 (And.intro q4 (And.intro q5 (And.intro p1 (And.intro p2 (And.intro p3 (And.intro p4 (And.intro p5 pt)))))))))))]), (by (try simp only [hk, p1]); exact hb1)⟩
      · have q1 : (t.kind != 2) = true := by rw [hk]; rfl
        have q2 : (t.kind != 3) = true := by rw [hk]; rfl
        have q3 : (t.kind != 4) = true := by rw [hk]; rfl
        have q4 : (t.kind != 6) = true := by rw [hk]; rfl
        have q5 : decide (t.kind < 5) = false := by rw [hk]; rfl
        rcases Bool.eq_false_or_eq_true (t.flag) with p1 | p1
        · go_wp2_with (first | (go_at_call 32; refine (l01In_any _ _ _ _).mono ?_; rintro e w' ⟨rfl, rfl⟩) | (go_at_call 33; refine (HT.out _).mono ?_; rintro e w1 ⟨rfl, hb1⟩))
          refine Met.intro ?_
          go_step
          (repeat apply Exists.intro)
          refine ⟨?rel, ?fr⟩
          case fr => (try simp only [hk, p1]); rfl
          case rel => exact ⟨congrArg Value.bool (by rw [HH.out]; simp [betweenB, And.intro hb (And.intro hk (And.intro q1 (And.intro q2 (And.intro q3 (And.intro q4 (And.intro q5 p1))))))]), (by (try simp only [hk, p1]); exact Below.refl _ _)⟩
        · rcases Bool.eq_false_or_eq_true ((t.num != 0)) with p2 | p2
          · go_wp2_with (first | (go_at_call 32; refine (l01In_any _ _ _ _).mono ?_; rintro e w' ⟨rfl, rfl⟩) | (go_at_call 33; refine (HT.out _).mono ?_; rintro e w1 ⟨rfl, hb1⟩))
            refine Met.intro ?_
            go_step
            (repeat apply Exists.intro)
            refine ⟨?rel, ?fr⟩
            case fr => (try simp only [hk, p1]); rfl
            case rel => exact ⟨congrArg Value.bool (by rw [HH.out]; simp [betweenB, And.intro hb (And.intro hk (And.intro q1 (And.intro q2 (And.intro q3 (And.intro q4 (And.intro q5 (And.intro p1 p2)))))))]), (by (try simp only [hk, p1]); exact Below.refl _ _)⟩
          · rcases Bool.eq_false_or_eq_true (t.text.toList.isEmpty) with p3 | p3
            · rcases Bool.eq_false_or_eq_true (decide (0 < t.keys.length)) with p4 | p4
              · have p4' : decide ((0 : Int) < (t.keys.length : Int)) = decide (0 < t.keys.length) := decide_eq_decide.2 (by omega)
                rw [p4] at p4'
                go_wp2_with (first | (go_at_call 32; refine (l01In_any _ _ _ _).mono ?_; rintro e w' ⟨rfl, rfl⟩) | (go_at_call 33; refine (HT.out _).mono ?_; rintro e w1 ⟨rfl, hb1⟩))
                refine Met.intro ?_
                go_step
                (repeat apply Exists.intro)
                refine ⟨?rel, ?fr⟩
                case fr => (try simp only [hk, p1]); rfl
                case rel => exact ⟨congrArg Value.bool (by rw [HH.out]; simp [betweenB, And.intro hb (And.intro hk (And.intro q1 (And.intro q2 (And.intro q3 (And.intro q4 (And.intro q5 (And.intro p1 (And.intro p2 (And.intro p3 p4)))))))))]), (by (try simp only [hk, p1]); exact Below.refl _ _)⟩
              · have p4' : decide ((0 : Int) < (t.keys.length : Int)) = decide (0 < t.keys.length) := decide_eq_decide.2 (by omega)
                rw [p4] at p4'
                rcases Bool.eq_false_or_eq_true (decide (0 < t.kids.length)) with p5 | p5
                · have p5' : decide ((0 : Int) < (t.kids.length : Int)) = decide (0 < t.kids.length) := decide_eq_decide.2 (by omega)
                  rw [p5] at p5'
                  rcases Bool.eq_false_or_eq_true (textOkB t.text) with pt | pt
                  · rw [pt] at HT
                    go_wp2_with (first | (go_at_call 32; refine (l01In_any _ _ _ _).mono ?_; rintro e w' ⟨rfl, rfl⟩) | (go_at_call 33; refine (HT.out _).mono ?_; rintro e w1 ⟨rfl, hb1⟩))
                    refine Met.intro ?_
                    go_step
                    (repeat apply Exists.intro)
                    refine ⟨?rel, ?fr⟩
                    case fr => (try simp only [hk, p1]); rfl
                    case rel => exact ⟨congrArg Value.bool (by rw [HH.out]; simp [betweenB, And.intro hb (And.intro hk (And.intro q1 (And.intro q2 (And.intro q3 (And.intro q4 (And.intro q5 (And.intro p1 (And.intro p2 (And.intro p3 (And.intro p4 (And.intro p5 pt)))))))))))]), (by (try simp only [hk, p1]); exact hb1)⟩
                  · rw [pt] at HT
                    go_wp2_with (first | (go_at_call 32; refine (l01In_any _ _ _ _).mono ?_; rintro e w' ⟨rfl, rfl⟩) | (go_at_call 33; refine (HT.out _).mono ?_; rintro e w1 ⟨rfl, hb1⟩))
                    refine Met.intro ?_
                    go_step
                    (repeat apply Exists.intro)
                    refine ⟨?rel, ?fr⟩
                    case fr => (try simp only [hk, p1]); rfl
                    case rel => exact ⟨congrArg Value.bool (by rw [HH.out]; simp [betweenB, And.intro hb (And.intro hk (And.intro q1 (And.intro q2 (And.intro q3 (And.intro q4 (And.intro q5 (And.intro p1 (And.intro p2 (And.intro p3 (And.intro p4 (And.intro p5 pt)))))))))))]), (by (try simp only [hk, p1]); exact hb1)⟩
                · have p5' : decide ((0 : Int) < (t.kids.length : Int)) = decide (0 < t.kids.length) := decide_eq_decide.2 (by omega)
                  rw [p5] at p5'
                  rcases Bool.eq_false_or_eq_true (textOkB t.text) with pt | pt
                  · rw [pt] at HT
                    go_wp2_with (first | (go_at_call 32; refine (l01In_any _ _ _ _).mono ?_; rintro e w' ⟨rfl, rfl⟩) | (go_at_call 33; refine (HT.out _).mono ?_; rintro e w1 ⟨rfl, hb1⟩))
                    refine Met.intro ?_
                    go_step
                    (repeat apply Exists.intro)
                    refine ⟨?rel, ?fr⟩
                    case fr => (try simp only [hk, p1]); rfl
                    case rel => exact ⟨congrArg Value.bool (by rw [HH.out]; simp [betweenB, And.intro hb (And.intro hk (And.intro q1 (And.intro q2 (And.intro q3 (And.intro q4 (And.intro q5 (And.intro p1 (And.intro p2 (And.intro p3 (And.intro p4 (And.intro p5 pt)))))))))))]), (by (try simp only [hk, p1]); exact hb1)⟩
                  · rw [pt] at HT
                    go_wp2_with (first | (go_at_call 32; refine (l01In_any _ _ _ _).mono ?_; rintro e w' ⟨rfl, rfl⟩) | (go_at_call 33; refine (HT.out _).mono ?_; rintro e w1 ⟨rfl, hb1⟩))
                    refine Met.intro ?_
                    go_step
                    (repeat apply Exists.intro)
                    refine ⟨?rel, ?fr⟩
                    case fr => (try simp only [hk, p1]); rfl
                    case rel => exact ⟨congrArg Value.bool (by rw [HH.out]; simp [betweenB, And.intro hb (And.intro hk (And.intro q1 (And.intro q2 (And.intro q3 (And.intro q4 (And.intro q5 (And.intro p1 (And.intro p2 (And.intro p3 (And.intro p4 (And.intro p5 pt)))))))))))]), (by (try simp only [hk, p1]); exact hb1)⟩
            · go_wp2_with (first | (go_at_call 32; refine (l01In_any _ _ _ _).mono ?_; rintro e w' ⟨rfl, rfl⟩) | (go_at_call 33; refine (HT.out _).mono ?_; rintro e w1 ⟨rfl, hb1⟩))
              refine Met.intro ?_
              go_step
              (repeat apply Exists.intro)
              refine ⟨?rel, ?fr⟩
              case fr => (try simp only [hk, p1]); rfl
              case rel => exact ⟨congrArg Value.bool (by rw [HH.out]; simp [betweenB, And.intro hb (And.intro hk (And.intro q1 (And.intro q2 (And.intro q3 (And.intro q4 (And.intro q5 (And.intro p1 (And.intro p2 p3))))))))]), (by (try simp only [hk, p1]); exact Below.refl _ _)⟩
      · have q1 : (t.kind != 2) = true := by rw [hk]; rfl
        have q2 : (t.kind != 3) = true := by rw [hk]; rfl
        have q3 : (t.kind != 4) = true := by rw [hk]; rfl
        have q4 : (t.kind != 6) = false := by rw [hk]; rfl
        have q5 : decide (t.kind < 5) = false := by rw [hk]; rfl
        rcases Bool.eq_false_or_eq_true (t.flag) with p1 | p1
        · go_wp2_with (first | (go_at_call 32; refine (l01In_any _ _ _ _).mono ?_; rintro e w' ⟨rfl, rfl⟩) | (go_at_call 33; refine (HT.out _).mono ?_; rintro e w1 ⟨rfl, hb1⟩))
          refine Met.intro ?_
          go_step
          (repeat apply Exists.intro)
          refine ⟨?rel, ?fr⟩
          case fr => (try simp only [hk, p1]); rfl
          case rel => exact ⟨congrArg Value.bool (by rw [HH.out]; simp [betweenB, And.intro hb (And.intro hk (And.intro q1 (And.intro q2 (And.intro q3 (And.intro q4 (And.intro q5 p1))))))]), (by (try simp only [hk, p1]); exact Below.refl _ _)⟩
        · rcases Bool.eq_false_or_eq_true ((t.num != 0)) with p2 | p2
          · go_wp2_with (first | (go_at_call 32; refine (l01In_any _ _ _ _).mono ?_; rintro e w' ⟨rfl, rfl⟩) | (go_at_call 33; refine (HT.out _).mono ?_; rintro e w1 ⟨rfl, hb1⟩))
            refine Met.intro ?_
            go_step
            (repeat apply Exists.intro)
            refine ⟨?rel, ?fr⟩
            case fr => (try simp only [hk, p1]); rfl
            case rel => exact ⟨congrArg Value.bool (by rw [HH.out]; simp [betweenB, And.intro hb (And.intro hk (And.intro q1 (And.intro q2 (And.intro q3 (And.intro q4 (And.intro q5 (And.intro p1 p2)))))))]), (by (try simp only [hk, p1]); exact Below.refl _ _)⟩
          · rcases Bool.eq_false_or_eq_true (t.text.toList.isEmpty) with p3 | p3
            · rcases Bool.eq_false_or_eq_true (decide (0 < t.keys.length)) with p4 | p4
              · have p4' : decide ((0 : Int) < (t.keys.length : Int)) = decide (0 < t.keys.length) := decide_eq_decide.2 (by omega)
                rw [p4] at p4'
                rcases Bool.eq_false_or_eq_true (decide (0 < t.kids.length)) with p5 | p5
                · have p5' : decide ((0 : Int) < (t.kids.length : Int)) = decide (0 < t.kids.length) := decide_eq_decide.2 (by omega)
                  rw [p5] at p5'
                  rcases Bool.eq_false_or_eq_true (textOkB t.text) with pt | pt
                  · rw [pt] at HT
                    go_wp2_with (first | (go_at_call 32; refine (l01In_any _ _ _ _).mono ?_; rintro e w' ⟨rfl, rfl⟩) | (go_at_call 33; refine (HT.out _).mono ?_; rintro e w1 ⟨rfl, hb1⟩))
                    refine Met.intro ?_
                    go_step
                    (repeat apply Exists.intro)
                    refine ⟨?rel, ?fr⟩
                    case fr => (try simp only [hk, p1]); rfl
                    case rel => exact ⟨congrArg Value.bool (by rw [HH.out]; simp [betweenB, And.intro hb (And.intro hk (And.intro q1 (And.intro q2 (And.intro q3 (And.intro q4 (And.intro q5 (And.intro p1 (And.intro p2 (And.intro p3 (And.intro p4 (And.intro p5 pt)))))))))))]), (by (try simp only [hk, p1]); exact hb1)⟩
                  · rw [pt] at HT
                    go_wp2_with (first | (go_at_call 32; refine (l01In_any _ _ _ _).mono ?_; rintro e w' ⟨rfl, rfl⟩) | (go_at_call 33; refine (HT.out _).mono ?_; rintro e w1 ⟨rfl, hb1⟩))
                    refine Met.intro ?_
                    go_step
                    (repeat apply Exists.intro)
                    refine ⟨?rel, ?fr⟩
                    case fr => (try simp only [hk, p1]); rfl
                    case rel => exact ⟨congrArg Value.bool (by rw [HH.out]; simp [betweenB, And.intro hb (And.intro hk (And.intro q1 (And.intro q2 (And.intro q3 (And.intro q4 (And.intro q5 (And.intro p1 (And.intro p2 (And.intro p3 (And.intro p4 (And.intro p5 pt)))))))))))]), (by (try simp only [hk, p1]); exact hb1)⟩
                · have p5' : decide ((0 : Int) < (t.kids.length : Int)) = decide (0 < t.kids.length) := decide_eq_decide.2 (by omega)
                  rw [p5] at p5'
                  rcases Bool.eq_false_or_eq_true (textOkB t.text) with pt | pt
                  · rw [pt] at HT
                    go_wp2_with (first | (go_at_call 32; refine (l01In_any _ _ _ _).mono ?_; rintro e w' ⟨rfl, rfl⟩) | (go_at_call 33; refine (HT.out _).mono ?_; rintro e w1 ⟨rfl, hb1⟩))
                    refine Met.intro ?_
                    go_step
                    (repeat apply Exists.intro)
                    refine ⟨?rel, ?fr⟩
                    case fr => (try simp only [hk, p1]); rfl
                    case rel => exact ⟨congrArg Value.bool (by rw [HH.out]; simp [betweenB, And.intro hb (And.intro hk (And.intro q1 (And.intro q2 (And.intro q3 (And.intro q4 (And.intro q5 (And.intro p1 (And.intro p2 (And.intro p3 (And.intro p4 (And.intro p5 pt)))))))))))]), (by (try simp only [hk, p1]); exact hb1)⟩
                  · rw [pt] at HT
                    go_wp2_with (first | (go_at_call 32; refine (l01In_any _ _ _ _).mono ?_; rintro e w' ⟨rfl, rfl⟩) | (go_at_call 33; refine (HT.out _).mono ?_; rintro e w1 ⟨rfl, hb1⟩))
                    refine Met.intro ?_
                    go_step
                    (repeat apply Exists.intro)
                    refine ⟨?rel, ?fr⟩
                    case fr => (try simp only [hk, p1]); rfl
                    case rel => exact ⟨congrArg Value.bool (by rw [HH.out]; simp [betweenB, And.intro hb (And.intro hk (And.intro q1 (And.intro q2 (And.intro q3 (And.intro q4 (And.intro q5 (And.intro p1 (And.intro p2 (And.intro p3 (And.intro p4 (And.intro p5 pt)))))))))))]), (by (try simp only [hk, p1]); exact hb1)⟩
              · have p4' : decide ((0 : Int) < (t.keys.length : Int)) = decide (0 < t.keys.length) := decide_eq_decide.2 (by omega)
                rw [p4] at p4'
                rcases Bool.eq_false_or_eq_true (decide (0 < t.kids.length)) with p5 | p5
                · have p5' : decide ((0 : Int) < (t.kids.length : Int)) = decide (0 < t.kids.length) := decide_eq_decide.2 (by omega)
                  rw [p5] at p5'
                  rcases Bool.eq_false_or_eq_true (textOkB t.text) with pt | pt
                  · rw [pt] at HT
                    go_wp2_with (first | (go_at_call 32; refine (l01In_any _ _ _ _).mono ?_; rintro e w' ⟨rfl, rfl⟩) | (go_at_call 33; refine (HT.out _).mono ?_; rintro e w1 ⟨rfl, hb1⟩))
                    refine Met.intro ?_
                    go_step
                    (repeat apply Exists.intro)
                    refine ⟨?rel, ?fr⟩
                    case fr => (try simp only [hk, p1]); rfl
                    case rel => exact ⟨congrArg Value.bool (by rw [HH.out]; simp [betweenB, And.intro hb (And.intro hk (And.intro q1 (And.intro q2 (And.intro q3 (And.intro q4 (And.intro q5 (And.intro p1 (And.intro p2 (And.intro p3 (And.intro p4 (And.intro p5 pt)))))))))))]), (by (try simp only [hk, p1]); exact hb1)⟩
                  · rw [pt] at HT
                    go_wp2_with (first | (go_at_call 32; refine (l01In_any _ _ _ _).mono ?_; rintro e w' ⟨rfl, rfl⟩) | (go_at_call 33; refine (HT.out _).mono ?_; rintro e w1 ⟨rfl, hb1⟩))
                    refine Met.intro ?_
                    go_step
                    (repeat apply Exists.intro)
                    refine ⟨?rel, ?fr⟩
                    case fr => (try simp only [hk, p1]); rfl
                    case rel => exact ⟨congrArg Value.bool (by rw [HH.out]; simp [betweenB, And.intro hb (And.intro hk (And.intro q1 (And.intro q2 (And.intro q3 (And.intro q4 (And.intro q5 (And.intro p1 (And.intro p2 (And.intro p3 (And.intro p4 (And.intro p5 pt)))))))))))]), (by (try simp only [hk, p1]); exact hb1)⟩
                · have p5' : decide ((0 : Int) < (t.kids.length : Int)) = decide (0 < t.kids.length) := decide_eq_decide.2 (by omega)
                  rw [p5] at p5'
                  rcases Bool.eq_false_or_eq_true (textOkB t.text) with pt | pt
                  · rw [pt] at HT
                    go_wp2_with (first | (go_at_call 32; refine (l01In_any _ _ _ _).mono ?_; rintro e w' ⟨rfl, rfl⟩) | (go_at_call 33; refine (HT.out _).mono ?_; rintro e w1 ⟨rfl, hb1⟩))
                    refine Met.intro ?_
                    go_step
                    (repeat apply Exists.intro)
                    refine ⟨?rel, ?fr⟩
                    case fr => (try simp only [hk, p1]); rfl
                    case rel => exact ⟨congrArg Value.bool (by rw [HH.out]; simp [betweenB, And.intro hb (And.intro hk (And.intro q1 (And.intro q2 (And.intro q3 (And.intro q4 (And.intro q5 (And.intro p1 (And.intro p2 (And.intro p3 (And.intro p4 (And.intro p5 pt)))))))))))]), (by (try simp only [hk, p1]); exact hb1)⟩
                  · rw [pt] at HT
                    go_wp2_with (first | (go_at_call 32; refine (l01In_any _ _ _ _).mono ?_; rintro e w' ⟨rfl, rfl⟩) | (go_at_call 33; refine (HT.out _).mono ?_; rintro e w1 ⟨rfl, hb1⟩))
                    refine Met.intro ?_
                    go_step
                    (repeat apply Exists.intro)
                    refine ⟨?rel, ?fr⟩
                    case fr => (try simp only [hk, p1]); rfl
                    case rel => exact ⟨congrArg Value.bool (by rw [HH.out]; simp [betweenB, And.intro hb (And.intro hk (And.intro q1 (And.intro q2 (And.intro q3 (And.intro q4 (And.intro q5 (And.intro p1 (And.intro p2 (And.intro p3 (And.intro p4 (And.intro p5 pt)))))))))))]), (by (try simp only [hk, p1]); exact hb1)⟩
            · go_wp2_with (first | (go_at_call 32; refine (l01In_any _ _ _ _).mono ?_; rintro e w' ⟨rfl, rfl⟩) | (go_at_call 33; refine (HT.out _).mono ?_; rintro e w1 ⟨rfl, hb1⟩))
              refine Met.intro ?_
              go_step
              (repeat apply Exists.intro)
              refine ⟨?rel, ?fr⟩
              case fr => (try simp only [hk, p1]); rfl
              case rel => exact ⟨congrArg Value.bool (by rw [HH.out]; simp [betweenB, And.intro hb (And.intro hk (And.intro q1 (And.intro q2 (And.intro q3 (And.intro q4 (And.intro q5 (And.intro p1 (And.intro p2 p3))))))))]), (by (try simp only [hk, p1]); exact Below.refl _ _)⟩
    case rest =>
      obtain ⟨rfl, hbel⟩ := hcut
      have HSP := Lib.hid ((Spill.new w t (.slice a1 t.keys.length m1) (.slice a2 t.kids.length m2) 30).keep hbel)
      have HB := Lib.hid (bnext ((Below.refl w.heap.size w).alloc (Nat.le_refl _) _) hbel)
      clear hbel HT HH
      cases hA : headS t
      · have H := Lib.hid (show shapeB t = false by rw [HSH.out, HHB.out, hA]; rfl)
        go_wp2
        go_ret
        exact ⟨ret_bool H.out.symm, HB.out⟩
      obtain ⟨p0, p1, p2, p3, p4, p5⟩ := HSP.out.cells
      go_upto_region 3 with (fail)
      go_cut [77] from 66 to 77 (fun c wx => c = .bool (t.kind == 6 && t.keys.length != t.kids.length) ∧ wx = wc)
      case first =>
        rcases Bool.eq_false_or_eq_true (t.kind == 6) with k6 | k6
        · rcases Bool.eq_false_or_eq_true (decide (t.keys.length = t.kids.length)) with hl | hl
          · have hl' : ((t.keys.length : Int) != (t.kids.length : Int)) = false := by simp at hl; simp; omega
            have HL := Lib.hid hl; clear hl
            go_wp2
            go_meet
            case rel => exact ⟨congrArg Value.bool (by rw [k6]; have := HL.out; simp at this; simp [this]), rfl⟩
          · have hl' : ((t.keys.length : Int) != (t.kids.length : Int)) = true := by simp at hl; simp; omega
            have HL := Lib.hid hl; clear hl
            go_wp2
            go_meet
            case rel => exact ⟨congrArg Value.bool (by rw [k6]; have := HL.out; simp at this; simp [this]), rfl⟩
        · go_wp2
          go_meet
          case rel => exact ⟨congrArg Value.bool (by rw [k6]; rfl), rfl⟩
      case rest =>
        obtain ⟨rfl, rfl⟩ := hcut
        cases hB : (t.kind == 6 && t.keys.length != t.kids.length)
        rotate_left
        · have H := Lib.hid (show shapeB t = false by rw [HSH.out, HHB.out, hB]; simp)
          go_wp2
          go_ret
          exact ⟨ret_bool H.out.symm, HB.out⟩
        have HD := Lib.hid (show headB t = true by rw [HHB.out, hA, hB]; rfl)
        have HKL := Lib.hid (show t.keys.length ≤ 2000000 from Nat.le_trans (keys_le HD.out) HN.out.2)
        go_wp2
        go_loopg [3] t.keys.length (fun g i wr => ∃ k : Nat, k + g = t.keys.length ∧ i = .int .i64 k ∧ Below wc.heap.size wc wr ∧ Hid (∀ i, i < k → keyOkAt t.keys i = true))
        case atStart => exact ⟨0, by omega, rfl, Below.refl _ _, Lib.hid (fun i hi => by omega)⟩
        case round =>
          obtain ⟨k, hk, rfl, hbw, HA⟩ := hrel
          obtain ⟨q0, q1, q2, q3, q4, q5⟩ := (HSP.out.keep hbw).cells
          clear p0 p1 p2 p3 p4 p5
          by_cases hlt : k < t.keys.length
          · obtain ⟨b, off, rfl, hcell⟩ := ((HKS.out.1.keep HB.out).keep hbw).at hlt
            have c0 := hcell k hlt
            have HTK := Lib.hid (fun w0 => sText (strAt t.keys k) w0)
            have HK : Hid (keyOkAt t.keys k = (textOkB (strAt t.keys k) && !(decide (0 < k) && geT (strAt t.keys (k - 1)) (strAt t.keys k)))) := rfl
            have HBW := Lib.hid (bnext HB.out hbw); have HBC := Lib.hid hbw; clear hbw
            have n1 : (k : Int) ≤ 2000000 := by have := HKL.out; omega
            have q4a := aft_cell q4
            have c0a := aft_cell c0
            rcases Bool.eq_false_or_eq_true (textOkB (strAt t.keys k)) with pt | pt
            rotate_left
            · rw [pt] at HTK
              have H := Lib.hid (show shapeB t = false by rw [HSH.out, keys_no hlt (by rw [HK.out, pt]; rfl)]; simp)
              clear q0 q1 q2 q3 q5 c0 hcell
              go_upto_region 8 with (fail)
              clear q4
              refine wp_region_soft_lit (by kernel_rfl) (by kernel_rfl) ?_
              repeat (go_big_quiet_step ((go_at_call 33; exact soft_call (HTK.out _))))
              refine wpQuiet_nil ?_
              intro _ hw'
              obtain ⟨xq, hw''⟩ := hw'
              subst hw''
              go_wp2
              go_ret
              exact ⟨ret_bool H.out.symm, bnext HBW.out xq.bel⟩
            rw [pt] at HTK
            by_cases hk0 : 0 < k
            rotate_left
            · have H := Lib.hid (upto_step HA.out (show keyOkAt t.keys k = true by rw [HK.out, pt, decide_eq_false hk0]; rfl))
              have z1 : decide ((0 : Int) < (k : Int)) = false := decide_eq_false (by omega)
              have z2 : decide (0 < k) = false := decide_eq_false hk0
              clear q0 q1 q2 q3 q5 c0 hcell hk0
              go_upto_region 8 with (fail)
              clear q4
              refine wp_region_soft_lit (by kernel_rfl) (by kernel_rfl) ?_
              repeat (go_big_quiet_step ((go_at_call 33; exact soft_call (HTK.out _))))
              refine wpQuiet_nil ?_
              intro _ hw'
              obtain ⟨xq, hw''⟩ := hw'
              subst hw''
              go_wp2
              go_roundg (t.keys.length - (k + 1))
              case measure => omega
              case rel => exact ⟨k + 1, by omega, by go_num, bnext HBC.out xq.bel, H⟩
            have z1 : decide ((0 : Int) < (k : Int)) = true := decide_eq_true (by omega)
            have z2 : decide (0 < k) = true := decide_eq_true hk0
            have c1 := hcell (k - 1) (by omega)
            have c1a := aft_cell c1
            have i1 : (0 : Int) ≤ (k : Int) - 1 := by omega
            have i2 : (k : Int) - 1 < (t.keys.length : Int) := by omega
            cases hg : Op.bytesLess (strAt t.keys (k - 1)).toList (strAt t.keys k).toList
            · have H := Lib.hid (show shapeB t = false by rw [HSH.out, keys_no hlt (by rw [HK.out, pt, decide_eq_true hk0, geT, hg]; rfl)]; simp)
              clear q0 q1 q2 q3 q5 c0 c1 hcell
              go_upto_region 8 with (fail)
              clear q4
              refine wp_region_soft_lit (by kernel_rfl) (by kernel_rfl) ?_
              repeat (go_big_quiet_step ((go_at_call 33; exact soft_call (HTK.out _))))
              refine wpQuiet_nil ?_
              intro _ hw'
              obtain ⟨xq, hw''⟩ := hw'
              subst hw''
              go_wp2
              go_ret
              exact ⟨ret_bool H.out.symm, bnext HBW.out xq.bel⟩
            · have H := Lib.hid (upto_step HA.out (show keyOkAt t.keys k = true by rw [HK.out, pt, decide_eq_true hk0, geT, hg]; rfl))
              clear q0 q1 q2 q3 q5 c0 c1 hcell
              go_upto_region 8 with (fail)
              clear q4
              refine wp_region_soft_lit (by kernel_rfl) (by kernel_rfl) ?_
              repeat (go_big_quiet_step ((go_at_call 33; exact soft_call (HTK.out _))))
              refine wpQuiet_nil ?_
              intro _ hw'
              obtain ⟨xq, hw''⟩ := hw'
              subst hw''
              go_wp2
              go_roundg (t.keys.length - (k + 1))
              case measure => omega
              case rel => exact ⟨k + 1, by omega, by go_num, bnext HBC.out xq.bel, H⟩
          · obtain rfl : k = t.keys.length := by omega
            have HKY := Lib.hid (keys_yes HA.out)
            have HBW := Lib.hid (bnext HB.out hbw)
            have HSW := Lib.hid (HSP.out.keep hbw)
            have HIN := Lib.hid ((HKS.out.2.keep HB.out).keep hbw)
            clear HA hk hlt hbw q0 q1 q2 q3 q4 q5 hB hA
            obtain ⟨q0, q1, q2, q3, q4, q5⟩ := HSW.out.cells
            clear q0 q1 q2 q3
            go_wp2
            clear q4 q5
            go_loopg [4] t.kids.length (fun g i wv => ∃ j : Nat, j + g = t.kids.length ∧ i = .int .i64 j ∧ Below wr.heap.size wr wv ∧ Hid (∀ i, i < j → shapeB (kidAt t.kids i) = true))
            case atStart => exact ⟨0, by omega, rfl, Below.refl _ _, Lib.hid (fun i hi => by omega)⟩
            case round =>
              obtain ⟨j, hj, rfl, hbv, HC⟩ := hrel
              obtain ⟨q0, q1, q2, q3, q4, q5⟩ := (HSW.out.keep hbv).cells
              clear q0 q1 q2 q3 q4
              by_cases hjl : j < t.kids.length
              · obtain ⟨b, o, vk', vs', rfl, ⟨c0, c1, c2, c3, c4, c5⟩, hin⟩ := (HIN.out.keep hbv).at hjl
                obtain ⟨hk', hs'⟩ := treeIn_iff.1 hin
                obtain ⟨b1, n1, rfl⟩ := hk'.len
                obtain ⟨b2, n2, rfl⟩ := hs'.len
                clear hk' hs'
                have h1 := nodes_kid t.kids j hjl
                have HI := Lib.hid (IH.out (kidAt t.kids j) S _ _ wr (by have := HN.out; omega) (by have := HN2.out; omega) hin)
                have HBV := Lib.hid (bnext HBW.out hbv)
                cases hsh : shapeB (kidAt t.kids j)
                · have H := Lib.hid (show shapeB t = false by rw [HSH.out, shapeL_not _ _ hjl hsh]; simp)
                  rw [hsh] at HI
                  clear hsh h1
                  go_wp2_with (go_at_call 19; refine (HI.out).mono ?_; rintro e w1 ⟨rfl, hb1⟩)
                  go_ret
                  exact ⟨ret_bool H.out.symm, bnext HBV.out hb1⟩
                · have HC2 := Lib.hid (upto_step HC.out hsh)
                  rw [hsh] at HI
                  clear hsh h1
                  go_wp2_with (go_at_call 19; refine (HI.out).mono ?_; rintro e w1 ⟨rfl, hb1⟩)
                  go_roundg (t.kids.length - (j + 1))
                  case measure => omega
                  case rel => exact ⟨j + 1, by omega, by go_num, bnext hbv hb1, HC2⟩
              · obtain rfl : j = t.kids.length := by omega
                have H := Lib.hid (show shapeB t = true by rw [HSH.out, HD.out, HKY.out, shapeL_at _ HC.out]; rfl)
                go_wp2
                go_ret
                exact ⟨ret_bool H.out.symm, bnext HBW.out hbv⟩

theorem sShape : ∀ N, ShapeS N
  | 0 => fun t S vk vs w h _ _ => by have := nodes_pos t; omega
  | N + 1 => sShape_step N (sShape N)

end Go.Proofs.YtbjialckijphiaaDoor
