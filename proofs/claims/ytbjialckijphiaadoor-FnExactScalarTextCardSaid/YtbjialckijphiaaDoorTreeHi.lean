/- impl.nodesOk: the contract (printed by wip/gen/shapei.py). -/
import Derived.Test.YtbjialckijphiaaDoorTreeX
namespace Go.Proofs.YtbjialckijphiaaDoor
open Go.RowKit

def headI (t : Tr) : Bool := betweenB t.kind 1 6 && (!(t.flag && t.kind != 2) && (!(t.num != 0 && t.kind != 3) && (!(!t.text.toList.isEmpty && t.kind != 4) && (!(decide (0 < t.keys.length) && t.kind != 6) && !(decide (0 < t.kids.length) && decide (t.kind < 5))))))
theorem headB_I (t : Tr) : headB t = (headI t && (textOkB t.text && !(t.kind == 6 && t.keys.length != t.kids.length))) := by
  unfold headB headI
  simp only [Bool.and_assoc]

def ShapeI (N : Nat) : Prop := ∀ (t : Tr) (S : Nat → Prop) (vk vs : Value) (w : World), t.nodes ≤ N → t.nodes ≤ 2000000 → TreeIn w S t vk vs → Tabs w →
    Calls Tryd.prog 24 #[.agg #[.int .i64 t.kind, .bool t.flag, .int .i64 t.num, .string t.text, vk, vs]] w fun e w' => e = .returned (.bool (shapeB t)) ∧ Below w.heap.size w w'
set_option maxRecDepth 100000 in
set_option maxHeartbeats 8000000 in
theorem iShape_step (N : Nat) (hIH : ShapeI N) : ShapeI (N + 1) := fun t S vk vs w h hb0 ht hTab => by
    have IH := Lib.hid hIH; clear hIH
    have HTab := Lib.hid hTab; clear hTab
    obtain ⟨hk0, hs0⟩ := treeIn_iff.1 ht
    obtain ⟨a1, m1, rfl⟩ := hk0.len
    obtain ⟨a2, m2, rfl⟩ := hs0.len
    have HKS := Lib.hid (And.intro hk0 hs0)
    have HN := Lib.hid (show nodesL t.kids ≤ N ∧ t.kids.length ≤ 2000000 by have := nodes_eq t; have := len_nodes t.kids; omega)
    have hlk : t.kids.length ≤ 2000000 := HN.out.2
    have HN2 := Lib.hid (show nodesL t.kids ≤ 2000000 by have := nodes_eq t; omega)
    have HSH := Lib.hid (shape_eq t)
    have HHB := Lib.hid (headB_I t)
    clear ht hk0 hs0 h hb0
    have HH : Hid (headI t = (betweenB t.kind 1 6 && (!(t.flag && t.kind != 2) && (!(t.num != 0 && t.kind != 3) && (!(!t.text.toList.isEmpty && t.kind != 4) && (!(decide (0 < t.keys.length) && t.kind != 6) && !(decide (0 < t.kids.length) && decide (t.kind < 5)))))))) := rfl
    go_enter Tryd.func24, Tryd.ntmps24
    go_upto_region 1 with (fail)
    go_cut [61] from 7 to 61 (fun c wx => c = .bool (!headI t) ∧ Below (w.alloc (.cells #[.int .i64 t.kind, .bool t.flag, .int .i64 t.num, .string t.text, .slice a1 t.keys.length m1, .slice a2 t.kids.length m2] 30)).heap.size (w.alloc (.cells #[.int .i64 t.kind, .bool t.flag, .int .i64 t.num, .string t.text, .slice a1 t.keys.length m1, .slice a2 t.kids.length m2] 30)) wx)
    case first =>
      cases hb : betweenB t.kind 1 6
      · go_wp2_with (first | (go_at_call 34; refine (within_any _ _ _ _).mono ?_; rintro e w' ⟨rfl, rfl⟩))
        go_meet
        case rel => exact ⟨congrArg Value.bool (by rw [HH.out]; simp [hb]), Below.refl _ _⟩
      have hk : t.kind = 1 ∨ t.kind = 2 ∨ t.kind = 3 ∨ t.kind = 4 ∨ t.kind = 5 ∨ t.kind = 6 := by simp [betweenB] at hb; omega
      rcases hk with hk | hk | hk | hk | hk | hk
      · have q1 : (t.kind != 2) = true := by rw [hk]; rfl
        have q2 : (t.kind != 3) = true := by rw [hk]; rfl
        have q3 : (t.kind != 4) = true := by rw [hk]; rfl
        have q4 : (t.kind != 6) = true := by rw [hk]; rfl
        have q5 : decide (t.kind < 5) = true := by rw [hk]; rfl
        rcases Bool.eq_false_or_eq_true (t.flag) with p1 | p1
        · go_wp2_with (first | (go_at_call 34; refine (within_any _ _ _ _).mono ?_; rintro e w' ⟨rfl, rfl⟩))
          refine Met.intro ?_
          go_step
          (repeat apply Exists.intro)
          refine ⟨?rel, ?fr⟩
          case fr => (try simp only [hk, p1]); rfl
          case rel => exact ⟨congrArg Value.bool (by rw [HH.out]; simp [betweenB, And.intro hb (And.intro hk (And.intro q1 (And.intro q2 (And.intro q3 (And.intro q4 (And.intro q5 p1))))))]), (by (try simp only [hk, p1]); exact Below.refl _ _)⟩
        · rcases Bool.eq_false_or_eq_true ((t.num != 0)) with p2 | p2
          · go_wp2_with (first | (go_at_call 34; refine (within_any _ _ _ _).mono ?_; rintro e w' ⟨rfl, rfl⟩))
            refine Met.intro ?_
            go_step
            (repeat apply Exists.intro)
            refine ⟨?rel, ?fr⟩
            case fr => (try simp only [hk, p1]); rfl
            case rel => exact ⟨congrArg Value.bool (by rw [HH.out]; simp [betweenB, And.intro hb (And.intro hk (And.intro q1 (And.intro q2 (And.intro q3 (And.intro q4 (And.intro q5 (And.intro p1 p2)))))))]), (by (try simp only [hk, p1]); exact Below.refl _ _)⟩
          · rcases Bool.eq_false_or_eq_true (t.text.toList.isEmpty) with p3 | p3
            · rcases Bool.eq_false_or_eq_true (decide (0 < t.keys.length)) with p4 | p4
              · have p4' : decide ((0 : Int) < (t.keys.length : Int)) = decide (0 < t.keys.length) := decide_eq_decide.2 (by omega)
                rw [p4] at p4'
                go_wp2_with (first | (go_at_call 34; refine (within_any _ _ _ _).mono ?_; rintro e w' ⟨rfl, rfl⟩))
                refine Met.intro ?_
                go_step
                (repeat apply Exists.intro)
                refine ⟨?rel, ?fr⟩
                case fr => (try simp only [hk, p1]); rfl
                case rel => exact ⟨congrArg Value.bool (by rw [HH.out]; simp [betweenB, And.intro hb (And.intro hk (And.intro q1 (And.intro q2 (And.intro q3 (And.intro q4 (And.intro q5 (And.intro p1 (And.intro p2 (And.intro p3 p4)))))))))]), (by (try simp only [hk, p1]); exact Below.refl _ _)⟩
              · have p4' : decide ((0 : Int) < (t.keys.length : Int)) = decide (0 < t.keys.length) := decide_eq_decide.2 (by omega)
                rw [p4] at p4'
                rcases Bool.eq_false_or_eq_true (decide (0 < t.kids.length)) with p5 | p5
                · have p5' : decide ((0 : Int) < (t.kids.length : Int)) = decide (0 < t.kids.length) := decide_eq_decide.2 (by omega)
                  rw [p5] at p5'
                  go_wp2_with (first | (go_at_call 34; refine (within_any _ _ _ _).mono ?_; rintro e w' ⟨rfl, rfl⟩))
                  refine Met.intro ?_
                  go_step
                  (repeat apply Exists.intro)
                  refine ⟨?rel, ?fr⟩
                  case fr => (try simp only [hk, p1]); rfl
                  case rel => exact ⟨congrArg Value.bool (by rw [HH.out]; simp [betweenB, And.intro hb (And.intro hk (And.intro q1 (And.intro q2 (And.intro q3 (And.intro q4 (And.intro q5 (And.intro p1 (And.intro p2 (And.intro p3 (And.intro p4 p5))))))))))]), (by (try simp only [hk, p1]); exact Below.refl _ _)⟩
                · have p5' : decide ((0 : Int) < (t.kids.length : Int)) = decide (0 < t.kids.length) := decide_eq_decide.2 (by omega)
                  rw [p5] at p5'
                  go_wp2_with (first | (go_at_call 34; refine (within_any _ _ _ _).mono ?_; rintro e w' ⟨rfl, rfl⟩))
                  refine Met.intro ?_
                  go_step
                  (repeat apply Exists.intro)
                  refine ⟨?rel, ?fr⟩
                  case fr => (try simp only [hk, p1]); rfl
                  case rel => exact ⟨congrArg Value.bool (by rw [HH.out]; simp [betweenB, And.intro hb (And.intro hk (And.intro q1 (And.intro q2 (And.intro q3 (And.intro q4 (And.intro q5 (And.intro p1 (And.intro p2 (And.intro p3 (And.intro p4 p5))))))))))]), (by (try simp only [hk, p1]); exact Below.refl _ _)⟩
            · go_wp2_with (first | (go_at_call 34; refine (within_any _ _ _ _).mono ?_; rintro e w' ⟨rfl, rfl⟩))
              refine Met.intro ?_
              go_step
              (repeat apply Exists.intro)
              refine ⟨?rel, ?fr⟩
              case fr => (try simp only [hk, p1]); rfl
              case rel => exact ⟨congrArg Value.bool (by rw [HH.out]; simp [betweenB, And.intro hb (And.intro hk (And.intro q1 (And.intro q2 (And.intro q3 (And.intro q4 (And.intro q5 (And.intro p1 (And.intro p2 p3))))))))]), (by (try simp only [hk, p1]); exact Below.refl _ _)⟩
      · have q1 : (t.kind != 2) = false := by rw [hk]; rfl
        have q2 : (t.kind != 3) = true := by rw [hk]; rfl
        have q3 : (t.kind != 4) = true := by rw [hk]; rfl
        have q4 : (t.kind != 6) = true := by rw [hk]; rfl
        have q5 : decide (t.kind < 5) = true := by rw [hk]; rfl
        rcases Bool.eq_false_or_eq_true (t.flag) with p1 | p1
        · rcases Bool.eq_false_or_eq_true ((t.num != 0)) with p2 | p2
          · go_wp2_with (first | (go_at_call 34; refine (within_any _ _ _ _).mono ?_; rintro e w' ⟨rfl, rfl⟩))
            refine Met.intro ?_
            go_step
            (repeat apply Exists.intro)
            refine ⟨?rel, ?fr⟩
            case fr => (try simp only [hk, p1]); rfl
            case rel => exact ⟨congrArg Value.bool (by rw [HH.out]; simp [betweenB, And.intro hb (And.intro hk (And.intro q1 (And.intro q2 (And.intro q3 (And.intro q4 (And.intro q5 (And.intro p1 p2)))))))]), (by (try simp only [hk, p1]); exact Below.refl _ _)⟩
          · rcases Bool.eq_false_or_eq_true (t.text.toList.isEmpty) with p3 | p3
            · rcases Bool.eq_false_or_eq_true (decide (0 < t.keys.length)) with p4 | p4
              · have p4' : decide ((0 : Int) < (t.keys.length : Int)) = decide (0 < t.keys.length) := decide_eq_decide.2 (by omega)
                rw [p4] at p4'
                go_wp2_with (first | (go_at_call 34; refine (within_any _ _ _ _).mono ?_; rintro e w' ⟨rfl, rfl⟩))
                refine Met.intro ?_
                go_step
                (repeat apply Exists.intro)
                refine ⟨?rel, ?fr⟩
                case fr => (try simp only [hk, p1]); rfl
                case rel => exact ⟨congrArg Value.bool (by rw [HH.out]; simp [betweenB, And.intro hb (And.intro hk (And.intro q1 (And.intro q2 (And.intro q3 (And.intro q4 (And.intro q5 (And.intro p1 (And.intro p2 (And.intro p3 p4)))))))))]), (by (try simp only [hk, p1]); exact Below.refl _ _)⟩
              · have p4' : decide ((0 : Int) < (t.keys.length : Int)) = decide (0 < t.keys.length) := decide_eq_decide.2 (by omega)
                rw [p4] at p4'
                rcases Bool.eq_false_or_eq_true (decide (0 < t.kids.length)) with p5 | p5
                · have p5' : decide ((0 : Int) < (t.kids.length : Int)) = decide (0 < t.kids.length) := decide_eq_decide.2 (by omega)
                  rw [p5] at p5'
                  go_wp2_with (first | (go_at_call 34; refine (within_any _ _ _ _).mono ?_; rintro e w' ⟨rfl, rfl⟩))
                  refine Met.intro ?_
                  go_step
                  (repeat apply Exists.intro)
                  refine ⟨?rel, ?fr⟩
                  case fr => (try simp only [hk, p1]); rfl
                  case rel => exact ⟨congrArg Value.bool (by rw [HH.out]; simp [betweenB, And.intro hb (And.intro hk (And.intro q1 (And.intro q2 (And.intro q3 (And.intro q4 (And.intro q5 (And.intro p1 (And.intro p2 (And.intro p3 (And.intro p4 p5))))))))))]), (by (try simp only [hk, p1]); exact Below.refl _ _)⟩
                · have p5' : decide ((0 : Int) < (t.kids.length : Int)) = decide (0 < t.kids.length) := decide_eq_decide.2 (by omega)
                  rw [p5] at p5'
                  go_wp2_with (first | (go_at_call 34; refine (within_any _ _ _ _).mono ?_; rintro e w' ⟨rfl, rfl⟩))
                  refine Met.intro ?_
                  go_step
                  (repeat apply Exists.intro)
                  refine ⟨?rel, ?fr⟩
                  case fr => (try simp only [hk, p1]); rfl
                  case rel => exact ⟨congrArg Value.bool (by rw [HH.out]; simp [betweenB, And.intro hb (And.intro hk (And.intro q1 (And.intro q2 (And.intro q3 (And.intro q4 (And.intro q5 (And.intro p1 (And.intro p2 (And.intro p3 (And.intro p4 p5))))))))))]), (by (try simp only [hk, p1]); exact Below.refl _ _)⟩
            · go_wp2_with (first | (go_at_call 34; refine (within_any _ _ _ _).mono ?_; rintro e w' ⟨rfl, rfl⟩))
              refine Met.intro ?_
              go_step
              (repeat apply Exists.intro)
              refine ⟨?rel, ?fr⟩
              case fr => (try simp only [hk, p1]); rfl
              case rel => exact ⟨congrArg Value.bool (by rw [HH.out]; simp [betweenB, And.intro hb (And.intro hk (And.intro q1 (And.intro q2 (And.intro q3 (And.intro q4 (And.intro q5 (And.intro p1 (And.intro p2 p3))))))))]), (by (try simp only [hk, p1]); exact Below.refl _ _)⟩
        · rcases Bool.eq_false_or_eq_true ((t.num != 0)) with p2 | p2
          · go_wp2_with (first | (go_at_call 34; refine (within_any _ _ _ _).mono ?_; rintro e w' ⟨rfl, rfl⟩))
            refine Met.intro ?_
            go_step
            (repeat apply Exists.intro)
            refine ⟨?rel, ?fr⟩
            case fr => (try simp only [hk, p1]); rfl
            case rel => exact ⟨congrArg Value.bool (by rw [HH.out]; simp [betweenB, And.intro hb (And.intro hk (And.intro q1 (And.intro q2 (And.intro q3 (And.intro q4 (And.intro q5 (And.intro p1 p2)))))))]), (by (try simp only [hk, p1]); exact Below.refl _ _)⟩
          · rcases Bool.eq_false_or_eq_true (t.text.toList.isEmpty) with p3 | p3
            · rcases Bool.eq_false_or_eq_true (decide (0 < t.keys.length)) with p4 | p4
              · have p4' : decide ((0 : Int) < (t.keys.length : Int)) = decide (0 < t.keys.length) := decide_eq_decide.2 (by omega)
                rw [p4] at p4'
                go_wp2_with (first | (go_at_call 34; refine (within_any _ _ _ _).mono ?_; rintro e w' ⟨rfl, rfl⟩))
                refine Met.intro ?_
                go_step
                (repeat apply Exists.intro)
                refine ⟨?rel, ?fr⟩
                case fr => (try simp only [hk, p1]); rfl
                case rel => exact ⟨congrArg Value.bool (by rw [HH.out]; simp [betweenB, And.intro hb (And.intro hk (And.intro q1 (And.intro q2 (And.intro q3 (And.intro q4 (And.intro q5 (And.intro p1 (And.intro p2 (And.intro p3 p4)))))))))]), (by (try simp only [hk, p1]); exact Below.refl _ _)⟩
              · have p4' : decide ((0 : Int) < (t.keys.length : Int)) = decide (0 < t.keys.length) := decide_eq_decide.2 (by omega)
                rw [p4] at p4'
                rcases Bool.eq_false_or_eq_true (decide (0 < t.kids.length)) with p5 | p5
                · have p5' : decide ((0 : Int) < (t.kids.length : Int)) = decide (0 < t.kids.length) := decide_eq_decide.2 (by omega)
                  rw [p5] at p5'
                  go_wp2_with (first | (go_at_call 34; refine (within_any _ _ _ _).mono ?_; rintro e w' ⟨rfl, rfl⟩))
                  refine Met.intro ?_
                  go_step
                  (repeat apply Exists.intro)
                  refine ⟨?rel, ?fr⟩
                  case fr => (try simp only [hk, p1]); rfl
                  case rel => exact ⟨congrArg Value.bool (by rw [HH.out]; simp [betweenB, And.intro hb (And.intro hk (And.intro q1 (And.intro q2 (And.intro q3 (And.intro q4 (And.intro q5 (And.intro p1 (And.intro p2 (And.intro p3 (And.intro p4 p5))))))))))]), (by (try simp only [hk, p1]); exact Below.refl _ _)⟩
                · have p5' : decide ((0 : Int) < (t.kids.length : Int)) = decide (0 < t.kids.length) := decide_eq_decide.2 (by omega)
                  rw [p5] at p5'
                  go_wp2_with (first | (go_at_call 34; refine (within_any _ _ _ _).mono ?_; rintro e w' ⟨rfl, rfl⟩))
                  refine Met.intro ?_
                  go_step
                  (repeat apply Exists.intro)
                  refine ⟨?rel, ?fr⟩
                  case fr => (try simp only [hk, p1]); rfl
                  case rel => exact ⟨congrArg Value.bool (by rw [HH.out]; simp [betweenB, And.intro hb (And.intro hk (And.intro q1 (And.intro q2 (And.intro q3 (And.intro q4 (And.intro q5 (And.intro p1 (And.intro p2 (And.intro p3 (And.intro p4 p5))))))))))]), (by (try simp only [hk, p1]); exact Below.refl _ _)⟩
            · go_wp2_with (first | (go_at_call 34; refine (within_any _ _ _ _).mono ?_; rintro e w' ⟨rfl, rfl⟩))
              refine Met.intro ?_
              go_step
              (repeat apply Exists.intro)
              refine ⟨?rel, ?fr⟩
              case fr => (try simp only [hk, p1]); rfl
              case rel => exact ⟨congrArg Value.bool (by rw [HH.out]; simp [betweenB, And.intro hb (And.intro hk (And.intro q1 (And.intro q2 (And.intro q3 (And.intro q4 (And.intro q5 (And.intro p1 (And.intro p2 p3))))))))]), (by (try simp only [hk, p1]); exact Below.refl _ _)⟩
      · have q1 : (t.kind != 2) = true := by rw [hk]; rfl
        have q2 : (t.kind != 3) = false := by rw [hk]; rfl
        have q3 : (t.kind != 4) = true := by rw [hk]; rfl
        have q4 : (t.kind != 6) = true := by rw [hk]; rfl
        have q5 : decide (t.kind < 5) = true := by rw [hk]; rfl
        rcases Bool.eq_false_or_eq_true (t.flag) with p1 | p1
        · go_wp2_with (first | (go_at_call 34; refine (within_any _ _ _ _).mono ?_; rintro e w' ⟨rfl, rfl⟩))
          refine Met.intro ?_
          go_step
          (repeat apply Exists.intro)
          refine ⟨?rel, ?fr⟩
          case fr => (try simp only [hk, p1]); rfl
          case rel => exact ⟨congrArg Value.bool (by rw [HH.out]; simp [betweenB, And.intro hb (And.intro hk (And.intro q1 (And.intro q2 (And.intro q3 (And.intro q4 (And.intro q5 p1))))))]), (by (try simp only [hk, p1]); exact Below.refl _ _)⟩
        · rcases Bool.eq_false_or_eq_true ((t.num != 0)) with p2 | p2
          · rcases Bool.eq_false_or_eq_true (t.text.toList.isEmpty) with p3 | p3
            · rcases Bool.eq_false_or_eq_true (decide (0 < t.keys.length)) with p4 | p4
              · have p4' : decide ((0 : Int) < (t.keys.length : Int)) = decide (0 < t.keys.length) := decide_eq_decide.2 (by omega)
                rw [p4] at p4'
                go_wp2_with (first | (go_at_call 34; refine (within_any _ _ _ _).mono ?_; rintro e w' ⟨rfl, rfl⟩))
                refine Met.intro ?_
                go_step
                (repeat apply Exists.intro)
                refine ⟨?rel, ?fr⟩
                case fr => (try simp only [hk, p1]); rfl
                case rel => exact ⟨congrArg Value.bool (by rw [HH.out]; simp [betweenB, And.intro hb (And.intro hk (And.intro q1 (And.intro q2 (And.intro q3 (And.intro q4 (And.intro q5 (And.intro p1 (And.intro p2 (And.intro p3 p4)))))))))]), (by (try simp only [hk, p1]); exact Below.refl _ _)⟩
              · have p4' : decide ((0 : Int) < (t.keys.length : Int)) = decide (0 < t.keys.length) := decide_eq_decide.2 (by omega)
                rw [p4] at p4'
                rcases Bool.eq_false_or_eq_true (decide (0 < t.kids.length)) with p5 | p5
                · have p5' : decide ((0 : Int) < (t.kids.length : Int)) = decide (0 < t.kids.length) := decide_eq_decide.2 (by omega)
                  rw [p5] at p5'
                  go_wp2_with (first | (go_at_call 34; refine (within_any _ _ _ _).mono ?_; rintro e w' ⟨rfl, rfl⟩))
                  refine Met.intro ?_
                  go_step
                  (repeat apply Exists.intro)
                  refine ⟨?rel, ?fr⟩
                  case fr => (try simp only [hk, p1]); rfl
                  case rel => exact ⟨congrArg Value.bool (by rw [HH.out]; simp [betweenB, And.intro hb (And.intro hk (And.intro q1 (And.intro q2 (And.intro q3 (And.intro q4 (And.intro q5 (And.intro p1 (And.intro p2 (And.intro p3 (And.intro p4 p5))))))))))]), (by (try simp only [hk, p1]); exact Below.refl _ _)⟩
                · have p5' : decide ((0 : Int) < (t.kids.length : Int)) = decide (0 < t.kids.length) := decide_eq_decide.2 (by omega)
                  rw [p5] at p5'
                  go_wp2_with (first | (go_at_call 34; refine (within_any _ _ _ _).mono ?_; rintro e w' ⟨rfl, rfl⟩))
                  refine Met.intro ?_
                  go_step
                  (repeat apply Exists.intro)
                  refine ⟨?rel, ?fr⟩
                  case fr => (try simp only [hk, p1]); rfl
                  case rel => exact ⟨congrArg Value.bool (by rw [HH.out]; simp [betweenB, And.intro hb (And.intro hk (And.intro q1 (And.intro q2 (And.intro q3 (And.intro q4 (And.intro q5 (And.intro p1 (And.intro p2 (And.intro p3 (And.intro p4 p5))))))))))]), (by (try simp only [hk, p1]); exact Below.refl _ _)⟩
            · go_wp2_with (first | (go_at_call 34; refine (within_any _ _ _ _).mono ?_; rintro e w' ⟨rfl, rfl⟩))
              refine Met.intro ?_
              go_step
              (repeat apply Exists.intro)
              refine ⟨?rel, ?fr⟩
              case fr => (try simp only [hk, p1]); rfl
              case rel => exact ⟨congrArg Value.bool (by rw [HH.out]; simp [betweenB, And.intro hb (And.intro hk (And.intro q1 (And.intro q2 (And.intro q3 (And.intro q4 (And.intro q5 (And.intro p1 (And.intro p2 p3))))))))]), (by (try simp only [hk, p1]); exact Below.refl _ _)⟩
          · rcases Bool.eq_false_or_eq_true (t.text.toList.isEmpty) with p3 | p3
            · rcases Bool.eq_false_or_eq_true (decide (0 < t.keys.length)) with p4 | p4
              · have p4' : decide ((0 : Int) < (t.keys.length : Int)) = decide (0 < t.keys.length) := decide_eq_decide.2 (by omega)
                rw [p4] at p4'
                go_wp2_with (first | (go_at_call 34; refine (within_any _ _ _ _).mono ?_; rintro e w' ⟨rfl, rfl⟩))
                refine Met.intro ?_
                go_step
                (repeat apply Exists.intro)
                refine ⟨?rel, ?fr⟩
                case fr => (try simp only [hk, p1]); rfl
                case rel => exact ⟨congrArg Value.bool (by rw [HH.out]; simp [betweenB, And.intro hb (And.intro hk (And.intro q1 (And.intro q2 (And.intro q3 (And.intro q4 (And.intro q5 (And.intro p1 (And.intro p2 (And.intro p3 p4)))))))))]), (by (try simp only [hk, p1]); exact Below.refl _ _)⟩
              · have p4' : decide ((0 : Int) < (t.keys.length : Int)) = decide (0 < t.keys.length) := decide_eq_decide.2 (by omega)
                rw [p4] at p4'
                rcases Bool.eq_false_or_eq_true (decide (0 < t.kids.length)) with p5 | p5
                · have p5' : decide ((0 : Int) < (t.kids.length : Int)) = decide (0 < t.kids.length) := decide_eq_decide.2 (by omega)
                  rw [p5] at p5'
                  go_wp2_with (first | (go_at_call 34; refine (within_any _ _ _ _).mono ?_; rintro e w' ⟨rfl, rfl⟩))
                  refine Met.intro ?_
                  go_step
                  (repeat apply Exists.intro)
                  refine ⟨?rel, ?fr⟩
                  case fr => (try simp only [hk, p1]); rfl
                  case rel => exact ⟨congrArg Value.bool (by rw [HH.out]; simp [betweenB, And.intro hb (And.intro hk (And.intro q1 (And.intro q2 (And.intro q3 (And.intro q4 (And.intro q5 (And.intro p1 (And.intro p2 (And.intro p3 (And.intro p4 p5))))))))))]), (by (try simp only [hk, p1]); exact Below.refl _ _)⟩
                · have p5' : decide ((0 : Int) < (t.kids.length : Int)) = decide (0 < t.kids.length) := decide_eq_decide.2 (by omega)
                  rw [p5] at p5'
                  go_wp2_with (first | (go_at_call 34; refine (within_any _ _ _ _).mono ?_; rintro e w' ⟨rfl, rfl⟩))
                  refine Met.intro ?_
                  go_step
                  (repeat apply Exists.intro)
                  refine ⟨?rel, ?fr⟩
                  case fr => (try simp only [hk, p1]); rfl
                  case rel => exact ⟨congrArg Value.bool (by rw [HH.out]; simp [betweenB, And.intro hb (And.intro hk (And.intro q1 (And.intro q2 (And.intro q3 (And.intro q4 (And.intro q5 (And.intro p1 (And.intro p2 (And.intro p3 (And.intro p4 p5))))))))))]), (by (try simp only [hk, p1]); exact Below.refl _ _)⟩
            · go_wp2_with (first | (go_at_call 34; refine (within_any _ _ _ _).mono ?_; rintro e w' ⟨rfl, rfl⟩))
              refine Met.intro ?_
              go_step
              (repeat apply Exists.intro)
              refine ⟨?rel, ?fr⟩
              case fr => (try simp only [hk, p1]); rfl
              case rel => exact ⟨congrArg Value.bool (by rw [HH.out]; simp [betweenB, And.intro hb (And.intro hk (And.intro q1 (And.intro q2 (And.intro q3 (And.intro q4 (And.intro q5 (And.intro p1 (And.intro p2 p3))))))))]), (by (try simp only [hk, p1]); exact Below.refl _ _)⟩
      · have q1 : (t.kind != 2) = true := by rw [hk]; rfl
        have q2 : (t.kind != 3) = true := by rw [hk]; rfl
        have q3 : (t.kind != 4) = false := by rw [hk]; rfl
        have q4 : (t.kind != 6) = true := by rw [hk]; rfl
        have q5 : decide (t.kind < 5) = true := by rw [hk]; rfl
        rcases Bool.eq_false_or_eq_true (t.flag) with p1 | p1
        · go_wp2_with (first | (go_at_call 34; refine (within_any _ _ _ _).mono ?_; rintro e w' ⟨rfl, rfl⟩))
          refine Met.intro ?_
          go_step
          (repeat apply Exists.intro)
          refine ⟨?rel, ?fr⟩
          case fr => (try simp only [hk, p1]); rfl
          case rel => exact ⟨congrArg Value.bool (by rw [HH.out]; simp [betweenB, And.intro hb (And.intro hk (And.intro q1 (And.intro q2 (And.intro q3 (And.intro q4 (And.intro q5 p1))))))]), (by (try simp only [hk, p1]); exact Below.refl _ _)⟩
        · rcases Bool.eq_false_or_eq_true ((t.num != 0)) with p2 | p2
          · go_wp2_with (first | (go_at_call 34; refine (within_any _ _ _ _).mono ?_; rintro e w' ⟨rfl, rfl⟩))
            refine Met.intro ?_
            go_step
            (repeat apply Exists.intro)
            refine ⟨?rel, ?fr⟩
            case fr => (try simp only [hk, p1]); rfl
            case rel => exact ⟨congrArg Value.bool (by rw [HH.out]; simp [betweenB, And.intro hb (And.intro hk (And.intro q1 (And.intro q2 (And.intro q3 (And.intro q4 (And.intro q5 (And.intro p1 p2)))))))]), (by (try simp only [hk, p1]); exact Below.refl _ _)⟩
          · rcases Bool.eq_false_or_eq_true (t.text.toList.isEmpty) with p3 | p3
            · rcases Bool.eq_false_or_eq_true (decide (0 < t.keys.length)) with p4 | p4
              · have p4' : decide ((0 : Int) < (t.keys.length : Int)) = decide (0 < t.keys.length) := decide_eq_decide.2 (by omega)
                rw [p4] at p4'
                go_wp2_with (first | (go_at_call 34; refine (within_any _ _ _ _).mono ?_; rintro e w' ⟨rfl, rfl⟩))
                refine Met.intro ?_
                go_step
                (repeat apply Exists.intro)
                refine ⟨?rel, ?fr⟩
                case fr => (try simp only [hk, p1]); rfl
                case rel => exact ⟨congrArg Value.bool (by rw [HH.out]; simp [betweenB, And.intro hb (And.intro hk (And.intro q1 (And.intro q2 (And.intro q3 (And.intro q4 (And.intro q5 (And.intro p1 (And.intro p2 (And.intro p3 p4)))))))))]), (by (try simp only [hk, p1]); exact Below.refl _ _)⟩
              · have p4' : decide ((0 : Int) < (t.keys.length : Int)) = decide (0 < t.keys.length) := decide_eq_decide.2 (by omega)
                rw [p4] at p4'
                rcases Bool.eq_false_or_eq_true (decide (0 < t.kids.length)) with p5 | p5
                · have p5' : decide ((0 : Int) < (t.kids.length : Int)) = decide (0 < t.kids.length) := decide_eq_decide.2 (by omega)
                  rw [p5] at p5'
                  go_wp2_with (first | (go_at_call 34; refine (within_any _ _ _ _).mono ?_; rintro e w' ⟨rfl, rfl⟩))
                  refine Met.intro ?_
                  go_step
                  (repeat apply Exists.intro)
                  refine ⟨?rel, ?fr⟩
                  case fr => (try simp only [hk, p1]); rfl
                  case rel => exact ⟨congrArg Value.bool (by rw [HH.out]; simp [betweenB, And.intro hb (And.intro hk (And.intro q1 (And.intro q2 (And.intro q3 (And.intro q4 (And.intro q5 (And.intro p1 (And.intro p2 (And.intro p3 (And.intro p4 p5))))))))))]), (by (try simp only [hk, p1]); exact Below.refl _ _)⟩
                · have p5' : decide ((0 : Int) < (t.kids.length : Int)) = decide (0 < t.kids.length) := decide_eq_decide.2 (by omega)
                  rw [p5] at p5'
                  go_wp2_with (first | (go_at_call 34; refine (within_any _ _ _ _).mono ?_; rintro e w' ⟨rfl, rfl⟩))
                  refine Met.intro ?_
                  go_step
                  (repeat apply Exists.intro)
                  refine ⟨?rel, ?fr⟩
                  case fr => (try simp only [hk, p1]); rfl
                  case rel => exact ⟨congrArg Value.bool (by rw [HH.out]; simp [betweenB, And.intro hb (And.intro hk (And.intro q1 (And.intro q2 (And.intro q3 (And.intro q4 (And.intro q5 (And.intro p1 (And.intro p2 (And.intro p3 (And.intro p4 p5))))))))))]), (by (try simp only [hk, p1]); exact Below.refl _ _)⟩
            · rcases Bool.eq_false_or_eq_true (decide (0 < t.keys.length)) with p4 | p4
              · have p4' : decide ((0 : Int) < (t.keys.length : Int)) = decide (0 < t.keys.length) := decide_eq_decide.2 (by omega)
                rw [p4] at p4'
                go_wp2_with (first | (go_at_call 34; refine (within_any _ _ _ _).mono ?_; rintro e w' ⟨rfl, rfl⟩))
                refine Met.intro ?_
                go_step
                (repeat apply Exists.intro)
                refine ⟨?rel, ?fr⟩
                case fr => (try simp only [hk, p1]); rfl
                case rel => exact ⟨congrArg Value.bool (by rw [HH.out]; simp [betweenB, And.intro hb (And.intro hk (And.intro q1 (And.intro q2 (And.intro q3 (And.intro q4 (And.intro q5 (And.intro p1 (And.intro p2 (And.intro p3 p4)))))))))]), (by (try simp only [hk, p1]); exact Below.refl _ _)⟩
              · have p4' : decide ((0 : Int) < (t.keys.length : Int)) = decide (0 < t.keys.length) := decide_eq_decide.2 (by omega)
                rw [p4] at p4'
                rcases Bool.eq_false_or_eq_true (decide (0 < t.kids.length)) with p5 | p5
                · have p5' : decide ((0 : Int) < (t.kids.length : Int)) = decide (0 < t.kids.length) := decide_eq_decide.2 (by omega)
                  rw [p5] at p5'
                  go_wp2_with (first | (go_at_call 34; refine (within_any _ _ _ _).mono ?_; rintro e w' ⟨rfl, rfl⟩))
                  refine Met.intro ?_
                  go_step
                  (repeat apply Exists.intro)
                  refine ⟨?rel, ?fr⟩
                  case fr => (try simp only [hk, p1]); rfl
                  case rel => exact ⟨congrArg Value.bool (by rw [HH.out]; simp [betweenB, And.intro hb (And.intro hk (And.intro q1 (And.intro q2 (And.intro q3 (And.intro q4 (And.intro q5 (And.intro p1 (And.intro p2 (And.intro p3 (And.intro p4 p5))))))))))]), (by (try simp only [hk, p1]); exact Below.refl _ _)⟩
                · have p5' : decide ((0 : Int) < (t.kids.length : Int)) = decide (0 < t.kids.length) := decide_eq_decide.2 (by omega)
                  rw [p5] at p5'
                  go_wp2_with (first | (go_at_call 34; refine (within_any _ _ _ _).mono ?_; rintro e w' ⟨rfl, rfl⟩))
                  refine Met.intro ?_
                  go_step
                  (repeat apply Exists.intro)
                  refine ⟨?rel, ?fr⟩
                  case fr => (try simp only [hk, p1]); rfl
                  case rel => exact ⟨congrArg Value.bool (by rw [HH.out]; simp [betweenB, And.intro hb (And.intro hk (And.intro q1 (And.intro q2 (And.intro q3 (And.intro q4 (And.intro q5 (And.intro p1 (And.intro p2 (And.intro p3 (And.intro p4 p5))))))))))]), (by (try simp only [hk, p1]); exact Below.refl _ _)⟩
      · have q1 : (t.kind != 2) = true := by rw [hk]; rfl
        have q2 : (t.kind != 3) = true := by rw [hk]; rfl
        have q3 : (t.kind != 4) = true := by rw [hk]; rfl
        have q4 : (t.kind != 6) = true := by rw [hk]; rfl
        have q5 : decide (t.kind < 5) = false := by rw [hk]; rfl
        rcases Bool.eq_false_or_eq_true (t.flag) with p1 | p1
        · go_wp2_with (first | (go_at_call 34; refine (within_any _ _ _ _).mono ?_; rintro e w' ⟨rfl, rfl⟩))
          refine Met.intro ?_
          go_step
          (repeat apply Exists.intro)
          refine ⟨?rel, ?fr⟩
          case fr => (try simp only [hk, p1]); rfl
          case rel => exact ⟨congrArg Value.bool (by rw [HH.out]; simp [betweenB, And.intro hb (And.intro hk (And.intro q1 (And.intro q2 (And.intro q3 (And.intro q4 (And.intro q5 p1))))))]), (by (try simp only [hk, p1]); exact Below.refl _ _)⟩
        · rcases Bool.eq_false_or_eq_true ((t.num != 0)) with p2 | p2
          · go_wp2_with (first | (go_at_call 34; refine (within_any _ _ _ _).mono ?_; rintro e w' ⟨rfl, rfl⟩))
            refine Met.intro ?_
            go_step
            (repeat apply Exists.intro)
            refine ⟨?rel, ?fr⟩
            case fr => (try simp only [hk, p1]); rfl
            case rel => exact ⟨congrArg Value.bool (by rw [HH.out]; simp [betweenB, And.intro hb (And.intro hk (And.intro q1 (And.intro q2 (And.intro q3 (And.intro q4 (And.intro q5 (And.intro p1 p2)))))))]), (by (try simp only [hk, p1]); exact Below.refl _ _)⟩
          · rcases Bool.eq_false_or_eq_true (t.text.toList.isEmpty) with p3 | p3
            · rcases Bool.eq_false_or_eq_true (decide (0 < t.keys.length)) with p4 | p4
              · have p4' : decide ((0 : Int) < (t.keys.length : Int)) = decide (0 < t.keys.length) := decide_eq_decide.2 (by omega)
                rw [p4] at p4'
                go_wp2_with (first | (go_at_call 34; refine (within_any _ _ _ _).mono ?_; rintro e w' ⟨rfl, rfl⟩))
                refine Met.intro ?_
                go_step
                (repeat apply Exists.intro)
                refine ⟨?rel, ?fr⟩
                case fr => (try simp only [hk, p1]); rfl
                case rel => exact ⟨congrArg Value.bool (by rw [HH.out]; simp [betweenB, And.intro hb (And.intro hk (And.intro q1 (And.intro q2 (And.intro q3 (And.intro q4 (And.intro q5 (And.intro p1 (And.intro p2 (And.intro p3 p4)))))))))]), (by (try simp only [hk, p1]); exact Below.refl _ _)⟩
              · have p4' : decide ((0 : Int) < (t.keys.length : Int)) = decide (0 < t.keys.length) := decide_eq_decide.2 (by omega)
                rw [p4] at p4'
                rcases Bool.eq_false_or_eq_true (decide (0 < t.kids.length)) with p5 | p5
                · have p5' : decide ((0 : Int) < (t.kids.length : Int)) = decide (0 < t.kids.length) := decide_eq_decide.2 (by omega)
                  rw [p5] at p5'
                  go_wp2_with (first | (go_at_call 34; refine (within_any _ _ _ _).mono ?_; rintro e w' ⟨rfl, rfl⟩))
                  refine Met.intro ?_
                  go_step
                  (repeat apply Exists.intro)
                  refine ⟨?rel, ?fr⟩
                  case fr => (try simp only [hk, p1]); rfl
                  case rel => exact ⟨congrArg Value.bool (by rw [HH.out]; simp [betweenB, And.intro hb (And.intro hk (And.intro q1 (And.intro q2 (And.intro q3 (And.intro q4 (And.intro q5 (And.intro p1 (And.intro p2 (And.intro p3 (And.intro p4 p5))))))))))]), (by (try simp only [hk, p1]); exact Below.refl _ _)⟩
                · have p5' : decide ((0 : Int) < (t.kids.length : Int)) = decide (0 < t.kids.length) := decide_eq_decide.2 (by omega)
                  rw [p5] at p5'
                  go_wp2_with (first | (go_at_call 34; refine (within_any _ _ _ _).mono ?_; rintro e w' ⟨rfl, rfl⟩))
                  refine Met.intro ?_
                  go_step
                  (repeat apply Exists.intro)
                  refine ⟨?rel, ?fr⟩
                  case fr => (try simp only [hk, p1]); rfl
                  case rel => exact ⟨congrArg Value.bool (by rw [HH.out]; simp [betweenB, And.intro hb (And.intro hk (And.intro q1 (And.intro q2 (And.intro q3 (And.intro q4 (And.intro q5 (And.intro p1 (And.intro p2 (And.intro p3 (And.intro p4 p5))))))))))]), (by (try simp only [hk, p1]); exact Below.refl _ _)⟩
            · go_wp2_with (first | (go_at_call 34; refine (within_any _ _ _ _).mono ?_; rintro e w' ⟨rfl, rfl⟩))
              refine Met.intro ?_
              go_step
              (repeat apply Exists.intro)
              refine ⟨?rel, ?fr⟩
              case fr => (try simp only [hk, p1]); rfl
              case rel => exact ⟨congrArg Value.bool (by rw [HH.out]; simp [betweenB, And.intro hb (And.intro hk (And.intro q1 (And.intro q2 (And.intro q3 (And.intro q4 (And.intro q5 (And.intro p1 (And.intro p2 p3))))))))]), (by (try simp only [hk, p1]); exact Below.refl _ _)⟩
      · have q1 : (t.kind != 2) = true := by rw [hk]; rfl
        have q2 : (t.kind != 3) = true := by rw [hk]; rfl
        have q3 : (t.kind != 4) = true := by rw [hk]; rfl
        have q4 : (t.kind != 6) = false := by rw [hk]; rfl
        have q5 : decide (t.kind < 5) = false := by rw [hk]; rfl
        rcases Bool.eq_false_or_eq_true (t.flag) with p1 | p1
        · go_wp2_with (first | (go_at_call 34; refine (within_any _ _ _ _).mono ?_; rintro e w' ⟨rfl, rfl⟩))
          refine Met.intro ?_
          go_step
          (repeat apply Exists.intro)
          refine ⟨?rel, ?fr⟩
          case fr => (try simp only [hk, p1]); rfl
          case rel => exact ⟨congrArg Value.bool (by rw [HH.out]; simp [betweenB, And.intro hb (And.intro hk (And.intro q1 (And.intro q2 (And.intro q3 (And.intro q4 (And.intro q5 p1))))))]), (by (try simp only [hk, p1]); exact Below.refl _ _)⟩
        · rcases Bool.eq_false_or_eq_true ((t.num != 0)) with p2 | p2
          · go_wp2_with (first | (go_at_call 34; refine (within_any _ _ _ _).mono ?_; rintro e w' ⟨rfl, rfl⟩))
            refine Met.intro ?_
            go_step
            (repeat apply Exists.intro)
            refine ⟨?rel, ?fr⟩
            case fr => (try simp only [hk, p1]); rfl
            case rel => exact ⟨congrArg Value.bool (by rw [HH.out]; simp [betweenB, And.intro hb (And.intro hk (And.intro q1 (And.intro q2 (And.intro q3 (And.intro q4 (And.intro q5 (And.intro p1 p2)))))))]), (by (try simp only [hk, p1]); exact Below.refl _ _)⟩
          · rcases Bool.eq_false_or_eq_true (t.text.toList.isEmpty) with p3 | p3
            · rcases Bool.eq_false_or_eq_true (decide (0 < t.keys.length)) with p4 | p4
              · have p4' : decide ((0 : Int) < (t.keys.length : Int)) = decide (0 < t.keys.length) := decide_eq_decide.2 (by omega)
                rw [p4] at p4'
                rcases Bool.eq_false_or_eq_true (decide (0 < t.kids.length)) with p5 | p5
                · have p5' : decide ((0 : Int) < (t.kids.length : Int)) = decide (0 < t.kids.length) := decide_eq_decide.2 (by omega)
                  rw [p5] at p5'
                  go_wp2_with (first | (go_at_call 34; refine (within_any _ _ _ _).mono ?_; rintro e w' ⟨rfl, rfl⟩))
                  refine Met.intro ?_
                  go_step
                  (repeat apply Exists.intro)
                  refine ⟨?rel, ?fr⟩
                  case fr => (try simp only [hk, p1]); rfl
                  case rel => exact ⟨congrArg Value.bool (by rw [HH.out]; simp [betweenB, And.intro hb (And.intro hk (And.intro q1 (And.intro q2 (And.intro q3 (And.intro q4 (And.intro q5 (And.intro p1 (And.intro p2 (And.intro p3 (And.intro p4 p5))))))))))]), (by (try simp only [hk, p1]); exact Below.refl _ _)⟩
                · have p5' : decide ((0 : Int) < (t.kids.length : Int)) = decide (0 < t.kids.length) := decide_eq_decide.2 (by omega)
                  rw [p5] at p5'
                  go_wp2_with (first | (go_at_call 34; refine (within_any _ _ _ _).mono ?_; rintro e w' ⟨rfl, rfl⟩))
                  refine Met.intro ?_
                  go_step
                  (repeat apply Exists.intro)
                  refine ⟨?rel, ?fr⟩
                  case fr => (try simp only [hk, p1]); rfl
                  case rel => exact ⟨congrArg Value.bool (by rw [HH.out]; simp [betweenB, And.intro hb (And.intro hk (And.intro q1 (And.intro q2 (And.intro q3 (And.intro q4 (And.intro q5 (And.intro p1 (And.intro p2 (And.intro p3 (And.intro p4 p5))))))))))]), (by (try simp only [hk, p1]); exact Below.refl _ _)⟩
              · have p4' : decide ((0 : Int) < (t.keys.length : Int)) = decide (0 < t.keys.length) := decide_eq_decide.2 (by omega)
                rw [p4] at p4'
                rcases Bool.eq_false_or_eq_true (decide (0 < t.kids.length)) with p5 | p5
                · have p5' : decide ((0 : Int) < (t.kids.length : Int)) = decide (0 < t.kids.length) := decide_eq_decide.2 (by omega)
                  rw [p5] at p5'
                  go_wp2_with (first | (go_at_call 34; refine (within_any _ _ _ _).mono ?_; rintro e w' ⟨rfl, rfl⟩))
                  refine Met.intro ?_
                  go_step
                  (repeat apply Exists.intro)
                  refine ⟨?rel, ?fr⟩
                  case fr => (try simp only [hk, p1]); rfl
                  case rel => exact ⟨congrArg Value.bool (by rw [HH.out]; simp [betweenB, And.intro hb (And.intro hk (And.intro q1 (And.intro q2 (And.intro q3 (And.intro q4 (And.intro q5 (And.intro p1 (And.intro p2 (And.intro p3 (And.intro p4 p5))))))))))]), (by (try simp only [hk, p1]); exact Below.refl _ _)⟩
                · have p5' : decide ((0 : Int) < (t.kids.length : Int)) = decide (0 < t.kids.length) := decide_eq_decide.2 (by omega)
                  rw [p5] at p5'
                  go_wp2_with (first | (go_at_call 34; refine (within_any _ _ _ _).mono ?_; rintro e w' ⟨rfl, rfl⟩))
                  refine Met.intro ?_
                  go_step
                  (repeat apply Exists.intro)
                  refine ⟨?rel, ?fr⟩
                  case fr => (try simp only [hk, p1]); rfl
                  case rel => exact ⟨congrArg Value.bool (by rw [HH.out]; simp [betweenB, And.intro hb (And.intro hk (And.intro q1 (And.intro q2 (And.intro q3 (And.intro q4 (And.intro q5 (And.intro p1 (And.intro p2 (And.intro p3 (And.intro p4 p5))))))))))]), (by (try simp only [hk, p1]); exact Below.refl _ _)⟩
            · go_wp2_with (first | (go_at_call 34; refine (within_any _ _ _ _).mono ?_; rintro e w' ⟨rfl, rfl⟩))
              refine Met.intro ?_
              go_step
              (repeat apply Exists.intro)
              refine ⟨?rel, ?fr⟩
              case fr => (try simp only [hk, p1]); rfl
              case rel => exact ⟨congrArg Value.bool (by rw [HH.out]; simp [betweenB, And.intro hb (And.intro hk (And.intro q1 (And.intro q2 (And.intro q3 (And.intro q4 (And.intro q5 (And.intro p1 (And.intro p2 p3))))))))]), (by (try simp only [hk, p1]); exact Below.refl _ _)⟩
    case rest =>
      obtain ⟨rfl, hbel⟩ := hcut
      have HSP := Lib.hid ((Spill.new w t (.slice a1 t.keys.length m1) (.slice a2 t.kids.length m2) 30).keep hbel)
      have HB := Lib.hid (bnext ((Below.refl w.heap.size w).alloc (Nat.le_refl _) _) hbel)
      clear hbel HH
      cases hA : headI t
      · have H := Lib.hid (show shapeB t = false by rw [HSH.out, HHB.out, hA]; rfl)
        go_wp2
        go_ret
        exact ⟨ret_bool H.out.symm, HB.out⟩
      obtain ⟨p0, p1, p2, p3, p4, p5⟩ := HSP.out.cells
      have HTX := Lib.hid (fun w0 h => iText t.text w0 h)
      have HTC := Lib.hid (tabs_keep HTab.out HB.out)
      go_upto_region 3 with (fail)
      go_cut [79] from 62 to 79 (fun c wx => c = .bool (!(textOkB t.text && !(t.kind == 6 && t.keys.length != t.kids.length))) ∧ Below wc.heap.size wc wx)
      case first =>
        rcases Bool.eq_false_or_eq_true (textOkB t.text) with pt | pt
        rotate_left
        · rw [pt] at HTX
          go_wp2_with (go_at_call 35; refine (HTX.out _ HTC.out).mono ?_; rintro e w1 ⟨rfl, hb1⟩)
          go_meet
          case rel => exact ⟨congrArg Value.bool (by rw [pt]; rfl), hb1⟩
        rw [pt] at HTX
        rcases Bool.eq_false_or_eq_true (t.kind == 6) with k6 | k6
        · rcases Bool.eq_false_or_eq_true (decide (t.keys.length = t.kids.length)) with hl | hl
          · have hl' : ((t.keys.length : Int) != (t.kids.length : Int)) = false := by simp at hl; simp; omega
            have HL := Lib.hid hl; clear hl
            go_wp2_with (go_at_call 35; refine (HTX.out _ HTC.out).mono ?_; rintro e w1 ⟨rfl, hb1⟩; obtain ⟨q0, q1, q2, q3, q4, q5⟩ := (HSP.out.keep hb1).cells)
            go_meet
            case rel => exact ⟨congrArg Value.bool (by rw [k6, pt]; have := HL.out; simp at this; simp [this]), hb1⟩
          · have hl' : ((t.keys.length : Int) != (t.kids.length : Int)) = true := by simp at hl; simp; omega
            have HL := Lib.hid hl; clear hl
            go_wp2_with (go_at_call 35; refine (HTX.out _ HTC.out).mono ?_; rintro e w1 ⟨rfl, hb1⟩; obtain ⟨q0, q1, q2, q3, q4, q5⟩ := (HSP.out.keep hb1).cells)
            go_meet
            case rel => exact ⟨congrArg Value.bool (by rw [k6, pt]; have := HL.out; simp at this; simp [this]), hb1⟩
        · go_wp2_with (go_at_call 35; refine (HTX.out _ HTC.out).mono ?_; rintro e w1 ⟨rfl, hb1⟩; obtain ⟨q0, q1, q2, q3, q4, q5⟩ := (HSP.out.keep hb1).cells)
          go_meet
          case rel => exact ⟨congrArg Value.bool (by rw [k6, pt]; rfl), hb1⟩
      case rest =>
        obtain ⟨rfl, hbel⟩ := hcut
        have HSP := Lib.hid (HSP.out.keep hbel)
        have HB := Lib.hid (bnext HB.out hbel)
        clear hbel HTX HTC p0 p1 p2 p3 p4 p5
        cases hB : (textOkB t.text && !(t.kind == 6 && t.keys.length != t.kids.length))
        · have H := Lib.hid (show shapeB t = false by rw [HSH.out, HHB.out, hB]; simp)
          go_wp2
          go_ret
          exact ⟨ret_bool H.out.symm, HB.out⟩
        have HD := Lib.hid (show headB t = true by rw [HHB.out, hA, hB]; rfl)
        have HKL := Lib.hid (show t.keys.length ≤ 2000000 from Nat.le_trans (keys_le HD.out) HN.out.2)
        obtain ⟨p0, p1, p2, p3, p4, p5⟩ := HSP.out.cells
        clear p0 p1 p2 p3 p5
        clear hB hA
        go_wp2
        clear p4
        go_loopg [83] t.keys.length (fun g i wr => ∃ k : Nat, k + g = t.keys.length ∧ i = .int .i64 k ∧ Below wc.heap.size wc wr ∧ Hid (∀ i, i < k → keyOkAt t.keys i = true))
        case atStart => exact ⟨0, by omega, rfl, Below.refl _ _, Lib.hid (fun i hi => by omega)⟩
        case round =>
          obtain ⟨k, hk, rfl, hbw, HA⟩ := hrel
          have HSW := Lib.hid (HSP.out.keep hbw)
          have HBW := Lib.hid (bnext HB.out hbw)
          have HBC := Lib.hid hbw
          by_cases hlt : k < t.keys.length
          · obtain ⟨b, off, rfl, hcell⟩ := ((HKS.out.1.keep HB.out).keep hbw).at hlt
            have c0 := hcell k hlt
            have HTK := Lib.hid (fun w0 h => iText (strAt t.keys k) w0 h)
            have HTW := Lib.hid (tabs_keep HTab.out HBW.out)
            have HK : Hid (keyOkAt t.keys k = (textOkB (strAt t.keys k) && !(decide (0 < k) && geT (strAt t.keys (k - 1)) (strAt t.keys k)))) := rfl
            have n1 : (k : Int) ≤ 2000000 := by have := HKL.out; omega
            clear hbw
            rcases Bool.eq_false_or_eq_true (textOkB (strAt t.keys k)) with pt | pt
            rotate_left
            · rw [pt] at HTK
              have H := Lib.hid (show shapeB t = false by rw [HSH.out, keys_no hlt (by rw [HK.out, pt]; rfl)]; simp)
              clear hcell
              go_wp2_with (go_at_call 35; refine (HTK.out _ HTW.out).mono ?_; rintro e w1 ⟨rfl, hb1⟩)
              go_ret
              exact ⟨ret_bool H.out.symm, bnext HBW.out hb1⟩
            rw [pt] at HTK
            by_cases hk0 : 0 < k
            rotate_left
            · have H := Lib.hid (upto_step HA.out (show keyOkAt t.keys k = true by rw [HK.out, pt, decide_eq_false hk0]; rfl))
              have z1 : decide ((0 : Int) < (k : Int)) = false := decide_eq_false (by omega)
              have z2 : decide (0 < k) = false := decide_eq_false hk0
              clear hcell hk0
              go_wp2_with (go_at_call 35; refine (HTK.out _ HTW.out).mono ?_; rintro e w1 ⟨rfl, hb1⟩)
              go_roundg (t.keys.length - (k + 1))
              case measure => omega
              case rel => exact ⟨k + 1, by omega, by go_num, bnext HBC.out hb1, H⟩
            have z1 : decide ((0 : Int) < (k : Int)) = true := decide_eq_true (by omega)
            have z2 : decide (0 < k) = true := decide_eq_true hk0
            have c1 := hcell (k - 1) (by omega)
            have i1 : (0 : Int) ≤ (k : Int) - 1 := by omega
            have i2 : (k : Int) - 1 < (t.keys.length : Int) := by omega
            cases hg : Op.bytesLess (strAt t.keys (k - 1)).toList (strAt t.keys k).toList
            · have H := Lib.hid (show shapeB t = false by rw [HSH.out, keys_no hlt (by rw [HK.out, pt, decide_eq_true hk0, geT, hg]; rfl)]; simp)
              clear hcell
              go_wp2_with (go_at_call 35; refine (HTK.out _ HTW.out).mono ?_; rintro e w1 ⟨rfl, hb1⟩; obtain ⟨q0, q1, q2, q3, q4, q5⟩ := (HSW.out.keep hb1).cells; have d1 := bkeep hb1 c1; clear q0 q1 q2 q3 q5)
              go_ret
              exact ⟨ret_bool H.out.symm, bnext HBW.out hb1⟩
            · have H := Lib.hid (upto_step HA.out (show keyOkAt t.keys k = true by rw [HK.out, pt, decide_eq_true hk0, geT, hg]; rfl))
              clear hcell
              go_wp2_with (go_at_call 35; refine (HTK.out _ HTW.out).mono ?_; rintro e w1 ⟨rfl, hb1⟩; obtain ⟨q0, q1, q2, q3, q4, q5⟩ := (HSW.out.keep hb1).cells; have d1 := bkeep hb1 c1; clear q0 q1 q2 q3 q5)
              go_roundg (t.keys.length - (k + 1))
              case measure => omega
              case rel => exact ⟨k + 1, by omega, by go_num, bnext HBC.out hb1, H⟩
          · obtain rfl : k = t.keys.length := by omega
            have HKY := Lib.hid (keys_yes HA.out)
            have HIN := Lib.hid ((HKS.out.2.keep HB.out).keep hbw)
            clear HA hk hlt hbw
            obtain ⟨q0, q1, q2, q3, q4, q5⟩ := HSW.out.cells
            clear q0 q1 q2 q3 q4
            go_wp2
            clear q5
            go_loopg [109] t.kids.length (fun g i wv => ∃ j : Nat, j + g = t.kids.length ∧ i = .int .i64 j ∧ Below wr.heap.size wr wv ∧ Hid (∀ i, i < j → shapeB (kidAt t.kids i) = true))
            case atStart => exact ⟨0, by omega, rfl, Below.refl _ _, Lib.hid (fun i hi => by omega)⟩
            case round =>
              obtain ⟨j, hj, rfl, hbv, HC⟩ := hrel
              by_cases hjl : j < t.kids.length
              · obtain ⟨b, o, vk', vs', rfl, ⟨c0, c1, c2, c3, c4, c5⟩, hin⟩ := (HIN.out.keep hbv).at hjl
                obtain ⟨hk', hs'⟩ := treeIn_iff.1 hin
                obtain ⟨b1, n1, rfl⟩ := hk'.len
                obtain ⟨b2, n2, rfl⟩ := hs'.len
                clear hk' hs'
                have h1 := nodes_kid t.kids j hjl
                have hz := hbv.size
                have hlb := lt_of_cell c0
                have HBV := Lib.hid (bnext HBW.out hbv)
                have HTV := Lib.hid (tabs_keep HTab.out HBV.out)
                have HI := Lib.hid (fun w0 (hw : Below wr.heap.size wr w0) => IH.out (kidAt t.kids j) S _ _ w0 (by have := HN.out; omega) (by have := HN2.out; omega) (hin.keep hw) (tabs_keep HTV.out hw))
                cases hsh : shapeB (kidAt t.kids j)
                · have H := Lib.hid (show shapeB t = false by rw [HSH.out, shapeL_not _ _ hjl hsh]; simp)
                  rw [hsh] at HI
                  clear hsh h1
                  go_wp2_with (go_at_call 24; refine (HI.out _ (by repeat (first | exact Below.refl _ _ | (refine Below.alloc ?_ (by first | omega | (simp; done) | (simp; omega)) _) | (refine Below.setCell ?_ (by first | omega | (simp; done) | (simp; omega)) _) | (refine Below.drew ?_) | (refine below_drewN ?_ _)))).mono ?_; rintro e w1 ⟨rfl, hb1⟩)
                  go_ret
                  exact ⟨ret_bool H.out.symm, bnext (bnext HBV.out (by repeat (first | exact Below.refl _ _ | (refine Below.alloc ?_ (by first | omega | (simp; done) | (simp; omega)) _) | (refine Below.setCell ?_ (by first | omega | (simp; done) | (simp; omega)) _) | (refine Below.drew ?_) | (refine below_drewN ?_ _)))) hb1⟩
                · have HC2 := Lib.hid (upto_step HC.out hsh)
                  rw [hsh] at HI
                  clear hsh h1
                  go_wp2_with (go_at_call 24; refine (HI.out _ (by repeat (first | exact Below.refl _ _ | (refine Below.alloc ?_ (by first | omega | (simp; done) | (simp; omega)) _) | (refine Below.setCell ?_ (by first | omega | (simp; done) | (simp; omega)) _) | (refine Below.drew ?_) | (refine below_drewN ?_ _)))).mono ?_; rintro e w1 ⟨rfl, hb1⟩)
                  go_roundg (t.kids.length - (j + 1))
                  case measure => omega
                  case rel => exact ⟨j + 1, by omega, by go_num, bnext (bnext hbv (by repeat (first | exact Below.refl _ _ | (refine Below.alloc ?_ (by first | omega | (simp; done) | (simp; omega)) _) | (refine Below.setCell ?_ (by first | omega | (simp; done) | (simp; omega)) _) | (refine Below.drew ?_) | (refine below_drewN ?_ _)))) hb1, HC2⟩
              · obtain rfl : j = t.kids.length := by omega
                have H := Lib.hid (show shapeB t = true by rw [HSH.out, HD.out, HKY.out, shapeL_at _ HC.out]; rfl)
                go_wp2
                go_ret
                exact ⟨ret_bool H.out.symm, bnext HBW.out hbv⟩

theorem iShape : ∀ N, ShapeI N
  | 0 => fun t S vk vs w h _ _ _ => by have := nodes_pos t; omega
  | N + 1 => iShape_step N (iShape N)

end Go.Proofs.YtbjialckijphiaaDoor
