/- compareNeeds, NeedLess and SameNeeds of both texts. -/
import Derived.Test.YtlfnbldhmkbkmaaNeedB
import Derived.StillTactics
import Derived.StillTail
namespace Go.Proofs.Ytlfnbldhmkbkmaa
open Go.RowKit

theorem quietW {P : Program} {f : FuncId} {args : Array Value} {w : World} {v : Value} (h : Calls P f args w fun e w' => e = .returned v ∧ w = w') :
    Calls P f args w fun e w'' => e = .returned v ∧ w'' = w := h.mono fun _ _ ⟨he, hm⟩ => ⟨he, hm.symm⟩
theorem cmpNeed_or (n m : Nd) : cmpNeed n m = orZ (cmpB n.key m.key) (orZ (Lib.compareInt n.op m.op) (cmpVals n.vals m.vals)) := rfl

set_option maxHeartbeats 1000000 in
theorem compareNeeds_any (n m : Nd) (vv vv' : Value) (w : World) (hn : n.vals.length ≤ 1048576) (_hm : m.vals.length ≤ 1048576) (hv : StrsIn w Any vv n.vals) (hv' : StrsIn w Any vv' m.vals) :
    Calls Try.prog 22 #[.agg #[.string n.key, .int .i64 n.op, vv], .agg #[.string m.key, .int .i64 m.op, vv']] w fun e w' => e = .returned (.int .i64 (cmpNeed n m)) ∧ Below w.heap.size w w' := by
  obtain ⟨a1, m1, rfl⟩ := hv.len
  obtain ⟨a2, m2, rfl⟩ := hv'.len
  have hB : Below w.heap.size w ((w.alloc (.cells #[.string n.key, .int .i64 n.op, .slice a1 n.vals.length m1] 42)).alloc (.cells #[.string m.key, .int .i64 m.op, .slice a2 m.vals.length m2] 42)) := by repeat (first | exact Below.refl _ _ | (refine Below.alloc ?_ (by first | omega | (simp; done) | (simp; omega)) _) | (refine Below.setCell ?_ (by first | omega | (simp; done) | (simp; omega)) _) | (refine Below.drew ?_) | (refine below_drewN ?_ _))
  have HO := Lib.hid (cmpNeed_or n m)
  have d0 : ((w.alloc (.cells #[.string n.key, .int .i64 n.op, .slice a1 n.vals.length m1] 42)).alloc (.cells #[.string m.key, .int .i64 m.op, .slice a2 m.vals.length m2] 42)).cell? ⟨w.heap.size, 0, none⟩ = some (.string n.key) := by go_simp
  have d1 : ((w.alloc (.cells #[.string n.key, .int .i64 n.op, .slice a1 n.vals.length m1] 42)).alloc (.cells #[.string m.key, .int .i64 m.op, .slice a2 m.vals.length m2] 42)).cell? ⟨w.heap.size, 1, none⟩ = some (.int .i64 n.op) := by go_simp
  have d2 : ((w.alloc (.cells #[.string n.key, .int .i64 n.op, .slice a1 n.vals.length m1] 42)).alloc (.cells #[.string m.key, .int .i64 m.op, .slice a2 m.vals.length m2] 42)).cell? ⟨w.heap.size, 2, none⟩ = some (.slice a1 n.vals.length m1) := by go_simp
  have e0 : ((w.alloc (.cells #[.string n.key, .int .i64 n.op, .slice a1 n.vals.length m1] 42)).alloc (.cells #[.string m.key, .int .i64 m.op, .slice a2 m.vals.length m2] 42)).cell? ⟨w.heap.size + 1, 0, none⟩ = some (.string m.key) := by go_simp
  have e1 : ((w.alloc (.cells #[.string n.key, .int .i64 n.op, .slice a1 n.vals.length m1] 42)).alloc (.cells #[.string m.key, .int .i64 m.op, .slice a2 m.vals.length m2] 42)).cell? ⟨w.heap.size + 1, 1, none⟩ = some (.int .i64 m.op) := by go_simp
  have e2 : ((w.alloc (.cells #[.string n.key, .int .i64 n.op, .slice a1 n.vals.length m1] 42)).alloc (.cells #[.string m.key, .int .i64 m.op, .slice a2 m.vals.length m2] 42)).cell? ⟨w.heap.size + 1, 2, none⟩ = some (.slice a2 m.vals.length m2) := by go_simp
  have HV := Lib.hid (And.intro (hv.keep hB) (And.intro (hv'.keep hB) (And.intro hB (And.intro d0 (And.intro d1 (And.intro d2 (And.intro e0 (And.intro e1 e2)))))))); clear hv hv' hB d0 d1 d2 e0 e1 e2
  go_enter Try.func22, Try.ntmps22
  go_wp2_with fail
  generalize ((w.alloc (.cells #[.string n.key, .int .i64 n.op, .slice a1 n.vals.length m1] 42)).alloc (.cells #[.string m.key, .int .i64 m.op, .slice a2 m.vals.length m2] 42)) = W2 at HV ⊢
  obtain ⟨hv, hv', hB, d0, d1, d2, e0, e1, e2⟩ := HV.out
  refine wp_region_still_tail 15 (by kernel_rfl) (by kernel_rfl) ?_
  simp only [List.take_succ_cons, List.take_zero, List.drop_succ_cons, List.drop_zero]
  repeat (first
    | still_step
    | still_call (quietW (stringsCompare n.key m.key _))
    | still_call (quietW (cmpInt_any n.op m.op _))
    | still_call (quietW (slicesCompareS n.vals m.vals Any Any a1 a2 m1 m2 _ hn (hv.keep (Below.refl W2.heap.size W2).drew) (hv'.keep (Below.refl W2.heap.size W2).drew))))
  refine wpStill_nil ?_
  change wpList _ _ _ _ _ W2.drew
  go_wp2_with (go_at_call 36; refine (cmpOr_any _ (cmpB n.key m.key) (Lib.compareInt n.op m.op) (cmpVals n.vals m.vals) _ (by go_simp) (by go_simp) (by go_simp)).mono ?_; rintro e w1 ⟨rfl, rfl⟩)
  go_ret
  exact ⟨ret_int (by rw [HO.out]), bnext hB (by repeat (first | exact Below.refl _ _ | (refine Below.alloc ?_ (by first | omega | (simp; done) | (simp; omega)) _) | (refine Below.setCell ?_ (by first | omega | (simp; done) | (simp; omega)) _) | (refine Below.drew ?_) | (refine below_drewN ?_ _)))⟩

theorem lessNeed_key {n m : Nd} (h : ¬ cmpB n.key m.key = 0) : lessNeed n m = ltB n.key m.key := by
  unfold lessNeed cmpNeed; rw [if_neg h, cmpB_lt]
theorem lessNeed_op {n m : Nd} (h : cmpB n.key m.key = 0) (h2 : ¬ n.op = m.op) : lessNeed n m = decide (n.op < m.op) := by
  unfold lessNeed cmpNeed
  have h3 : Lib.compareInt n.op m.op ≠ 0 ∧ (Lib.compareInt n.op m.op < 0 ↔ n.op < m.op) := by
    unfold Lib.compareInt
    by_cases g : n.op < m.op
    · simp [g]
    · have g2 : n.op > m.op := by omega
      simp [g, g2]
  rw [if_pos h, if_neg h3.1, Bool.eq_iff_iff]
  simp only [decide_eq_true_eq]
  exact h3.2
theorem lessNeed_vals {n m : Nd} (h : cmpB n.key m.key = 0) (h2 : n.op = m.op) : lessNeed n m = decide (cmpVals n.vals m.vals < 0) := by
  unfold lessNeed cmpNeed
  rw [if_pos h, if_pos (by rw [h2]; unfold Lib.compareInt; simp)]
theorem str_ne {a b : ByteArray} (h : ¬ cmpB a b = 0) : (a.toList == b.toList) = false ∧ (a.toList != b.toList) = true := by
  have := cmpB_zero a b
  rw [bne, ← this]; simp [h]
theorem str_eq {a b : ByteArray} (h : cmpB a b = 0) : (a.toList == b.toList) = true ∧ (a.toList != b.toList) = false := by
  have := cmpB_zero a b
  rw [bne, ← this]; simp [h]

set_option maxHeartbeats 1000000 in
theorem sNeedLess (n m : Nd) (vv vv' : Value) (w : World) (hn : n.vals.length ≤ 1048576) (hm : m.vals.length ≤ 1048576) (hv : StrsIn w Any vv n.vals) (hv' : StrsIn w Any vv' m.vals) :
    Calls Try.prog 18 #[.agg #[.string n.key, .int .i64 n.op, vv], .agg #[.string m.key, .int .i64 m.op, vv']] w fun e w' => e = .returned (.bool (lessNeed n m)) ∧ Below w.heap.size w w' := by
  obtain ⟨a1, m1, rfl⟩ := hv.len
  obtain ⟨a2, m2, rfl⟩ := hv'.len
  have hB : Below w.heap.size w ((w.alloc (.cells #[.string n.key, .int .i64 n.op, .slice a1 n.vals.length m1] 42)).alloc (.cells #[.string m.key, .int .i64 m.op, .slice a2 m.vals.length m2] 42)) := by repeat (first | exact Below.refl _ _ | (refine Below.alloc ?_ (by first | omega | (simp; done) | (simp; omega)) _) | (refine Below.setCell ?_ (by first | omega | (simp; done) | (simp; omega)) _) | (refine Below.drew ?_) | (refine below_drewN ?_ _))
  by_cases h1 : cmpB n.key m.key = 0
  rotate_left
  · obtain ⟨hk, hk'⟩ := str_ne h1
    have HL := Lib.hid (lessNeed_key h1); clear h1
    go_enter Try.func18, Try.ntmps18
    go_wp2
    go_ret
    exact ⟨ret_bool (by rw [HL.out]; rfl), hB⟩
  obtain ⟨hk, hk'⟩ := str_eq h1
  by_cases h2 : n.op = m.op
  rotate_left
  · have ho : (n.op != m.op) = true := by simp [bne, h2]
    have HL := Lib.hid (lessNeed_op h1 h2); clear h1 h2
    go_enter Try.func18, Try.ntmps18
    go_wp2
    go_ret
    exact ⟨ret_bool (by rw [HL.out]), hB⟩
  have ho : (n.op != m.op) = false := by simp [bne, h2]
  have HL := Lib.hid (lessNeed_vals h1 h2); clear h1 h2
  go_enter Try.func18, Try.ntmps18
  go_wp2
  go_loopw [5] (fun s5 wr => ∃ k : Nat, k ≤ n.vals.length ∧ k ≤ m.vals.length ∧ s5 = .int .i64 k ∧ Hid (cmpVals n.vals m.vals = cmpVals (n.vals.drop k) (m.vals.drop k)) ∧
    wr.cell? ⟨w.heap.size, 2, none⟩ = some (.slice a1 n.vals.length m1) ∧ wr.cell? ⟨w.heap.size + 1, 2, none⟩ = some (.slice a2 m.vals.length m2) ∧ Below w.heap.size w wr) (fun s5 _ => n.vals.length - (intOf s5).toNat)
  case atStart => exact ⟨0, by omega, by omega, rfl, by simp [Hid], by go_simp, by go_simp, hB⟩
  case round =>
    obtain ⟨k, hk1, hk2, rfl, HI, p0, p1, hb⟩ := hrel
    by_cases hlt : k < n.vals.length
    · by_cases hlt' : k < m.vals.length
      · obtain ⟨b, o, rfl, hcell⟩ := (hv.keep hb).at hlt
        obtain ⟨b', o', rfl, hcell'⟩ := (hv'.keep hb).at hlt'
        have c0 := hcell k hlt
        have c1 := hcell' k hlt'
        clear hcell hcell' hv hv' hB
        have HS := Lib.hid (cmpVals_at n.vals m.vals k hlt hlt')
        by_cases he : cmpB (strAt n.vals k) (strAt m.vals k) = 0
        · obtain ⟨he1, he2⟩ := str_eq he
          have HE := Lib.hid he; clear he
          go_wp2_with fail
          go_quiet (fail)
          go_wp2
          go_roundw
          case rel => exact ⟨k + 1, by omega, by omega, by go_num, by unfold Hid; rw [HI.out, HS.out, if_pos HE.out], p0, p1, below_drewN hb _⟩
          case measure => simp [intOf]; omega
        · obtain ⟨he1, he2⟩ := str_ne he
          have HE := Lib.hid he; clear he
          go_wp2_with fail
          go_quiet (fail)
          go_wp2_with fail
          go_quiet (fail)
          go_wp2
          go_ret
          exact ⟨ret_bool (by rw [HL.out, HI.out, HS.out, if_neg HE.out, cmpB_lt]; rfl), below_drewN (below_drewN hb _) _⟩
      · have HS := Lib.hid (cmpVals_long n.vals m.vals k hlt hlt')
        clear hv hv' hB
        go_wp2
        go_ret
        exact ⟨ret_bool (by rw [HL.out, HI.out, HS.out]; simp; omega), hb⟩
    · have HS := Lib.hid (cmpVals_end n.vals m.vals k hlt hk1)
      clear hv hv' hB
      go_wp2
      go_ret
      exact ⟨ret_bool (by rw [HL.out, HI.out, HS.out]; split <;> simp <;> omega), hb⟩

end Go.Proofs.Ytlfnbldhmkbkmaa
