/- SameNeeds of both texts. -/
import Derived.Test.YtlfnbldhmkbkmaaNeedC
import Derived.Deep.RegionHeld3
import Derived.Test.YtlfnbldhmkbkmaaSoft
namespace Go.Proofs.Ytlfnbldhmkbkmaa
open Go.RowKit

theorem sameNeeds1 (n m : Nd) (vv vv' : Value) (w : World) (hn : n.vals.length ≤ 1048576) (hm : m.vals.length ≤ 1048576) (hv : StrsIn w Any vv n.vals) (hv' : StrsIn w Any vv' m.vals) :
    Calls Try.prog 21 #[.agg #[.string n.key, .int .i64 n.op, vv], .agg #[.string m.key, .int .i64 m.op, vv']] w fun e w' => e = .returned (.bool (cmpNeed n m == 0)) ∧ Below w.heap.size w w' := by
  obtain ⟨a1, m1, rfl⟩ := hv.len
  obtain ⟨a2, m2, rfl⟩ := hv'.len
  have hB : Below w.heap.size w ((w.alloc (.cells #[.string n.key, .int .i64 n.op, .slice a1 n.vals.length m1] 42)).alloc (.cells #[.string m.key, .int .i64 m.op, .slice a2 m.vals.length m2] 42)) := by repeat (first | exact Below.refl _ _ | (refine Below.alloc ?_ (by first | omega | (simp; done) | (simp; omega)) _) | (refine Below.setCell ?_ (by first | omega | (simp; done) | (simp; omega)) _) | (refine Below.drew ?_) | (refine below_drewN ?_ _))
  have HV := Lib.hid (And.intro (hv.keep hB) (And.intro (hv'.keep hB) hB)); clear hv hv' hB
  go_enter Try.func21, Try.ntmps21
  go_wp2_with fail
  refine (compareNeeds_any n m _ _ _ hn hm HV.out.1 HV.out.2.1).mono ?_
  rintro e w1 ⟨rfl, hb1⟩
  go_wp2
  go_ret
  exact ⟨ret_bool rfl, bnext HV.out.2.2 hb1⟩

set_option maxHeartbeats 1000000 in
theorem equalFuncN (l l' : List Nd) (a a' : Option Addr) (cap cap' : Nat) (w : World) (hn : l.length ≤ 1048576) (hs : ∀ i, i < l.length → (needAt l i).vals.length ≤ 1048576) (hs' : ∀ i, i < l'.length → (needAt l' i).vals.length ≤ 1048576)
    (hc : NeedsIn w (.slice a l.length cap) l) (hc' : NeedsIn w (.slice a' l'.length cap') l') :
    Calls Try.prog 20 #[.slice a l.length cap, .slice a' l'.length cap', .func (.func 21) #[] #[]] w fun e w' => e = .returned (.bool (sameNeeds l l')) ∧ Below w.heap.size w w' := by
  have HSZ := Lib.hid (And.intro hs hs'); clear hs hs'
  by_cases hln : l.length = l'.length
  rotate_left
  · have HF := Lib.hid (sameNeeds_len l l' hln)
    have h1 : ((l.length : Int) != (l'.length : Int)) = true := by simp [bne]; omega
    clear hln
    go_enter Try.func20, Try.ntmps20
    go_wp2
    go_ret
    exact ⟨ret_bool HF.out.symm, Below.refl _ _⟩
  have h1 : ((l.length : Int) != (l'.length : Int)) = false := by simp [bne]; omega
  have HL := Lib.hid hln
  have hle : l.length ≤ l'.length := by omega
  clear hln
  go_enter Try.func20, Try.ntmps20
  go_wp2
  go_loopw [17] (fun i wr => ∃ k : Nat, k ≤ l.length ∧ i = .int .i64 k ∧ Hid (sameNeeds l l' = sameNeeds (l.drop k) (l'.drop k)) ∧ Below w.heap.size w wr) (fun i _ => l.length - (intOf i).toNat)
  case atStart => exact ⟨0, by omega, rfl, by simp [Hid], Below.refl _ _⟩
  case round =>
    obtain ⟨k, hk, rfl, HI, hb⟩ := hrel
    by_cases hlt : k < l.length
    · have hlt' : k < l'.length := by omega
      obtain ⟨b, o, vv, rfl, ⟨c0, c1, c2⟩, hv⟩ := (hc.keep hb).at hlt
      obtain ⟨b', o', vv', rfl, ⟨d0, d1, d2⟩, hv'⟩ := (hc'.keep hb).at hlt'
      obtain ⟨a1, n1, rfl⟩ := hv.len
      obtain ⟨a3, n3, rfl⟩ := hv'.len
      clear hc hc'
      have hz := hb.size
      have hlb := lt_of_cell c0
      have hlb' := lt_of_cell d0
      have HS := Lib.hid (sameNeeds_at l l' k hlt hlt')
      cases he : (cmpNeed (needAt l k) (needAt l' k) == 0)
      · go_wp2_with fail
        refine (sameNeeds1 (needAt l k) (needAt l' k) _ _ _ (HSZ.out.1 k hlt) (HSZ.out.2 k hlt') (hv.keep (by repeat (first | exact Below.refl _ _ | (refine Below.alloc ?_ (by first | omega | (simp; done) | (simp; omega)) _) | (refine Below.setCell ?_ (by first | omega | (simp; done) | (simp; omega)) _) | (refine Below.drew ?_) | (refine below_drewN ?_ _)))) (hv'.keep (by repeat (first | exact Below.refl _ _ | (refine Below.alloc ?_ (by first | omega | (simp; done) | (simp; omega)) _) | (refine Below.setCell ?_ (by first | omega | (simp; done) | (simp; omega)) _) | (refine Below.drew ?_) | (refine below_drewN ?_ _))))).mono ?_
        rintro e w1 ⟨rfl, hb1⟩
        go_wp2
        go_ret
        exact ⟨ret_bool (by rw [HI.out, HS.out, he]; rfl), bnext (by repeat (first | exact hb | (refine Below.alloc ?_ (by first | omega | (simp; done) | (simp; omega)) _) | (refine Below.setCell ?_ (by first | omega | (simp; done) | (simp; omega)) _) | (refine Below.drew ?_) | (refine below_drewN ?_ _))) hb1⟩
      · go_wp2_with fail
        refine (sameNeeds1 (needAt l k) (needAt l' k) _ _ _ (HSZ.out.1 k hlt) (HSZ.out.2 k hlt') (hv.keep (by repeat (first | exact Below.refl _ _ | (refine Below.alloc ?_ (by first | omega | (simp; done) | (simp; omega)) _) | (refine Below.setCell ?_ (by first | omega | (simp; done) | (simp; omega)) _) | (refine Below.drew ?_) | (refine below_drewN ?_ _)))) (hv'.keep (by repeat (first | exact Below.refl _ _ | (refine Below.alloc ?_ (by first | omega | (simp; done) | (simp; omega)) _) | (refine Below.setCell ?_ (by first | omega | (simp; done) | (simp; omega)) _) | (refine Below.drew ?_) | (refine below_drewN ?_ _))))).mono ?_
        rintro e w1 ⟨rfl, hb1⟩
        go_wp2
        go_roundw
        case rel => exact ⟨k + 1, by omega, by go_num, by unfold Hid; rw [HI.out, HS.out, he]; rfl, bnext (by repeat (first | exact hb | (refine Below.alloc ?_ (by first | omega | (simp; done) | (simp; omega)) _) | (refine Below.setCell ?_ (by first | omega | (simp; done) | (simp; omega)) _) | (refine Below.drew ?_) | (refine below_drewN ?_ _))) hb1⟩
        case measure => simp [intOf]; omega
    · obtain rfl : k = l.length := by omega
      go_wp2
      go_ret
      exact ⟨ret_bool (by rw [HI.out, sameNeeds_end l l' HL.out]), hb⟩

theorem iSameNeeds (l l' : List Nd) (a a' : Option Addr) (cap cap' : Nat) (w : World) (hn : l.length ≤ 1048576) (hs : ∀ i, i < l.length → (needAt l i).vals.length ≤ 1048576) (hs' : ∀ i, i < l'.length → (needAt l' i).vals.length ≤ 1048576)
    (hc : NeedsIn w (.slice a l.length cap) l) (hc' : NeedsIn w (.slice a' l'.length cap') l') :
    Calls Try.prog 8 #[.slice a l.length cap, .slice a' l'.length cap'] w fun e w' => e = .returned (.bool (sameNeeds l l')) ∧ Below w.heap.size w w' := by
  have HC := Lib.hid (And.intro hs (And.intro hs' (And.intro hc hc'))); clear hs hs' hc hc'
  go_enter Try.func8, Try.ntmps8
  go_wp2_with fail
  refine (equalFuncN l l' a a' cap cap' _ hn HC.out.1 HC.out.2.1 HC.out.2.2.1 HC.out.2.2.2).mono ?_
  rintro e w1 ⟨rfl, hb1⟩
  go_wp2
  go_ret
  exact ⟨rfl, hb1⟩

set_option maxRecDepth 100000 in
set_option maxHeartbeats 2000000 in
theorem sSameNeeds (l l' : List Nd) (a a' : Option Addr) (cap cap' : Nat) (w : World) (hn : l.length ≤ 1048576) (hn' : l'.length ≤ 1048576) (hs : ∀ i, i < l.length → (needAt l i).vals.length ≤ 1048576) (hs' : ∀ i, i < l'.length → (needAt l' i).vals.length ≤ 1048576)
    (hc : NeedsIn w (.slice a l.length cap) l) (hc' : NeedsIn w (.slice a' l'.length cap') l') :
    Calls Try.prog 6 #[.slice a l.length cap, .slice a' l'.length cap'] w fun e w' => e = .returned (.bool (sameNeeds l l')) ∧ Below w.heap.size w w' := by
  have HSZ := Lib.hid (And.intro hs hs'); clear hs hs'
  by_cases hln : l.length = l'.length
  rotate_left
  · have HF := Lib.hid (sameNeeds_len l l' hln)
    have h1 : ((l.length : Int) != (l'.length : Int)) = true := by simp [bne]; omega
    clear hln
    go_enter Try.func6, Try.ntmps6
    go_wp2
    go_ret
    exact ⟨ret_bool HF.out.symm, Below.refl _ _⟩
  have h1 : ((l.length : Int) != (l'.length : Int)) = false := by simp [bne]; omega
  have HL := Lib.hid hln
  have hle : l.length ≤ l'.length := by omega
  clear hln
  go_enter Try.func6, Try.ntmps6
  go_wp2
  go_loopw [5] (fun i wr => ∃ k : Nat, k ≤ l.length ∧ i = .int .i64 k ∧ Hid (sameNeeds l l' = sameNeeds (l.drop k) (l'.drop k)) ∧ Below w.heap.size w wr) (fun i _ => l.length - (intOf i).toNat)
  case atStart => exact ⟨0, by omega, rfl, by simp [Hid], Below.refl _ _⟩
  case round =>
    obtain ⟨k, hk, rfl, HI, hb⟩ := hrel
    by_cases hlt : k < l.length
    · have hlt' : k < l'.length := by omega
      obtain ⟨b, o, vv, rfl, ⟨c0, c1, c2⟩, hv⟩ := (hc.keep hb).at hlt
      obtain ⟨b', o', vv', rfl, ⟨d0, d1, d2⟩, hv'⟩ := (hc'.keep hb).at hlt'
      obtain ⟨a1, n1, rfl⟩ := hv.len
      obtain ⟨a3, n3, rfl⟩ := hv'.len
      clear hc hc'
      have HS := Lib.hid (sameNeeds_at l l' k hlt hlt')
      have hLL := less_less (needAt l k) (needAt l' k)
      have hN1 := fun (w0 : World) (h : Below wr.heap.size wr w0) => sNeedLess (needAt l k) (needAt l' k) (.slice a1 (needAt l k).vals.length n1) (.slice a3 (needAt l' k).vals.length n3) w0 (HSZ.out.1 k hlt) (HSZ.out.2 k hlt') (hv.keep h) (hv'.keep h)
      have hN2 := fun (w0 : World) (h : Below wr.heap.size wr w0) => sNeedLess (needAt l' k) (needAt l k) (.slice a3 (needAt l' k).vals.length n3) (.slice a1 (needAt l k).vals.length n1) w0 (HSZ.out.2 k hlt') (HSZ.out.1 k hlt) (hv'.keep h) (hv.keep h)
      have q0 := aft_cell c0
      have q1 := aft_cell c1
      have q2 := aft_cell c2
      have r0 := aft_cell d0
      have r1 := aft_cell d1
      have r2 := aft_cell d2
      clear hv hv' c0 c1 c2 d0 d1 d2
      cases he1 : lessNeed (needAt l k) (needAt l' k)
      rotate_left
      · have HE := Lib.hid (show (cmpNeed (needAt l k) (needAt l' k) == 0) = false by rw [he1] at hLL; simpa using hLL)
        rw [he1] at hN1
        have HN1 := Lib.hid hN1
        clear hN1 hN2 hLL he1
        go_wp2_with fail
        refine wp_region_soft_lit (by kernel_rfl) (by kernel_rfl) ?_
        iterate 8 (go_big_quiet_step (fail))
        iterate 1 (go_big_quiet_step ((go_at_call 18; exact soft_call (HN1.out _ (Aft.bel _)))))
        iterate 11 (go_big_quiet_step (fail))
        refine wpQuiet_nil ?_
        intro _ hw'
        obtain ⟨xq, hw''⟩ := hw'
        subst hw''
        have HBX := Lib.hid (bnext hb xq.bel)
        clear q0 q1 q2 r0 r1 r2
        go_wp2
        go_ret
        exact ⟨ret_bool (by rw [HI.out, HS.out, HE.out]; rfl), HBX.out⟩
      rw [he1] at hN1 hLL
      have HN1 := Lib.hid hN1
      cases he2 : lessNeed (needAt l' k) (needAt l k)
      · have HE := Lib.hid (show (cmpNeed (needAt l k) (needAt l' k) == 0) = true by rw [he2] at hLL; simpa using hLL.symm)
        rw [he2] at hN2
        have HN2 := Lib.hid hN2
        clear hN1 hN2 hLL he1 he2
        go_wp2_with fail
        refine wp_region_soft_lit (by kernel_rfl) (by kernel_rfl) ?_
        iterate 8 (go_big_quiet_step (fail))
        iterate 1 (go_big_quiet_step ((go_at_call 18; exact soft_call (HN1.out _ (Aft.bel _)))))
        iterate 9 (go_big_quiet_step (fail))
        iterate 1 (go_big_quiet_step ((go_at_call 18; exact soft_call (HN2.out _ (Aft.bel _)))))
        iterate 1 (go_big_quiet_step (fail))
        refine wpQuiet_nil ?_
        intro _ hw'
        obtain ⟨xq, hw''⟩ := hw'
        subst hw''
        have HBX := Lib.hid (bnext hb xq.bel)
        clear q0 q1 q2 r0 r1 r2
        go_wp2
        go_roundw
        case rel => exact ⟨k + 1, by omega, by go_num, by unfold Hid; rw [HI.out, HS.out, HE.out]; rfl, HBX.out⟩
        case measure => simp [intOf]; omega
      · have HE := Lib.hid (show (cmpNeed (needAt l k) (needAt l' k) == 0) = false by rw [he2] at hLL; simpa using hLL)
        rw [he2] at hN2
        have HN2 := Lib.hid hN2
        clear hN1 hN2 hLL he1 he2
        go_wp2_with fail
        refine wp_region_soft_lit (by kernel_rfl) (by kernel_rfl) ?_
        iterate 8 (go_big_quiet_step (fail))
        iterate 1 (go_big_quiet_step ((go_at_call 18; exact soft_call (HN1.out _ (Aft.bel _)))))
        iterate 9 (go_big_quiet_step (fail))
        iterate 1 (go_big_quiet_step ((go_at_call 18; exact soft_call (HN2.out _ (Aft.bel _)))))
        iterate 1 (go_big_quiet_step (fail))
        refine wpQuiet_nil ?_
        intro _ hw'
        obtain ⟨xq, hw''⟩ := hw'
        subst hw''
        have HBX := Lib.hid (bnext hb xq.bel)
        clear q0 q1 q2 r0 r1 r2
        go_wp2
        go_ret
        exact ⟨ret_bool (by rw [HI.out, HS.out, HE.out]; rfl), HBX.out⟩
    · obtain rfl : k = l.length := by omega
      go_wp2
      go_ret
      exact ⟨ret_bool (by rw [HI.out, sameNeeds_end l l' HL.out]), hb⟩

end Go.Proofs.Ytlfnbldhmkbkmaa
