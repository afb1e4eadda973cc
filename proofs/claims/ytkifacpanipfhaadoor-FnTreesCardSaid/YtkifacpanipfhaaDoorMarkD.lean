/- heldTreeS, heldTree find the marks. -/
import Derived.Test.YtkifacpanipfhaaDoorMarkC
namespace Go.Proofs.YtkifacpanipfhaaDoor
open Go.RowKit

def HeldT (N : Nat) : Prop := ∀ (l : List Tr) (S : Nat → Prop) (a : Option Addr) (cap : Nat) (k : Nat) (w : World), nodesL l < N → k + cntL l ≤ 1073741824 → KidsIn w S (.slice a l.length cap) (markKids k l) →
    Calls Tryd.prog 63 #[.slice a l.length cap, .int .i64 k] w fun e w' => e = .returned (.int .i64 ((k : Int) + (cntL l : Int))) ∧ Below w.heap.size w w'

set_option maxRecDepth 100000 in
set_option maxHeartbeats 4000000 in
theorem heldT : ∀ N, HeldT N
  | 0 => fun l S a cap k w h _ _ => by omega
  | N + 1 => fun l S a cap k w h hk hc => by
    have HIH := Lib.hid (heldT N)
    have hlc := len_cnt l
    have hq1 : l.length ≤ 1073741824 := by omega
    have HLN := Lib.hid (markKids_len k l)
    go_enter Tryd.func63, Tryd.ntmps63
    go_wp2
    go_loopw [1, 5] (fun s1 s5 wr => ∃ j kk : Nat, j ≤ l.length ∧ s5 = .int .i64 j ∧ s1 = .int .i64 kk ∧ Hid (kk = k + cntL (l.take j)) ∧ Below w.heap.size w wr) (fun _ s5 _ => l.length - (intOf s5).toNat)
    case atStart => exact ⟨0, k, by omega, rfl, rfl, by simp [Hid, cntL], Below.refl _ _⟩
    case round =>
      obtain ⟨j, kk, hj, rfl, rfl, HKK, hb⟩ := hrel
      by_cases hlt : j < l.length
      · obtain ⟨b, o, vk, vs, rfl, ⟨c0, c1, c2, c3, c4, c5⟩, hin⟩ := (hc.keep hb).at (j := j) (by rw [HLN.out]; exact hlt)
        rw [markKids_at l k j hlt, ← HKK.out, topped_markTr] at c0 c1 c2 c3 hin
        rw [kind_mk] at c0; rw [flag_mk] at c1; rw [num_mk] at c2; rw [text_mk] at c3
        obtain ⟨hk1, hs1⟩ := treeIn_iff.1 hin
        rw [keys_mk] at hk1; rw [kids_mk] at hs1
        obtain ⟨a1, n1, rfl⟩ := hk1.len
        obtain ⟨a2, n2, rfl⟩ := hs1.len
        rw [markStrs_len] at c4 hk1
        rw [markKids_len] at c5 hs1
        clear hc hin
        have hcj := cntL_take l j hlt
        have hce := cnt_eq (kidAt l j)
        have hcl := cntL_le l (j + 1)
        have hnk := nodes_kid l j hlt
        have hne := nodes_eq (kidAt l j)
        have hkk := HKK.out
        have HB := Lib.hid (show nodesL (kidAt l j).kids < N ∧ kk + 4 + (kidAt l j).keys.length + cntL (kidAt l j).kids ≤ 1073741824 ∧ kk + 4 + (kidAt l j).cnt = k + cntL (l.take (j + 1)) ∧ (kidAt l j).cnt = (kidAt l j).keys.length + cntL (kidAt l j).kids by omega)
        have hq2 : kk + 4 + (kidAt l j).keys.length ≤ 1073741824 := by have := HB.out; omega
        have hq3 : kk + 4 + (kidAt l j).keys.length + cntL (kidAt l j).kids ≤ 1073741824 := by have := HB.out; omega
        clear hcj hce hcl hnk hne hkk
        obtain ⟨fl, hfl⟩ : ∃ fl : Bool, fl = ((((kk : Int) + 1) % 3) == 0) := ⟨_, rfl⟩
        have hflN : decide ((kk + 1) % 3 = 0) = fl := by rw [hfl, Bool.eq_iff_iff]; simp; omega
        rw [hflN] at c1
        have hfl' := hfl.symm
        clear hfl hflN
        obtain ⟨ks, hks⟩ : ∃ ks : List ByteArray, ks = (kidAt l j).keys := ⟨_, rfl⟩
        obtain ⟨cs, hcs⟩ : ∃ cs : List Tr, cs = (kidAt l j).kids := ⟨_, rfl⟩
        have HKS := Lib.hid (And.intro hks hcs)
        rw [← hks] at hk1 c4 hq2 hq3; rw [← hcs, ← hks] at hs1; rw [← hcs] at c5 hq3
        clear hks hcs
        have hmt : ∀ w0 : World, Calls Tryd.prog 91 #[.int .i64 ((kk : Int) + 1 + 1 + 1)] w0 fun e w' => e = .returned (.string (mtext (kk + 3))) ∧ Below w0.heap.size w0 w' := fun w0 => by
          have := markText_any (kk + 3) w0 (by omega)
          rw [show ((kk : Int) + 1 + 1 + 1) = ((kk + 3 : Nat) : Int) by omega]; exact this
        have hms : ∀ w0 : World, StrsIn w0 S (.slice a1 ks.length n1) (markStrs (kk + 4) ks.length) → Calls Tryd.prog 62 #[.slice a1 ks.length n1, .int .i64 ((kk : Int) + 1 + 1 + 1 + 1)] w0 fun e w' =>
            e = .returned (.int .i64 ((kk : Int) + 4 + (ks.length : Int))) ∧ Below w0.heap.size w0 w' := fun w0 h0 => by
          have := heldStringS_in ks.length S a1 n1 (kk + 4) w0 (by omega) h0
          rw [show ((kk + 4 : Nat) : Int) = (kk : Int) + 4 by omega] at this
          rw [show ((kk : Int) + 1 + 1 + 1 + 1) = (kk : Int) + 4 by omega]; exact this
        have hmk : ∀ w0 : World, KidsIn w0 S (.slice a2 cs.length n2) (markKids (kk + 4 + ks.length) cs) → Calls Tryd.prog 63 #[.slice a2 cs.length n2, .int .i64 ((kk : Int) + 4 + (ks.length : Int))] w0 fun e w' =>
            e = .returned (.int .i64 ((kk : Int) + 4 + (ks.length : Int) + (cntL cs : Int))) ∧ Below w0.heap.size w0 w' := fun w0 h0 => by
          have := HIH.out cs S a2 n2 (kk + 4 + ks.length) w0 (by have := HB.out.1; rw [← HKS.out.2] at this; exact this) hq3 h0
          rw [show ((kk + 4 + ks.length : Nat) : Int) = (kk : Int) + 4 + (ks.length : Int) by omega] at this
          exact this
        have HMT := Lib.hid hmt; have HMS := Lib.hid hms; have HMK := Lib.hid hmk
        clear hmt hms hmk
        have he : ((mtext (kk + 3)).toList != (mtext (kk + 3)).toList) = false := by simp [bne]
        have hz1 : (0 : Int) ≤ (kk : Int) + 4 + (ks.length : Int) := by omega
        have hz2 : (0 : Int) ≤ (kk : Int) + 4 + (ks.length : Int) + (cntL cs : Int) := by omega
        go_wp2_with fail
        have c3d : wr.drew.cell? ⟨b, o + j * 6 + 3, none⟩ = some (.string (mtext (kk + 3))) := c3
        have C4 := Lib.hid c4; have C5 := Lib.hid c5
        have HB0 := Lib.hid hb
        clear c0 c1 c2 c4 c5
        go_region_with (go_at_call 91; refine (HMT.out _).mono ?_; rintro e w1 ⟨rfl, hb1⟩; have c31 := bkeep hb1 c3d)
        all_goals
          have hbw : Below w.heap.size w w1 := bnext HB0.out.drew hb1
          have hbd : Below wr.heap.size wr w1 := ((Below.refl _ _).drew).trans hb1
          have c4 := bkeep hbd C4.out
          have c5 := bkeep hbd C5.out
          have HBW := Lib.hid (And.intro hbw hbd)
          clear hb1 hbw hbd
          go_wp2_with fail
          refine (HMS.out _ (hk1.keep HBW.out.2)).mono ?_
          rintro e w2 ⟨rfl, hb2⟩
          have c52 := bkeep hb2 c5
          have HB2 := Lib.hid hb2
          clear hb2 c4 c5
          go_wp2_with fail
          refine (HMK.out _ ((hs1.keep HBW.out.2).keep HB2.out)).mono ?_
          rintro e w3 ⟨rfl, hb3⟩
          go_wp2
          go_roundw
          case rel => exact ⟨j + 1, kk + 4 + ks.length + cntL cs, by omega, by go_num, by go_num, by have := HB.out.2.2; rw [← HKS.out.1, ← HKS.out.2] at this; unfold Hid; omega, bnext (bnext HBW.out.1 HB2.out) hb3⟩
          case measure => simp [intOf]; omega
      · obtain rfl : j = l.length := by omega
        go_wp2
        go_ret
        refine ⟨ret_int (by have := HKK.out; rw [List.take_length] at this; omega), hb⟩

/-- heldTree at a tree that bears its marks. -/
theorem heldTree_in (t : Tr) (S : Nat → Prop) (vk vs : Value) (k : Nat) (w : World) (hk : k + t.cnt ≤ 1073741824) (ht : TreeIn w S (markTr k t) vk vs) :
    Calls Tryd.prog 31 #[.agg #[.int .i64 t.kind, .bool t.flag, .int .i64 t.num, .string t.text, vk, vs], .int .i64 k] w fun e w' => e = .returned (.int .i64 ((k : Int) + (t.cnt : Int))) ∧ Below w.heap.size w w' := by
  rw [markTr_eq] at ht
  obtain ⟨hk1, hs1⟩ := treeIn_iff.1 ht
  rw [keys_mk] at hk1; rw [kids_mk] at hs1
  obtain ⟨a1, n1, rfl⟩ := hk1.len
  obtain ⟨a2, n2, rfl⟩ := hs1.len
  rw [markStrs_len] at hk1
  rw [markKids_len] at hs1
  clear ht
  have hc := cnt_eq t
  rw [hc] at hk
  have HC := Lib.hid hc; clear hc
  have HLK := Lib.hid (markStrs_len k t.keys.length)
  have HLS := Lib.hid (markKids_len (k + t.keys.length) t.kids)
  rw [HLK.out, HLS.out]
  have hz1 : (0 : Int) ≤ (k : Int) + (t.keys.length : Int) := by omega
  have hz2 : (0 : Int) ≤ (k : Int) + (t.keys.length : Int) + (cntL t.kids : Int) := by omega
  have hmk : ∀ w0 : World, KidsIn w0 S (.slice a2 t.kids.length n2) (markKids (k + t.keys.length) t.kids) → Calls Tryd.prog 63 #[.slice a2 t.kids.length n2, .int .i64 ((k : Int) + (t.keys.length : Int))] w0 fun e w' =>
      e = .returned (.int .i64 ((k : Int) + (t.keys.length : Int) + (cntL t.kids : Int))) ∧ Below w0.heap.size w0 w' := fun w0 h0 => by
    have := heldT (nodesL t.kids + 1) t.kids S a2 n2 (k + t.keys.length) w0 (by omega) (by omega) h0
    rw [show ((k + t.keys.length : Nat) : Int) = (k : Int) + (t.keys.length : Int) by omega] at this
    exact this
  have HMK := Lib.hid hmk; clear hmk
  go_enter Tryd.func31, Tryd.ntmps31
  go_wp2_with fail
  refine (heldStringS_in t.keys.length S a1 n1 k _ (by omega) (hk1.keep (by repeat (first | exact Below.refl _ _ | (refine Below.alloc ?_ (by first | omega | (simp; done) | (simp; omega)) _) | (refine Below.setCell ?_ (by first | omega | (simp; done) | (simp; omega)) _) | (refine Below.drew ?_) | (refine below_drewN ?_ _))))).mono ?_
  rintro e w2 ⟨rfl, hb2⟩
  have hbw2 : Below w.heap.size w w2 := bnext (by repeat (first | exact Below.refl _ _ | (refine Below.alloc ?_ (by first | omega | (simp; done) | (simp; omega)) _) | (refine Below.setCell ?_ (by first | omega | (simp; done) | (simp; omega)) _) | (refine Below.drew ?_) | (refine below_drewN ?_ _))) hb2
  obtain ⟨hc1, hf1⟩ := bcell hb2
  have hz3 := hb2.size
  simp at hz3
  clear hb2
  go_wp2_with fail
  refine (HMK.out _ (hs1.keep hbw2)).mono ?_
  rintro e w3 ⟨rfl, hb3⟩
  go_wp2
  go_ret
  exact ⟨ret_int (by have := HC.out; omega), bnext hbw2 hb3⟩

end Go.Proofs.YtkifacpanipfhaaDoor
