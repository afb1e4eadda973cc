/- eqStringS, eqTreeS, eqTree: of one and the same data they answer true. -/
import Derived.Test.YtbjialckijphiaaDoorTreeO
import Derived.Test.YtbjialckijphiaaDoorStrS
import Derived.StillTailTactics
namespace Go.Proofs.YtbjialckijphiaaDoor
open Go.RowKit

def EqT (N : Nat) : Prop := ∀ (t : Tr) (S S' : Nat → Prop) (vk vs vk' vs' : Value) (w : World), t.nodes ≤ N → t.wt ≤ 1048576 → TreeIn w S t vk vs → TreeIn w S' t vk' vs' →
    Calls Tryd.prog 10 #[.agg #[.int .i64 t.kind, .bool t.flag, .int .i64 t.num, .string t.text, vk, vs], .agg #[.int .i64 t.kind, .bool t.flag, .int .i64 t.num, .string t.text, vk', vs']] w fun e w' => e = .returned (.bool true) ∧ Below w.heap.size w w'

theorem wtE (t : Tr) : t.wt = t.text.size + strWt t.keys + (t.kids.length + wtL t.kids) := by cases t; rfl

theorem wtKidE (l : List Tr) (k : Nat) (h : k < l.length) : (kidAt l k).wt ≤ wtL l := le_sum Tr.wt wtL (fun _ _ => rfl) l k h

set_option maxRecDepth 100000 in
set_option maxHeartbeats 1000000 in
theorem eqTreeS_of {N : Nat} (IH : EqT N) (l : List Tr) (S S' : Nat → Prop) (a a' : Option Addr) (cap cap' : Nat) (w : World) (hN : nodesL l ≤ N) (hw : l.length + wtL l ≤ 1048576) (hc : KidsIn w S (.slice a l.length cap) l) (hc' : KidsIn w S' (.slice a' l.length cap') l) :
    Calls Tryd.prog 26 #[.slice a l.length cap, .slice a' l.length cap'] w fun e w' => e = .returned (.bool true) ∧ Below w.heap.size w w' := by
  have HIH := Lib.hid IH; clear IH
  go_enter Tryd.func26, Tryd.ntmps26
  go_wp2
  go_loopw [5] (fun i wr => ∃ k : Nat, k ≤ l.length ∧ i = .int .i64 k ∧ Below w.heap.size w wr) (fun i _ => l.length - (intOf i).toNat)
  case atStart => exact ⟨0, by omega, rfl, Below.refl _ _⟩
  case round =>
    obtain ⟨k, hk, rfl, hb⟩ := hrel
    by_cases hlt : k < l.length
    · obtain ⟨b, o, vk, vs, rfl, ⟨c0, c1, c2, c3, c4, c5⟩, hin⟩ := (hc.keep hb).at hlt
      obtain ⟨b', o', vk', vs', rfl, ⟨d0, d1, d2, d3, d4, d5⟩, hin'⟩ := (hc'.keep hb).at hlt
      obtain ⟨hk1, hs1⟩ := treeIn_iff.1 hin
      obtain ⟨a1, n1, rfl⟩ := hk1.len
      obtain ⟨a2, n2, rfl⟩ := hs1.len
      obtain ⟨hk2, hs2⟩ := treeIn_iff.1 hin'
      obtain ⟨a3, n3, rfl⟩ := hk2.len
      obtain ⟨a4, n4, rfl⟩ := hs2.len
      clear hk1 hs1 hk2 hs2 hc hc'
      have hnk := nodes_kid l k hlt
      have hwk := wtKidE l k hlt
      go_wp2_with fail
      go_still_tail 8, (by kernel_rfl)
      change wpList _ _ _ _ _ wr.drew
      go_wp2_with (go_at_call 10; refine (HIH.out (kidAt l k) S S' _ _ _ _ _ (by omega) (by omega) (hin.keep (by repeat (first | exact Below.refl _ _ | (refine Below.alloc ?_ (by first | omega | (simp; done) | (simp; omega)) _) | (refine Below.setCell ?_ (by first | omega | (simp; done) | (simp; omega)) _) | (refine Below.drew ?_) | (refine below_drewN ?_ _)))) (hin'.keep (by repeat (first | exact Below.refl _ _ | (refine Below.alloc ?_ (by first | omega | (simp; done) | (simp; omega)) _) | (refine Below.setCell ?_ (by first | omega | (simp; done) | (simp; omega)) _) | (refine Below.drew ?_) | (refine below_drewN ?_ _))))).mono ?_; rintro e w1 ⟨rfl, hb1⟩)
      go_roundw
      case rel => exact ⟨k + 1, by omega, by go_num, bnext hb.drew hb1⟩
      case measure => simp [intOf]; omega
    · obtain rfl : k = l.length := by omega
      go_wp2
      go_ret
      exact ⟨rfl, hb⟩

set_option maxRecDepth 100000 in
set_option maxHeartbeats 1000000 in
theorem eqT : ∀ N, EqT N
  | 0 => fun t S S' vk vs vk' vs' w h _ _ _ => by have := nodes_pos t; omega
  | N + 1 => fun t S S' vk vs vk' vs' w h hw ht ht' => by
    have HIH := Lib.hid (eqT N)
    have hne := nodes_eq t
    have HK := Lib.hid (show nodesL t.kids ≤ N by omega)
    have hwt := wtE t
    have hs1 : t.keys.length ≤ 1048576 := by have : strWt t.keys = t.keys.length + (t.keys.map ByteArray.size).sum := rfl; omega
    have HW := Lib.hid (show t.kids.length + wtL t.kids ≤ 1048576 by omega)
    clear hne hwt
    obtain ⟨hk, hs⟩ := treeIn_iff.1 ht
    obtain ⟨a1, m1, rfl⟩ := hk.len
    obtain ⟨a2, m2, rfl⟩ := hs.len
    obtain ⟨hk', hs'⟩ := treeIn_iff.1 ht'
    obtain ⟨a3, m3, rfl⟩ := hk'.len
    obtain ⟨a4, m4, rfl⟩ := hs'.len
    clear ht ht'
    have he := selfEqS t.text
    go_enter Tryd.func10, Tryd.ntmps10
    go_wp2_with fail
    refine (eqStringS_same t.keys S S' _ _ _ _ _ hs1 (hk.keep (by repeat (first | exact Below.refl _ _ | (refine Below.alloc ?_ (by first | omega | (simp; done) | (simp; omega)) _) | (refine Below.setCell ?_ (by first | omega | (simp; done) | (simp; omega)) _) | (refine Below.drew ?_) | (refine below_drewN ?_ _)))) (hk'.keep (by repeat (first | exact Below.refl _ _ | (refine Below.alloc ?_ (by first | omega | (simp; done) | (simp; omega)) _) | (refine Below.setCell ?_ (by first | omega | (simp; done) | (simp; omega)) _) | (refine Below.drew ?_) | (refine below_drewN ?_ _))))).mono ?_
    rintro e w1 ⟨rfl, hb1⟩
    have hbw1 : Below w.heap.size w w1 := bnext (by repeat (first | exact Below.refl _ _ | (refine Below.alloc ?_ (by first | omega | (simp; done) | (simp; omega)) _) | (refine Below.setCell ?_ (by first | omega | (simp; done) | (simp; omega)) _) | (refine Below.drew ?_) | (refine below_drewN ?_ _))) hb1
    obtain ⟨hc1, hf1⟩ := bcell hb1
    have hz1 := hb1.size
    simp at hz1
    clear hb1
    go_wp2_with fail
    refine (eqTreeS_of HIH.out t.kids S S' _ _ _ _ _ HK.out HW.out (hs.keep hbw1) (hs'.keep hbw1)).mono ?_
    rintro e w2 ⟨rfl, hb2⟩
    go_wp2
    go_ret
    exact ⟨rfl, bnext hbw1 hb2⟩

end Go.Proofs.YtbjialckijphiaaDoor
