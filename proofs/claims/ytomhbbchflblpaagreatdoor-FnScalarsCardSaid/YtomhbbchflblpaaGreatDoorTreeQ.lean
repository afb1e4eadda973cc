/- SameTree: contracts of both texts. -/
import Derived.Test.YtomhbbchflblpaaGreatDoorTreeE
import Derived.Deep.RegionWith
import Derived.StillTailTactics
namespace Go.Proofs.YtomhbbchflblpaaGreatDoor
open Go.RowKit

def sameStrs : List ByteArray → List ByteArray → Bool
  | [], [] => true
  | x :: xs, y :: ys => (x.toList == y.toList) && sameStrs xs ys
  | _, _ => false
mutual
def sameTr : Tr → Tr → Bool
  | .mk k f n s ks kids, .mk k' f' n' s' ks' kids' => (k == k') && ((f == f') && ((n == n') && ((s.toList == s'.toList) && (sameStrs ks ks' && sameKids kids kids'))))
def sameKids : List Tr → List Tr → Bool
  | [], [] => true
  | t :: ts, u :: us => sameTr t u && sameKids ts us
  | [], _ :: _ => false
  | _ :: _, [] => false
end
theorem sameTr_eq (t u : Tr) : sameTr t u = ((t.kind == u.kind) && ((t.flag == u.flag) && ((t.num == u.num) && ((t.text.toList == u.text.toList) && (sameStrs t.keys u.keys && sameKids t.kids u.kids))))) := by
  cases t; cases u; simp only [sameTr, Tr.kind, Tr.flag, Tr.num, Tr.text, Tr.keys, Tr.kids]
theorem sameStrs_len : ∀ (l l' : List ByteArray), l.length ≠ l'.length → sameStrs l l' = false
  | [], [], h => by simp at h
  | [], _ :: _, _ => rfl
  | _ :: _, [], _ => rfl
  | x :: xs, y :: ys, h => by simp only [sameStrs]; rw [sameStrs_len xs ys (by simpa using h)]; simp
theorem sameKids_len : ∀ (l l' : List Tr), l.length ≠ l'.length → sameKids l l' = false
  | [], [], h => by simp at h
  | [], _ :: _, _ => by simp only [sameKids]
  | _ :: _, [], _ => by simp only [sameKids]
  | x :: xs, y :: ys, h => by simp only [sameKids]; rw [sameKids_len xs ys (by simpa using h)]; simp
theorem sameStrs_at : ∀ (l l' : List ByteArray) (k : Nat), k < l.length → k < l'.length → sameStrs (l.drop k) (l'.drop k) = (((strAt l k).toList == (strAt l' k).toList) && sameStrs (l.drop (k + 1)) (l'.drop (k + 1)))
  | [], _, k, h, _ => by simp at h
  | _ :: _, [], k, _, h => by simp at h
  | x :: xs, y :: ys, 0, _, _ => by simp [sameStrs, strAt]
  | x :: xs, y :: ys, k + 1, h, h' => by
    have := sameStrs_at xs ys k (by simpa using h) (by simpa using h')
    simpa [strAt] using this
theorem sameKids_at : ∀ (l l' : List Tr) (k : Nat), k < l.length → k < l'.length → sameKids (l.drop k) (l'.drop k) = (sameTr (kidAt l k) (kidAt l' k) && sameKids (l.drop (k + 1)) (l'.drop (k + 1)))
  | [], _, k, h, _ => by simp at h
  | _ :: _, [], k, _, h => by simp at h
  | x :: xs, y :: ys, 0, _, _ => by simp [sameKids, kidAt]
  | x :: xs, y :: ys, k + 1, h, h' => by
    have := sameKids_at xs ys k (by simpa using h) (by simpa using h')
    simpa [kidAt] using this
theorem sameStrs_end (l l' : List ByteArray) (h : l.length = l'.length) : sameStrs (l.drop l.length) (l'.drop l.length) = true := by
  rw [List.drop_length, h, List.drop_length]; rfl
theorem sameKids_end (l l' : List Tr) (h : l.length = l'.length) : sameKids (l.drop l.length) (l'.drop l.length) = true := by
  rw [List.drop_length, h, List.drop_length]; simp only [sameKids]

theorem slicesEqualS (l l' : List ByteArray) (S S' : Nat → Prop) (a a' : Option Addr) (cap cap' : Nat) (w : World) (hn : l.length ≤ 1048576) (hc : StrsIn w S (.slice a l.length cap) l) (hc' : StrsIn w S' (.slice a' l'.length cap') l') :
    Calls Tryz.prog 86 #[.slice a l.length cap, .slice a' l'.length cap'] w fun e w' => e = .returned (.bool (sameStrs l l')) ∧ Below w.heap.size w w' := by
  by_cases hln : l.length = l'.length
  rotate_left
  · have HF := Lib.hid (sameStrs_len l l' hln)
    have h1 : ((l.length : Int) != (l'.length : Int)) = true := by simp [bne]; omega
    clear hln
    go_enter Tryz.func86, Tryz.ntmps86
    go_wp2
    go_ret
    exact ⟨ret_bool HF.out.symm, Below.refl _ _⟩
  have h1 : ((l.length : Int) != (l'.length : Int)) = false := by simp [bne]; omega
  have HL := Lib.hid hln
  have hle : l.length ≤ l'.length := by omega
  clear hln
  go_enter Tryz.func86, Tryz.ntmps86
  go_wp2
  go_loopw [13] (fun i wr => ∃ k : Nat, k ≤ l.length ∧ i = .int .i64 k ∧ Hid (sameStrs l l' = sameStrs (l.drop k) (l'.drop k)) ∧ Below w.heap.size w wr) (fun i _ => l.length - (intOf i).toNat)
  case atStart => exact ⟨0, by omega, rfl, by simp [Hid], Below.refl _ _⟩
  case round =>
    obtain ⟨k, hk, rfl, HI, hb⟩ := hrel
    by_cases hlt : k < l.length
    · obtain ⟨b, o, rfl, hcell⟩ := (hc.keep hb).at hlt
      obtain ⟨b', o', rfl, hcell'⟩ := (hc'.keep hb).at (show k < l'.length by omega)
      have c0 := hcell k hlt
      have c1 := hcell' k (by omega)
      have hlt' : k < l'.length := by omega
      clear hcell hcell' hc hc'
      have HS := Lib.hid (sameStrs_at l l' k hlt hlt')
      cases he : ((strAt l k).toList == (strAt l' k).toList)
      · have he2 : ((strAt l k).toList != (strAt l' k).toList) = true := by simp [bne, he]
        go_wp2_with fail
        go_quiet (fail)
        go_wp2
        go_ret
        exact ⟨ret_bool (by rw [HI.out, HS.out, he]; rfl), below_drewN hb _⟩
      · have he2 : ((strAt l k).toList != (strAt l' k).toList) = false := by simp [bne, he]
        go_wp2_with fail
        go_quiet (fail)
        go_wp2
        go_roundw
        case rel => exact ⟨k + 1, by omega, by go_num, by unfold Hid; rw [HI.out, HS.out, he]; rfl, below_drewN hb _⟩
        case measure => simp [intOf]; omega
    · obtain rfl : k = l.length := by omega
      go_wp2
      go_ret
      exact ⟨ret_bool (by rw [HI.out, sameStrs_end l l' HL.out]), hb⟩

def SameT (N : Nat) : Prop := ∀ (t u : Tr) (S S' : Nat → Prop) (vk vs vk' vs' : Value) (w : World), t.nodes ≤ N → t.wt ≤ 1048576 → TreeIn w S t vk vs → TreeIn w S' u vk' vs' →
    Calls Tryz.prog 45 #[.agg #[.int .i64 t.kind, .bool t.flag, .int .i64 t.num, .string t.text, vk, vs], .agg #[.int .i64 u.kind, .bool u.flag, .int .i64 u.num, .string u.text, vk', vs']] w fun e w' => e = .returned (.bool (sameTr t u)) ∧ Below w.heap.size w w'

set_option maxHeartbeats 1000000 in
theorem equalFunc_of {N : Nat} (IH : SameT N) (l l' : List Tr) (S S' : Nat → Prop) (a a' : Option Addr) (cap cap' : Nat) (w : World) (hN : nodesL l ≤ N) (hw : l.length + wtL l ≤ 1048576) (hc : KidsIn w S (.slice a l.length cap) l) (hc' : KidsIn w S' (.slice a' l'.length cap') l') :
    Calls Tryz.prog 87 #[.slice a l.length cap, .slice a' l'.length cap', .func (.func 45) #[] #[]] w fun e w' => e = .returned (.bool (sameKids l l')) ∧ Below w.heap.size w w' := by
  have HIH := Lib.hid IH; clear IH
  by_cases hln : l.length = l'.length
  rotate_left
  · have HF := Lib.hid (sameKids_len l l' hln)
    have h1 : ((l.length : Int) != (l'.length : Int)) = true := by simp [bne]; omega
    clear hln
    go_enter Tryz.func87, Tryz.ntmps87
    go_wp2
    go_ret
    exact ⟨ret_bool HF.out.symm, Below.refl _ _⟩
  have h1 : ((l.length : Int) != (l'.length : Int)) = false := by simp [bne]; omega
  have HL := Lib.hid hln
  have hle : l.length ≤ l'.length := by omega
  clear hln
  go_enter Tryz.func87, Tryz.ntmps87
  go_wp2
  go_loopw [17] (fun i wr => ∃ k : Nat, k ≤ l.length ∧ i = .int .i64 k ∧ Hid (sameKids l l' = sameKids (l.drop k) (l'.drop k)) ∧ Below w.heap.size w wr) (fun i _ => l.length - (intOf i).toNat)
  case atStart => exact ⟨0, by omega, rfl, by simp [Hid], Below.refl _ _⟩
  case round =>
    obtain ⟨k, hk, rfl, HI, hb⟩ := hrel
    by_cases hlt : k < l.length
    · have hlt' : k < l'.length := by omega
      obtain ⟨b, o, vk, vs, rfl, ⟨c0, c1, c2, c3, c4, c5⟩, hin⟩ := (hc.keep hb).at hlt
      obtain ⟨b', o', vk', vs', rfl, ⟨d0, d1, d2, d3, d4, d5⟩, hin'⟩ := (hc'.keep hb).at hlt'
      obtain ⟨hk1, hs1⟩ := treeIn_iff.1 hin
      obtain ⟨a1, n1, rfl⟩ := hk1.len
      obtain ⟨a2, n2, rfl⟩ := hs1.len
      obtain ⟨hk2, hs2⟩ := treeIn_iff.1 hin'
      obtain ⟨a3, n3, rfl⟩ := hk2.len
      obtain ⟨a4, n4, rfl⟩ := hs2.len
      clear hk1 hs1 hk2 hs2 hc hc'
      have hnk := nodes_kid l k hlt
      have hwk := wtKidE l k hlt
      have hz := hb.size
      have hlb := lt_of_cell c0
      have hlb' := lt_of_cell d0
      have HS := Lib.hid (sameKids_at l l' k hlt hlt')
      cases he : sameTr (kidAt l k) (kidAt l' k)
      · go_wp2_with (go_at_call 45; refine (HIH.out (kidAt l k) (kidAt l' k) S S' _ _ _ _ _ (by omega) (by omega) (hin.keep (by repeat (first | exact Below.refl _ _ | (refine Below.alloc ?_ (by first | omega | (simp; done) | (simp; omega)) _) | (refine Below.setCell ?_ (by first | omega | (simp; done) | (simp; omega)) _) | (refine Below.drew ?_) | (refine below_drewN ?_ _)))) (hin'.keep (by repeat (first | exact Below.refl _ _ | (refine Below.alloc ?_ (by first | omega | (simp; done) | (simp; omega)) _) | (refine Below.setCell ?_ (by first | omega | (simp; done) | (simp; omega)) _) | (refine Below.drew ?_) | (refine below_drewN ?_ _))))).mono ?_; rintro e w1 ⟨rfl, hb1⟩)
        go_ret
        exact ⟨ret_bool (by rw [HI.out, HS.out, he]; rfl), bnext (by repeat (first | exact hb | (refine Below.alloc ?_ (by first | omega | (simp; done) | (simp; omega)) _) | (refine Below.setCell ?_ (by first | omega | (simp; done) | (simp; omega)) _) | (refine Below.drew ?_) | (refine below_drewN ?_ _))) hb1⟩
      · go_wp2_with (go_at_call 45; refine (HIH.out (kidAt l k) (kidAt l' k) S S' _ _ _ _ _ (by omega) (by omega) (hin.keep (by repeat (first | exact Below.refl _ _ | (refine Below.alloc ?_ (by first | omega | (simp; done) | (simp; omega)) _) | (refine Below.setCell ?_ (by first | omega | (simp; done) | (simp; omega)) _) | (refine Below.drew ?_) | (refine below_drewN ?_ _)))) (hin'.keep (by repeat (first | exact Below.refl _ _ | (refine Below.alloc ?_ (by first | omega | (simp; done) | (simp; omega)) _) | (refine Below.setCell ?_ (by first | omega | (simp; done) | (simp; omega)) _) | (refine Below.drew ?_) | (refine below_drewN ?_ _))))).mono ?_; rintro e w1 ⟨rfl, hb1⟩)
        go_roundw
        case rel => exact ⟨k + 1, by omega, by go_num, by unfold Hid; rw [HI.out, HS.out, he]; rfl, bnext (by repeat (first | exact hb | (refine Below.alloc ?_ (by first | omega | (simp; done) | (simp; omega)) _) | (refine Below.setCell ?_ (by first | omega | (simp; done) | (simp; omega)) _) | (refine Below.drew ?_) | (refine below_drewN ?_ _))) hb1⟩
        case measure => simp [intOf]; omega
    · obtain rfl : k = l.length := by omega
      go_wp2
      go_ret
      exact ⟨ret_bool (by rw [HI.out, sameKids_end l l' HL.out]), hb⟩

theorem keys_wtE (t : Tr) : t.keys.length ≤ t.wt ∧ t.kids.length + wtL t.kids ≤ t.wt := by
  have := wtE t; have h : strWt t.keys = t.keys.length + (t.keys.map ByteArray.size).sum := rfl; omega

set_option maxHeartbeats 4000000 in
theorem sameT : ∀ N, SameT N
  | 0 => fun t u S S' vk vs vk' vs' w h _ _ _ => by have := nodes_pos t; omega
  | N + 1 => fun t u S S' vk vs vk' vs' w h hw ht hu => by
    have HIH := Lib.hid (sameT N)
    obtain ⟨hk, hs⟩ := treeIn_iff.1 ht
    obtain ⟨a1, m1, rfl⟩ := hk.len
    obtain ⟨a2, m2, rfl⟩ := hs.len
    obtain ⟨hk', hs'⟩ := treeIn_iff.1 hu
    obtain ⟨a3, m3, rfl⟩ := hk'.len
    obtain ⟨a4, m4, rfl⟩ := hs'.len
    clear ht hu
    have hne := nodes_eq t
    have hwk := keys_wtE t
    have HW := Lib.hid (show t.keys.length ≤ 1048576 ∧ t.kids.length + wtL t.kids ≤ 1048576 ∧ nodesL t.kids ≤ N by omega)
    clear hne hwk
    have HE := Lib.hid (sameTr_eq t u)
    cases h1 : (t.kind == u.kind)
    · go_enter Tryz.func45, Tryz.ntmps45
      go_wp2
      go_ret
      exact ⟨ret_bool (by rw [HE.out, h1]; rfl), by repeat (first | exact Below.refl _ _ | (refine Below.alloc ?_ (by first | omega | (simp; done) | (simp; omega)) _) | (refine Below.setCell ?_ (by first | omega | (simp; done) | (simp; omega)) _) | (refine Below.drew ?_) | (refine below_drewN ?_ _))⟩
    cases h2 : (t.flag == u.flag)
    · go_enter Tryz.func45, Tryz.ntmps45
      go_wp2
      go_ret
      exact ⟨ret_bool (by rw [HE.out, h1, h2]; rfl), by repeat (first | exact Below.refl _ _ | (refine Below.alloc ?_ (by first | omega | (simp; done) | (simp; omega)) _) | (refine Below.setCell ?_ (by first | omega | (simp; done) | (simp; omega)) _) | (refine Below.drew ?_) | (refine below_drewN ?_ _))⟩
    cases h3 : (t.num == u.num)
    · go_enter Tryz.func45, Tryz.ntmps45
      go_wp2
      go_ret
      exact ⟨ret_bool (by rw [HE.out, h1, h2, h3]; rfl), by repeat (first | exact Below.refl _ _ | (refine Below.alloc ?_ (by first | omega | (simp; done) | (simp; omega)) _) | (refine Below.setCell ?_ (by first | omega | (simp; done) | (simp; omega)) _) | (refine Below.drew ?_) | (refine below_drewN ?_ _))⟩
    cases h4 : (t.text.toList == u.text.toList)
    · go_enter Tryz.func45, Tryz.ntmps45
      go_wp2
      go_ret
      exact ⟨ret_bool (by rw [HE.out, h1, h2, h3, h4]; rfl), by repeat (first | exact Below.refl _ _ | (refine Below.alloc ?_ (by first | omega | (simp; done) | (simp; omega)) _) | (refine Below.setCell ?_ (by first | omega | (simp; done) | (simp; omega)) _) | (refine Below.drew ?_) | (refine below_drewN ?_ _))⟩
    cases h5 : sameStrs t.keys u.keys
    · go_enter Tryz.func45, Tryz.ntmps45
      go_wp2_with (go_at_call 86; refine (slicesEqualS t.keys u.keys S S' _ _ _ _ _ HW.out.1 (hk.keep (by repeat (first | exact Below.refl _ _ | (refine Below.alloc ?_ (by first | omega | (simp; done) | (simp; omega)) _) | (refine Below.setCell ?_ (by first | omega | (simp; done) | (simp; omega)) _) | (refine Below.drew ?_) | (refine below_drewN ?_ _)))) (hk'.keep (by repeat (first | exact Below.refl _ _ | (refine Below.alloc ?_ (by first | omega | (simp; done) | (simp; omega)) _) | (refine Below.setCell ?_ (by first | omega | (simp; done) | (simp; omega)) _) | (refine Below.drew ?_) | (refine below_drewN ?_ _))))).mono ?_; rintro e w1 ⟨rfl, hb1⟩)
      go_ret
      exact ⟨ret_bool (by rw [HE.out, h1, h2, h3, h4, h5]; rfl), bnext (by repeat (first | exact Below.refl _ _ | (refine Below.alloc ?_ (by first | omega | (simp; done) | (simp; omega)) _) | (refine Below.setCell ?_ (by first | omega | (simp; done) | (simp; omega)) _) | (refine Below.drew ?_) | (refine below_drewN ?_ _))) hb1⟩
    go_enter Tryz.func45, Tryz.ntmps45
    go_wp2_with fail
    refine (slicesEqualS t.keys u.keys S S' _ _ _ _ _ HW.out.1 (hk.keep (by repeat (first | exact Below.refl _ _ | (refine Below.alloc ?_ (by first | omega | (simp; done) | (simp; omega)) _) | (refine Below.setCell ?_ (by first | omega | (simp; done) | (simp; omega)) _) | (refine Below.drew ?_) | (refine below_drewN ?_ _)))) (hk'.keep (by repeat (first | exact Below.refl _ _ | (refine Below.alloc ?_ (by first | omega | (simp; done) | (simp; omega)) _) | (refine Below.setCell ?_ (by first | omega | (simp; done) | (simp; omega)) _) | (refine Below.drew ?_) | (refine below_drewN ?_ _))))).mono ?_; rintro e w1 ⟨rfl, hb1⟩
    obtain ⟨hc1, hf1⟩ := bcell hb1
    have hz1 := hb1.size
    simp at hz1
    have hbw1 : Below w.heap.size w w1 := bnext (by repeat (first | exact Below.refl _ _ | (refine Below.alloc ?_ (by first | omega | (simp; done) | (simp; omega)) _) | (refine Below.setCell ?_ (by first | omega | (simp; done) | (simp; omega)) _) | (refine Below.drew ?_) | (refine below_drewN ?_ _))) hb1
    clear hb1
    go_wp2_with fail
    refine (equalFunc_of HIH.out t.kids u.kids S S' _ _ _ _ _ HW.out.2.2 HW.out.2.1 (hs.keep hbw1) (hs'.keep hbw1)).mono ?_
    rintro e w2 ⟨rfl, hb2⟩
    go_wp2
    go_ret
    exact ⟨ret_bool (by rw [HE.out, h1, h2, h3, h4, h5]; rfl), bnext hbw1 hb2⟩

theorem bneE {x y : Int} {c : Bool} (h : (x == y) = c) : (x != y) = !c := by simp [bne, h]
theorem bneB {x y : Bool} {c : Bool} (h : (x == y) = c) : (x != y) = !c := by simp [bne, h]
theorem bneL {x y : List UInt8} {c : Bool} (h : (x == y) = c) : (x != y) = !c := by simp [bne, h]

def SameTS (N : Nat) : Prop := ∀ (t u : Tr) (S S' : Nat → Prop) (vk vs vk' vs' : Value) (w : World), t.nodes ≤ N → t.wt ≤ 1048576 → TreeIn w S t vk vs → TreeIn w S' u vk' vs' →
    Calls Tryz.prog 18 #[.agg #[.int .i64 t.kind, .bool t.flag, .int .i64 t.num, .string t.text, vk, vs], .agg #[.int .i64 u.kind, .bool u.flag, .int .i64 u.num, .string u.text, vk', vs']] w fun e w' => e = .returned (.bool (sameTr t u)) ∧ Below w.heap.size w w'

set_option maxRecDepth 100000 in
set_option maxHeartbeats 4000000 in
theorem sameTS : ∀ N, SameTS N
  | 0 => fun t u S S' vk vs vk' vs' w h _ _ _ => by have := nodes_pos t; omega
  | N + 1 => fun t u S S' vk vs vk' vs' w h hw ht hu => by
    have HIH := Lib.hid (sameTS N)
    obtain ⟨hk, hs⟩ := treeIn_iff.1 ht
    obtain ⟨a1, m1, rfl⟩ := hk.len
    obtain ⟨a2, m2, rfl⟩ := hs.len
    obtain ⟨hk', hs'⟩ := treeIn_iff.1 hu
    obtain ⟨a3, m3, rfl⟩ := hk'.len
    obtain ⟨a4, m4, rfl⟩ := hs'.len
    clear ht hu
    have hne := nodes_eq t
    have hwk := keys_wtE t
    have hq1 : t.keys.length ≤ 1048576 := by omega
    have hq2 : t.kids.length ≤ 1048576 := by omega
    have HW := Lib.hid (show t.kids.length + wtL t.kids ≤ 1048576 ∧ nodesL t.kids ≤ N by omega)
    clear hne hwk
    have HE := Lib.hid (sameTr_eq t u)
    cases h1 : (t.kind == u.kind)
    · have g1 := bneE h1
      simp only [Bool.not_false] at g1
      go_enter Tryz.func18, Tryz.ntmps18
      go_wp2
      go_ret
      exact ⟨ret_bool (by rw [HE.out, h1]; rfl), by repeat (first | exact Below.refl _ _ | (refine Below.alloc ?_ (by first | omega | (simp; done) | (simp; omega)) _) | (refine Below.setCell ?_ (by first | omega | (simp; done) | (simp; omega)) _) | (refine Below.drew ?_) | (refine below_drewN ?_ _))⟩
    have g1 := bneE h1
    simp only [Bool.not_true] at g1
    cases h2 : (t.flag == u.flag)
    · have g2 := bneB h2
      simp only [Bool.not_false] at g2
      go_enter Tryz.func18, Tryz.ntmps18
      go_wp2
      go_ret
      exact ⟨ret_bool (by rw [HE.out, h1, h2]; rfl), by repeat (first | exact Below.refl _ _ | (refine Below.alloc ?_ (by first | omega | (simp; done) | (simp; omega)) _) | (refine Below.setCell ?_ (by first | omega | (simp; done) | (simp; omega)) _) | (refine Below.drew ?_) | (refine below_drewN ?_ _))⟩
    have g2 := bneB h2
    simp only [Bool.not_true] at g2
    cases h3 : (t.num == u.num)
    · have g3 := bneE h3
      simp only [Bool.not_false] at g3
      go_enter Tryz.func18, Tryz.ntmps18
      go_wp2
      go_ret
      exact ⟨ret_bool (by rw [HE.out, h1, h2, h3]; rfl), by repeat (first | exact Below.refl _ _ | (refine Below.alloc ?_ (by first | omega | (simp; done) | (simp; omega)) _) | (refine Below.setCell ?_ (by first | omega | (simp; done) | (simp; omega)) _) | (refine Below.drew ?_) | (refine below_drewN ?_ _))⟩
    have g3 := bneE h3
    simp only [Bool.not_true] at g3
    cases h4 : (t.text.toList == u.text.toList)
    · have g4 := bneL h4
      simp only [Bool.not_false] at g4
      go_enter Tryz.func18, Tryz.ntmps18
      go_wp2
      go_ret
      exact ⟨ret_bool (by rw [HE.out, h1, h2, h3, h4]; rfl), by repeat (first | exact Below.refl _ _ | (refine Below.alloc ?_ (by first | omega | (simp; done) | (simp; omega)) _) | (refine Below.setCell ?_ (by first | omega | (simp; done) | (simp; omega)) _) | (refine Below.drew ?_) | (refine below_drewN ?_ _))⟩
    have g4 := bneL h4
    simp only [Bool.not_true] at g4
    by_cases hln : t.keys.length = u.keys.length
    rotate_left
    · have HF := Lib.hid (sameStrs_len _ _ hln)
      have g5 : ((t.keys.length : Int) != (u.keys.length : Int)) = true := by simp [bne]; omega
      clear hln
      go_enter Tryz.func18, Tryz.ntmps18
      go_wp2
      go_ret
      exact ⟨ret_bool (by rw [HE.out, h1, h2, h3, h4, HF.out]; rfl), by repeat (first | exact Below.refl _ _ | (refine Below.alloc ?_ (by first | omega | (simp; done) | (simp; omega)) _) | (refine Below.setCell ?_ (by first | omega | (simp; done) | (simp; omega)) _) | (refine Below.drew ?_) | (refine below_drewN ?_ _))⟩
    have g5 : ((t.keys.length : Int) != (u.keys.length : Int)) = false := by simp [bne]; omega
    by_cases hlm : t.kids.length = u.kids.length
    rotate_left
    · have HF := Lib.hid (sameKids_len _ _ hlm)
      have g6 : ((t.kids.length : Int) != (u.kids.length : Int)) = true := by simp [bne]; omega
      clear hln hlm
      go_enter Tryz.func18, Tryz.ntmps18
      go_wp2
      go_ret
      exact ⟨ret_bool (by rw [HE.out, h1, h2, h3, h4, HF.out]; simp), by repeat (first | exact Below.refl _ _ | (refine Below.alloc ?_ (by first | omega | (simp; done) | (simp; omega)) _) | (refine Below.setCell ?_ (by first | omega | (simp; done) | (simp; omega)) _) | (refine Below.drew ?_) | (refine below_drewN ?_ _))⟩
    have g6 : ((t.kids.length : Int) != (u.kids.length : Int)) = false := by simp [bne]; omega
    have HLK := Lib.hid hln
    have HLS := Lib.hid hlm
    have hle1 : t.keys.length ≤ u.keys.length := by omega
    have hle2 : t.kids.length ≤ u.kids.length := by omega
    clear hln hlm
    have HE2 : Hid (sameTr t u = (sameStrs t.keys u.keys && sameKids t.kids u.kids)) := by unfold Hid; rw [HE.out, h1, h2, h3, h4]; simp
    clear HE
    go_enter Tryz.func18, Tryz.ntmps18
    go_wp2_with fail
    clear h1 h2 h3 h4 g1 g2 g3 g4 g5 g6
    go_loopw [5] (fun i wr => wr.cell? ⟨w.heap.size, 4, none⟩ = some (.slice a1 t.keys.length m1) ∧ wr.cell? ⟨w.heap.size, 5, none⟩ = some (.slice a2 t.kids.length m2) ∧ wr.cell? ⟨w.heap.size + 1, 4, none⟩ = some (.slice a3 u.keys.length m3) ∧ wr.cell? ⟨w.heap.size + 1, 5, none⟩ = some (.slice a4 u.kids.length m4) ∧ w.heap.size + 2 ≤ wr.heap.size ∧ ∃ k : Nat, k ≤ t.keys.length ∧ i = .int .i64 k ∧ Hid (sameStrs t.keys u.keys = sameStrs (t.keys.drop k) (u.keys.drop k)) ∧ Below w.heap.size w wr) (fun i _ => t.keys.length - (intOf i).toNat)
    case atStart => exact ⟨by go_simp, by go_simp, by go_simp, by go_simp, by simp, 0, by omega, rfl, by simp [Hid], by repeat (first | exact Below.refl _ _ | (refine Below.alloc ?_ (by first | omega | (simp; done) | (simp; omega)) _) | (refine Below.setCell ?_ (by first | omega | (simp; done) | (simp; omega)) _) | (refine Below.drew ?_) | (refine below_drewN ?_ _))⟩
    case round =>
      obtain ⟨x4, x5, y4, y5, hsz, k, hkl, rfl, HI, hb⟩ := hrel
      by_cases hlt : k < t.keys.length
      · have hlt' : k < u.keys.length := by omega
        obtain ⟨b, o, rfl, hcell⟩ := (hk.keep hb).at hlt
        obtain ⟨b', o', rfl, hcell'⟩ := (hk'.keep hb).at hlt'
        have c0 := hcell k hlt
        have c1 := hcell' k (by omega)
        clear hcell hcell' hk hk'
        have HS := Lib.hid (sameStrs_at t.keys u.keys k hlt hlt')
        cases he : ((strAt t.keys k).toList == (strAt u.keys k).toList)
        · have he2 := bneL he
          simp only [Bool.not_false] at he2
          go_wp2_with fail
          go_quiet (fail)
          go_wp2
          go_ret
          exact ⟨ret_bool (by rw [HE2.out, HI.out, HS.out, he]; rfl), below_drewN hb _⟩
        · have he2 := bneL he
          simp only [Bool.not_true] at he2
          go_wp2_with fail
          go_quiet (fail)
          go_wp2
          go_roundw
          case rel => exact ⟨x4, x5, y4, y5, hsz, k + 1, by omega, by go_num, by unfold Hid; rw [HI.out, HS.out, he]; rfl, below_drewN hb _⟩
          case measure => simp [intOf]; omega
      · obtain rfl : k = t.keys.length := by omega
        have HI2 : Hid (sameTr t u = sameKids t.kids u.kids) := by unfold Hid; rw [HE2.out, HI.out, sameStrs_end _ _ HLK.out]; rfl
        clear HI HE2
        go_wp2_with fail
        go_loopw [6] (fun i wr => wr.cell? ⟨w.heap.size, 5, none⟩ = some (.slice a2 t.kids.length m2) ∧ wr.cell? ⟨w.heap.size + 1, 5, none⟩ = some (.slice a4 u.kids.length m4) ∧ w.heap.size + 2 ≤ wr.heap.size ∧ ∃ k : Nat, k ≤ t.kids.length ∧ i = .int .i64 k ∧ Hid (sameKids t.kids u.kids = sameKids (t.kids.drop k) (u.kids.drop k)) ∧ Below w.heap.size w wr) (fun i _ => t.kids.length - (intOf i).toNat)
        case atStart => exact ⟨x5, y5, hsz, 0, by omega, rfl, by simp [Hid], hb⟩
        case round =>
          clear x4 x5 y4 y5 hsz hb
          obtain ⟨x5, y5, hsz, k, hkl, rfl, HI, hb⟩ := hrel
          by_cases hlt : k < t.kids.length
          · have hlt' : k < u.kids.length := by omega
            obtain ⟨b, o, vk, vs, rfl, ⟨c0, c1, c2, c3, c4, c5⟩, hin⟩ := (hs.keep hb).at hlt
            obtain ⟨b', o', vk', vs', rfl, ⟨d0, d1, d2, d3, d4, d5⟩, hin'⟩ := (hs'.keep hb).at hlt'
            obtain ⟨hk1, hs1⟩ := treeIn_iff.1 hin
            obtain ⟨a1, n1, rfl⟩ := hk1.len
            obtain ⟨a2, n2, rfl⟩ := hs1.len
            obtain ⟨hk2, hs2⟩ := treeIn_iff.1 hin'
            obtain ⟨a3, n3, rfl⟩ := hk2.len
            obtain ⟨a4, n4, rfl⟩ := hs2.len
            clear hk1 hs1 hk2 hs2 hs hs' hk hk'
            have hnk := nodes_kid t.kids k hlt
            have hwk := wtKidE t.kids k hlt
            have HB := Lib.hid (show (kidAt t.kids k).nodes ≤ N ∧ (kidAt t.kids k).wt ≤ 1048576 by have := HW.out; omega)
            clear hnk hwk
            have HS := Lib.hid (sameKids_at t.kids u.kids k hlt hlt')
            cases he : sameTr (kidAt t.kids k) (kidAt u.kids k)
            · go_wp2_with fail
              go_still_tail 10, (by kernel_rfl)
              change wpList _ _ _ _ _ wr.drew
              go_wp2_with (go_at_call 18; refine (HIH.out (kidAt t.kids k) (kidAt u.kids k) S S' _ _ _ _ _ HB.out.1 HB.out.2 (hin.keep (by repeat (first | exact Below.refl _ _ | (refine Below.alloc ?_ (by first | omega | (simp; done) | (simp; omega)) _) | (refine Below.setCell ?_ (by first | omega | (simp; done) | (simp; omega)) _) | (refine Below.drew ?_) | (refine below_drewN ?_ _)))) (hin'.keep (by repeat (first | exact Below.refl _ _ | (refine Below.alloc ?_ (by first | omega | (simp; done) | (simp; omega)) _) | (refine Below.setCell ?_ (by first | omega | (simp; done) | (simp; omega)) _) | (refine Below.drew ?_) | (refine below_drewN ?_ _))))).mono ?_; rintro e w1 ⟨rfl, hb1⟩)
              go_ret
              exact ⟨ret_bool (by rw [HI2.out, HI.out, HS.out, he]; rfl), bnext hb.drew hb1⟩
            · go_wp2_with fail
              go_still_tail 10, (by kernel_rfl)
              change wpList _ _ _ _ _ wr.drew
              go_wp2_with (go_at_call 18; refine (HIH.out (kidAt t.kids k) (kidAt u.kids k) S S' _ _ _ _ _ HB.out.1 HB.out.2 (hin.keep (by repeat (first | exact Below.refl _ _ | (refine Below.alloc ?_ (by first | omega | (simp; done) | (simp; omega)) _) | (refine Below.setCell ?_ (by first | omega | (simp; done) | (simp; omega)) _) | (refine Below.drew ?_) | (refine below_drewN ?_ _)))) (hin'.keep (by repeat (first | exact Below.refl _ _ | (refine Below.alloc ?_ (by first | omega | (simp; done) | (simp; omega)) _) | (refine Below.setCell ?_ (by first | omega | (simp; done) | (simp; omega)) _) | (refine Below.drew ?_) | (refine below_drewN ?_ _))))).mono ?_; rintro e w1 ⟨rfl, hb1⟩)
              go_roundw
              case rel => exact ⟨bkeep hb1 x5, bkeep hb1 y5, Nat.le_trans hsz hb1.size, k + 1, by omega, by go_num, by unfold Hid; rw [HI.out, HS.out, he]; rfl, bnext hb.drew hb1⟩
              case measure => simp [intOf]; omega
          · obtain rfl : k = t.kids.length := by omega
            go_wp2
            go_ret
            exact ⟨ret_bool (by rw [HI2.out, HI.out, sameKids_end _ _ HLS.out]), hb⟩

end Go.Proofs.YtomhbbchflblpaaGreatDoor
