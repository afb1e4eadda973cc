/- szStringS, szTreeS, szTree. -/
import Derived.Test.YtbjialckijphiaaDoorTreeA
import Derived.Test.YtbjialckijphiaaDoorStrS
namespace Go.Proofs.YtbjialckijphiaaDoor
open Go.RowKit

mutual

/-- Each text and each list can be held by a machine. -/
def Tr.fits : Tr → Prop | .mk _ _ _ s keys kids => s.size ≤ maxLen ∧ strFits keys ∧ kids.length ≤ maxLen ∧ fitsL kids

def fitsL : List Tr → Prop | [] => True | t :: ts => t.fits ∧ fitsL ts
end

theorem fits_iff (t : Tr) : t.fits ↔ t.text.size ≤ maxLen ∧ strFits t.keys ∧ t.kids.length ≤ maxLen ∧ fitsL t.kids := by cases t; simp only [Tr.fits, Tr.text, Tr.keys, Tr.kids]

theorem fits_kid : ∀ (l : List Tr) (k : Nat), k < l.length → fitsL l → (kidAt l k).fits
  | [], k, h, _ => by simp at h
  | t :: ts, 0, _, h => by simp only [fitsL] at h; exact h.1
  | t :: ts, k + 1, h, hf => by simp only [fitsL] at hf; exact fits_kid ts k (by simpa using h) hf.2

theorem wt_eq (t : Tr) : t.wt = t.text.size + strWt t.keys + (t.kids.length + wtL t.kids) := by cases t; rfl

theorem wtL_take (l : List Tr) (k : Nat) (h : k < l.length) : wtL (l.take (k + 1)) = wtL (l.take k) + (kidAt l k).wt := sum_take Tr.wt wtL rfl (fun _ _ => rfl) l k h

theorem wtL_le (l : List Tr) (k : Nat) : wtL (l.take k) ≤ wtL l := take_le_sum Tr.wt wtL rfl (fun _ _ => rfl) l k

/-- szTree, for trees of at most N nodes. -/
def SzT (N : Nat) : Prop := ∀ (t : Tr) (S : Nat → Prop) (vk vs : Value) (w : World) (left : Int), t.nodes ≤ N → t.fits → TreeIn w S t vk vs → 0 ≤ left → left ≤ 1048576 →
    Calls Tryd.prog 6 #[.agg #[.int .i64 t.kind, .bool t.flag, .int .i64 t.num, .string t.text, vk, vs], .int .i64 left] w fun e w' => e = .returned (.int .i64 (lessZ left (t.wt : Nat))) ∧ Below w.heap.size w w'

set_option maxHeartbeats 1000000 in
theorem szTreeS_of {N : Nat} (IH : SzT N) (l : List Tr) (S : Nat → Prop) (a : Option Addr) (cap : Nat) (w : World) (left : Int) (hN : nodesL l ≤ N) (hf : fitsL l) (hn : l.length ≤ maxLen) (hl0 : 0 ≤ left) (hl1 : left ≤ 1048576) (hc : KidsIn w S (.slice a l.length cap) l) :
    Calls Tryd.prog 16 #[.slice a l.length cap, .int .i64 left] w fun e w' => e = .returned (.int .i64 (lessZ left ((l.length : Int) + (wtL l : Int)))) ∧ Below w.heap.size w w' := by
  unfold maxLen at hn
  have HIH := Lib.hid IH; clear IH
  have HF := Lib.hid hf; clear hf
  by_cases hln : left - l.length < 0
  · go_enter Tryd.func16, Tryd.ntmps16
    go_wp2
    go_ret
    exact ⟨ret_int (lessZ_neg (by omega)).symm, Below.refl _ _⟩
  go_enter Tryd.func16, Tryd.ntmps16
  go_wp2
  go_loopw [1, 5] (fun lf i wr => ∃ k : Nat, k ≤ l.length ∧ i = .int .i64 k ∧ ∃ l0 : Int, 0 ≤ l0 ∧ l0 ≤ left ∧ l0 + (l.length + wtL (l.take k)) = left ∧ lf = .int .i64 l0 ∧ Below w.heap.size w wr) (fun _ i _ => l.length - (intOf i).toNat)
  case atStart => exact ⟨0, by omega, rfl, _, by omega, by omega, by simp [wtL], rfl, Below.refl _ _⟩
  case round =>
    obtain ⟨k, hk, rfl, l0, hl0, hll, hle, rfl, hb⟩ := hrel
    have HE := Lib.hid hle; clear hle
    by_cases hlt : k < l.length
    · obtain ⟨b, o, vk', vs', rfl, ⟨c0, c1, c2, c3, c4, c5⟩, hin⟩ := (hc.keep hb).at hlt
      obtain ⟨hk', hs'⟩ := treeIn_iff.1 hin
      obtain ⟨b1, n1, rfl⟩ := hk'.len
      obtain ⟨b2, n2, rfl⟩ := hs'.len
      clear hk' hs' hc
      have HT := Lib.hid (wtL_take l k hlt)
      have HM := Lib.hid (wtL_le l (k + 1))
      have hnk := nodes_kid l k hlt
      have HFK := Lib.hid (fits_kid l k hlt HF.out)
      by_cases hx : l0 < (kidAt l k).wt
      · have hy := lessZ_neg hx
        go_wp2_with (go_at_call 6; refine (HIH.out (kidAt l k) S _ _ _ _ (by omega) HFK.out hin hl0 (by omega)).mono ?_; rintro e w1 ⟨rfl, hb1⟩)
        go_ret
        exact ⟨ret_int (lessZ_neg (by have := HE.out; have := HT.out; have := HM.out; omega)).symm, bnext hb hb1⟩
      · have hy := lessZ_pos hx
        have hz : 0 ≤ l0 - (kidAt l k).wt := by omega
        go_wp2_with (go_at_call 6; refine (HIH.out (kidAt l k) S _ _ _ _ (by omega) HFK.out hin hl0 (by omega)).mono ?_; rintro e w1 ⟨rfl, hb1⟩)
        go_roundw
        case rel => exact ⟨k + 1, by omega, by go_num, _, hz, by omega, by have := HE.out; have := HT.out; omega, rfl, bnext hb hb1⟩
        case measure => simp [intOf]; omega
    · obtain rfl : k = l.length := by omega
      go_wp2
      go_ret
      exact ⟨ret_int (by have h1 := HE.out; rw [List.take_length] at h1; rw [lessZ_pos (by omega)]; omega), hb⟩

set_option maxHeartbeats 1000000 in
theorem szT : ∀ N, SzT N
  | 0 => fun t S vk vs w left h _ _ _ _ => by have := nodes_pos t; omega
  | N + 1 => fun t S vk vs w left h hf ht hl0 hl1 => by
    have HIH := Lib.hid (szT N)
    obtain ⟨f1, f2, f3, f4⟩ := (fits_iff t).1 hf
    have hne := nodes_eq t
    have HK := Lib.hid (show nodesL t.kids ≤ N by omega)
    have HW := Lib.hid (wt_eq t)
    clear hne hf
    have F2 := Lib.hid f2; have F3 := Lib.hid f3; have F4 := Lib.hid f4
    clear f2 f3 f4
    unfold maxLen at f1
    obtain ⟨hk, hs⟩ := treeIn_iff.1 ht
    obtain ⟨a1, m1, rfl⟩ := hk.len
    obtain ⟨a2, m2, rfl⟩ := hs.len
    clear ht
    by_cases h1 : left - t.text.size < 0
    · go_enter Tryd.func6, Tryd.ntmps6
      go_wp2
      go_ret
      exact ⟨ret_int (lessZ_neg (by have := HW.out; omega)).symm, by repeat (first | exact Below.refl _ _ | (refine Below.alloc ?_ (by first | omega | (simp; done) | (simp; omega)) _) | (refine Below.setCell ?_ (by first | omega | (simp; done) | (simp; omega)) _) | (refine Below.drew ?_) | (refine below_drewN ?_ _))⟩
    by_cases h2 : left - t.text.size < (strWt t.keys : Nat)
    · have hy := lessZ_neg h2
      go_enter Tryd.func6, Tryd.ntmps6
      go_wp2_with (go_at_call 15; refine (szStringS_any t.keys S _ _ _ _ F2.out (by omega) (by omega) (hk.keep (by repeat (first | exact Below.refl _ _ | (refine Below.alloc ?_ (by first | omega | (simp; done) | (simp; omega)) _) | (refine Below.setCell ?_ (by first | omega | (simp; done) | (simp; omega)) _) | (refine Below.drew ?_) | (refine below_drewN ?_ _))))).mono ?_; rintro e w1 ⟨rfl, rfl⟩)
      go_ret
      exact ⟨ret_int (lessZ_neg (by have := HW.out; omega)).symm, by repeat (first | exact Below.refl _ _ | (refine Below.alloc ?_ (by first | omega | (simp; done) | (simp; omega)) _) | (refine Below.setCell ?_ (by first | omega | (simp; done) | (simp; omega)) _) | (refine Below.drew ?_) | (refine below_drewN ?_ _))⟩
    have hy := lessZ_pos h2
    have hz : 0 ≤ left - t.text.size - (strWt t.keys : Nat) := by omega
    by_cases h3 : left - t.text.size - (strWt t.keys : Nat) < (t.kids.length : Int) + (wtL t.kids : Int)
    · have hy3 := lessZ_neg h3
      go_enter Tryd.func6, Tryd.ntmps6
      go_wp2_with (first | (go_at_call 15; refine (szStringS_any t.keys S _ _ _ _ F2.out (by omega) (by omega) (hk.keep (by repeat (first | exact Below.refl _ _ | (refine Below.alloc ?_ (by first | omega | (simp; done) | (simp; omega)) _) | (refine Below.setCell ?_ (by first | omega | (simp; done) | (simp; omega)) _) | (refine Below.drew ?_) | (refine below_drewN ?_ _))))).mono ?_; rintro e w1 ⟨rfl, rfl⟩) | (go_at_call 16; refine (szTreeS_of HIH.out t.kids S _ _ _ _ HK.out F4.out F3.out (by omega) (by omega) (hs.keep (by repeat (first | exact Below.refl _ _ | (refine Below.alloc ?_ (by first | omega | (simp; done) | (simp; omega)) _) | (refine Below.setCell ?_ (by first | omega | (simp; done) | (simp; omega)) _) | (refine Below.drew ?_) | (refine below_drewN ?_ _))))).mono ?_; rintro e w1 ⟨rfl, hb1⟩))
      go_ret
      exact ⟨ret_int (lessZ_neg (by have := HW.out; omega)).symm, bnext (by repeat (first | exact Below.refl _ _ | (refine Below.alloc ?_ (by first | omega | (simp; done) | (simp; omega)) _) | (refine Below.setCell ?_ (by first | omega | (simp; done) | (simp; omega)) _) | (refine Below.drew ?_) | (refine below_drewN ?_ _))) hb1⟩
    · have hy3 := lessZ_pos h3
      have hz4 : 0 ≤ left - t.text.size - (strWt t.keys : Nat) - ((t.kids.length : Int) + (wtL t.kids : Int)) := by omega
      go_enter Tryd.func6, Tryd.ntmps6
      go_wp2_with (first | (go_at_call 15; refine (szStringS_any t.keys S _ _ _ _ F2.out (by omega) (by omega) (hk.keep (by repeat (first | exact Below.refl _ _ | (refine Below.alloc ?_ (by first | omega | (simp; done) | (simp; omega)) _) | (refine Below.setCell ?_ (by first | omega | (simp; done) | (simp; omega)) _) | (refine Below.drew ?_) | (refine below_drewN ?_ _))))).mono ?_; rintro e w1 ⟨rfl, rfl⟩) | (go_at_call 16; refine (szTreeS_of HIH.out t.kids S _ _ _ _ HK.out F4.out F3.out (by omega) (by omega) (hs.keep (by repeat (first | exact Below.refl _ _ | (refine Below.alloc ?_ (by first | omega | (simp; done) | (simp; omega)) _) | (refine Below.setCell ?_ (by first | omega | (simp; done) | (simp; omega)) _) | (refine Below.drew ?_) | (refine below_drewN ?_ _))))).mono ?_; rintro e w1 ⟨rfl, hb1⟩))
      go_ret
      exact ⟨ret_int (by rw [lessZ_pos (by have := HW.out; omega)]; have := HW.out; omega), bnext (by repeat (first | exact Below.refl _ _ | (refine Below.alloc ?_ (by first | omega | (simp; done) | (simp; omega)) _) | (refine Below.setCell ?_ (by first | omega | (simp; done) | (simp; omega)) _) | (refine Below.drew ?_) | (refine below_drewN ?_ _))) hb1⟩

end Go.Proofs.YtbjialckijphiaaDoor
