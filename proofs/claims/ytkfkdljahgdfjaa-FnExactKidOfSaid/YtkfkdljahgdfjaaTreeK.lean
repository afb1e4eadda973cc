/- KeyAt: contracts of both texts. -/
import Derived.Test.YtkfkdljahgdfjaaTreeA
namespace Go.Proofs.Ytkfkdljahgdfjaa
open Go.RowKit

/-- The first place of a string in a list, counted from i; -1. -/
def findIx (key : ByteArray) : List ByteArray → Nat → Int
  | [], _ => -1
  | x :: xs, i => if (x.toList == key.toList) = true then (i : Int) else findIx key xs (i + 1)
theorem findIx_at (key : ByteArray) : ∀ (l : List ByteArray) (k i : Nat), k < l.length → findIx key (l.drop k) i = if ((strAt l k).toList == key.toList) = true then (i : Int) else findIx key (l.drop (k + 1)) (i + 1)
  | [], k, _, h => by simp at h
  | x :: xs, 0, i, _ => by simp [findIx, strAt]
  | x :: xs, k + 1, i, h => by
    have := findIx_at key xs k i (by simpa using h)
    simpa [strAt] using this
theorem findIx_end (key : ByteArray) (l : List ByteArray) (i : Nat) : findIx key (l.drop l.length) i = -1 := by simp [findIx]
theorem findIx_bd (key : ByteArray) : ∀ (l : List ByteArray) (i : Nat), -1 ≤ findIx key l i ∧ findIx key l i < i + l.length
  | [], i => by simp [findIx]; omega
  | x :: xs, i => by
    have := findIx_bd key xs (i + 1)
    simp only [findIx, List.length_cons]
    split <;> omega
def keyIx (key : ByteArray) (t : Tr) : Int := if (t.kind == 6) = true then findIx key t.keys 0 else -1

theorem slicesIndexS (l : List ByteArray) (S : Nat → Prop) (a : Option Addr) (cap : Nat) (key : ByteArray) (w : World) (hn : l.length ≤ 1048576) (hc : StrsIn w S (.slice a l.length cap) l) :
    Calls Try.prog 42 #[.slice a l.length cap, .string key] w fun e w' => e = .returned (.int .i64 (findIx key l 0)) ∧ Below w.heap.size w w' := by
  go_enter Try.func42, Try.ntmps42
  go_wp2
  go_loopw [8] (fun i wr => ∃ k : Nat, k ≤ l.length ∧ i = .int .i64 k ∧ Hid (findIx key l 0 = findIx key (l.drop k) k) ∧ Below w.heap.size w wr) (fun i _ => l.length - (intOf i).toNat)
  case atStart => exact ⟨0, by omega, rfl, by simp [Hid], Below.refl _ _⟩
  case round =>
    obtain ⟨k, hk, rfl, HI, hb⟩ := hrel
    by_cases hlt : k < l.length
    · obtain ⟨b, o, rfl, hcell⟩ := (hc.keep hb).at hlt
      have c0 := hcell k hlt
      clear hcell hc
      have HS := Lib.hid (findIx_at key l k k hlt)
      cases he : (key.toList == (strAt l k).toList)
      · have he2 : ((strAt l k).toList == key.toList) = false := by rw [← he]; exact Bool.beq_comm
        go_wp2
        go_roundw
        case rel => exact ⟨k + 1, by omega, by go_num, by unfold Hid; rw [HI.out, HS.out, he2]; simp, hb⟩
        case measure => simp [intOf]; omega
      · have he2 : ((strAt l k).toList == key.toList) = true := by rw [← he]; exact Bool.beq_comm
        go_wp2
        go_ret
        exact ⟨ret_int (by rw [HI.out, HS.out, he2]; simp), hb⟩
    · obtain rfl : k = l.length := by omega
      go_wp2
      go_ret
      exact ⟨ret_int (by rw [HI.out, findIx_end]), hb⟩

theorem iKeyAt (t : Tr) (S : Nat → Prop) (vk vs : Value) (key : ByteArray) (w : World) (hn : t.keys.length ≤ 1048576) (ht : TreeIn w S t vk vs) :
    Calls Try.prog 20 #[.agg #[.int .i64 t.kind, .bool t.flag, .int .i64 t.num, .string t.text, vk, vs], .string key] w fun e w' => e = .returned (.int .i64 (keyIx key t)) ∧ Below w.heap.size w w' := by
  obtain ⟨hk, hs⟩ := treeIn_iff.1 ht
  obtain ⟨a1, m1, rfl⟩ := hk.len
  obtain ⟨a2, m2, rfl⟩ := hs.len
  clear ht hs
  have HK : Hid (keyIx key t = if (t.kind == 6) = true then findIx key t.keys 0 else -1) := rfl
  cases h6 : (t.kind == 6)
  · have h6' : (t.kind != 6) = true := by simp [bne, h6]
    go_enter Try.func20, Try.ntmps20
    go_wp2
    go_ret
    exact ⟨ret_int (by rw [HK.out, h6]; rfl), by repeat (first | exact Below.refl _ _ | (refine Below.alloc ?_ (by first | omega | (simp; done) | (simp; omega)) _) | (refine Below.setCell ?_ (by first | omega | (simp; done) | (simp; omega)) _) | (refine Below.drew ?_) | (refine below_drewN ?_ _))⟩
  · have h6' : (t.kind != 6) = false := by simp [bne, h6]
    go_enter Try.func20, Try.ntmps20
    go_wp2_with fail
    refine (slicesIndexS t.keys S _ _ key _ hn (hk.keep (by repeat (first | exact Below.refl _ _ | (refine Below.alloc ?_ (by first | omega | (simp; done) | (simp; omega)) _) | (refine Below.setCell ?_ (by first | omega | (simp; done) | (simp; omega)) _) | (refine Below.drew ?_) | (refine below_drewN ?_ _))))).mono ?_
    rintro e w1 ⟨rfl, hb1⟩
    go_wp2
    go_ret
    exact ⟨ret_int (by rw [HK.out, h6]; rfl), bnext (by repeat (first | exact Below.refl _ _ | (refine Below.alloc ?_ (by first | omega | (simp; done) | (simp; omega)) _) | (refine Below.setCell ?_ (by first | omega | (simp; done) | (simp; omega)) _) | (refine Below.drew ?_) | (refine below_drewN ?_ _))) hb1⟩

theorem sKeyAt (t : Tr) (S : Nat → Prop) (vk vs : Value) (key : ByteArray) (w : World) (hn : t.keys.length ≤ 1048576) (ht : TreeIn w S t vk vs) :
    Calls Try.prog 19 #[.agg #[.int .i64 t.kind, .bool t.flag, .int .i64 t.num, .string t.text, vk, vs], .string key] w fun e w' => e = .returned (.int .i64 (keyIx key t)) ∧ Below w.heap.size w w' := by
  obtain ⟨hk, hs⟩ := treeIn_iff.1 ht
  obtain ⟨a1, m1, rfl⟩ := hk.len
  obtain ⟨a2, m2, rfl⟩ := hs.len
  clear ht hs
  have HK : Hid (keyIx key t = if (t.kind == 6) = true then findIx key t.keys 0 else -1) := rfl
  cases h6 : (t.kind == 6)
  · by_cases h0 : 0 < t.keys.length
    all_goals
      go_enter Try.func19, Try.ntmps19
      go_wp2
      go_loop [5] (fun i => i = .int .i64 0) (fun _ => 0)
      case atStart => rfl
      case round =>
        subst hrel
        go_wp2
        go_ret
        exact ⟨ret_int (by rw [HK.out, h6]; rfl), by repeat (first | exact Below.refl _ _ | (refine Below.alloc ?_ (by first | omega | (simp; done) | (simp; omega)) _) | (refine Below.setCell ?_ (by first | omega | (simp; done) | (simp; omega)) _) | (refine Below.drew ?_) | (refine below_drewN ?_ _))⟩
  · have hkb := hk.keep (w' := w.alloc (.cells #[.int .i64 t.kind, .bool t.flag, .int .i64 t.num, .string t.text, .slice a1 t.keys.length m1, .slice a2 t.kids.length m2] 30)) (by repeat (first | exact Below.refl _ _ | (refine Below.alloc ?_ (by first | omega | (simp; done) | (simp; omega)) _) | (refine Below.setCell ?_ (by first | omega | (simp; done) | (simp; omega)) _) | (refine Below.drew ?_) | (refine below_drewN ?_ _)))
    go_enter Try.func19, Try.ntmps19
    go_wp2
    go_loop [5] (fun i => ∃ k : Nat, k ≤ t.keys.length ∧ i = .int .i64 k ∧ Hid (findIx key t.keys 0 = findIx key (t.keys.drop k) k)) (fun i => t.keys.length - (intOf i).toNat)
    case atStart => exact ⟨0, by omega, rfl, by simp [Hid]⟩
    case round =>
      obtain ⟨k, hkl, rfl, HI⟩ := hrel
      by_cases hlt : k < t.keys.length
      · obtain ⟨b, o, rfl, hcell⟩ := hkb.at hlt
        have c0 := hcell k hlt
        clear hcell hk hkb
        have HS := Lib.hid (findIx_at key t.keys k k hlt)
        cases he : ((strAt t.keys k).toList == key.toList)
        · go_wp2
          go_round
          case rel => exact ⟨k + 1, by omega, by go_num, by unfold Hid; rw [HI.out, HS.out, he]; simp⟩
          case measure => simp [intOf]; omega
        · go_wp2
          go_ret
          exact ⟨ret_int (by rw [HK.out, h6, if_pos rfl, HI.out, HS.out, he]; simp), by repeat (first | exact Below.refl _ _ | (refine Below.alloc ?_ (by first | omega | (simp; done) | (simp; omega)) _) | (refine Below.setCell ?_ (by first | omega | (simp; done) | (simp; omega)) _) | (refine Below.drew ?_) | (refine below_drewN ?_ _))⟩
      · obtain rfl : k = t.keys.length := by omega
        go_wp2
        go_ret
        exact ⟨ret_int (by rw [HK.out, h6, if_pos rfl, HI.out, findIx_end]), by repeat (first | exact Below.refl _ _ | (refine Below.alloc ?_ (by first | omega | (simp; done) | (simp; omega)) _) | (refine Below.setCell ?_ (by first | omega | (simp; done) | (simp; omega)) _) | (refine Below.drew ?_) | (refine below_drewN ?_ _))⟩

end Go.Proofs.Ytkfkdljahgdfjaa
