/- LabelAt and SameLabels: the contracts of both texts and the laws' walks. -/
import Derived.Test.YtomhbbchflblpaaDoorMemA
import Derived.Deep.QuietTactic
import Derived.BigQuiet
namespace Go.Proofs.YtomhbbchflblpaaDoor
open Go.RowKit

def sameS (a b : ByteArray) : Bool := a.toList == b.toList
theorem sameS_iff (a b : ByteArray) : sameS a b = true ↔ a = b := by
  unfold sameS
  rw [beq_iff_eq, ByteArray.toList_eq, ByteArray.toList_eq]
  constructor
  · intro h; cases a; cases b; congr 1; exact Array.toList_inj.1 h
  · intro h; rw [h]
theorem keyAt_zero (x : ByteArray × ByteArray) (l : List (ByteArray × ByteArray)) : keyAt (x :: l) 0 = x.1 := rfl
theorem keyAt_succ (x : ByteArray × ByteArray) (l : List (ByteArray × ByteArray)) (i : Nat) : keyAt (x :: l) (i + 1) = keyAt l i := rfl
theorem valAt_zero (x : ByteArray × ByteArray) (l : List (ByteArray × ByteArray)) : valAt (x :: l) 0 = x.2 := rfl
theorem valAt_succ (x : ByteArray × ByteArray) (l : List (ByteArray × ByteArray)) (i : Nat) : valAt (x :: l) (i + 1) = valAt l i := rfl

/-- What LabelAt answers. -/
def lookO (L : List (ByteArray × ByteArray)) (key : ByteArray) : Option (ByteArray × ByteArray) := L.find? fun x => sameS x.1 key
def lookV (L : List (ByteArray × ByteArray)) (key : ByteArray) : ByteArray := ((lookO L key).map (·.2)).getD ⟨#[]⟩
def lookB (L : List (ByteArray × ByteArray)) (key : ByteArray) : Bool := (lookO L key).isSome
theorem look_hit : ∀ (L : List (ByteArray × ByteArray)) (key : ByteArray) (k : Nat), k < L.length → (∀ i, i < k → sameS (keyAt L i) key = false) → sameS (keyAt L k) key = true →
    lookV L key = valAt L k ∧ lookB L key = true
  | [], _, _, h, _, _ => by simp at h
  | x :: l, key, 0, _, _, hk => by
    rw [keyAt_zero] at hk
    simp [lookV, lookB, lookO, hk, valAt_zero]
  | x :: l, key, k + 1, h, hm, hk => by
    have h0 := hm 0 (by omega)
    rw [keyAt_zero] at h0
    have := look_hit l key k (by simpa using h) (fun i hi => by have := hm (i + 1) (by omega); rwa [keyAt_succ] at this) (by rwa [keyAt_succ] at hk)
    simp only [lookV, lookB, lookO, List.find?_cons, h0] at this ⊢
    rw [valAt_succ]; exact this
theorem look_miss : ∀ (L : List (ByteArray × ByteArray)) (key : ByteArray), (∀ i, i < L.length → sameS (keyAt L i) key = false) → lookV L key = ⟨#[]⟩ ∧ lookB L key = false
  | [], _, _ => ⟨rfl, rfl⟩
  | x :: l, key, hm => by
    have h0 := hm 0 (by simp)
    rw [keyAt_zero] at h0
    have := look_miss l key (fun i hi => by have := hm (i + 1) (by simp; omega); rwa [keyAt_succ] at this)
    simp only [lookV, lookB, lookO, List.find?_cons, h0] at this ⊢
    exact this
theorem ret_look {a a' : ByteArray} {b b' : Bool} (h : a = a') (k : b = b') : Ending.returned (.tuple #[.string a, .bool b]) = .returned (.tuple #[.string a', .bool b']) := by rw [h, k]

theorem iLabelAt (L : List (ByteArray × ByteArray)) (a : Option Addr) (cap : Nat) (key : ByteArray) (w : World) (hn : L.length ≤ 1048576) (hc : SlAt w a L.length 2 (labF L)) :
    Calls Tryd.prog 12 #[.slice a L.length cap, .string key] w fun e w' => e = .returned (.tuple #[.string (lookV L key), .bool (lookB L key)]) ∧ Below w.heap.size w w' := by
  go_enter Tryd.func12, Tryd.ntmps12
  go_wp2
  go_loopw [10] (fun i wr => ∃ k : Nat, k ≤ L.length ∧ i = .int .i64 k ∧ (∀ i, i < k → sameS (keyAt L i) key = false) ∧ Below w.heap.size w wr) (fun i _ => L.length - (intOf i).toNat)
  case atStart => exact ⟨0, by omega, rfl, fun i hi => by omega, Below.refl _ _⟩
  case round =>
    obtain ⟨k, hk, rfl, hm, hb⟩ := hrel
    have HM := Lib.hid hm; clear hm
    by_cases hlt : k < L.length
    · obtain ⟨b, off, rfl, hcell⟩ := (hc.keep hb).at (by omega)
      have c0 : wr.cell? ⟨b, off + k * 2, none⟩ = some (.string (keyAt L k)) := by simpa [labF] using hcell k hlt 0 (by omega)
      have c1 : wr.cell? ⟨b, off + k * 2 + 1, none⟩ = some (.string (valAt L k)) := by simpa [labF] using hcell k hlt 1 (by omega)
      clear hcell hc
      have hz := hb.size
      cases hs : ((keyAt L k).toList == key.toList)
      · go_wp2
        go_roundw
        case rel => exact ⟨k + 1, by omega, by go_num, fun i hi => by
          rcases Nat.lt_or_ge i k with h | h
          · exact HM.out i h
          · obtain rfl : i = k := by omega
            exact hs, by repeat (first | exact hb | (refine Below.alloc ?_ (by first | omega | (simp; done) | (simp; omega)) _) | (refine Below.setCell ?_ (by first | omega | (simp; done) | (simp; omega)) _) | (refine Below.drew ?_) | (refine below_drewN ?_ _))⟩
        case measure => simp [intOf]; omega
      · go_wp2
        go_ret2
        obtain ⟨e1, e2⟩ := look_hit L key k hlt HM.out hs
        exact ⟨ret_look e1.symm e2.symm, by repeat (first | exact hb | (refine Below.alloc ?_ (by first | omega | (simp; done) | (simp; omega)) _) | (refine Below.setCell ?_ (by first | omega | (simp; done) | (simp; omega)) _) | (refine Below.drew ?_) | (refine below_drewN ?_ _))⟩
    · obtain rfl : k = L.length := by omega
      go_wp2
      go_ret2
      obtain ⟨e1, e2⟩ := look_miss L key HM.out
      exact ⟨ret_look e1.symm e2.symm, hb⟩

end Go.Proofs.YtomhbbchflblpaaDoor
