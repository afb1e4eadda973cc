/- impl.Quoted: the contract. -/
import Derived.Test.YtclffhejoneiaaaGreatDoorQuoS
import Derived.Test.YtclffhejoneiaaaGreatDoorRuneI
import Derived.Deep.RegionLaw
namespace Go.Proofs.YtclffhejoneiaaaGreatDoor
open Go.RowKit

def escBytes : ByteArray := ⟨#[8, 12, 10, 13, 9]⟩
def hexDig : ByteArray := ⟨#[48, 49, 50, 51, 52, 53, 54, 55, 56, 57, 97, 98, 99, 100, 101, 102]⟩
theorem hexDig_at (m : Nat) (h : m < hexDig.size) : hexDig[m] = figB m := by
  have h16 : m < 16 := h
  rcases (show m = 0 ∨ m = 1 ∨ m = 2 ∨ m = 3 ∨ m = 4 ∨ m = 5 ∨ m = 6 ∨ m = 7 ∨ m = 8 ∨ m = 9 ∨ m = 10 ∨ m = 11 ∨ m = 12 ∨ m = 13 ∨ m = 14 ∨ m = 15 by omega) with rfl | rfl | rfl | rfl | rfl | rfl | rfl | rfl | rfl | rfl | rfl | rfl | rfl | rfl | rfl | rfl <;> rfl

theorem esc_none (c : UInt8) (g3 : ¬ c = 8) (g4 : ¬ c = 12) (g5 : ¬ c = 10) (g6 : ¬ c = 13) (g7 : ¬ c = 9) : Lib.indexByte escBytes.data.toList c = -1 := by
  have ne : ∀ d : UInt8, ¬ c = d → ¬ d = c := fun d h e => h e.symm
  show Lib.indexByte [8, 12, 10, 13, 9] c = -1
  simp [Lib.indexByte, ne _ g3, ne _ g4, ne _ g5, ne _ g6, ne _ g7]
theorem escB_ctl (c : UInt8) (h : c.toNat < 32) (g3 : ¬ c = 8) (g4 : ¬ c = 12) (g5 : ¬ c = 10) (g6 : ¬ c = 13) (g7 : ¬ c = 9) : escB c = [92, 117, 48, 48, figB (c.toNat / 16), figB (c.toNat % 16)] := by
  have ne : ∀ d : UInt8, 32 ≤ d.toNat → ¬ c = d := fun d hd e => by rw [e] at h; omega
  unfold escB
  rw [if_neg (ne 34 (by decide)), if_neg (ne 92 (by decide)), if_neg g3, if_neg g4, if_neg g5, if_neg g6, if_neg g7, if_pos h]
theorem escB_plain (c : UInt8) (g1 : ¬ c = 34) (g2 : ¬ c = 92) (h : ¬ c.toNat < 32) (g3 : ¬ c = 8) (g4 : ¬ c = 12) (g5 : ¬ c = 10) (g6 : ¬ c = 13) (g7 : ¬ c = 9) : escB c = [c] := by
  unfold escB
  rw [if_neg g1, if_neg g2, if_neg g3, if_neg g4, if_neg g5, if_neg g6, if_neg g7, if_neg h]
theorem hex_six (c : UInt8) (h : c.toNat < 32) : #[Value.int .u8 92, Value.int .u8 117, Value.int .u8 48, Value.int .u8 48, Value.int .u8 (hexDig[(((c.toNat : Nat) : Int) / 16).toNat]'(by show _ < 16; omega)).toNat, Value.int .u8 (hexDig[(((c.toNat : Nat) : Int) % 16).toNat]'(by show _ < 16; omega)).toNat] =
    ([92, 117, 48, 48, figB (c.toNat / 16), figB (c.toNat % 16)].map byteV).toArray := by
  have e1 : (((c.toNat : Nat) : Int) / 16).toNat = c.toNat / 16 := by omega
  have e2 : (((c.toNat : Nat) : Int) % 16).toNat = c.toNat % 16 := by omega
  rw [hexDig_at, hexDig_at, e1, e2]
  rfl

end Go.Proofs.YtclffhejoneiaaaGreatDoor
