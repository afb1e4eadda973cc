/- spec.Quoted: the contract. -/
import Derived.Test.YtclffhejoneiaaaGreatDoorQuo
import Derived.Test.YtclffhejoneiaaaGreatDoorBuf
import Derived.Test.YtclffhejoneiaaaGreatDoorRunesL
namespace Go.Proofs.YtclffhejoneiaaaGreatDoor
open Go.RowKit

def figZ (x : Int) : Int := if x < 10 then 48 + x else 87 + x
theorem sFigure (x : Int) (w : World) (h0 : 0 ≤ x) (h1 : x < 16) : Calls Tryz.prog 81 #[.int .i64 x] w fun e w' => e = .returned (.int .u8 (figZ x)) ∧ w = w' := by
  have H : Hid (figZ x = if x < 10 then 48 + x else 87 + x) := rfl
  by_cases h : x < 10
  · go_enter Tryz.func81, Tryz.ntmps81
    go_wp2
    go_ret
    exact ⟨ret_int (by rw [H.out, if_pos h]), rfl⟩
  · go_enter Tryz.func81, Tryz.ntmps81
    go_wp2
    go_ret
    exact ⟨ret_int (by rw [H.out, if_neg (by omega)]; omega), rfl⟩
theorem fig_byte (m : Nat) (h : m < 16) : Value.int .u8 (figZ (m : Int)) = byteV (figB m) := by
  unfold byteV figB figZ
  congr 1
  by_cases g : m < 10
  · rw [if_pos (by omega), if_pos g]; simp; omega
  · rw [if_neg (by omega), if_neg g]; simp; omega
theorem fig_two (n : Nat) (h : n < 32) : #[Value.int .u8 (figZ ((n : Int) / 16)), Value.int .u8 (figZ ((n : Int) % 16))] = ([figB (n / 16), figB (n % 16)].map byteV).toArray := by
  have e1 : (n : Int) / 16 = ((n / 16 : Nat) : Int) := by omega
  have e2 : (n : Int) % 16 = ((n % 16 : Nat) : Int) := by omega
  rw [e1, e2, fig_byte _ (by omega), fig_byte _ (by omega)]
  rfl
theorem rtext_len (n : Nat) : (rtext (n : Int)).length ≤ 4 := by
  rw [rtext_nat, List.length_map, bytes_len]
  split
  · split
    · omega
    split
    · omega
    split <;> omega
  · omega
theorem escTo_zero (s : ByteArray) : escTo s 0 = [34] := rfl

end Go.Proofs.YtclffhejoneiaaaGreatDoor
