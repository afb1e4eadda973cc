/- impl.fourDigits, readEscape: contracts. -/
import Derived.Test.YtpcojfcbomkgpaaDoorRqE
import Derived.Test.YtpcojfcbomkgpaaDoorLow
import Derived.Test.YtpcojfcbomkgpaaDoorRuneI
import Derived.Lib.ConvBytes
namespace Go.Proofs.YtpcojfcbomkgpaaDoor
open Go.RowKit

/-- unicode.CaseRanges lies where the library reads it. -/
def Cases (w : World) : Prop := Lib.CaseVar (Tryd.lays204_ren.g 13) Lib.caseA w
theorem cases_keep {w w' : World} (h : Cases w) (hb : Below w.heap.size w w') : Cases w' := Lib.CaseVar_below h hb

theorem conv_bytes (w1 : World) (L : List UInt8) : ∃ W cap, (convert 9 61 (.string ⟨L.toArray⟩)).run Tryd.prog w1 = .ok (.slice (some ⟨w1.heap.size, 0, none⟩) L.length cap) W ∧ Below w1.heap.size w1 W ∧
    ∀ j, j < L.length → W.cell? ⟨w1.heap.size, j, none⟩ = some (.int .u8 (L.getD j 0).toNat) :=
  ⟨Lib.bytesWorld w1 5 ⟨L.toArray⟩, _, Lib.run_convert_string_bytes w1 _ _ _ ⟨L.toArray⟩ Tryd.underlying9 Tryd.underlying61 Tryd.underlying5,
    ⟨rfl, rfl, rfl, by rw [Lib.bytesWorld_size]; omega, fun k hk => Lib.bytesWorld_at_old _ _ _ _ hk⟩,
    fun j hj => Lib.bytesWorld_cell w1 5 ⟨L.toArray⟩ j hj⟩

def fdN (o : Option Nat) : Int := match o with | none => 0 | some n => (n : Int)
theorem ret_nb {a b : Int} {c d : Bool} (h : a = b) (k : c = d) : Ending.returned (.tuple #[.int .i64 a, .bool c]) = .returned (.tuple #[.int .i64 b, .bool d]) := by rw [h, k]

set_option maxHeartbeats 1000000 in
theorem iFour (s : ByteArray) (k : Nat) (p : Int) (w : World) (hs : s.size ≤ 1048576) (hk : k ≤ 2000000) (hp : p = (k : Int)) (hT : Tabs w) (hV : Cases w) :
    Calls Tryd.prog 189 #[.string s, .int .i64 p] w fun e w' => e = .returned (.tuple #[.int .i64 (fdN (fourO s k)), .bool (fourO s k).isSome]) ∧ Below w.heap.size w w' := by
  subst hp
  by_cases hin : s.size < k + 4
  · have H := Lib.hid (show fourO s k = none by rw [fourO, if_pos hin])
    have hd : decide ((s.size : Int) - 4 < (k : Int)) = true := decide_eq_true (by omega)
    clear hin hT hV
    go_enter Tryd.func189, Tryd.ntmps189
    go_wp2
    go_ret2
    exact ⟨by rw [H.out]; rfl, Below.refl _ _⟩
  have hd : decide ((s.size : Int) - 4 < (k : Int)) = false := decide_eq_false (by omega)
  have hin2 : k + 4 ≤ s.size := by omega
  have hf1 : (k : Int) + 4 ≤ s.size := by omega
  have hf2 : (0 : Int) ≤ (k : Int) + 4 := by omega
  have hf3 : (k : Int) ≤ (k : Int) + 4 := by omega
  clear hin
  have hc : Calls Tryd.prog 223 #[.string (s.extract k (k + 4))] w fun e w' => e = .returned (.string ⟨(lowL s k).toArray⟩) ∧ Below w.heap.size w w' :=
    Tryd.strings_ToLower_any (s.extract k (k + 4)) w (by rw [ByteArray.size_extract]; omega) hV hT
  have HB := Lib.hid (fun j => low_bound (j := j) hin2)
  have HN := Lib.hid (fun j => low_bad_at (j := j) hin2)
  have HE := Lib.hid (fun n => low_end (n := n) hin2)
  generalize lowL s k = L at hc HB HN HE
  have HC := Lib.hid hc
  clear hc hT hV
  go_enter Tryd.func189, Tryd.ntmps189
  go_wp2_with (go_at_call 223; refine HC.out.mono ?_; rintro e w1 ⟨rfl, hb1⟩; obtain ⟨W, cap, hcv, hbW, hcW⟩ := conv_bytes w1 L)
  have hbel := Lib.hid (bnext hb1 hbW)
  have HCW := Lib.hid hcW
  clear hb1 hbW hcW hcv hd hf1 hf2 hf3
  go_loop [6, 23] (fun n i => ∃ j m : Nat, j ≤ L.length ∧ j ≤ 4 ∧ i = .int .i64 j ∧ n = .int .i64 m ∧ accL L j = some m ∧ ∀ q, q < j → 0 ≤ hv (L.getD q 0)) (fun _ i => L.length - (intOf i).toNat)
  case atStart => exact ⟨0, 0, by omega, by omega, rfl, rfl, rfl, fun q hq => by omega⟩
  case round =>
    obtain ⟨j, m, hj, hj4, rfl, rfl, hx, hall⟩ := hrel
    have hm : m ≤ 1048576 := by
      have h1 := accL_lt L j m hx
      have h2 : (16 : Nat) ^ j ≤ 16 ^ 4 := Nat.pow_le_pow_right (by omega) (by omega)
      have h3 : (16 : Nat) ^ 4 = 65536 := rfl
      omega
    have HX := Lib.hid hx; have HA := Lib.hid hall
    clear hx hall
    by_cases hlt : j < L.length
    · have c0 := HCW.out j hlt
      have hcx : ∀ w0 : World, Calls Tryd.prog 75 #[.string hexDig, .int .u8 ((L.getD j 0).toNat : Int)] w0 fun e w' => e = .returned (.int .i64 (hv (L.getD j 0))) ∧ w0 = w' := fun w0 => by
        have := Tryd.strings_IndexByte hexDig ((L.getD j 0).toNat : Int) w0
        refine this.mono fun e w' ⟨h1, h2⟩ => ⟨by simpa [hv] using h1, h2.symm⟩
      have hbd := hv_bd (L.getD j 0)
      have HS : Hid (accL L (j + 1) = (accL L j).bind fun n => if hv (L.getD j 0) < 0 then none else some (16 * n + (hv (L.getD j 0)).toNat)) := rfl
      have HB' := Lib.hid (HB.out j hlt); have HN' := Lib.hid (HN.out j hlt)
      have hall' : 0 ≤ hv (L.getD j 0) → ∀ q, q < j + 1 → 0 ≤ hv (L.getD q 0) := fun h q hq => by
        rcases Nat.lt_or_ge q j with h1 | h1
        · exact HA.out q h1
        · obtain rfl : q = j := by omega
          exact h
      have HA' := Lib.hid hall'
      generalize hv (L.getD j 0) = z at hcx hbd HS HN' HA'
      generalize (L.getD j 0).toNat = cb at c0 hcx
      have HC := Lib.hid hcx
      clear hcx hall'
      by_cases hz : z < 0
      · have H := Lib.hid (HN'.out hz)
        go_wp2_with (go_at_call 75; refine (HC.out _).mono ?_; rintro e w2 ⟨rfl, rfl⟩)
        go_ret2
        exact ⟨by rw [H.out]; rfl, hbel.out⟩
      · have hz0 : 0 ≤ z := by omega
        have hz1 : z ≤ 15 := by omega
        obtain ⟨d, rfl⟩ := Int.eq_ofNat_of_zero_le hz0
        have hd : decide ((d : Int) < 0) = false := decide_eq_false (by omega)
        have hj5 := HB'.out (fun q hq => HA'.out hz0 q (by omega))
        clear hz hbd
        go_wp2_with (go_at_call 75; refine (HC.out _).mono ?_; rintro e w2 ⟨rfl, rfl⟩)
        go_round
        case rel => exact ⟨j + 1, 16 * m + d, by omega, by omega, by go_num, by go_num, by rw [HS.out, HX.out]; simp, HA'.out hz0⟩
        case measure => simp [intOf]; omega
    · obtain rfl : j = L.length := by omega
      have H := Lib.hid (HE.out m HX.out)
      go_wp2
      go_ret2
      exact ⟨by rw [H.out]; rfl, hbel.out⟩

end Go.Proofs.YtpcojfcbomkgpaaDoor
