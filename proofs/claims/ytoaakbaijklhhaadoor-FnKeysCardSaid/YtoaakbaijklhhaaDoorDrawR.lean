/- RunesText, sameInts; the drawn texts of code points: contracts. -/
import Derived.Test.YtoaakbaijklhhaaDoorDraw
import Derived.Test.YtoaakbaijklhhaaDoorDec
import Derived.Test.YtoaakbaijklhhaaDoorBuf
import Derived.Test.YtoaakbaijklhhaaDoorRuneI
import Derived.Test.YtoaakbaijklhhaaDoorRunesL
namespace Go.Proofs.YtoaakbaijklhhaaDoor
open Go.RowKit

def intF (l : List Int) (i _j : Nat) : Value := .int .i64 (l.getD i 0)
theorem take_succ_getD (l : List Int) (j : Nat) (h : j < l.length) : l.take (j + 1) = l.take j ++ [l.getD j 0] := by
  rw [List.take_succ_eq_append_getElem h, List.getD_eq_getElem?_getD, List.getElem?_eq_getElem h]; rfl

set_option maxHeartbeats 1000000 in
theorem sRunesText (l : List Int) (a : Option Addr) (cap : Nat) (w : World) (hn : l.length ≤ 10000000) (hc : SlAt w a l.length 1 (intF l)) :
    Calls Tryd.prog 98 #[.slice a l.length cap] w fun e w' => e = .returned (.string ⟨(rtexts l).toArray⟩) ∧ Below w.heap.size w w' := by
  have HSL := Lib.hid hc; clear hc
  go_enter Tryd.func98, Tryd.ntmps98
  go_wp2_with fail
  go_loopw [3, 4] (fun v i wr => ∃ j : Nat, j ≤ l.length ∧ i = .int .i64 j ∧ Buf w wr v (rtexts (l.take j))) (fun _ i _ => l.length - (intOf i).toNat)
  case atStart => exact ⟨0, by omega, rfl, Buf.lit w [] _ 0 rfl rfl (by omega)⟩
  case round =>
    obtain ⟨j, hj, rfl, hbuf⟩ := hrel
    have HB := Lib.hid hbuf
    have hlen : (rtexts (l.take j)).length ≤ 4 * j := by
      have := rtexts_len (l.take j)
      have h2 : (l.take j).length ≤ j := List.length_take_le _ _
      omega
    by_cases hlt : j < l.length
    · obtain ⟨b, off, rfl, hcell⟩ := (HSL.out.keep hbuf.bel).at (by omega)
      have c0 : wr.cell? ⟨b, off + j, none⟩ = some (.int .i64 (l.getD j 0)) := by
        have := hcell j hlt 0 (by omega); simpa [intF] using this
      have HE := Lib.hid (show rtexts (l.take (j + 1)) = rtexts (l.take j) ++ rtext (l.getD j 0) by rw [take_succ_getD l j hlt, rtexts_snoc])
      generalize l.getD j 0 = n at c0 HE
      have HN := Lib.hid (rtext_len4 n)
      clear hcell hbuf
      go_wp2_with (first | (go_at_call 57; refine (sRuneText _ _).mono ?_; rintro e w4 ⟨rfl, hb4⟩) | (at_builtin; refine wpList_bufS (by rfl) _ _ (by rfl) _ _ w _ (by rfl) (HB.out.keep hb4) _ (by rfl) (by have := HN.out; show _ + (rtext n).length ≤ _; omega) ?_; intro v2 w2 hb2))
      go_roundw
      case rel => exact ⟨j + 1, by omega, by go_num, by rw [HE.out]; exact hb2⟩
      case measure => simp [intOf]; omega
    · obtain rfl : j = l.length := by omega
      have ht := hbuf.text
      rw [List.take_length] at ht
      clear hbuf
      go_wp2
      go_ret
      exact ⟨rfl, HB.out.bel⟩

theorem app_text (l m : List UInt8) : (⟨l.toArray⟩ : ByteArray) ++ ⟨m.toArray⟩ = ⟨(l ++ m).toArray⟩ := by
  apply ByteArray.ext
  simp

set_option maxHeartbeats 1000000 in
theorem iRunesText (l : List Int) (a : Option Addr) (cap : Nat) (w : World) (hn : l.length ≤ 10000000) (hc : SlAt w a l.length 1 (intF l)) :
    Calls Tryd.prog 32 #[.slice a l.length cap] w fun e w' => e = .returned (.string ⟨(rtexts l).toArray⟩) ∧ w = w' := by
  have HSL := Lib.hid hc; clear hc
  go_enter Tryd.func32, Tryd.ntmps32
  go_wp2_with fail
  go_loop [3, 8] (fun v i => ∃ (j : Nat) (t : ByteArray), j ≤ l.length ∧ i = .int .i64 j ∧ v = .string t ∧ t.size ≤ 4 * j ∧ t = ⟨(rtexts (l.take j)).toArray⟩) (fun _ i => l.length - (intOf i).toNat)
  case atStart => exact ⟨0, ⟨#[]⟩, by omega, rfl, rfl, by show 0 ≤ _; omega, rfl⟩
  case round =>
    obtain ⟨j, t, hj, rfl, rfl, hts, ht⟩ := hrel
    have HTT := Lib.hid ht; clear ht
    by_cases hlt : j < l.length
    · obtain ⟨b, off, rfl, hcell⟩ := HSL.out.at (by omega)
      have c0 : w.cell? ⟨b, off + j, none⟩ = some (.int .i64 (l.getD j 0)) := by
        have := hcell j hlt 0 (by omega); simpa [intF] using this
      have HE := Lib.hid (show rtexts (l.take (j + 1)) = rtexts (l.take j) ++ rtext (l.getD j 0) by rw [take_succ_getD l j hlt, rtexts_snoc])
      generalize l.getD j 0 = n at c0 HE
      have hN := rtext_len4 n
      obtain ⟨u, hu⟩ : ∃ u : ByteArray, u = ⟨(rtext n).toArray⟩ := ⟨_, rfl⟩
      have hus : u.size ≤ 4 := by rw [hu]; show (rtext n).length ≤ 4; exact hN
      have HU := Lib.hid hu
      clear hcell hu hN
      go_wp2_with (go_at_call 34; refine (iRuneText _ _).mono ?_; rw [← HU.out]; rintro e w4 ⟨rfl, rfl⟩)
      go_round
      case rel => exact ⟨j + 1, t ++ u, by omega, by go_num, rfl, by rw [ByteArray.size_append]; omega, by rw [HTT.out, HU.out, HE.out, app_text]⟩
      case measure => simp [intOf]; omega
    · obtain rfl : j = l.length := by omega
      have H := Lib.hid (show t = ⟨(rtexts l).toArray⟩ by have := HTT.out; rw [List.take_length] at this; exact this)
      go_wp2
      go_ret
      exact ⟨ret_str H.out, rfl⟩

theorem sameInts_same (l : List Nat) (a a' : Option Addr) (cap cap' : Nat) (w : World) (hn : l.length ≤ 1073741824) (hc : SlAt w a l.length 1 (runF l)) (hc' : SlAt w a' l.length 1 (runF l)) :
    Calls Tryd.prog 35 #[.slice a l.length cap, .slice a' l.length cap'] w fun e w' => e = .returned (.bool true) ∧ Below w.heap.size w w' := by
  go_enter Tryd.func35, Tryd.ntmps35
  have e0 : ((l.length : Int) != (l.length : Int)) = false := by simp
  go_wp2
  clear e0
  go_loopw [5] (fun s3 wr => ∃ j : Nat, j ≤ l.length ∧ s3 = .int .i64 j ∧ Below w.heap.size w wr) (fun s3 _ => l.length - (intOf s3).toNat)
  case atStart => exact ⟨0, by omega, rfl, Below.refl _ _⟩
  case round =>
    obtain ⟨j, hj, rfl, hb⟩ := hrel
    by_cases hlt : j < l.length
    · obtain ⟨b, off, rfl, hcell⟩ := (hc.keep hb).at (by omega)
      obtain ⟨b', off', rfl, hcell'⟩ := (hc'.keep hb).at (by omega)
      have c0 : wr.cell? ⟨b, off + j, none⟩ = some (.int .i64 ((l.getD j 0 : Nat) : Int)) := by
        have := hcell j hlt 0 (by omega); simpa [runF] using this
      have c0' : wr.cell? ⟨b', off' + j, none⟩ = some (.int .i64 ((l.getD j 0 : Nat) : Int)) := by
        have := hcell' j hlt 0 (by omega); simpa [runF] using this
      clear hcell hc hcell' hc'
      generalize ((l.getD j 0 : Nat) : Int) = z at c0 c0'
      have e0 : (z != z) = false := by simp
      go_wp2_with fail
      go_quiet (fail)
      go_wp2
      go_roundw
      case rel => exact ⟨j + 1, by omega, by go_num, ⟨hb.os, hb.tape, hb.output, hb.size, hb.block⟩⟩
      case measure => simp [intOf]; omega
    · obtain rfl : j = l.length := by omega
      go_wp2
      go_ret
      exact ⟨rfl, hb⟩

end Go.Proofs.YtoaakbaijklhhaaDoor
