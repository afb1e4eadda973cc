/- impl.RuneOk, RuneText, RuneAt: contracts. -/
import Derived.Test.YtbjialckijphiaaDoorRunesI
import Derived.Shelf.Strings.MapAny
namespace Go.Proofs.YtbjialckijphiaaDoor
open Go.RowKit

theorem encode_eq {n : Int} (h : runeOkZ n = true) : Utf8.encode n = ⟨(rtext n).toArray⟩ := by
  have h0 : 0 ≤ n := by simp [runeOkZ, betweenB] at h; omega
  obtain ⟨m, rfl⟩ := Int.eq_ofNat_of_zero_le h0
  have ho : runeOkN m = true := by rw [← runeOkZ_nat]; exact h
  have hv : Utf8.valid (m : Int) = true := by rw [valid_iff]; exact ho
  rw [rtext_nat, runeBytes, if_pos ho]
  unfold Utf8.encode
  simp only [hv, if_true, Int.toNat_natCast]
  by_cases g1 : m < 128
  · rw [if_pos g1, if_pos g1]; rfl
  rw [if_neg g1, if_neg g1]
  by_cases g2 : m < 2048
  · rw [if_pos g2, if_pos g2]; rfl
  rw [if_neg g2, if_neg g2]
  by_cases g3 : m < 65536
  · rw [if_pos g3, if_pos g3]; rfl
  · rw [if_neg g3, if_neg g3]; rfl

end Go.Proofs.YtbjialckijphiaaDoor
