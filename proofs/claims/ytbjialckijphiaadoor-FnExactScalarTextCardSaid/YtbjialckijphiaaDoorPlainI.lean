/- impl.PlainOk: the first byte, as strings.IndexByte finds it. -/
import Derived.Test.YtbjialckijphiaaDoorPlainT
import Derived.Lib.IndexAny
namespace Go.Proofs.YtbjialckijphiaaDoor
open Go.RowKit

theorem firstBad_ix (s : ByteArray) (h : 0 < s.size) : firstBad s = decide ((0 : Int) ≤ Lib.indexByte badFirst.data.toList s[0]) := by
  rw [← Lib.contains_iff_indexByte, firstBad, bt_eq s 0 h]
  generalize s[0] = c
  rw [Bool.eq_iff_iff, List.any_eq_true, List.contains_iff_mem]
  constructor
  · rintro ⟨j, hj, e⟩
    have hj := List.mem_range.1 hj
    have hj2 : j < badFirst.size := hj
    rw [bt_eq badFirst j hj2] at e
    have e2 : c = badFirst[j] := UInt8.toNat_inj.1 (by simpa using e)
    rw [e2]
    exact List.getElem_mem (l := badFirst.data.toList) (by simpa using hj2)
  · intro hm
    obtain ⟨j, hj, e⟩ := List.getElem_of_mem hm
    have hj2 : j < badFirst.size := by simpa using hj
    refine ⟨j, List.mem_range.2 hj2, ?_⟩
    rw [bt_eq badFirst j hj2, ← e]
    simp
    rfl

end Go.Proofs.YtbjialckijphiaaDoor
