/- spec.l11Cut: the contract. -/
import Derived.Test.YtomhbbchflblpaaDoorCutP
import Derived.Test.YtomhbbchflblpaaDoorRowB
namespace Go.Proofs.YtomhbbchflblpaaDoor
open Go.RowKit

def CutAt (c : UInt8) (s : ByteArray) (done : List ByteArray) (b : Nat) : Prop := cutL c s.data.toList = done.map (·.data.toList) ++ cutL c (s.data.toList.drop b)

def NoneIn (c : UInt8) (s : ByteArray) (b k : Nat) : Prop := c ∉ (s.data.toList.drop b).take (k - b)

theorem data_get (s : ByteArray) (k : Nat) (h : k < s.size) : s.data.toList[k]? = some s[k] := by
  rw [List.getElem?_eq_getElem (by simpa using h)]; rfl

theorem none_start (c : UInt8) (s : ByteArray) (b : Nat) : NoneIn c s b b := by simp [NoneIn]

theorem none_step {c : UInt8} {s : ByteArray} {b k : Nat} (h : NoneIn c s b k) (hb : b ≤ k) (hk : k < s.size) (hc : s[k] ≠ c) : NoneIn c s b (k + 1) := by
  unfold NoneIn at h ⊢
  rw [show k + 1 - b = (k - b) + 1 by omega, List.take_add_one, List.getElem?_drop, show b + (k - b) = k by omega, data_get s k hk]
  simp only [Option.toList_some, List.mem_append, List.mem_singleton, not_or]
  exact ⟨h, Ne.symm hc⟩

theorem cut_start (c : UInt8) (s : ByteArray) : CutAt c s [] 0 := by simp [CutAt]

theorem cut_step {c : UInt8} {s : ByteArray} {done : List ByteArray} {b k : Nat} (h : CutAt c s done b) (hn : NoneIn c s b k) (hb : b ≤ k) (hk : k < s.size) (hc : s[k] = c) : CutAt c s (done ++ [s.extract b k]) (k + 1) := by
  unfold CutAt NoneIn at *
  have hlen : s.data.toList.length = s.size := by simp
  have e : s.data.toList.drop b = (s.data.toList.drop b).take (k - b) ++ c :: s.data.toList.drop (k + 1) := by
    conv => lhs; rw [← List.take_append_drop (k - b) (s.data.toList.drop b)]
    rw [List.drop_drop, show b + (k - b) = k by omega, List.drop_eq_getElem_cons (i := k) (by omega)]
    congr 2
  rw [h, e, cutL_hit c _ _ hn, List.map_append, List.append_assoc]
  congr 1
  simp

theorem cut_end {c : UInt8} {s : ByteArray} {done : List ByteArray} {b : Nat} (h : CutAt c s done b) (hn : NoneIn c s b s.size) : done ++ [s.extract b s.size] = partsL c s := by
  unfold CutAt NoneIn at *
  have hlen : s.data.toList.length = s.size := by simp
  rw [List.take_of_length_le (by rw [List.length_drop]; omega)] at hn
  apply map_data
  rw [parts_data, h, cutL_miss c _ hn, List.map_append]
  congr 1
  simp [Lib.extract_from]

def CutRow (c : UInt8) (s : ByteArray) (w : World) (e : Ending) (w' : World) : Prop := ∃ v, e = .returned v ∧ RowB 9 1 w w' v (partsL c s).length ((partsL c s).map Value.string)

end Go.Proofs.YtomhbbchflblpaaDoor
