/- spec.l11Cut: the contract. -/
import Derived.Test.YtpcojfcbomkgpaaDoorCutB
import Derived.Test.YtpcojfcbomkgpaaDoorRowC
namespace Go.Proofs.YtpcojfcbomkgpaaDoor
open Go.RowKit

def CutAt (c : UInt8) (s : ByteArray) (done : List ByteArray) (b : Nat) : Prop := cutL c s.data.toList = done.map (·.data.toList) ++ cutL c (s.data.toList.drop b)
def NoneIn (c : UInt8) (s : ByteArray) (b k : Nat) : Prop := c ∉ (s.data.toList.drop b).take (k - b)
theorem data_get (s : ByteArray) (k : Nat) (h : k < s.size) : s.data.toList[k]? = some s[k] := by
  rw [List.getElem?_eq_getElem (by simpa using h)]; rfl
theorem none_start (c : UInt8) (s : ByteArray) (b : Nat) : NoneIn c s b b := by simp [NoneIn]
theorem none_step {c : UInt8} {s : ByteArray} {b k : Nat} (h : NoneIn c s b k) (hb : b ≤ k) (hk : k < s.size) (hc : s[k] ≠ c) : NoneIn c s b (k + 1) := by
  unfold NoneIn at h ⊢
  rw [show k + 1 - b = (k - b) + 1 by omega, List.take_add_one, List.getElem?_drop, show b + (k - b) = k by omega, data_get s k hk]
  simp only [Option.toList_some, List.mem_append, List.mem_singleton, not_or]
  exact ⟨h, Ne.symm hc⟩
theorem cut_start (c : UInt8) (s : ByteArray) : CutAt c s [] 0 := by simp [CutAt]
theorem cut_step {c : UInt8} {s : ByteArray} {done : List ByteArray} {b k : Nat} (h : CutAt c s done b) (hn : NoneIn c s b k) (hb : b ≤ k) (hk : k < s.size) (hc : s[k] = c) : CutAt c s (done ++ [s.extract b k]) (k + 1) := by
  unfold CutAt NoneIn at *
  have hlen : s.data.toList.length = s.size := by simp
  have e : s.data.toList.drop b = (s.data.toList.drop b).take (k - b) ++ c :: s.data.toList.drop (k + 1) := by
    conv => lhs; rw [← List.take_append_drop (k - b) (s.data.toList.drop b)]
    rw [List.drop_drop, show b + (k - b) = k by omega, List.drop_eq_getElem_cons (i := k) (by omega)]
    congr 2
  rw [h, e, cutL_hit c _ _ hn, List.map_append, List.append_assoc]
  congr 1
  simp
theorem cut_end {c : UInt8} {s : ByteArray} {done : List ByteArray} {b : Nat} (h : CutAt c s done b) (hn : NoneIn c s b s.size) : done ++ [s.extract b s.size] = partsL c s := by
  unfold CutAt NoneIn at *
  have hlen : s.data.toList.length = s.size := by simp
  rw [List.take_of_length_le (by rw [List.length_drop]; omega)] at hn
  apply map_data
  rw [parts_data, h, cutL_miss c _ hn, List.map_append]
  congr 1
  simp [Lib.extract_from]
def CutRow (c : UInt8) (s : ByteArray) (w : World) (e : Ending) (w' : World) : Prop := ∃ v, e = .returned v ∧ RowB 9 1 w w' v (partsL c s).length ((partsL c s).map Value.string)

set_option maxRecDepth 100000 in
set_option maxHeartbeats 1000000 in
theorem sCut (s : ByteArray) (c : UInt8) (w : World) (hs : s.size ≤ 1048576) : Calls Tryd.prog 83 #[.string s, .int .u8 c.toNat] w (CutRow c s w) := by
  have HR := Lib.hid (RowB.start 9 1 w #[] rfl)
  go_enter Tryd.func83, Tryd.ntmps83
  go_wp2
  go_loopw [5, 6, 7] (fun v b i wr => ∃ (k bg : Nat) (done : List ByteArray), b = .int .i64 bg ∧ i = .int .i64 k ∧ bg ≤ k ∧ k ≤ s.size + 1 ∧ done.length ≤ k ∧ Hid (RowB 9 1 w wr v done.length (done.map Value.string)) ∧ Hid ((k ≤ s.size ∧ CutAt c s done bg ∧ NoneIn c s bg k) ∨ (k = s.size + 1 ∧ done = partsL c s))) (fun _ _ i _ => s.size + 1 - (intOf i).toNat)
  case atStart => exact ⟨0, 0, [], rfl, rfl, by omega, by omega, by simp, HR, Lib.hid (Or.inl ⟨by omega, cut_start c s, none_start c s 0⟩)⟩
  case round =>
    obtain ⟨k, bg, done, rfl, rfl, hbk, hks, hdl, hrow, hst⟩ := hrel
    have HROW := hrow; clear hrow
    by_cases hle : k ≤ s.size
    rotate_left
    · have H := Lib.hid (show done = partsL c s by rcases hst.out with h | h; (· omega); exact h.2)
      have hd : decide ((k : Int) ≤ (s.size : Int)) = false := decide_eq_false (by omega)
      go_wp2
      go_ret
      exact ⟨_, rfl, by rw [← H.out]; exact HROW.out⟩
    have hd : decide ((k : Int) ≤ (s.size : Int)) = true := decide_eq_true (by omega)
    have HST := Lib.hid (show CutAt c s done bg ∧ NoneIn c s bg k by rcases hst.out with h | h; (· exact h.2); omega)
    clear hst
    by_cases hlt : k < s.size
    rotate_left
    · obtain rfl : k = s.size := by omega
      have H := Lib.hid (cut_end HST.out.1 HST.out.2)
      have he := beq_self_eq_true ((s.size : Nat) : Int)
      go_wp2_with (at_builtin; refine wpList_row Tryd.elStr (by rfl) _ _ (by rfl) _ _ _ [.string (s.extract bg s.size)] w _ (by rfl) HROW.out _ 1 1 (by rfl) rfl (by simp [Value.oneCell']) (by rfl) (by omega) ?_; intro v' w' hrow')
      go_roundw
      case rel => exact ⟨s.size + 1, s.size + 1, done ++ [s.extract bg s.size], by go_num, by go_num, by omega, by omega, by simp; omega, Lib.hid (by simpa using hrow'), Lib.hid (Or.inr ⟨rfl, H.out⟩)⟩
      case measure => simp [intOf] <;> omega
    have he : ((k : Int) == (s.size : Int)) = false := by rw [beq_eq_false_iff_ne]; omega
    cases hc : ((s[k].toNat : Int) == (c.toNat : Int))
    · have H := Lib.hid (none_step HST.out.2 hbk hlt (fun e => by rw [e] at hc; simp at hc))
      go_wp2_with fail
      go_roundw
      case rel => exact ⟨k + 1, bg, done, rfl, by go_num, by omega, by omega, by omega, HROW, Lib.hid (Or.inl ⟨by omega, HST.out.1, H.out⟩)⟩
      case measure => simp [intOf] <;> omega
    · have H := Lib.hid (cut_step HST.out.1 HST.out.2 hbk hlt (UInt8.toNat_inj.1 (by rw [beq_iff_eq] at hc; omega)))
      go_wp2_with (at_builtin; refine wpList_row Tryd.elStr (by rfl) _ _ (by rfl) _ _ _ [.string (s.extract bg k)] w _ (by rfl) HROW.out _ 1 1 (by rfl) rfl (by simp [Value.oneCell']) (by rfl) (by omega) ?_; intro v' w' hrow')
      go_roundw
      case rel => exact ⟨k + 1, k + 1, done ++ [s.extract bg k], by go_num, by go_num, by omega, by omega, by simp; omega, Lib.hid (by simpa using hrow'), Lib.hid (Or.inl ⟨by omega, H.out, none_start c s (k + 1)⟩)⟩
      case measure => simp [intOf] <;> omega

end Go.Proofs.YtpcojfcbomkgpaaDoor
