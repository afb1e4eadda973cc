/- spec.ReadWhole: the contract. -/
import Derived.Test.YtpcojfcbomkgpaaDoorWhoR
import Derived.Test.YtpcojfcbomkgpaaDoorRqE
import Derived.Deep.DeepCutAuto
namespace Go.Proofs.YtpcojfcbomkgpaaDoor
open Go.RowKit

def minB : ByteArray := ⟨#[57, 50, 50, 51, 51, 55, 50, 48, 51, 54, 56, 53, 52, 55, 55, 53, 56, 48, 56]⟩
theorem minB_val : valFrom 0 minB.data.toList = 9223372036854775808 := by decide +kernel
theorem minB_dec : Lib.decDigits 9223372036854775808 = minB.data.toList := by
  have hc : Canon minB.data.toList := ⟨by simp [minB], by decide +kernel, by decide +kernel⟩
  have := dec_val _ _ rfl hc
  rw [minB_val] at this
  exact this
/-- The one number whose figures have no int of their own. -/
theorem min_iff {l : List UInt8} (h : Canon l) : (l = minB.data.toList) ↔ valFrom 0 l = 9223372036854775808 := by
  constructor
  · intro e; rw [e]; exact minB_val
  · intro e
    have := dec_val _ _ rfl h
    rw [e, minB_dec] at this
    exact this.symm
theorem data_toList (t : ByteArray) : t.toList = t.data.toList := ByteArray.toList_eq t

/-- What stands behind the figures of s from f to e. -/
structure Fig (s : ByteArray) (f e : Nat) (F : ByteArray) : Prop where
  ends : Ends s f e
  size : F.size = e - f
  list : F.data.toList = figs s f e
theorem Fig.mk' {s : ByteArray} {f e : Nat} (h : Ends s f e) : Fig s f e (s.extract f e) :=
  ⟨h, by rw [ByteArray.size_extract]; have := h.top; omega, rfl⟩
theorem fig_head {s : ByteArray} {f e : Nat} {F : ByteArray} (h : Fig s f e F) (hne : f < e) (h0 : 0 < F.size) : F[0].toNat = bt s f := by
  have h1 := figs_get s f e 0 (by omega) h.ends.top
  rw [← h.list, byteAt_toNat F 0 h0, Nat.add_zero] at h1
  exact h1
theorem fig_empty {s : ByteArray} {f e : Nat} {F : ByteArray} (h : Fig s f e F) : F.toList.isEmpty = decide (e = f) := by
  have hl : F.toList.length = e - f := by
    rw [data_toList, h.list, figs_len s f e h.ends.le h.ends.top]
  have := h.ends.le
  rw [Bool.eq_iff_iff, List.isEmpty_iff, decide_eq_true_eq]
  constructor
  · intro hq; rw [hq] at hl; simp at hl; omega
  · intro hq; exact List.eq_nil_of_length_eq_zero (by omega)

end Go.Proofs.YtpcojfcbomkgpaaDoor
