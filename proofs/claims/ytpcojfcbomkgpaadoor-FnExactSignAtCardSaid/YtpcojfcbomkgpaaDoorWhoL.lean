/- What strconv.ErrRange holds; the law's walk of ReadWhole. -/
import Derived.Test.YtpcojfcbomkgpaaDoorWhoI
import Derived.Lib.LaidU8
import Derived.ProofKit
namespace Go.Proofs.YtpcojfcbomkgpaaDoor
open Go.RowKit

theorem iface_cell {H : Type} {enc : TypeId × Value → H} {P : Program} {w : World} {base : Nat} {sp : Nat → Bool} {held : Bool} {fuel : Nat} {t : TypeId} {cs : List Value} {nm : String} {d : DataW H} {p : List MemPlace} {ms : Array (String × TypeId)}
    (hi : P.underlying t = some (.interface ms)) (h : DataW.trod enc P w base sp held fuel t cs = some (.iface nm d, p)) : ∃ u v, cs = [.iface u v] := by
  cases fuel with
  | zero => simp [DataW.trod] at h
  | succ fuel =>
    unfold DataW.trod at h
    rw [hi] at h
    split at h
    all_goals first
      | exact ⟨_, _, rfl⟩
      | (rename_i he; cases he; done)
      | (simp at h; done)
      | (rename_i h1 h2; cases h1; done)
      | (simp_all; done)
theorem errs_of {W : World} (h : Lib.VarReads Tryd.prog W "strconv.ErrRange" Rows.laid_strconv_ErrRange) : Errs W := by
  obtain ⟨g, t, cs, fuel, p, hg, ht, hv, hd⟩ := h
  have hg2 : Tryd.prog.globalNamed "strconv.ErrRange" = some 4 := by kernel_rfl
  have ht2 : (Tryd.prog.globals[4]?).map (·.type) = some 137 := by kernel_rfl
  obtain rfl := Option.some.inj (hg2.symm.trans hg)
  obtain rfl := Option.some.inj (ht2.symm.trans ht)
  obtain ⟨u, v, he⟩ := iface_cell Tryd.underlying137 hd
  refine ⟨u, v, ?_⟩
  rw [hv]
  congr 1
  obtain ⟨l⟩ := cs
  simp only at he
  rw [he]

end Go.Proofs.YtpcojfcbomkgpaaDoor
