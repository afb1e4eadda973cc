/- The law of ReadQuoted. -/
import Derived.Test.YtpcojfcbomkgpaaDoorRqJ
import Derived.PinnedBridge
namespace Go.Proofs.YtpcojfcbomkgpaaDoor
open Go.RowKit

theorem cases_of {W : World} (h : Lib.VarReads Tryd.prog W "unicode.CaseRanges" Rows.laid_unicode_CaseRanges) : Cases W :=
  caseVar_of_reads (ρ := Tryd.lays204_ren) { Tryd.lays204 with } Tryd.lays204.t206 ⟨by kernel_rfl, by kernel_rfl, by kernel_rfl, by kernel_rfl, by kernel_rfl, by kernel_rfl⟩ (Pinned.caseRanges_eq ▸ h)

end Go.Proofs.YtpcojfcbomkgpaaDoor
