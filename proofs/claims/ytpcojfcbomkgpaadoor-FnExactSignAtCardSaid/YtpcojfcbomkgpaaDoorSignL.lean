/- SignAt: the law's walk. -/
import Derived.Test.YtpcojfcbomkgpaaDoorSignS
import Derived.Test.YtpcojfcbomkgpaaDoorSignI
import Derived.Test.YtpcojfcbomkgpaaDoorWhoL
import Derived.Test.YtpcojfcbomkgpaaDoorRqL
namespace Go.Proofs.YtpcojfcbomkgpaaDoor
open Go.RowKit

theorem eqSign_one (x0 : Int) (x1 : ByteArray) (x2 : Int) (x3 : Int) (w : World) :
    Calls Tryd.prog 15 #[.agg #[.int .i64 x0, .string x1, .int .i64 x2, .int .i64 x3], .agg #[.int .i64 x0, .string x1, .int .i64 x2, .int .i64 x3]] w fun e w' => e = .returned (.bool true) ∧ Below w.heap.size w w' := by
  have e0 : (x0 != x0) = false := by simp [bne]
  have e1 : (x1.toList != x1.toList) = false := by simp [bne]
  have e2 : (x2 != x2) = false := by simp [bne]
  have e3 : (x3 != x3) = false := by simp [bne]
  go_enter Tryd.func15, Tryd.ntmps15
  go_wp2
  go_ret
  exact ⟨rfl, by repeat (first | exact Below.refl _ _ | (refine Below.alloc ?_ (by first | omega | (simp; done) | (simp; omega)) _) | (refine Below.setCell ?_ (by first | omega | (simp; done) | (simp; omega)) _) | (refine Below.drew ?_) | (refine below_drewN ?_ _))⟩

set_option maxRecDepth 100000 in
set_option maxHeartbeats 4000000 in
theorem lawSignAt (s : ByteArray) (hm : s.size ≤ maxLen) (p : Int) (_hp : (Lit.int .i64 p).wf = true) {w : World} (_h1 : Lib.VarReads Tryd.prog w "math/bits.deBruijn32tab" Rows.laid_math_bits_deBruijn32tab) (_h2 : Lib.VarReads Tryd.prog w "math/bits.deBruijn64tab" Rows.laid_math_bits_deBruijn64tab) (_h3 : Lib.VarReads Tryd.prog w "internal/strconv.uint64pow10" Rows.laid_internal_strconv_uint64pow10) (ha : Lib.VarReads Tryd.prog w "unicode/utf8.acceptRanges" Rows.laid_unicode_utf8_acceptRanges) (he0 : Lib.VarReads Tryd.prog w "strconv.ErrRange" Rows.laid_strconv_ErrRange) (_h6 : Lib.VarReads Tryd.prog w "strconv.ErrSyntax" Rows.laid_strconv_ErrSyntax) (hc : Lib.VarReads Tryd.prog w "unicode.CaseRanges" Rows.laid_unicode_CaseRanges) (hf : Lib.VarReads Tryd.prog w "unicode/utf8.first" Rows.laid_unicode_utf8_first) :
    Calls Tryd.prog 3 #[.string s, .int .i64 p] w fun e w' => e = .returned (.bool true) ∧ Below w.heap.size w w' := by
  have HT := Lib.hid (tabs_of ha hf); have HV := Lib.hid (cases_of hc); have HE := Lib.hid (errs_of he0)
  clear ha hc hf he0
  unfold maxLen at hm
  by_cases hs : s.size ≤ 1048576
  rotate_left
  · have hd : decide ((1048576 : Int) < (s.size : Int)) = true := decide_eq_true (by omega)
    go_enter Tryd.func3, Tryd.ntmps3
    go_wp2
    go_ret
    exact ⟨rfl, Below.refl _ _⟩
  have hd : decide ((1048576 : Int) < (s.size : Int)) = false := decide_eq_false (by omega)
  have HS := Lib.hid (fun w0 => sSignAt s p w0 hs)
  have HI := Lib.hid (fun w0 hT hV hE => iSignAt s p w0 hs hT hV hE)
  clear hm hs
  unfold SignP at HS HI
  generalize sgK (signQ s p) = x0 at HS HI
  generalize sgT (signQ s p) = x1 at HS HI
  generalize sgN (signQ s p) = x2 at HS HI
  generalize sgA p (signQ s p) = x3 at HS HI
  generalize sgE (signQ s p) = x4 at HS HI
  go_enter Tryd.func3, Tryd.ntmps3
  go_wp2_with fail
  refine (HS.out _).mono ?_
  rintro e w1 ⟨rfl, hb1⟩
  have HB1 := Lib.hid (hb1.alloc hb1.size (.cells #[.int .i64 x0, .string x1, .int .i64 x2, .int .i64 x3] 23)); clear hb1
  have HR1 := Lib.hid (World.rowIs_alloc w1 #[.int .i64 x0, .string x1, .int .i64 x2, .int .i64 x3] 23 (ZSl (.int .i64 x0) (.string x1) (.int .i64 x2) (.int .i64 x3)) (ZSl_get _ _ _ _))
  have e4 : (x4 != x4) = false := by simp
  go_wp2_with fail
  refine (HI.out _ (tabs_keep HT.out HB1.out) (cases_keep HV.out HB1.out) (errs_keep HE.out HB1.out)).mono ?_
  rintro e w2 ⟨rfl, hb2⟩
  have HR2 := Lib.hid (rowIs_keep HR1.out hb2)
  have HB2 := Lib.hid (bnext HB1.out hb2)
  have hlt := HR2.out.lt
  have c0 : w2.cell? ⟨w1.heap.size, 0, none⟩ = some (.int .i64 x0) := HR2.out.cell (by simp)
  have c1 : w2.cell? ⟨w1.heap.size, 1, none⟩ = some (.string x1) := HR2.out.cell (by simp)
  have c2 : w2.cell? ⟨w1.heap.size, 2, none⟩ = some (.int .i64 x2) := HR2.out.cell (by simp)
  have c3 : w2.cell? ⟨w1.heap.size, 3, none⟩ = some (.int .i64 x3) := HR2.out.cell (by simp)
  clear HR1 hb2
  go_wp2_with (go_at_call 15; refine (eqSign_one _ _ _ _ _).mono ?_; rintro e w3 ⟨rfl, hb3⟩)
  go_ret
  exact ⟨rfl, bnext (HB2.out.alloc HB2.out.size _) hb3⟩

end Go.Proofs.YtpcojfcbomkgpaaDoor
