/-
  NARROWER THAN 'FOR EVERY INPUT', by the rows' own cells (each row's printed sentence says how): FnExactSignAt: laid · FnExactSignsOf: laid · FnExactLinesIn: laid · FnExactIndentedLines: loops, laid · FnExactIndentedText: loops, laid · FnExactPutKid: loops, laid · FnTreeSizes: laid · FnTrees: laid · FnLines: laid · FnLabels: laid.
  DERIVED. THE GIVEN ROWS OF THIS SEAT. 10 by the template 'for every input the law returns true; each argument reads behind the call as it read before'; 0 by the template 'total and deterministic' (their statements: YtpcojfcbomkgpaaDoorTotals.lean).
  GIVEN WITH THE SEED: the statements are not yours to turn. If you find one false, say at which input.
  Laid BY PROGRAM, IN A SANDBOX (cutbox-rows.mjs): the forced cells as the released guide's own fill.sh prints them over the translation 57aeb75760e1e9da… (all of the seat's roots in one cut). By AI agents, Wed Nov 11 2026. No macro, syntax, notation, axiom, sorry.
-/
import Derived.Test.YtpcojfcbomkgpaaDoorChecked
import GoSem.PinnedTables
import GoSem.Claim
import GoSem.ClaimJoined
import GoSem.ClaimMapViews
import Derived.JoinedTies
import Derived.KernelRfl
namespace Go.Proofs.YtpcojfcbomkgpaaDoor
/- THE CELL 'sum', in the pinned program and in every row, IS THE sha256 OF THE DUMP (.gsa) THAT YtpcojfcbomkgpaaDoorProg.lean LOADS. Nothing in Lean hashes anything: it is a label: what it is worth is what the hold of that sum in a sandbox is worth. -/
noncomputable def Tryd.pinned : Pinned := { name := "ytpcojfcbomkgpaadoor", sum := "57aeb75760e1e9daa3270aa445e116fbfda403555ab3ca0b2529c152c4463b3e", checked := Tryd.checked }
namespace Rows
def none {H : Type} : Left H := { results := [], args := [] }

/- WHAT THE LISTED PACKAGE-LEVEL VARIABLES READ AS WHEN THE CALL BEGINS. Each datum BY PROGRAM (the guide's laid-datum.mjs) off the statement by which the dump's own 'gosem.cut.vars' lays the variable. In a bare row this is a premise. The card (YtpcojfcbomkgpaaDoorCards.lean) ties it to the program's text. -/
def laid_math_bits_deBruijn32tab {H : Type} : DataW H := .agg [.lit (.int .u8 0), .lit (.int .u8 1), .lit (.int .u8 28), .lit (.int .u8 2), .lit (.int .u8 29), .lit (.int .u8 14), .lit (.int .u8 24), .lit (.int .u8 3), .lit (.int .u8 30), .lit (.int .u8 22), .lit (.int .u8 20), .lit (.int .u8 15), .lit (.int .u8 25), .lit (.int .u8 17), .lit (.int .u8 4), .lit (.int .u8 8), .lit (.int .u8 31), .lit (.int .u8 27), .lit (.int .u8 13), .lit (.int .u8 23), .lit (.int .u8 21), .lit (.int .u8 19), .lit (.int .u8 16), .lit (.int .u8 7), .lit (.int .u8 26), .lit (.int .u8 12), .lit (.int .u8 18), .lit (.int .u8 6), .lit (.int .u8 11), .lit (.int .u8 5), .lit (.int .u8 10), .lit (.int .u8 9)]
def laid_math_bits_deBruijn64tab {H : Type} : DataW H := .agg [.lit (.int .u8 0), .lit (.int .u8 1), .lit (.int .u8 56), .lit (.int .u8 2), .lit (.int .u8 57), .lit (.int .u8 49), .lit (.int .u8 28), .lit (.int .u8 3), .lit (.int .u8 61), .lit (.int .u8 58), .lit (.int .u8 42), .lit (.int .u8 50), .lit (.int .u8 38), .lit (.int .u8 29), .lit (.int .u8 17), .lit (.int .u8 4), .lit (.int .u8 62), .lit (.int .u8 47), .lit (.int .u8 59), .lit (.int .u8 36), .lit (.int .u8 45), .lit (.int .u8 43), .lit (.int .u8 51), .lit (.int .u8 22), .lit (.int .u8 53), .lit (.int .u8 39), .lit (.int .u8 33), .lit (.int .u8 30), .lit (.int .u8 24), .lit (.int .u8 18), .lit (.int .u8 12), .lit (.int .u8 5), .lit (.int .u8 63), .lit (.int .u8 55), .lit (.int .u8 48), .lit (.int .u8 27), .lit (.int .u8 60), .lit (.int .u8 41), .lit (.int .u8 37), .lit (.int .u8 16), .lit (.int .u8 46), .lit (.int .u8 35), .lit (.int .u8 44), .lit (.int .u8 21), .lit (.int .u8 52), .lit (.int .u8 32), .lit (.int .u8 23), .lit (.int .u8 11), .lit (.int .u8 54), .lit (.int .u8 26), .lit (.int .u8 40), .lit (.int .u8 15), .lit (.int .u8 34), .lit (.int .u8 20), .lit (.int .u8 31), .lit (.int .u8 10), .lit (.int .u8 25), .lit (.int .u8 14), .lit (.int .u8 19), .lit (.int .u8 9), .lit (.int .u8 13), .lit (.int .u8 8), .lit (.int .u8 7), .lit (.int .u8 6)]
def laid_internal_strconv_uint64pow10 {H : Type} : DataW H := .agg [.lit (.int .u64 1), .lit (.int .u64 10), .lit (.int .u64 100), .lit (.int .u64 1000), .lit (.int .u64 10000), .lit (.int .u64 100000), .lit (.int .u64 1000000), .lit (.int .u64 10000000), .lit (.int .u64 100000000), .lit (.int .u64 1000000000), .lit (.int .u64 10000000000), .lit (.int .u64 100000000000), .lit (.int .u64 1000000000000), .lit (.int .u64 10000000000000), .lit (.int .u64 100000000000000), .lit (.int .u64 1000000000000000), .lit (.int .u64 10000000000000000), .lit (.int .u64 100000000000000000), .lit (.int .u64 1000000000000000000), .lit (.int .u64 10000000000000000000)]
def laid_unicode_utf8_acceptRanges {H : Type} : DataW H := .agg [.agg [.lit (.int .u8 128), .lit (.int .u8 191)], .agg [.lit (.int .u8 160), .lit (.int .u8 191)], .agg [.lit (.int .u8 128), .lit (.int .u8 159)], .agg [.lit (.int .u8 144), .lit (.int .u8 191)], .agg [.lit (.int .u8 128), .lit (.int .u8 143)], .agg [.lit (.int .u8 0), .lit (.int .u8 0)], .agg [.lit (.int .u8 0), .lit (.int .u8 0)], .agg [.lit (.int .u8 0), .lit (.int .u8 0)], .agg [.lit (.int .u8 0), .lit (.int .u8 0)], .agg [.lit (.int .u8 0), .lit (.int .u8 0)], .agg [.lit (.int .u8 0), .lit (.int .u8 0)], .agg [.lit (.int .u8 0), .lit (.int .u8 0)], .agg [.lit (.int .u8 0), .lit (.int .u8 0)], .agg [.lit (.int .u8 0), .lit (.int .u8 0)], .agg [.lit (.int .u8 0), .lit (.int .u8 0)], .agg [.lit (.int .u8 0), .lit (.int .u8 0)]]
def laid_strconv_ErrRange {H : Type} : DataW H := .iface "*errors.errorString" (.ptr (.agg [.lit (.string [118, 97, 108, 117, 101, 32, 111, 117, 116, 32, 111, 102, 32, 114, 97, 110, 103, 101])]))
def laid_strconv_ErrSyntax {H : Type} : DataW H := .iface "*errors.errorString" (.ptr (.agg [.lit (.string [105, 110, 118, 97, 108, 105, 100, 32, 115, 121, 110, 116, 97, 120])]))
/-- One of Go's own tables, pinned by name: the form's constant. -/
def laid_unicode_CaseRanges : DataW Unit := Go.Pinned.caseRanges
/-- One of Go's own tables, pinned by name: the form's constant. -/
def laid_unicode_utf8_first : DataW Unit := Go.Pinned.utf8First

/-- 'laws.FnExactSignAt': WHATEVER THE INPUT: true; the input reads as it did. -/
def fnExactSignAtSpec : ChangeSpec := { name := "fnExactSignAt", fn := fun _ => fun
  | [d1, d2] => { results := [.lit (.bool true)], args := [d1, d2] }
  | _ => none }
def fnExactSignAtRow : OpenClaim := { program := "ytpcojfcbomkgpaadoor", sum := "57aeb75760e1e9daa3270aa445e116fbfda403555ab3ca0b2529c152c4463b3e", func := "loop.example/g00968/laws.FnExactSignAt", spec := "fnExactSignAt", inPlace := ["internal/bytealg.IndexByteString", "internal/abi.NoEscape", "internal/bytealg.MakeNoZero"], unfollowed := true, recurses := true, named := ["unicode/utf8.first", "unicode/utf8.acceptRanges", "unicode.CaseRanges", "strconv.ErrSyntax", "strconv.ErrRange", "internal/strconv.uint64pow10", "math/bits.deBruijn32tab", "math/bits.deBruijn64tab"], apart := false, laid := [("math/bits.deBruijn32tab", laid_math_bits_deBruijn32tab), ("math/bits.deBruijn64tab", laid_math_bits_deBruijn64tab), ("internal/strconv.uint64pow10", laid_internal_strconv_uint64pow10), ("unicode/utf8.acceptRanges", laid_unicode_utf8_acceptRanges), ("strconv.ErrRange", laid_strconv_ErrRange), ("strconv.ErrSyntax", laid_strconv_ErrSyntax), ("unicode.CaseRanges", laid_unicode_CaseRanges), ("unicode/utf8.first", laid_unicode_utf8_first)] }
def FnExactSignAtSaid : Prop := fnExactSignAtRow.holds Tryd.pinned (OpenSpec.ofChange fnExactSignAtSpec)

/-- ITS FALSE NEIGHBOUR: 'it returns false'. Refute it at one input. -/
def fnExactSignAtWrong : ChangeSpec := { name := "fnExactSignAt", fn := fun _ => fun
  | [d1, d2] => { results := [.lit (.bool false)], args := [d1, d2] }
  | _ => none }
def FnExactSignAtWrongFalsely : Prop := fnExactSignAtRow.holds Tryd.pinned (OpenSpec.ofChange fnExactSignAtWrong)

/-- 'laws.FnExactSignsOf': WHATEVER THE INPUT: true; the input reads as it did. -/
def fnExactSignsOfSpec : ChangeSpec := { name := "fnExactSignsOf", fn := fun _ => fun
  | [d] => { results := [.lit (.bool true)], args := [d] }
  | _ => none }
def fnExactSignsOfRow : OpenClaim := { program := "ytpcojfcbomkgpaadoor", sum := "57aeb75760e1e9daa3270aa445e116fbfda403555ab3ca0b2529c152c4463b3e", func := "loop.example/g00968/laws.FnExactSignsOf", spec := "fnExactSignsOf", inPlace := ["internal/bytealg.IndexByteString", "internal/abi.NoEscape", "internal/bytealg.MakeNoZero"], unfollowed := true, recurses := true, named := ["unicode/utf8.first", "unicode/utf8.acceptRanges", "unicode.CaseRanges", "strconv.ErrSyntax", "strconv.ErrRange", "internal/strconv.uint64pow10", "math/bits.deBruijn32tab", "math/bits.deBruijn64tab"], apart := false, laid := [("math/bits.deBruijn32tab", laid_math_bits_deBruijn32tab), ("math/bits.deBruijn64tab", laid_math_bits_deBruijn64tab), ("internal/strconv.uint64pow10", laid_internal_strconv_uint64pow10), ("unicode/utf8.acceptRanges", laid_unicode_utf8_acceptRanges), ("strconv.ErrRange", laid_strconv_ErrRange), ("strconv.ErrSyntax", laid_strconv_ErrSyntax), ("unicode.CaseRanges", laid_unicode_CaseRanges), ("unicode/utf8.first", laid_unicode_utf8_first)] }
def FnExactSignsOfSaid : Prop := fnExactSignsOfRow.holds Tryd.pinned (OpenSpec.ofChange fnExactSignsOfSpec)

/-- ITS FALSE NEIGHBOUR: 'it returns false'. Refute it at one input. -/
def fnExactSignsOfWrong : ChangeSpec := { name := "fnExactSignsOf", fn := fun _ => fun
  | [d] => { results := [.lit (.bool false)], args := [d] }
  | _ => none }
def FnExactSignsOfWrongFalsely : Prop := fnExactSignsOfRow.holds Tryd.pinned (OpenSpec.ofChange fnExactSignsOfWrong)

/-- 'laws.FnExactLinesIn': WHATEVER THE INPUT: true; the input reads as it did. -/
def fnExactLinesInSpec : ChangeSpec := { name := "fnExactLinesIn", fn := fun _ => fun
  | [d] => { results := [.lit (.bool true)], args := [d] }
  | _ => none }
def fnExactLinesInRow : OpenClaim := { program := "ytpcojfcbomkgpaadoor", sum := "57aeb75760e1e9daa3270aa445e116fbfda403555ab3ca0b2529c152c4463b3e", func := "loop.example/g00968/laws.FnExactLinesIn", spec := "fnExactLinesIn", inPlace := ["internal/bytealg.CountString", "internal/bytealg.IndexByteString", "internal/bytealg.IndexString"], unfollowed := true, recurses := true, named := ["unicode/utf8.first", "unicode/utf8.acceptRanges", "internal/bytealg.MaxLen"], apart := false, laid := [("unicode/utf8.acceptRanges", laid_unicode_utf8_acceptRanges), ("unicode/utf8.first", laid_unicode_utf8_first)] }
def FnExactLinesInSaid : Prop := fnExactLinesInRow.holds Tryd.pinned (OpenSpec.ofChange fnExactLinesInSpec)

/-- ITS FALSE NEIGHBOUR: 'it returns false'. Refute it at one input. -/
def fnExactLinesInWrong : ChangeSpec := { name := "fnExactLinesIn", fn := fun _ => fun
  | [d] => { results := [.lit (.bool false)], args := [d] }
  | _ => none }
def FnExactLinesInWrongFalsely : Prop := fnExactLinesInRow.holds Tryd.pinned (OpenSpec.ofChange fnExactLinesInWrong)

/-- 'laws.FnExactIndentedLines': WHATEVER THE INPUT: true; the input reads as it did. -/
def fnExactIndentedLinesSpec : ChangeSpec := { name := "fnExactIndentedLines", fn := fun _ => fun
  | [d] => { results := [.lit (.bool true)], args := [d] }
  | _ => none }
def fnExactIndentedLinesRow : OpenClaim := { program := "ytpcojfcbomkgpaadoor", sum := "57aeb75760e1e9daa3270aa445e116fbfda403555ab3ca0b2529c152c4463b3e", func := "loop.example/g00968/laws.FnExactIndentedLines", spec := "fnExactIndentedLines", inPlace := ["internal/bytealg.IndexByteString"], recurses := true, named := ["unicode/utf8.first", "unicode/utf8.acceptRanges", "internal/strconv.uint64pow10", "math/bits.deBruijn32tab", "math/bits.deBruijn64tab"], loops := true, apart := false, laid := [("math/bits.deBruijn32tab", laid_math_bits_deBruijn32tab), ("math/bits.deBruijn64tab", laid_math_bits_deBruijn64tab), ("internal/strconv.uint64pow10", laid_internal_strconv_uint64pow10), ("unicode/utf8.acceptRanges", laid_unicode_utf8_acceptRanges), ("unicode/utf8.first", laid_unicode_utf8_first)] }
def FnExactIndentedLinesSaid : Prop := fnExactIndentedLinesRow.holds Tryd.pinned (OpenSpec.ofChange fnExactIndentedLinesSpec)

/-- ITS FALSE NEIGHBOUR: 'it returns false'. Refute it at one input. -/
def fnExactIndentedLinesWrong : ChangeSpec := { name := "fnExactIndentedLines", fn := fun _ => fun
  | [d] => { results := [.lit (.bool false)], args := [d] }
  | _ => none }
def FnExactIndentedLinesWrongFalsely : Prop := fnExactIndentedLinesRow.holds Tryd.pinned (OpenSpec.ofChange fnExactIndentedLinesWrong)

/-- 'laws.FnExactIndentedText': WHATEVER THE INPUT: true; the input reads as it did. -/
def fnExactIndentedTextSpec : ChangeSpec := { name := "fnExactIndentedText", fn := fun _ => fun
  | [d] => { results := [.lit (.bool true)], args := [d] }
  | _ => none }
def fnExactIndentedTextRow : OpenClaim := { program := "ytpcojfcbomkgpaadoor", sum := "57aeb75760e1e9daa3270aa445e116fbfda403555ab3ca0b2529c152c4463b3e", func := "loop.example/g00968/laws.FnExactIndentedText", spec := "fnExactIndentedText", inPlace := ["internal/bytealg.IndexByteString", "internal/abi.NoEscape", "internal/bytealg.MakeNoZero"], recurses := true, named := ["unicode/utf8.first", "unicode/utf8.acceptRanges", "internal/strconv.uint64pow10", "math/bits.deBruijn32tab", "math/bits.deBruijn64tab"], loops := true, apart := false, laid := [("math/bits.deBruijn32tab", laid_math_bits_deBruijn32tab), ("math/bits.deBruijn64tab", laid_math_bits_deBruijn64tab), ("internal/strconv.uint64pow10", laid_internal_strconv_uint64pow10), ("unicode/utf8.acceptRanges", laid_unicode_utf8_acceptRanges), ("unicode/utf8.first", laid_unicode_utf8_first)] }
def FnExactIndentedTextSaid : Prop := fnExactIndentedTextRow.holds Tryd.pinned (OpenSpec.ofChange fnExactIndentedTextSpec)

/-- ITS FALSE NEIGHBOUR: 'it returns false'. Refute it at one input. -/
def fnExactIndentedTextWrong : ChangeSpec := { name := "fnExactIndentedText", fn := fun _ => fun
  | [d] => { results := [.lit (.bool false)], args := [d] }
  | _ => none }
def FnExactIndentedTextWrongFalsely : Prop := fnExactIndentedTextRow.holds Tryd.pinned (OpenSpec.ofChange fnExactIndentedTextWrong)

/-- 'laws.FnExactPutKid': WHATEVER THE INPUT: true; the input reads as it did. -/
def fnExactPutKidSpec : ChangeSpec := { name := "fnExactPutKid", fn := fun _ => fun
  | [d1, d2, d3] => { results := [.lit (.bool true)], args := [d1, d2, d3] }
  | _ => none }
def fnExactPutKidRow : OpenClaim := { program := "ytpcojfcbomkgpaadoor", sum := "57aeb75760e1e9daa3270aa445e116fbfda403555ab3ca0b2529c152c4463b3e", func := "loop.example/g00968/laws.FnExactPutKid", spec := "fnExactPutKid", inPlace := ["slices.overlaps[string]", "slices.overlaps[loop.example/g00968/impl.Tree]"], recurses := true, named := ["unicode/utf8.first", "unicode/utf8.acceptRanges"], loops := true, apart := false, laid := [("unicode/utf8.acceptRanges", laid_unicode_utf8_acceptRanges), ("unicode/utf8.first", laid_unicode_utf8_first)] }
def FnExactPutKidSaid : Prop := fnExactPutKidRow.holds Tryd.pinned (OpenSpec.ofChange fnExactPutKidSpec)

/-- ITS FALSE NEIGHBOUR: 'it returns false'. Refute it at one input. -/
def fnExactPutKidWrong : ChangeSpec := { name := "fnExactPutKid", fn := fun _ => fun
  | [d1, d2, d3] => { results := [.lit (.bool false)], args := [d1, d2, d3] }
  | _ => none }
def FnExactPutKidWrongFalsely : Prop := fnExactPutKidRow.holds Tryd.pinned (OpenSpec.ofChange fnExactPutKidWrong)

/-- 'laws.FnTreeSizes': WHATEVER THE INPUT: true; the input reads as it did. -/
def fnTreeSizesSpec : ChangeSpec := { name := "fnTreeSizes", fn := fun _ => fun
  | [d] => { results := [.lit (.bool true)], args := [d] }
  | _ => none }
def fnTreeSizesRow : OpenClaim := { program := "ytpcojfcbomkgpaadoor", sum := "57aeb75760e1e9daa3270aa445e116fbfda403555ab3ca0b2529c152c4463b3e", func := "loop.example/g00968/laws.FnTreeSizes", spec := "fnTreeSizes", unfollowed := true, recurses := true, named := ["unicode/utf8.first", "unicode/utf8.acceptRanges"], apart := false, laid := [("unicode/utf8.acceptRanges", laid_unicode_utf8_acceptRanges), ("unicode/utf8.first", laid_unicode_utf8_first)] }
def FnTreeSizesSaid : Prop := fnTreeSizesRow.holds Tryd.pinned (OpenSpec.ofChange fnTreeSizesSpec)

/-- ITS FALSE NEIGHBOUR: 'it returns false'. Refute it at one input. -/
def fnTreeSizesWrong : ChangeSpec := { name := "fnTreeSizes", fn := fun _ => fun
  | [d] => { results := [.lit (.bool false)], args := [d] }
  | _ => none }
def FnTreeSizesWrongFalsely : Prop := fnTreeSizesRow.holds Tryd.pinned (OpenSpec.ofChange fnTreeSizesWrong)

/-- 'laws.FnTrees': WHATEVER THE INPUT: true; the input reads as it did. -/
def fnTreesSpec : ChangeSpec := { name := "fnTrees", fn := fun _ => fun
  | [d] => { results := [.lit (.bool true)], args := [d] }
  | _ => none }
def fnTreesRow : OpenClaim := { program := "ytpcojfcbomkgpaadoor", sum := "57aeb75760e1e9daa3270aa445e116fbfda403555ab3ca0b2529c152c4463b3e", func := "loop.example/g00968/laws.FnTrees", spec := "fnTrees", inPlace := ["slices.overlaps[string]", "slices.overlaps[loop.example/g00968/impl.Tree]"], recurses := true, named := ["unicode/utf8.first", "unicode/utf8.acceptRanges"], apart := false, laid := [("unicode/utf8.acceptRanges", laid_unicode_utf8_acceptRanges), ("unicode/utf8.first", laid_unicode_utf8_first)] }
def FnTreesSaid : Prop := fnTreesRow.holds Tryd.pinned (OpenSpec.ofChange fnTreesSpec)

/-- ITS FALSE NEIGHBOUR: 'it returns false'. Refute it at one input. -/
def fnTreesWrong : ChangeSpec := { name := "fnTrees", fn := fun _ => fun
  | [d] => { results := [.lit (.bool false)], args := [d] }
  | _ => none }
def FnTreesWrongFalsely : Prop := fnTreesRow.holds Tryd.pinned (OpenSpec.ofChange fnTreesWrong)

/-- 'laws.FnLines': WHATEVER THE INPUT: true; the input reads as it did. -/
def fnLinesSpec : ChangeSpec := { name := "fnLines", fn := fun _ => fun
  | [d] => { results := [.lit (.bool true)], args := [d] }
  | _ => none }
def fnLinesRow : OpenClaim := { program := "ytpcojfcbomkgpaadoor", sum := "57aeb75760e1e9daa3270aa445e116fbfda403555ab3ca0b2529c152c4463b3e", func := "loop.example/g00968/laws.FnLines", spec := "fnLines", inPlace := ["internal/bytealg.CountString", "internal/bytealg.IndexByteString", "internal/bytealg.IndexString"], unfollowed := true, recurses := true, named := ["unicode/utf8.first", "unicode/utf8.acceptRanges", "internal/bytealg.MaxLen"], apart := false, laid := [("unicode/utf8.acceptRanges", laid_unicode_utf8_acceptRanges), ("unicode/utf8.first", laid_unicode_utf8_first)] }
def FnLinesSaid : Prop := fnLinesRow.holds Tryd.pinned (OpenSpec.ofChange fnLinesSpec)

/-- ITS FALSE NEIGHBOUR: 'it returns false'. Refute it at one input. -/
def fnLinesWrong : ChangeSpec := { name := "fnLines", fn := fun _ => fun
  | [d] => { results := [.lit (.bool false)], args := [d] }
  | _ => none }
def FnLinesWrongFalsely : Prop := fnLinesRow.holds Tryd.pinned (OpenSpec.ofChange fnLinesWrong)

/-- 'laws.FnLabels': WHATEVER THE INPUT: true; the input reads as it did. -/
def fnLabelsSpec : ChangeSpec := { name := "fnLabels", fn := fun _ => fun
  | [d] => { results := [.lit (.bool true)], args := [d] }
  | _ => none }
def fnLabelsRow : OpenClaim := { program := "ytpcojfcbomkgpaadoor", sum := "57aeb75760e1e9daa3270aa445e116fbfda403555ab3ca0b2529c152c4463b3e", func := "loop.example/g00968/laws.FnLabels", spec := "fnLabels", inPlace := ["internal/bytealg.abigen_runtime_cmpstring", "internal/bytealg.IndexByteString", "internal/abi.NoEscape", "internal/bytealg.MakeNoZero", "internal/bytealg.CountString", "internal/bytealg.IndexString"], unfollowed := true, recurses := true, named := ["unicode/utf8.first", "unicode/utf8.acceptRanges", "internal/bytealg.MaxLen"], apart := false, laid := [("unicode/utf8.acceptRanges", laid_unicode_utf8_acceptRanges), ("unicode/utf8.first", laid_unicode_utf8_first)] }
def FnLabelsSaid : Prop := fnLabelsRow.holds Tryd.pinned (OpenSpec.ofChange fnLabelsSpec)

/-- ITS FALSE NEIGHBOUR: 'it returns false'. Refute it at one input. -/
def fnLabelsWrong : ChangeSpec := { name := "fnLabels", fn := fun _ => fun
  | [d] => { results := [.lit (.bool false)], args := [d] }
  | _ => none }
def FnLabelsWrongFalsely : Prop := fnLabelsRow.holds Tryd.pinned (OpenSpec.ofChange fnLabelsWrong)

/- THE SECOND FORM. 'bulk': how many values and letters a reading holds, each counted each time it is reached (what is shared counts as often as it is met; a slice's spare places count too). A statement '..UptoSaid' is the law's where the arguments, and the package variables that the reading takes, are together of bulk at most 1048576: NARROWER than '..Said'. Prove '..Said' where nothing that the law and all that it calls make is longer than what came in: it says more and counts as full. Else prove '..UptoSaid'. A law counts once. -/
mutual
def uptoBulk {H : Type} : DataW H → Nat
  | .lit (.string bytes) => bytes.length + 1
  | .lit _ => 1
  | .nil => 1
  | .ptr d => uptoBulk d + 1
  | .slice elems spare => uptoBulkAll elems + uptoBulkAll spare + 1
  | .agg parts => uptoBulkAll parts + 1
  | .iface _ d => uptoBulk d + 1
  | .map entries => uptoBulkEntries entries + 1
  | .held _ => 1
def uptoBulkAll {H : Type} : List (DataW H) → Nat
  | [] => 0
  | d :: r => uptoBulk d + uptoBulkAll r
def uptoBulkEntries {H : Type} : List (Lit × DataW H) → Nat
  | [] => 0
  | x :: r => uptoBulkEntry x + uptoBulkEntries r
def uptoBulkEntry {H : Type} : Lit × DataW H → Nat
  | (.string bytes, d) => bytes.length + uptoBulk d + 1
  | (_, d) => uptoBulk d + 1
 end
def uptoSmall : (H : Type) → List (DataW H) → Bool := fun _ ds => decide (uptoBulkAll ds ≤ 1048576)
def OpenSpec.upto (s : _root_.Go.ChangeSpec) : _root_.Go.OpenSpec := { _root_.Go.OpenSpec.ofChange s with cond := some uptoSmall }

/-- 'laws.FnExactSignAt', WHERE WHAT IT READS IS OF BULK AT MOST 1048576: true; the input reads as it did. -/
def fnExactSignAtUptoRow : OpenClaim := { program := "ytpcojfcbomkgpaadoor", sum := "57aeb75760e1e9daa3270aa445e116fbfda403555ab3ca0b2529c152c4463b3e", func := "loop.example/g00968/laws.FnExactSignAt", spec := "fnExactSignAt", inPlace := ["internal/bytealg.IndexByteString", "internal/abi.NoEscape", "internal/bytealg.MakeNoZero"], unfollowed := true, recurses := true, named := ["unicode/utf8.first", "unicode/utf8.acceptRanges", "unicode.CaseRanges", "strconv.ErrSyntax", "strconv.ErrRange", "internal/strconv.uint64pow10", "math/bits.deBruijn32tab", "math/bits.deBruijn64tab"], apart := false, laid := [("math/bits.deBruijn32tab", laid_math_bits_deBruijn32tab), ("math/bits.deBruijn64tab", laid_math_bits_deBruijn64tab), ("internal/strconv.uint64pow10", laid_internal_strconv_uint64pow10), ("unicode/utf8.acceptRanges", laid_unicode_utf8_acceptRanges), ("strconv.ErrRange", laid_strconv_ErrRange), ("strconv.ErrSyntax", laid_strconv_ErrSyntax), ("unicode.CaseRanges", laid_unicode_CaseRanges), ("unicode/utf8.first", laid_unicode_utf8_first)], narrowed := true }
def FnExactSignAtUptoSaid : Prop := fnExactSignAtUptoRow.holds Tryd.pinned (OpenSpec.upto fnExactSignAtSpec)

/-- 'laws.FnExactSignsOf', WHERE WHAT IT READS IS OF BULK AT MOST 1048576: true; the input reads as it did. -/
def fnExactSignsOfUptoRow : OpenClaim := { program := "ytpcojfcbomkgpaadoor", sum := "57aeb75760e1e9daa3270aa445e116fbfda403555ab3ca0b2529c152c4463b3e", func := "loop.example/g00968/laws.FnExactSignsOf", spec := "fnExactSignsOf", inPlace := ["internal/bytealg.IndexByteString", "internal/abi.NoEscape", "internal/bytealg.MakeNoZero"], unfollowed := true, recurses := true, named := ["unicode/utf8.first", "unicode/utf8.acceptRanges", "unicode.CaseRanges", "strconv.ErrSyntax", "strconv.ErrRange", "internal/strconv.uint64pow10", "math/bits.deBruijn32tab", "math/bits.deBruijn64tab"], apart := false, laid := [("math/bits.deBruijn32tab", laid_math_bits_deBruijn32tab), ("math/bits.deBruijn64tab", laid_math_bits_deBruijn64tab), ("internal/strconv.uint64pow10", laid_internal_strconv_uint64pow10), ("unicode/utf8.acceptRanges", laid_unicode_utf8_acceptRanges), ("strconv.ErrRange", laid_strconv_ErrRange), ("strconv.ErrSyntax", laid_strconv_ErrSyntax), ("unicode.CaseRanges", laid_unicode_CaseRanges), ("unicode/utf8.first", laid_unicode_utf8_first)], narrowed := true }
def FnExactSignsOfUptoSaid : Prop := fnExactSignsOfUptoRow.holds Tryd.pinned (OpenSpec.upto fnExactSignsOfSpec)

/-- 'laws.FnExactLinesIn', WHERE WHAT IT READS IS OF BULK AT MOST 1048576: true; the input reads as it did. -/
def fnExactLinesInUptoRow : OpenClaim := { program := "ytpcojfcbomkgpaadoor", sum := "57aeb75760e1e9daa3270aa445e116fbfda403555ab3ca0b2529c152c4463b3e", func := "loop.example/g00968/laws.FnExactLinesIn", spec := "fnExactLinesIn", inPlace := ["internal/bytealg.CountString", "internal/bytealg.IndexByteString", "internal/bytealg.IndexString"], unfollowed := true, recurses := true, named := ["unicode/utf8.first", "unicode/utf8.acceptRanges", "internal/bytealg.MaxLen"], apart := false, laid := [("unicode/utf8.acceptRanges", laid_unicode_utf8_acceptRanges), ("unicode/utf8.first", laid_unicode_utf8_first)], narrowed := true }
def FnExactLinesInUptoSaid : Prop := fnExactLinesInUptoRow.holds Tryd.pinned (OpenSpec.upto fnExactLinesInSpec)

/-- 'laws.FnExactIndentedLines', WHERE WHAT IT READS IS OF BULK AT MOST 1048576: true; the input reads as it did. -/
def fnExactIndentedLinesUptoRow : OpenClaim := { program := "ytpcojfcbomkgpaadoor", sum := "57aeb75760e1e9daa3270aa445e116fbfda403555ab3ca0b2529c152c4463b3e", func := "loop.example/g00968/laws.FnExactIndentedLines", spec := "fnExactIndentedLines", inPlace := ["internal/bytealg.IndexByteString"], recurses := true, named := ["unicode/utf8.first", "unicode/utf8.acceptRanges", "internal/strconv.uint64pow10", "math/bits.deBruijn32tab", "math/bits.deBruijn64tab"], loops := true, apart := false, laid := [("math/bits.deBruijn32tab", laid_math_bits_deBruijn32tab), ("math/bits.deBruijn64tab", laid_math_bits_deBruijn64tab), ("internal/strconv.uint64pow10", laid_internal_strconv_uint64pow10), ("unicode/utf8.acceptRanges", laid_unicode_utf8_acceptRanges), ("unicode/utf8.first", laid_unicode_utf8_first)], narrowed := true }
def FnExactIndentedLinesUptoSaid : Prop := fnExactIndentedLinesUptoRow.holds Tryd.pinned (OpenSpec.upto fnExactIndentedLinesSpec)

/-- 'laws.FnExactIndentedText', WHERE WHAT IT READS IS OF BULK AT MOST 1048576: true; the input reads as it did. -/
def fnExactIndentedTextUptoRow : OpenClaim := { program := "ytpcojfcbomkgpaadoor", sum := "57aeb75760e1e9daa3270aa445e116fbfda403555ab3ca0b2529c152c4463b3e", func := "loop.example/g00968/laws.FnExactIndentedText", spec := "fnExactIndentedText", inPlace := ["internal/bytealg.IndexByteString", "internal/abi.NoEscape", "internal/bytealg.MakeNoZero"], recurses := true, named := ["unicode/utf8.first", "unicode/utf8.acceptRanges", "internal/strconv.uint64pow10", "math/bits.deBruijn32tab", "math/bits.deBruijn64tab"], loops := true, apart := false, laid := [("math/bits.deBruijn32tab", laid_math_bits_deBruijn32tab), ("math/bits.deBruijn64tab", laid_math_bits_deBruijn64tab), ("internal/strconv.uint64pow10", laid_internal_strconv_uint64pow10), ("unicode/utf8.acceptRanges", laid_unicode_utf8_acceptRanges), ("unicode/utf8.first", laid_unicode_utf8_first)], narrowed := true }
def FnExactIndentedTextUptoSaid : Prop := fnExactIndentedTextUptoRow.holds Tryd.pinned (OpenSpec.upto fnExactIndentedTextSpec)

/-- 'laws.FnExactPutKid', WHERE WHAT IT READS IS OF BULK AT MOST 1048576: true; the input reads as it did. -/
def fnExactPutKidUptoRow : OpenClaim := { program := "ytpcojfcbomkgpaadoor", sum := "57aeb75760e1e9daa3270aa445e116fbfda403555ab3ca0b2529c152c4463b3e", func := "loop.example/g00968/laws.FnExactPutKid", spec := "fnExactPutKid", inPlace := ["slices.overlaps[string]", "slices.overlaps[loop.example/g00968/impl.Tree]"], recurses := true, named := ["unicode/utf8.first", "unicode/utf8.acceptRanges"], loops := true, apart := false, laid := [("unicode/utf8.acceptRanges", laid_unicode_utf8_acceptRanges), ("unicode/utf8.first", laid_unicode_utf8_first)], narrowed := true }
def FnExactPutKidUptoSaid : Prop := fnExactPutKidUptoRow.holds Tryd.pinned (OpenSpec.upto fnExactPutKidSpec)

/-- 'laws.FnTreeSizes', WHERE WHAT IT READS IS OF BULK AT MOST 1048576: true; the input reads as it did. -/
def fnTreeSizesUptoRow : OpenClaim := { program := "ytpcojfcbomkgpaadoor", sum := "57aeb75760e1e9daa3270aa445e116fbfda403555ab3ca0b2529c152c4463b3e", func := "loop.example/g00968/laws.FnTreeSizes", spec := "fnTreeSizes", unfollowed := true, recurses := true, named := ["unicode/utf8.first", "unicode/utf8.acceptRanges"], apart := false, laid := [("unicode/utf8.acceptRanges", laid_unicode_utf8_acceptRanges), ("unicode/utf8.first", laid_unicode_utf8_first)], narrowed := true }
def FnTreeSizesUptoSaid : Prop := fnTreeSizesUptoRow.holds Tryd.pinned (OpenSpec.upto fnTreeSizesSpec)

/-- 'laws.FnTrees', WHERE WHAT IT READS IS OF BULK AT MOST 1048576: true; the input reads as it did. -/
def fnTreesUptoRow : OpenClaim := { program := "ytpcojfcbomkgpaadoor", sum := "57aeb75760e1e9daa3270aa445e116fbfda403555ab3ca0b2529c152c4463b3e", func := "loop.example/g00968/laws.FnTrees", spec := "fnTrees", inPlace := ["slices.overlaps[string]", "slices.overlaps[loop.example/g00968/impl.Tree]"], recurses := true, named := ["unicode/utf8.first", "unicode/utf8.acceptRanges"], apart := false, laid := [("unicode/utf8.acceptRanges", laid_unicode_utf8_acceptRanges), ("unicode/utf8.first", laid_unicode_utf8_first)], narrowed := true }
def FnTreesUptoSaid : Prop := fnTreesUptoRow.holds Tryd.pinned (OpenSpec.upto fnTreesSpec)

/-- 'laws.FnLines', WHERE WHAT IT READS IS OF BULK AT MOST 1048576: true; the input reads as it did. -/
def fnLinesUptoRow : OpenClaim := { program := "ytpcojfcbomkgpaadoor", sum := "57aeb75760e1e9daa3270aa445e116fbfda403555ab3ca0b2529c152c4463b3e", func := "loop.example/g00968/laws.FnLines", spec := "fnLines", inPlace := ["internal/bytealg.CountString", "internal/bytealg.IndexByteString", "internal/bytealg.IndexString"], unfollowed := true, recurses := true, named := ["unicode/utf8.first", "unicode/utf8.acceptRanges", "internal/bytealg.MaxLen"], apart := false, laid := [("unicode/utf8.acceptRanges", laid_unicode_utf8_acceptRanges), ("unicode/utf8.first", laid_unicode_utf8_first)], narrowed := true }
def FnLinesUptoSaid : Prop := fnLinesUptoRow.holds Tryd.pinned (OpenSpec.upto fnLinesSpec)

/-- 'laws.FnLabels', WHERE WHAT IT READS IS OF BULK AT MOST 1048576: true; the input reads as it did. -/
def fnLabelsUptoRow : OpenClaim := { program := "ytpcojfcbomkgpaadoor", sum := "57aeb75760e1e9daa3270aa445e116fbfda403555ab3ca0b2529c152c4463b3e", func := "loop.example/g00968/laws.FnLabels", spec := "fnLabels", inPlace := ["internal/bytealg.abigen_runtime_cmpstring", "internal/bytealg.IndexByteString", "internal/abi.NoEscape", "internal/bytealg.MakeNoZero", "internal/bytealg.CountString", "internal/bytealg.IndexString"], unfollowed := true, recurses := true, named := ["unicode/utf8.first", "unicode/utf8.acceptRanges", "internal/bytealg.MaxLen"], apart := false, laid := [("unicode/utf8.acceptRanges", laid_unicode_utf8_acceptRanges), ("unicode/utf8.first", laid_unicode_utf8_first)], narrowed := true }
def FnLabelsUptoSaid : Prop := fnLabelsUptoRow.holds Tryd.pinned (OpenSpec.upto fnLabelsSpec)

end Rows
end Go.Proofs.YtpcojfcbomkgpaaDoor
