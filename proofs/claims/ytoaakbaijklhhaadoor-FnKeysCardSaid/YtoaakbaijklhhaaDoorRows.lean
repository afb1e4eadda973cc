/-
  NARROWER THAN 'FOR EVERY INPUT', by the rows' own cells (each row's printed sentence says how): FnExactRunesOf: laid · FnExactPlainOk: laid · FnExactQuoted: laid · FnExactKeyText: laid · FnNoRunes: laid · FnRunes: laid · FnExactReadQuoted: laid · FnWholes: laid · FnExactReadWhole: laid · FnQuoted: laid · FnExactKeyOf: laid · FnKeys: laid.
  DERIVED. THE GIVEN ROWS OF THIS SEAT. 12 by the template 'for every input the law returns true; each argument reads behind the call as it read before'; 0 by the template 'total and deterministic' (their statements: YtoaakbaijklhhaaDoorTotals.lean).
  GIVEN WITH THE SEED: the statements are not yours to turn. If you find one false, say at which input.
  Laid BY PROGRAM, IN A SANDBOX (cutbox-rows.mjs): the forced cells as the released guide's own fill.sh prints them over the translation 5292fd72f6bc9458… (all of the seat's roots in one cut). By AI agents, Wed Nov 11 2026. No macro, syntax, notation, axiom, sorry.
-/
import Derived.Test.YtoaakbaijklhhaaDoorChecked
import GoSem.PinnedTables
import GoSem.Claim
import GoSem.ClaimJoined
import GoSem.ClaimMapViews
import Derived.JoinedTies
import Derived.KernelRfl
namespace Go.Proofs.YtoaakbaijklhhaaDoor
/- THE CELL 'sum', in the pinned program and in every row, IS THE sha256 OF THE DUMP (.gsa) THAT YtoaakbaijklhhaaDoorProg.lean LOADS. Nothing in Lean hashes anything: it is a label: what it is worth is what the hold of that sum in a sandbox is worth. -/
noncomputable def Tryd.pinned : Pinned := { name := "ytoaakbaijklhhaadoor", sum := "5292fd72f6bc945886ea6655156673b9cfd2841464243c5f64edea9fbc8e5c3d", checked := Tryd.checked }
namespace Rows
def none {H : Type} : Left H := { results := [], args := [] }

/- WHAT THE LISTED PACKAGE-LEVEL VARIABLES READ AS WHEN THE CALL BEGINS. Each datum BY PROGRAM (the guide's laid-datum.mjs) off the statement by which the dump's own 'gosem.cut.vars' lays the variable. In a bare row this is a premise. The card (YtoaakbaijklhhaaDoorCards.lean) ties it to the program's text. -/
def laid_unicode_utf8_acceptRanges {H : Type} : DataW H := .agg [.agg [.lit (.int .u8 128), .lit (.int .u8 191)], .agg [.lit (.int .u8 160), .lit (.int .u8 191)], .agg [.lit (.int .u8 128), .lit (.int .u8 159)], .agg [.lit (.int .u8 144), .lit (.int .u8 191)], .agg [.lit (.int .u8 128), .lit (.int .u8 143)], .agg [.lit (.int .u8 0), .lit (.int .u8 0)], .agg [.lit (.int .u8 0), .lit (.int .u8 0)], .agg [.lit (.int .u8 0), .lit (.int .u8 0)], .agg [.lit (.int .u8 0), .lit (.int .u8 0)], .agg [.lit (.int .u8 0), .lit (.int .u8 0)], .agg [.lit (.int .u8 0), .lit (.int .u8 0)], .agg [.lit (.int .u8 0), .lit (.int .u8 0)], .agg [.lit (.int .u8 0), .lit (.int .u8 0)], .agg [.lit (.int .u8 0), .lit (.int .u8 0)], .agg [.lit (.int .u8 0), .lit (.int .u8 0)], .agg [.lit (.int .u8 0), .lit (.int .u8 0)]]
/-- One of Go's own tables, pinned by name: the form's constant. -/
def laid_unicode_utf8_first : DataW Unit := Go.Pinned.utf8First
/-- One of Go's own tables, pinned by name: the form's constant. -/
def laid_unicode_CaseRanges : DataW Unit := Go.Pinned.caseRanges
def laid_math_bits_deBruijn32tab {H : Type} : DataW H := .agg [.lit (.int .u8 0), .lit (.int .u8 1), .lit (.int .u8 28), .lit (.int .u8 2), .lit (.int .u8 29), .lit (.int .u8 14), .lit (.int .u8 24), .lit (.int .u8 3), .lit (.int .u8 30), .lit (.int .u8 22), .lit (.int .u8 20), .lit (.int .u8 15), .lit (.int .u8 25), .lit (.int .u8 17), .lit (.int .u8 4), .lit (.int .u8 8), .lit (.int .u8 31), .lit (.int .u8 27), .lit (.int .u8 13), .lit (.int .u8 23), .lit (.int .u8 21), .lit (.int .u8 19), .lit (.int .u8 16), .lit (.int .u8 7), .lit (.int .u8 26), .lit (.int .u8 12), .lit (.int .u8 18), .lit (.int .u8 6), .lit (.int .u8 11), .lit (.int .u8 5), .lit (.int .u8 10), .lit (.int .u8 9)]
def laid_math_bits_deBruijn64tab {H : Type} : DataW H := .agg [.lit (.int .u8 0), .lit (.int .u8 1), .lit (.int .u8 56), .lit (.int .u8 2), .lit (.int .u8 57), .lit (.int .u8 49), .lit (.int .u8 28), .lit (.int .u8 3), .lit (.int .u8 61), .lit (.int .u8 58), .lit (.int .u8 42), .lit (.int .u8 50), .lit (.int .u8 38), .lit (.int .u8 29), .lit (.int .u8 17), .lit (.int .u8 4), .lit (.int .u8 62), .lit (.int .u8 47), .lit (.int .u8 59), .lit (.int .u8 36), .lit (.int .u8 45), .lit (.int .u8 43), .lit (.int .u8 51), .lit (.int .u8 22), .lit (.int .u8 53), .lit (.int .u8 39), .lit (.int .u8 33), .lit (.int .u8 30), .lit (.int .u8 24), .lit (.int .u8 18), .lit (.int .u8 12), .lit (.int .u8 5), .lit (.int .u8 63), .lit (.int .u8 55), .lit (.int .u8 48), .lit (.int .u8 27), .lit (.int .u8 60), .lit (.int .u8 41), .lit (.int .u8 37), .lit (.int .u8 16), .lit (.int .u8 46), .lit (.int .u8 35), .lit (.int .u8 44), .lit (.int .u8 21), .lit (.int .u8 52), .lit (.int .u8 32), .lit (.int .u8 23), .lit (.int .u8 11), .lit (.int .u8 54), .lit (.int .u8 26), .lit (.int .u8 40), .lit (.int .u8 15), .lit (.int .u8 34), .lit (.int .u8 20), .lit (.int .u8 31), .lit (.int .u8 10), .lit (.int .u8 25), .lit (.int .u8 14), .lit (.int .u8 19), .lit (.int .u8 9), .lit (.int .u8 13), .lit (.int .u8 8), .lit (.int .u8 7), .lit (.int .u8 6)]
def laid_internal_strconv_uint64pow10 {H : Type} : DataW H := .agg [.lit (.int .u64 1), .lit (.int .u64 10), .lit (.int .u64 100), .lit (.int .u64 1000), .lit (.int .u64 10000), .lit (.int .u64 100000), .lit (.int .u64 1000000), .lit (.int .u64 10000000), .lit (.int .u64 100000000), .lit (.int .u64 1000000000), .lit (.int .u64 10000000000), .lit (.int .u64 100000000000), .lit (.int .u64 1000000000000), .lit (.int .u64 10000000000000), .lit (.int .u64 100000000000000), .lit (.int .u64 1000000000000000), .lit (.int .u64 10000000000000000), .lit (.int .u64 100000000000000000), .lit (.int .u64 1000000000000000000), .lit (.int .u64 10000000000000000000)]
def laid_strconv_ErrRange {H : Type} : DataW H := .iface "*errors.errorString" (.ptr (.agg [.lit (.string [118, 97, 108, 117, 101, 32, 111, 117, 116, 32, 111, 102, 32, 114, 97, 110, 103, 101])]))
def laid_strconv_ErrSyntax {H : Type} : DataW H := .iface "*errors.errorString" (.ptr (.agg [.lit (.string [105, 110, 118, 97, 108, 105, 100, 32, 115, 121, 110, 116, 97, 120])]))

/-- 'laws.FnExactRunesOf': WHATEVER THE INPUT: true; the input reads as it did. -/
def fnExactRunesOfSpec : ChangeSpec := { name := "fnExactRunesOf", fn := fun _ => fun
  | [d] => { results := [.lit (.bool true)], args := [d] }
  | _ => none }
def fnExactRunesOfRow : OpenClaim := { program := "ytoaakbaijklhhaadoor", sum := "5292fd72f6bc945886ea6655156673b9cfd2841464243c5f64edea9fbc8e5c3d", func := "loop.example/g00968/laws.FnExactRunesOf", spec := "fnExactRunesOf", named := ["unicode/utf8.first", "unicode/utf8.acceptRanges"], apart := false, laid := [("unicode/utf8.acceptRanges", laid_unicode_utf8_acceptRanges), ("unicode/utf8.first", laid_unicode_utf8_first)] }
def FnExactRunesOfSaid : Prop := fnExactRunesOfRow.holds Tryd.pinned (OpenSpec.ofChange fnExactRunesOfSpec)

/-- ITS FALSE NEIGHBOUR: 'it returns false'. Refute it at one input. -/
def fnExactRunesOfWrong : ChangeSpec := { name := "fnExactRunesOf", fn := fun _ => fun
  | [d] => { results := [.lit (.bool false)], args := [d] }
  | _ => none }
def FnExactRunesOfWrongFalsely : Prop := fnExactRunesOfRow.holds Tryd.pinned (OpenSpec.ofChange fnExactRunesOfWrong)

/-- 'laws.FnExactPlainOk': WHATEVER THE INPUT: true; the input reads as it did. -/
def fnExactPlainOkSpec : ChangeSpec := { name := "fnExactPlainOk", fn := fun _ => fun
  | [d] => { results := [.lit (.bool true)], args := [d] }
  | _ => none }
def fnExactPlainOkRow : OpenClaim := { program := "ytoaakbaijklhhaadoor", sum := "5292fd72f6bc945886ea6655156673b9cfd2841464243c5f64edea9fbc8e5c3d", func := "loop.example/g00968/laws.FnExactPlainOk", spec := "fnExactPlainOk", inPlace := ["internal/bytealg.IndexByteString"], named := ["unicode/utf8.first", "unicode/utf8.acceptRanges"], apart := false, laid := [("unicode/utf8.acceptRanges", laid_unicode_utf8_acceptRanges), ("unicode/utf8.first", laid_unicode_utf8_first)] }
def FnExactPlainOkSaid : Prop := fnExactPlainOkRow.holds Tryd.pinned (OpenSpec.ofChange fnExactPlainOkSpec)

/-- ITS FALSE NEIGHBOUR: 'it returns false'. Refute it at one input. -/
def fnExactPlainOkWrong : ChangeSpec := { name := "fnExactPlainOk", fn := fun _ => fun
  | [d] => { results := [.lit (.bool false)], args := [d] }
  | _ => none }
def FnExactPlainOkWrongFalsely : Prop := fnExactPlainOkRow.holds Tryd.pinned (OpenSpec.ofChange fnExactPlainOkWrong)

/-- 'laws.FnExactQuoted': WHATEVER THE INPUT: true; the input reads as it did. -/
def fnExactQuotedSpec : ChangeSpec := { name := "fnExactQuoted", fn := fun _ => fun
  | [d] => { results := [.lit (.bool true)], args := [d] }
  | _ => none }
def fnExactQuotedRow : OpenClaim := { program := "ytoaakbaijklhhaadoor", sum := "5292fd72f6bc945886ea6655156673b9cfd2841464243c5f64edea9fbc8e5c3d", func := "loop.example/g00968/laws.FnExactQuoted", spec := "fnExactQuoted", inPlace := ["internal/bytealg.IndexByteString"], named := ["unicode/utf8.first", "unicode/utf8.acceptRanges"], apart := false, laid := [("unicode/utf8.acceptRanges", laid_unicode_utf8_acceptRanges), ("unicode/utf8.first", laid_unicode_utf8_first)] }
def FnExactQuotedSaid : Prop := fnExactQuotedRow.holds Tryd.pinned (OpenSpec.ofChange fnExactQuotedSpec)

/-- ITS FALSE NEIGHBOUR: 'it returns false'. Refute it at one input. -/
def fnExactQuotedWrong : ChangeSpec := { name := "fnExactQuoted", fn := fun _ => fun
  | [d] => { results := [.lit (.bool false)], args := [d] }
  | _ => none }
def FnExactQuotedWrongFalsely : Prop := fnExactQuotedRow.holds Tryd.pinned (OpenSpec.ofChange fnExactQuotedWrong)

/-- 'laws.FnExactKeyText': WHATEVER THE INPUT: true; the input reads as it did. -/
def fnExactKeyTextSpec : ChangeSpec := { name := "fnExactKeyText", fn := fun _ => fun
  | [d] => { results := [.lit (.bool true)], args := [d] }
  | _ => none }
def fnExactKeyTextRow : OpenClaim := { program := "ytoaakbaijklhhaadoor", sum := "5292fd72f6bc945886ea6655156673b9cfd2841464243c5f64edea9fbc8e5c3d", func := "loop.example/g00968/laws.FnExactKeyText", spec := "fnExactKeyText", inPlace := ["internal/bytealg.IndexByteString"], named := ["unicode/utf8.first", "unicode/utf8.acceptRanges"], apart := false, laid := [("unicode/utf8.acceptRanges", laid_unicode_utf8_acceptRanges), ("unicode/utf8.first", laid_unicode_utf8_first)] }
def FnExactKeyTextSaid : Prop := fnExactKeyTextRow.holds Tryd.pinned (OpenSpec.ofChange fnExactKeyTextSpec)

/-- ITS FALSE NEIGHBOUR: 'it returns false'. Refute it at one input. -/
def fnExactKeyTextWrong : ChangeSpec := { name := "fnExactKeyText", fn := fun _ => fun
  | [d] => { results := [.lit (.bool false)], args := [d] }
  | _ => none }
def FnExactKeyTextWrongFalsely : Prop := fnExactKeyTextRow.holds Tryd.pinned (OpenSpec.ofChange fnExactKeyTextWrong)

/-- 'laws.FnNoRunes': WHATEVER THE INPUT: true; the input reads as it did. -/
def fnNoRunesSpec : ChangeSpec := { name := "fnNoRunes", fn := fun _ => fun
  | [d] => { results := [.lit (.bool true)], args := [d] }
  | _ => none }
def fnNoRunesRow : OpenClaim := { program := "ytoaakbaijklhhaadoor", sum := "5292fd72f6bc945886ea6655156673b9cfd2841464243c5f64edea9fbc8e5c3d", func := "loop.example/g00968/laws.FnNoRunes", spec := "fnNoRunes", named := ["unicode/utf8.first", "unicode/utf8.acceptRanges"], apart := false, laid := [("unicode/utf8.acceptRanges", laid_unicode_utf8_acceptRanges), ("unicode/utf8.first", laid_unicode_utf8_first)] }
def FnNoRunesSaid : Prop := fnNoRunesRow.holds Tryd.pinned (OpenSpec.ofChange fnNoRunesSpec)

/-- ITS FALSE NEIGHBOUR: 'it returns false'. Refute it at one input. -/
def fnNoRunesWrong : ChangeSpec := { name := "fnNoRunes", fn := fun _ => fun
  | [d] => { results := [.lit (.bool false)], args := [d] }
  | _ => none }
def FnNoRunesWrongFalsely : Prop := fnNoRunesRow.holds Tryd.pinned (OpenSpec.ofChange fnNoRunesWrong)

/-- 'laws.FnRunes': WHATEVER THE INPUT: true; the input reads as it did. -/
def fnRunesSpec : ChangeSpec := { name := "fnRunes", fn := fun _ => fun
  | [d] => { results := [.lit (.bool true)], args := [d] }
  | _ => none }
def fnRunesRow : OpenClaim := { program := "ytoaakbaijklhhaadoor", sum := "5292fd72f6bc945886ea6655156673b9cfd2841464243c5f64edea9fbc8e5c3d", func := "loop.example/g00968/laws.FnRunes", spec := "fnRunes", named := ["unicode/utf8.first", "unicode/utf8.acceptRanges"], apart := false, laid := [("unicode/utf8.acceptRanges", laid_unicode_utf8_acceptRanges), ("unicode/utf8.first", laid_unicode_utf8_first)] }
def FnRunesSaid : Prop := fnRunesRow.holds Tryd.pinned (OpenSpec.ofChange fnRunesSpec)

/-- ITS FALSE NEIGHBOUR: 'it returns false'. Refute it at one input. -/
def fnRunesWrong : ChangeSpec := { name := "fnRunes", fn := fun _ => fun
  | [d] => { results := [.lit (.bool false)], args := [d] }
  | _ => none }
def FnRunesWrongFalsely : Prop := fnRunesRow.holds Tryd.pinned (OpenSpec.ofChange fnRunesWrong)

/-- 'laws.FnExactReadQuoted': WHATEVER THE INPUT: true; the input reads as it did. -/
def fnExactReadQuotedSpec : ChangeSpec := { name := "fnExactReadQuoted", fn := fun _ => fun
  | [d1, d2] => { results := [.lit (.bool true)], args := [d1, d2] }
  | _ => none }
def fnExactReadQuotedRow : OpenClaim := { program := "ytoaakbaijklhhaadoor", sum := "5292fd72f6bc945886ea6655156673b9cfd2841464243c5f64edea9fbc8e5c3d", func := "loop.example/g00968/laws.FnExactReadQuoted", spec := "fnExactReadQuoted", inPlace := ["internal/bytealg.IndexByteString", "internal/abi.NoEscape", "internal/bytealg.MakeNoZero"], unfollowed := true, recurses := true, named := ["unicode/utf8.first", "unicode/utf8.acceptRanges", "unicode.CaseRanges"], apart := false, laid := [("unicode/utf8.acceptRanges", laid_unicode_utf8_acceptRanges), ("unicode.CaseRanges", laid_unicode_CaseRanges), ("unicode/utf8.first", laid_unicode_utf8_first)] }
def FnExactReadQuotedSaid : Prop := fnExactReadQuotedRow.holds Tryd.pinned (OpenSpec.ofChange fnExactReadQuotedSpec)

/-- ITS FALSE NEIGHBOUR: 'it returns false'. Refute it at one input. -/
def fnExactReadQuotedWrong : ChangeSpec := { name := "fnExactReadQuoted", fn := fun _ => fun
  | [d1, d2] => { results := [.lit (.bool false)], args := [d1, d2] }
  | _ => none }
def FnExactReadQuotedWrongFalsely : Prop := fnExactReadQuotedRow.holds Tryd.pinned (OpenSpec.ofChange fnExactReadQuotedWrong)

/-- 'laws.FnWholes': WHATEVER THE INPUT: true; the input reads as it did. -/
def fnWholesSpec : ChangeSpec := { name := "fnWholes", fn := fun _ => fun
  | [d] => { results := [.lit (.bool true)], args := [d] }
  | _ => none }
def fnWholesRow : OpenClaim := { program := "ytoaakbaijklhhaadoor", sum := "5292fd72f6bc945886ea6655156673b9cfd2841464243c5f64edea9fbc8e5c3d", func := "loop.example/g00968/laws.FnWholes", spec := "fnWholes", inPlace := ["internal/bytealg.IndexByteString"], named := ["internal/strconv.uint64pow10", "math/bits.deBruijn32tab", "math/bits.deBruijn64tab", "strconv.ErrSyntax", "strconv.ErrRange"], apart := false, laid := [("math/bits.deBruijn32tab", laid_math_bits_deBruijn32tab), ("math/bits.deBruijn64tab", laid_math_bits_deBruijn64tab), ("internal/strconv.uint64pow10", laid_internal_strconv_uint64pow10), ("strconv.ErrRange", laid_strconv_ErrRange), ("strconv.ErrSyntax", laid_strconv_ErrSyntax)] }
def FnWholesSaid : Prop := fnWholesRow.holds Tryd.pinned (OpenSpec.ofChange fnWholesSpec)

/-- ITS FALSE NEIGHBOUR: 'it returns false'. Refute it at one input. -/
def fnWholesWrong : ChangeSpec := { name := "fnWholes", fn := fun _ => fun
  | [d] => { results := [.lit (.bool false)], args := [d] }
  | _ => none }
def FnWholesWrongFalsely : Prop := fnWholesRow.holds Tryd.pinned (OpenSpec.ofChange fnWholesWrong)

/-- 'laws.FnExactReadWhole': WHATEVER THE INPUT: true; the input reads as it did. -/
def fnExactReadWholeSpec : ChangeSpec := { name := "fnExactReadWhole", fn := fun _ => fun
  | [d1, d2] => { results := [.lit (.bool true)], args := [d1, d2] }
  | _ => none }
def fnExactReadWholeRow : OpenClaim := { program := "ytoaakbaijklhhaadoor", sum := "5292fd72f6bc945886ea6655156673b9cfd2841464243c5f64edea9fbc8e5c3d", func := "loop.example/g00968/laws.FnExactReadWhole", spec := "fnExactReadWhole", inPlace := ["internal/bytealg.IndexByteString"], named := ["strconv.ErrSyntax", "strconv.ErrRange", "internal/strconv.uint64pow10", "math/bits.deBruijn32tab", "math/bits.deBruijn64tab"], apart := false, laid := [("math/bits.deBruijn32tab", laid_math_bits_deBruijn32tab), ("math/bits.deBruijn64tab", laid_math_bits_deBruijn64tab), ("internal/strconv.uint64pow10", laid_internal_strconv_uint64pow10), ("strconv.ErrRange", laid_strconv_ErrRange), ("strconv.ErrSyntax", laid_strconv_ErrSyntax)] }
def FnExactReadWholeSaid : Prop := fnExactReadWholeRow.holds Tryd.pinned (OpenSpec.ofChange fnExactReadWholeSpec)

/-- ITS FALSE NEIGHBOUR: 'it returns false'. Refute it at one input. -/
def fnExactReadWholeWrong : ChangeSpec := { name := "fnExactReadWhole", fn := fun _ => fun
  | [d1, d2] => { results := [.lit (.bool false)], args := [d1, d2] }
  | _ => none }
def FnExactReadWholeWrongFalsely : Prop := fnExactReadWholeRow.holds Tryd.pinned (OpenSpec.ofChange fnExactReadWholeWrong)

/-- 'laws.FnQuoted': WHATEVER THE INPUT: true; the input reads as it did. -/
def fnQuotedSpec : ChangeSpec := { name := "fnQuoted", fn := fun _ => fun
  | [d] => { results := [.lit (.bool true)], args := [d] }
  | _ => none }
def fnQuotedRow : OpenClaim := { program := "ytoaakbaijklhhaadoor", sum := "5292fd72f6bc945886ea6655156673b9cfd2841464243c5f64edea9fbc8e5c3d", func := "loop.example/g00968/laws.FnQuoted", spec := "fnQuoted", inPlace := ["internal/bytealg.IndexByteString", "internal/abi.NoEscape", "internal/bytealg.MakeNoZero"], unfollowed := true, recurses := true, named := ["unicode/utf8.first", "unicode/utf8.acceptRanges", "unicode.CaseRanges"], apart := false, laid := [("unicode/utf8.acceptRanges", laid_unicode_utf8_acceptRanges), ("unicode.CaseRanges", laid_unicode_CaseRanges), ("unicode/utf8.first", laid_unicode_utf8_first)] }
def FnQuotedSaid : Prop := fnQuotedRow.holds Tryd.pinned (OpenSpec.ofChange fnQuotedSpec)

/-- ITS FALSE NEIGHBOUR: 'it returns false'. Refute it at one input. -/
def fnQuotedWrong : ChangeSpec := { name := "fnQuoted", fn := fun _ => fun
  | [d] => { results := [.lit (.bool false)], args := [d] }
  | _ => none }
def FnQuotedWrongFalsely : Prop := fnQuotedRow.holds Tryd.pinned (OpenSpec.ofChange fnQuotedWrong)

/-- 'laws.FnExactKeyOf': WHATEVER THE INPUT: true; the input reads as it did. -/
def fnExactKeyOfSpec : ChangeSpec := { name := "fnExactKeyOf", fn := fun _ => fun
  | [d] => { results := [.lit (.bool true)], args := [d] }
  | _ => none }
def fnExactKeyOfRow : OpenClaim := { program := "ytoaakbaijklhhaadoor", sum := "5292fd72f6bc945886ea6655156673b9cfd2841464243c5f64edea9fbc8e5c3d", func := "loop.example/g00968/laws.FnExactKeyOf", spec := "fnExactKeyOf", inPlace := ["internal/bytealg.IndexByteString", "internal/abi.NoEscape", "internal/bytealg.MakeNoZero", "internal/bytealg.IndexString"], unfollowed := true, recurses := true, named := ["unicode/utf8.first", "unicode/utf8.acceptRanges", "unicode.CaseRanges", "internal/bytealg.MaxLen"], apart := false, laid := [("unicode/utf8.acceptRanges", laid_unicode_utf8_acceptRanges), ("unicode.CaseRanges", laid_unicode_CaseRanges), ("unicode/utf8.first", laid_unicode_utf8_first)] }
def FnExactKeyOfSaid : Prop := fnExactKeyOfRow.holds Tryd.pinned (OpenSpec.ofChange fnExactKeyOfSpec)

/-- ITS FALSE NEIGHBOUR: 'it returns false'. Refute it at one input. -/
def fnExactKeyOfWrong : ChangeSpec := { name := "fnExactKeyOf", fn := fun _ => fun
  | [d] => { results := [.lit (.bool false)], args := [d] }
  | _ => none }
def FnExactKeyOfWrongFalsely : Prop := fnExactKeyOfRow.holds Tryd.pinned (OpenSpec.ofChange fnExactKeyOfWrong)

/-- 'laws.FnKeys': WHATEVER THE INPUT: true; the input reads as it did. -/
def fnKeysSpec : ChangeSpec := { name := "fnKeys", fn := fun _ => fun
  | [d] => { results := [.lit (.bool true)], args := [d] }
  | _ => none }
def fnKeysRow : OpenClaim := { program := "ytoaakbaijklhhaadoor", sum := "5292fd72f6bc945886ea6655156673b9cfd2841464243c5f64edea9fbc8e5c3d", func := "loop.example/g00968/laws.FnKeys", spec := "fnKeys", inPlace := ["internal/bytealg.IndexByteString", "internal/abi.NoEscape", "internal/bytealg.MakeNoZero", "internal/bytealg.IndexString"], unfollowed := true, recurses := true, named := ["unicode/utf8.first", "unicode/utf8.acceptRanges", "unicode.CaseRanges", "internal/bytealg.MaxLen"], apart := false, laid := [("unicode/utf8.acceptRanges", laid_unicode_utf8_acceptRanges), ("unicode.CaseRanges", laid_unicode_CaseRanges), ("unicode/utf8.first", laid_unicode_utf8_first)] }
def FnKeysSaid : Prop := fnKeysRow.holds Tryd.pinned (OpenSpec.ofChange fnKeysSpec)

/-- ITS FALSE NEIGHBOUR: 'it returns false'. Refute it at one input. -/
def fnKeysWrong : ChangeSpec := { name := "fnKeys", fn := fun _ => fun
  | [d] => { results := [.lit (.bool false)], args := [d] }
  | _ => none }
def FnKeysWrongFalsely : Prop := fnKeysRow.holds Tryd.pinned (OpenSpec.ofChange fnKeysWrong)

/- THE SECOND FORM. 'bulk': how many values and letters a reading holds, each counted each time it is reached (what is shared counts as often as it is met; a slice's spare places count too). A statement '..UptoSaid' is the law's where the arguments, and the package variables that the reading takes, are together of bulk at most 1048576: NARROWER than '..Said'. Prove '..Said' where nothing that the law and all that it calls make is longer than what came in: it says more and counts as full. Else prove '..UptoSaid'. A law counts once. -/
mutual
def uptoBulk {H : Type} : DataW H → Nat
  | .lit (.string bytes) => bytes.length + 1
  | .lit _ => 1
  | .nil => 1
  | .ptr d => uptoBulk d + 1
  | .slice elems spare => uptoBulkAll elems + uptoBulkAll spare + 1
  | .agg parts => uptoBulkAll parts + 1
  | .iface _ d => uptoBulk d + 1
  | .map entries => uptoBulkEntries entries + 1
  | .held _ => 1
def uptoBulkAll {H : Type} : List (DataW H) → Nat
  | [] => 0
  | d :: r => uptoBulk d + uptoBulkAll r
def uptoBulkEntries {H : Type} : List (Lit × DataW H) → Nat
  | [] => 0
  | x :: r => uptoBulkEntry x + uptoBulkEntries r
def uptoBulkEntry {H : Type} : Lit × DataW H → Nat
  | (.string bytes, d) => bytes.length + uptoBulk d + 1
  | (_, d) => uptoBulk d + 1
 end
def uptoSmall : (H : Type) → List (DataW H) → Bool := fun _ ds => decide (uptoBulkAll ds ≤ 1048576)
def OpenSpec.upto (s : _root_.Go.ChangeSpec) : _root_.Go.OpenSpec := { _root_.Go.OpenSpec.ofChange s with cond := some uptoSmall }

/-- 'laws.FnExactRunesOf', WHERE WHAT IT READS IS OF BULK AT MOST 1048576: true; the input reads as it did. -/
def fnExactRunesOfUptoRow : OpenClaim := { program := "ytoaakbaijklhhaadoor", sum := "5292fd72f6bc945886ea6655156673b9cfd2841464243c5f64edea9fbc8e5c3d", func := "loop.example/g00968/laws.FnExactRunesOf", spec := "fnExactRunesOf", named := ["unicode/utf8.first", "unicode/utf8.acceptRanges"], apart := false, laid := [("unicode/utf8.acceptRanges", laid_unicode_utf8_acceptRanges), ("unicode/utf8.first", laid_unicode_utf8_first)], narrowed := true }
def FnExactRunesOfUptoSaid : Prop := fnExactRunesOfUptoRow.holds Tryd.pinned (OpenSpec.upto fnExactRunesOfSpec)

/-- 'laws.FnExactPlainOk', WHERE WHAT IT READS IS OF BULK AT MOST 1048576: true; the input reads as it did. -/
def fnExactPlainOkUptoRow : OpenClaim := { program := "ytoaakbaijklhhaadoor", sum := "5292fd72f6bc945886ea6655156673b9cfd2841464243c5f64edea9fbc8e5c3d", func := "loop.example/g00968/laws.FnExactPlainOk", spec := "fnExactPlainOk", inPlace := ["internal/bytealg.IndexByteString"], named := ["unicode/utf8.first", "unicode/utf8.acceptRanges"], apart := false, laid := [("unicode/utf8.acceptRanges", laid_unicode_utf8_acceptRanges), ("unicode/utf8.first", laid_unicode_utf8_first)], narrowed := true }
def FnExactPlainOkUptoSaid : Prop := fnExactPlainOkUptoRow.holds Tryd.pinned (OpenSpec.upto fnExactPlainOkSpec)

/-- 'laws.FnExactQuoted', WHERE WHAT IT READS IS OF BULK AT MOST 1048576: true; the input reads as it did. -/
def fnExactQuotedUptoRow : OpenClaim := { program := "ytoaakbaijklhhaadoor", sum := "5292fd72f6bc945886ea6655156673b9cfd2841464243c5f64edea9fbc8e5c3d", func := "loop.example/g00968/laws.FnExactQuoted", spec := "fnExactQuoted", inPlace := ["internal/bytealg.IndexByteString"], named := ["unicode/utf8.first", "unicode/utf8.acceptRanges"], apart := false, laid := [("unicode/utf8.acceptRanges", laid_unicode_utf8_acceptRanges), ("unicode/utf8.first", laid_unicode_utf8_first)], narrowed := true }
def FnExactQuotedUptoSaid : Prop := fnExactQuotedUptoRow.holds Tryd.pinned (OpenSpec.upto fnExactQuotedSpec)

/-- 'laws.FnExactKeyText', WHERE WHAT IT READS IS OF BULK AT MOST 1048576: true; the input reads as it did. -/
def fnExactKeyTextUptoRow : OpenClaim := { program := "ytoaakbaijklhhaadoor", sum := "5292fd72f6bc945886ea6655156673b9cfd2841464243c5f64edea9fbc8e5c3d", func := "loop.example/g00968/laws.FnExactKeyText", spec := "fnExactKeyText", inPlace := ["internal/bytealg.IndexByteString"], named := ["unicode/utf8.first", "unicode/utf8.acceptRanges"], apart := false, laid := [("unicode/utf8.acceptRanges", laid_unicode_utf8_acceptRanges), ("unicode/utf8.first", laid_unicode_utf8_first)], narrowed := true }
def FnExactKeyTextUptoSaid : Prop := fnExactKeyTextUptoRow.holds Tryd.pinned (OpenSpec.upto fnExactKeyTextSpec)

/-- 'laws.FnNoRunes', WHERE WHAT IT READS IS OF BULK AT MOST 1048576: true; the input reads as it did. -/
def fnNoRunesUptoRow : OpenClaim := { program := "ytoaakbaijklhhaadoor", sum := "5292fd72f6bc945886ea6655156673b9cfd2841464243c5f64edea9fbc8e5c3d", func := "loop.example/g00968/laws.FnNoRunes", spec := "fnNoRunes", named := ["unicode/utf8.first", "unicode/utf8.acceptRanges"], apart := false, laid := [("unicode/utf8.acceptRanges", laid_unicode_utf8_acceptRanges), ("unicode/utf8.first", laid_unicode_utf8_first)], narrowed := true }
def FnNoRunesUptoSaid : Prop := fnNoRunesUptoRow.holds Tryd.pinned (OpenSpec.upto fnNoRunesSpec)

/-- 'laws.FnRunes', WHERE WHAT IT READS IS OF BULK AT MOST 1048576: true; the input reads as it did. -/
def fnRunesUptoRow : OpenClaim := { program := "ytoaakbaijklhhaadoor", sum := "5292fd72f6bc945886ea6655156673b9cfd2841464243c5f64edea9fbc8e5c3d", func := "loop.example/g00968/laws.FnRunes", spec := "fnRunes", named := ["unicode/utf8.first", "unicode/utf8.acceptRanges"], apart := false, laid := [("unicode/utf8.acceptRanges", laid_unicode_utf8_acceptRanges), ("unicode/utf8.first", laid_unicode_utf8_first)], narrowed := true }
def FnRunesUptoSaid : Prop := fnRunesUptoRow.holds Tryd.pinned (OpenSpec.upto fnRunesSpec)

/-- 'laws.FnExactReadQuoted', WHERE WHAT IT READS IS OF BULK AT MOST 1048576: true; the input reads as it did. -/
def fnExactReadQuotedUptoRow : OpenClaim := { program := "ytoaakbaijklhhaadoor", sum := "5292fd72f6bc945886ea6655156673b9cfd2841464243c5f64edea9fbc8e5c3d", func := "loop.example/g00968/laws.FnExactReadQuoted", spec := "fnExactReadQuoted", inPlace := ["internal/bytealg.IndexByteString", "internal/abi.NoEscape", "internal/bytealg.MakeNoZero"], unfollowed := true, recurses := true, named := ["unicode/utf8.first", "unicode/utf8.acceptRanges", "unicode.CaseRanges"], apart := false, laid := [("unicode/utf8.acceptRanges", laid_unicode_utf8_acceptRanges), ("unicode.CaseRanges", laid_unicode_CaseRanges), ("unicode/utf8.first", laid_unicode_utf8_first)], narrowed := true }
def FnExactReadQuotedUptoSaid : Prop := fnExactReadQuotedUptoRow.holds Tryd.pinned (OpenSpec.upto fnExactReadQuotedSpec)

/-- 'laws.FnWholes', WHERE WHAT IT READS IS OF BULK AT MOST 1048576: true; the input reads as it did. -/
def fnWholesUptoRow : OpenClaim := { program := "ytoaakbaijklhhaadoor", sum := "5292fd72f6bc945886ea6655156673b9cfd2841464243c5f64edea9fbc8e5c3d", func := "loop.example/g00968/laws.FnWholes", spec := "fnWholes", inPlace := ["internal/bytealg.IndexByteString"], named := ["internal/strconv.uint64pow10", "math/bits.deBruijn32tab", "math/bits.deBruijn64tab", "strconv.ErrSyntax", "strconv.ErrRange"], apart := false, laid := [("math/bits.deBruijn32tab", laid_math_bits_deBruijn32tab), ("math/bits.deBruijn64tab", laid_math_bits_deBruijn64tab), ("internal/strconv.uint64pow10", laid_internal_strconv_uint64pow10), ("strconv.ErrRange", laid_strconv_ErrRange), ("strconv.ErrSyntax", laid_strconv_ErrSyntax)], narrowed := true }
def FnWholesUptoSaid : Prop := fnWholesUptoRow.holds Tryd.pinned (OpenSpec.upto fnWholesSpec)

/-- 'laws.FnExactReadWhole', WHERE WHAT IT READS IS OF BULK AT MOST 1048576: true; the input reads as it did. -/
def fnExactReadWholeUptoRow : OpenClaim := { program := "ytoaakbaijklhhaadoor", sum := "5292fd72f6bc945886ea6655156673b9cfd2841464243c5f64edea9fbc8e5c3d", func := "loop.example/g00968/laws.FnExactReadWhole", spec := "fnExactReadWhole", inPlace := ["internal/bytealg.IndexByteString"], named := ["strconv.ErrSyntax", "strconv.ErrRange", "internal/strconv.uint64pow10", "math/bits.deBruijn32tab", "math/bits.deBruijn64tab"], apart := false, laid := [("math/bits.deBruijn32tab", laid_math_bits_deBruijn32tab), ("math/bits.deBruijn64tab", laid_math_bits_deBruijn64tab), ("internal/strconv.uint64pow10", laid_internal_strconv_uint64pow10), ("strconv.ErrRange", laid_strconv_ErrRange), ("strconv.ErrSyntax", laid_strconv_ErrSyntax)], narrowed := true }
def FnExactReadWholeUptoSaid : Prop := fnExactReadWholeUptoRow.holds Tryd.pinned (OpenSpec.upto fnExactReadWholeSpec)

/-- 'laws.FnQuoted', WHERE WHAT IT READS IS OF BULK AT MOST 1048576: true; the input reads as it did. -/
def fnQuotedUptoRow : OpenClaim := { program := "ytoaakbaijklhhaadoor", sum := "5292fd72f6bc945886ea6655156673b9cfd2841464243c5f64edea9fbc8e5c3d", func := "loop.example/g00968/laws.FnQuoted", spec := "fnQuoted", inPlace := ["internal/bytealg.IndexByteString", "internal/abi.NoEscape", "internal/bytealg.MakeNoZero"], unfollowed := true, recurses := true, named := ["unicode/utf8.first", "unicode/utf8.acceptRanges", "unicode.CaseRanges"], apart := false, laid := [("unicode/utf8.acceptRanges", laid_unicode_utf8_acceptRanges), ("unicode.CaseRanges", laid_unicode_CaseRanges), ("unicode/utf8.first", laid_unicode_utf8_first)], narrowed := true }
def FnQuotedUptoSaid : Prop := fnQuotedUptoRow.holds Tryd.pinned (OpenSpec.upto fnQuotedSpec)

/-- 'laws.FnExactKeyOf', WHERE WHAT IT READS IS OF BULK AT MOST 1048576: true; the input reads as it did. -/
def fnExactKeyOfUptoRow : OpenClaim := { program := "ytoaakbaijklhhaadoor", sum := "5292fd72f6bc945886ea6655156673b9cfd2841464243c5f64edea9fbc8e5c3d", func := "loop.example/g00968/laws.FnExactKeyOf", spec := "fnExactKeyOf", inPlace := ["internal/bytealg.IndexByteString", "internal/abi.NoEscape", "internal/bytealg.MakeNoZero", "internal/bytealg.IndexString"], unfollowed := true, recurses := true, named := ["unicode/utf8.first", "unicode/utf8.acceptRanges", "unicode.CaseRanges", "internal/bytealg.MaxLen"], apart := false, laid := [("unicode/utf8.acceptRanges", laid_unicode_utf8_acceptRanges), ("unicode.CaseRanges", laid_unicode_CaseRanges), ("unicode/utf8.first", laid_unicode_utf8_first)], narrowed := true }
def FnExactKeyOfUptoSaid : Prop := fnExactKeyOfUptoRow.holds Tryd.pinned (OpenSpec.upto fnExactKeyOfSpec)

/-- 'laws.FnKeys', WHERE WHAT IT READS IS OF BULK AT MOST 1048576: true; the input reads as it did. -/
def fnKeysUptoRow : OpenClaim := { program := "ytoaakbaijklhhaadoor", sum := "5292fd72f6bc945886ea6655156673b9cfd2841464243c5f64edea9fbc8e5c3d", func := "loop.example/g00968/laws.FnKeys", spec := "fnKeys", inPlace := ["internal/bytealg.IndexByteString", "internal/abi.NoEscape", "internal/bytealg.MakeNoZero", "internal/bytealg.IndexString"], unfollowed := true, recurses := true, named := ["unicode/utf8.first", "unicode/utf8.acceptRanges", "unicode.CaseRanges", "internal/bytealg.MaxLen"], apart := false, laid := [("unicode/utf8.acceptRanges", laid_unicode_utf8_acceptRanges), ("unicode.CaseRanges", laid_unicode_CaseRanges), ("unicode/utf8.first", laid_unicode_utf8_first)], narrowed := true }
def FnKeysUptoSaid : Prop := fnKeysUptoRow.holds Tryd.pinned (OpenSpec.upto fnKeysSpec)

end Rows
end Go.Proofs.YtoaakbaijklhhaaDoor
