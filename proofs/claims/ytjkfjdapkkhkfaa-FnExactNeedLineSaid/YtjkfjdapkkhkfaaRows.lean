/-
  No cell of these rows narrows 'for every input' (looked for: loops, veiled, ifaces, maps, wideKeys, modest, calm, conditions, laid).
  DERIVED. THE GIVEN ROWS OF THIS SEAT. 7 by the template 'for every input the law returns true; each argument reads behind the call as it read before'; 0 by the template 'total and deterministic' (their statements: YtjkfjdapkkhkfaaTotals.lean).
  GIVEN WITH THE SEED: the statements are not yours to turn. If you find one false, say at which input.
  Laid BY PROGRAM, IN A SANDBOX (cutbox-rows.mjs): the forced cells as the released guide's own fill.sh prints them over the translation 38022a7bc3e5428f… (all of the seat's roots in one cut). By AI agents, Wed Nov 11 2026. No macro, syntax, notation, axiom, sorry.
-/
import Derived.Test.YtjkfjdapkkhkfaaChecked
import GoSem.Claim
import GoSem.ClaimJoined
import GoSem.ClaimMapViews
import Derived.JoinedTies
import Derived.KernelRfl
namespace Go.Proofs.Ytjkfjdapkkhkfaa
/- THE CELL 'sum', in the pinned program and in every row, IS THE sha256 OF THE DUMP (.gsa) THAT YtjkfjdapkkhkfaaProg.lean LOADS. Nothing in Lean hashes anything: it is a label: what it is worth is what the hold of that sum in a sandbox is worth. -/
noncomputable def Try.pinned : Pinned := { name := "ytjkfjdapkkhkfaa", sum := "38022a7bc3e5428f854bf65e8b1ec2d7cbd790a2b911be7f3da7d9805a9968a8", checked := Try.checked }
namespace Rows
def none {H : Type} : Left H := { results := [], args := [] }

/-- 'laws.FnExactLabelsOk': WHATEVER THE INPUT: true; the input reads as it did. -/
def fnExactLabelsOkSpec : ChangeSpec := { name := "fnExactLabelsOk", fn := fun _ => fun
  | [d] => { results := [.lit (.bool true)], args := [d] }
  | _ => none }
def fnExactLabelsOkRow : OpenClaim := { program := "ytjkfjdapkkhkfaa", sum := "38022a7bc3e5428f854bf65e8b1ec2d7cbd790a2b911be7f3da7d9805a9968a8", func := "loop.example/g00968/laws.FnExactLabelsOk", spec := "fnExactLabelsOk", inPlace := ["internal/bytealg.IndexByteString"], unfollowed := true, recurses := true, apart := false }
def FnExactLabelsOkSaid : Prop := fnExactLabelsOkRow.holds Try.pinned (OpenSpec.ofChange fnExactLabelsOkSpec)

/-- ITS FALSE NEIGHBOUR: 'it returns false'. Refute it at one input. -/
def fnExactLabelsOkWrong : ChangeSpec := { name := "fnExactLabelsOk", fn := fun _ => fun
  | [d] => { results := [.lit (.bool false)], args := [d] }
  | _ => none }
def FnExactLabelsOkWrongFalsely : Prop := fnExactLabelsOkRow.holds Try.pinned (OpenSpec.ofChange fnExactLabelsOkWrong)

/-- 'laws.FnExactNeedLess': WHATEVER THE INPUT: true; the input reads as it did. -/
def fnExactNeedLessSpec : ChangeSpec := { name := "fnExactNeedLess", fn := fun _ => fun
  | [d1, d2] => { results := [.lit (.bool true)], args := [d1, d2] }
  | _ => none }
def fnExactNeedLessRow : OpenClaim := { program := "ytjkfjdapkkhkfaa", sum := "38022a7bc3e5428f854bf65e8b1ec2d7cbd790a2b911be7f3da7d9805a9968a8", func := "loop.example/g00968/laws.FnExactNeedLess", spec := "fnExactNeedLess", inPlace := ["internal/bytealg.abigen_runtime_cmpstring"], apart := false }
def FnExactNeedLessSaid : Prop := fnExactNeedLessRow.holds Try.pinned (OpenSpec.ofChange fnExactNeedLessSpec)

/-- ITS FALSE NEIGHBOUR: 'it returns false'. Refute it at one input. -/
def fnExactNeedLessWrong : ChangeSpec := { name := "fnExactNeedLess", fn := fun _ => fun
  | [d1, d2] => { results := [.lit (.bool false)], args := [d1, d2] }
  | _ => none }
def FnExactNeedLessWrongFalsely : Prop := fnExactNeedLessRow.holds Try.pinned (OpenSpec.ofChange fnExactNeedLessWrong)

/-- 'laws.FnExactNeedOk': WHATEVER THE INPUT: true; the input reads as it did. -/
def fnExactNeedOkSpec : ChangeSpec := { name := "fnExactNeedOk", fn := fun _ => fun
  | [d] => { results := [.lit (.bool true)], args := [d] }
  | _ => none }
def fnExactNeedOkRow : OpenClaim := { program := "ytjkfjdapkkhkfaa", sum := "38022a7bc3e5428f854bf65e8b1ec2d7cbd790a2b911be7f3da7d9805a9968a8", func := "loop.example/g00968/laws.FnExactNeedOk", spec := "fnExactNeedOk", inPlace := ["internal/bytealg.IndexByteString"], unfollowed := true, recurses := true, apart := false }
def FnExactNeedOkSaid : Prop := fnExactNeedOkRow.holds Try.pinned (OpenSpec.ofChange fnExactNeedOkSpec)

/-- ITS FALSE NEIGHBOUR: 'it returns false'. Refute it at one input. -/
def fnExactNeedOkWrong : ChangeSpec := { name := "fnExactNeedOk", fn := fun _ => fun
  | [d] => { results := [.lit (.bool false)], args := [d] }
  | _ => none }
def FnExactNeedOkWrongFalsely : Prop := fnExactNeedOkRow.holds Try.pinned (OpenSpec.ofChange fnExactNeedOkWrong)

/-- 'laws.FnExactSameNeeds': WHATEVER THE INPUT: true; the input reads as it did. -/
def fnExactSameNeedsSpec : ChangeSpec := { name := "fnExactSameNeeds", fn := fun _ => fun
  | [d1, d2] => { results := [.lit (.bool true)], args := [d1, d2] }
  | _ => none }
def fnExactSameNeedsRow : OpenClaim := { program := "ytjkfjdapkkhkfaa", sum := "38022a7bc3e5428f854bf65e8b1ec2d7cbd790a2b911be7f3da7d9805a9968a8", func := "loop.example/g00968/laws.FnExactSameNeeds", spec := "fnExactSameNeeds", inPlace := ["internal/bytealg.abigen_runtime_cmpstring"], unfollowed := true, recurses := true, apart := false }
def FnExactSameNeedsSaid : Prop := fnExactSameNeedsRow.holds Try.pinned (OpenSpec.ofChange fnExactSameNeedsSpec)

/-- ITS FALSE NEIGHBOUR: 'it returns false'. Refute it at one input. -/
def fnExactSameNeedsWrong : ChangeSpec := { name := "fnExactSameNeeds", fn := fun _ => fun
  | [d1, d2] => { results := [.lit (.bool false)], args := [d1, d2] }
  | _ => none }
def FnExactSameNeedsWrongFalsely : Prop := fnExactSameNeedsRow.holds Try.pinned (OpenSpec.ofChange fnExactSameNeedsWrong)

/-- 'laws.FnExactLabelsLine': WHATEVER THE INPUT: true; the input reads as it did. -/
def fnExactLabelsLineSpec : ChangeSpec := { name := "fnExactLabelsLine", fn := fun _ => fun
  | [d] => { results := [.lit (.bool true)], args := [d] }
  | _ => none }
def fnExactLabelsLineRow : OpenClaim := { program := "ytjkfjdapkkhkfaa", sum := "38022a7bc3e5428f854bf65e8b1ec2d7cbd790a2b911be7f3da7d9805a9968a8", func := "loop.example/g00968/laws.FnExactLabelsLine", spec := "fnExactLabelsLine", inPlace := ["internal/bytealg.IndexByteString", "internal/abi.NoEscape", "internal/bytealg.MakeNoZero"], unfollowed := true, recurses := true, apart := false }
def FnExactLabelsLineSaid : Prop := fnExactLabelsLineRow.holds Try.pinned (OpenSpec.ofChange fnExactLabelsLineSpec)

/-- ITS FALSE NEIGHBOUR: 'it returns false'. Refute it at one input. -/
def fnExactLabelsLineWrong : ChangeSpec := { name := "fnExactLabelsLine", fn := fun _ => fun
  | [d] => { results := [.lit (.bool false)], args := [d] }
  | _ => none }
def FnExactLabelsLineWrongFalsely : Prop := fnExactLabelsLineRow.holds Try.pinned (OpenSpec.ofChange fnExactLabelsLineWrong)

/-- 'laws.FnExactNeedLine': WHATEVER THE INPUT: true; the input reads as it did. -/
def fnExactNeedLineSpec : ChangeSpec := { name := "fnExactNeedLine", fn := fun _ => fun
  | [d] => { results := [.lit (.bool true)], args := [d] }
  | _ => none }
def fnExactNeedLineRow : OpenClaim := { program := "ytjkfjdapkkhkfaa", sum := "38022a7bc3e5428f854bf65e8b1ec2d7cbd790a2b911be7f3da7d9805a9968a8", func := "loop.example/g00968/laws.FnExactNeedLine", spec := "fnExactNeedLine", inPlace := ["internal/bytealg.IndexByteString", "internal/abi.NoEscape", "internal/bytealg.MakeNoZero"], unfollowed := true, recurses := true, apart := false }
def FnExactNeedLineSaid : Prop := fnExactNeedLineRow.holds Try.pinned (OpenSpec.ofChange fnExactNeedLineSpec)

/-- ITS FALSE NEIGHBOUR: 'it returns false'. Refute it at one input. -/
def fnExactNeedLineWrong : ChangeSpec := { name := "fnExactNeedLine", fn := fun _ => fun
  | [d] => { results := [.lit (.bool false)], args := [d] }
  | _ => none }
def FnExactNeedLineWrongFalsely : Prop := fnExactNeedLineRow.holds Try.pinned (OpenSpec.ofChange fnExactNeedLineWrong)

/-- 'laws.FnExactSortLabels': WHATEVER THE INPUT: true; the input reads as it did. -/
def fnExactSortLabelsSpec : ChangeSpec := { name := "fnExactSortLabels", fn := fun _ => fun
  | [d] => { results := [.lit (.bool true)], args := [d] }
  | _ => none }
def fnExactSortLabelsRow : OpenClaim := { program := "ytjkfjdapkkhkfaa", sum := "38022a7bc3e5428f854bf65e8b1ec2d7cbd790a2b911be7f3da7d9805a9968a8", func := "loop.example/g00968/laws.FnExactSortLabels", spec := "fnExactSortLabels", inPlace := ["internal/bytealg.abigen_runtime_cmpstring", "internal/bytealg.IndexByteString"], unfollowed := true, recurses := true, apart := false }
def FnExactSortLabelsSaid : Prop := fnExactSortLabelsRow.holds Try.pinned (OpenSpec.ofChange fnExactSortLabelsSpec)

/-- ITS FALSE NEIGHBOUR: 'it returns false'. Refute it at one input. -/
def fnExactSortLabelsWrong : ChangeSpec := { name := "fnExactSortLabels", fn := fun _ => fun
  | [d] => { results := [.lit (.bool false)], args := [d] }
  | _ => none }
def FnExactSortLabelsWrongFalsely : Prop := fnExactSortLabelsRow.holds Try.pinned (OpenSpec.ofChange fnExactSortLabelsWrong)

/- THE SECOND FORM. 'bulk': how many values and letters a reading holds, each counted each time it is reached (what is shared counts as often as it is met; a slice's spare places count too). A statement '..UptoSaid' is the law's where the arguments, and the package variables that the reading takes, are together of bulk at most 1048576: NARROWER than '..Said'. Prove '..Said' where nothing that the law and all that it calls make is longer than what came in: it says more and counts as full. Else prove '..UptoSaid'. A law counts once. -/
mutual
def uptoBulk {H : Type} : DataW H → Nat
  | .lit (.string bytes) => bytes.length + 1
  | .lit _ => 1
  | .nil => 1
  | .ptr d => uptoBulk d + 1
  | .slice elems spare => uptoBulkAll elems + uptoBulkAll spare + 1
  | .agg parts => uptoBulkAll parts + 1
  | .iface _ d => uptoBulk d + 1
  | .map entries => uptoBulkEntries entries + 1
  | .held _ => 1
def uptoBulkAll {H : Type} : List (DataW H) → Nat
  | [] => 0
  | d :: r => uptoBulk d + uptoBulkAll r
def uptoBulkEntries {H : Type} : List (Lit × DataW H) → Nat
  | [] => 0
  | x :: r => uptoBulkEntry x + uptoBulkEntries r
def uptoBulkEntry {H : Type} : Lit × DataW H → Nat
  | (.string bytes, d) => bytes.length + uptoBulk d + 1
  | (_, d) => uptoBulk d + 1
 end
def uptoSmall : (H : Type) → List (DataW H) → Bool := fun _ ds => decide (uptoBulkAll ds ≤ 1048576)
def OpenSpec.upto (s : _root_.Go.ChangeSpec) : _root_.Go.OpenSpec := { _root_.Go.OpenSpec.ofChange s with cond := some uptoSmall }

/-- 'laws.FnExactLabelsOk', WHERE WHAT IT READS IS OF BULK AT MOST 1048576: true; the input reads as it did. -/
def fnExactLabelsOkUptoRow : OpenClaim := { program := "ytjkfjdapkkhkfaa", sum := "38022a7bc3e5428f854bf65e8b1ec2d7cbd790a2b911be7f3da7d9805a9968a8", func := "loop.example/g00968/laws.FnExactLabelsOk", spec := "fnExactLabelsOk", inPlace := ["internal/bytealg.IndexByteString"], unfollowed := true, recurses := true, apart := false, narrowed := true }
def FnExactLabelsOkUptoSaid : Prop := fnExactLabelsOkUptoRow.holds Try.pinned (OpenSpec.upto fnExactLabelsOkSpec)

/-- 'laws.FnExactNeedLess', WHERE WHAT IT READS IS OF BULK AT MOST 1048576: true; the input reads as it did. -/
def fnExactNeedLessUptoRow : OpenClaim := { program := "ytjkfjdapkkhkfaa", sum := "38022a7bc3e5428f854bf65e8b1ec2d7cbd790a2b911be7f3da7d9805a9968a8", func := "loop.example/g00968/laws.FnExactNeedLess", spec := "fnExactNeedLess", inPlace := ["internal/bytealg.abigen_runtime_cmpstring"], apart := false, narrowed := true }
def FnExactNeedLessUptoSaid : Prop := fnExactNeedLessUptoRow.holds Try.pinned (OpenSpec.upto fnExactNeedLessSpec)

/-- 'laws.FnExactNeedOk', WHERE WHAT IT READS IS OF BULK AT MOST 1048576: true; the input reads as it did. -/
def fnExactNeedOkUptoRow : OpenClaim := { program := "ytjkfjdapkkhkfaa", sum := "38022a7bc3e5428f854bf65e8b1ec2d7cbd790a2b911be7f3da7d9805a9968a8", func := "loop.example/g00968/laws.FnExactNeedOk", spec := "fnExactNeedOk", inPlace := ["internal/bytealg.IndexByteString"], unfollowed := true, recurses := true, apart := false, narrowed := true }
def FnExactNeedOkUptoSaid : Prop := fnExactNeedOkUptoRow.holds Try.pinned (OpenSpec.upto fnExactNeedOkSpec)

/-- 'laws.FnExactSameNeeds', WHERE WHAT IT READS IS OF BULK AT MOST 1048576: true; the input reads as it did. -/
def fnExactSameNeedsUptoRow : OpenClaim := { program := "ytjkfjdapkkhkfaa", sum := "38022a7bc3e5428f854bf65e8b1ec2d7cbd790a2b911be7f3da7d9805a9968a8", func := "loop.example/g00968/laws.FnExactSameNeeds", spec := "fnExactSameNeeds", inPlace := ["internal/bytealg.abigen_runtime_cmpstring"], unfollowed := true, recurses := true, apart := false, narrowed := true }
def FnExactSameNeedsUptoSaid : Prop := fnExactSameNeedsUptoRow.holds Try.pinned (OpenSpec.upto fnExactSameNeedsSpec)

/-- 'laws.FnExactLabelsLine', WHERE WHAT IT READS IS OF BULK AT MOST 1048576: true; the input reads as it did. -/
def fnExactLabelsLineUptoRow : OpenClaim := { program := "ytjkfjdapkkhkfaa", sum := "38022a7bc3e5428f854bf65e8b1ec2d7cbd790a2b911be7f3da7d9805a9968a8", func := "loop.example/g00968/laws.FnExactLabelsLine", spec := "fnExactLabelsLine", inPlace := ["internal/bytealg.IndexByteString", "internal/abi.NoEscape", "internal/bytealg.MakeNoZero"], unfollowed := true, recurses := true, apart := false, narrowed := true }
def FnExactLabelsLineUptoSaid : Prop := fnExactLabelsLineUptoRow.holds Try.pinned (OpenSpec.upto fnExactLabelsLineSpec)

/-- 'laws.FnExactNeedLine', WHERE WHAT IT READS IS OF BULK AT MOST 1048576: true; the input reads as it did. -/
def fnExactNeedLineUptoRow : OpenClaim := { program := "ytjkfjdapkkhkfaa", sum := "38022a7bc3e5428f854bf65e8b1ec2d7cbd790a2b911be7f3da7d9805a9968a8", func := "loop.example/g00968/laws.FnExactNeedLine", spec := "fnExactNeedLine", inPlace := ["internal/bytealg.IndexByteString", "internal/abi.NoEscape", "internal/bytealg.MakeNoZero"], unfollowed := true, recurses := true, apart := false, narrowed := true }
def FnExactNeedLineUptoSaid : Prop := fnExactNeedLineUptoRow.holds Try.pinned (OpenSpec.upto fnExactNeedLineSpec)

/-- 'laws.FnExactSortLabels', WHERE WHAT IT READS IS OF BULK AT MOST 1048576: true; the input reads as it did. -/
def fnExactSortLabelsUptoRow : OpenClaim := { program := "ytjkfjdapkkhkfaa", sum := "38022a7bc3e5428f854bf65e8b1ec2d7cbd790a2b911be7f3da7d9805a9968a8", func := "loop.example/g00968/laws.FnExactSortLabels", spec := "fnExactSortLabels", inPlace := ["internal/bytealg.abigen_runtime_cmpstring", "internal/bytealg.IndexByteString"], unfollowed := true, recurses := true, apart := false, narrowed := true }
def FnExactSortLabelsUptoSaid : Prop := fnExactSortLabelsUptoRow.holds Try.pinned (OpenSpec.upto fnExactSortLabelsSpec)

end Rows
end Go.Proofs.Ytjkfjdapkkhkfaa
