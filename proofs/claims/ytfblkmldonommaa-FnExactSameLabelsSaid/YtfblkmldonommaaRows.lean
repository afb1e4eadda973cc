/-
  No cell of these rows narrows 'for every input' (looked for: loops, veiled, ifaces, maps, wideKeys, modest, calm, conditions, laid).
  DERIVED. THE GIVEN ROWS OF THIS SEAT. 5 by the template 'for every input the law returns true; each argument reads behind the call as it read before'; 0 by the template 'total and deterministic' (their statements: YtfblkmldonommaaTotals.lean).
  GIVEN WITH THE SEED: the statements are not yours to turn. If you find one false, say at which input.
  Laid BY PROGRAM, IN A SANDBOX (cutbox-rows.mjs): the forced cells as the released guide's own fill.sh prints them over the translation d9e69cddbd23a703… (all of the seat's roots in one cut). By AI agents, Wed Nov 11 2026. No macro, syntax, notation, axiom, sorry.
-/
import Derived.Test.YtfblkmldonommaaChecked
import GoSem.Claim
import GoSem.ClaimJoined
import GoSem.ClaimMapViews
import Derived.JoinedTies
import Derived.KernelRfl
namespace Go.Proofs.Ytfblkmldonommaa
/- THE CELL 'sum', in the pinned program and in every row, IS THE sha256 OF THE DUMP (.gsa) THAT YtfblkmldonommaaProg.lean LOADS. Nothing in Lean hashes anything: it is a label: what it is worth is what the hold of that sum in a sandbox is worth. -/
noncomputable def Try.pinned : Pinned := { name := "ytfblkmldonommaa", sum := "d9e69cddbd23a70332421bb4edb2b054f37aec3d6e277b56a71496588e36d85b", checked := Try.checked }
namespace Rows
def none {H : Type} : Left H := { results := [], args := [] }

/-- 'laws.FnExactNameOk': WHATEVER THE INPUT: true; the input reads as it did. -/
def fnExactNameOkSpec : ChangeSpec := { name := "fnExactNameOk", fn := fun _ => fun
  | [d] => { results := [.lit (.bool true)], args := [d] }
  | _ => none }
def fnExactNameOkRow : OpenClaim := { program := "ytfblkmldonommaa", sum := "d9e69cddbd23a70332421bb4edb2b054f37aec3d6e277b56a71496588e36d85b", func := "loop.example/g00968/laws.FnExactNameOk", spec := "fnExactNameOk", apart := false }
def FnExactNameOkSaid : Prop := fnExactNameOkRow.holds Try.pinned (OpenSpec.ofChange fnExactNameOkSpec)

/-- ITS FALSE NEIGHBOUR: 'it returns false'. Refute it at one input. -/
def fnExactNameOkWrong : ChangeSpec := { name := "fnExactNameOk", fn := fun _ => fun
  | [d] => { results := [.lit (.bool false)], args := [d] }
  | _ => none }
def FnExactNameOkWrongFalsely : Prop := fnExactNameOkRow.holds Try.pinned (OpenSpec.ofChange fnExactNameOkWrong)

/-- 'laws.FnExactLabelValueOk': WHATEVER THE INPUT: true; the input reads as it did. -/
def fnExactLabelValueOkSpec : ChangeSpec := { name := "fnExactLabelValueOk", fn := fun _ => fun
  | [d] => { results := [.lit (.bool true)], args := [d] }
  | _ => none }
def fnExactLabelValueOkRow : OpenClaim := { program := "ytfblkmldonommaa", sum := "d9e69cddbd23a70332421bb4edb2b054f37aec3d6e277b56a71496588e36d85b", func := "loop.example/g00968/laws.FnExactLabelValueOk", spec := "fnExactLabelValueOk", inPlace := ["internal/bytealg.IndexByteString"], unfollowed := true, recurses := true, apart := false }
def FnExactLabelValueOkSaid : Prop := fnExactLabelValueOkRow.holds Try.pinned (OpenSpec.ofChange fnExactLabelValueOkSpec)

/-- ITS FALSE NEIGHBOUR: 'it returns false'. Refute it at one input. -/
def fnExactLabelValueOkWrong : ChangeSpec := { name := "fnExactLabelValueOk", fn := fun _ => fun
  | [d] => { results := [.lit (.bool false)], args := [d] }
  | _ => none }
def FnExactLabelValueOkWrongFalsely : Prop := fnExactLabelValueOkRow.holds Try.pinned (OpenSpec.ofChange fnExactLabelValueOkWrong)

/-- 'laws.FnExactLabelKeyOk': WHATEVER THE INPUT: true; the input reads as it did. -/
def fnExactLabelKeyOkSpec : ChangeSpec := { name := "fnExactLabelKeyOk", fn := fun _ => fun
  | [d] => { results := [.lit (.bool true)], args := [d] }
  | _ => none }
def fnExactLabelKeyOkRow : OpenClaim := { program := "ytfblkmldonommaa", sum := "d9e69cddbd23a70332421bb4edb2b054f37aec3d6e277b56a71496588e36d85b", func := "loop.example/g00968/laws.FnExactLabelKeyOk", spec := "fnExactLabelKeyOk", inPlace := ["internal/bytealg.IndexByteString"], unfollowed := true, recurses := true, apart := false }
def FnExactLabelKeyOkSaid : Prop := fnExactLabelKeyOkRow.holds Try.pinned (OpenSpec.ofChange fnExactLabelKeyOkSpec)

/-- ITS FALSE NEIGHBOUR: 'it returns false'. Refute it at one input. -/
def fnExactLabelKeyOkWrong : ChangeSpec := { name := "fnExactLabelKeyOk", fn := fun _ => fun
  | [d] => { results := [.lit (.bool false)], args := [d] }
  | _ => none }
def FnExactLabelKeyOkWrongFalsely : Prop := fnExactLabelKeyOkRow.holds Try.pinned (OpenSpec.ofChange fnExactLabelKeyOkWrong)

/-- 'laws.FnExactLabelAt': WHATEVER THE INPUT: true; the input reads as it did. -/
def fnExactLabelAtSpec : ChangeSpec := { name := "fnExactLabelAt", fn := fun _ => fun
  | [d1, d2] => { results := [.lit (.bool true)], args := [d1, d2] }
  | _ => none }
def fnExactLabelAtRow : OpenClaim := { program := "ytfblkmldonommaa", sum := "d9e69cddbd23a70332421bb4edb2b054f37aec3d6e277b56a71496588e36d85b", func := "loop.example/g00968/laws.FnExactLabelAt", spec := "fnExactLabelAt", apart := false }
def FnExactLabelAtSaid : Prop := fnExactLabelAtRow.holds Try.pinned (OpenSpec.ofChange fnExactLabelAtSpec)

/-- ITS FALSE NEIGHBOUR: 'it returns false'. Refute it at one input. -/
def fnExactLabelAtWrong : ChangeSpec := { name := "fnExactLabelAt", fn := fun _ => fun
  | [d1, d2] => { results := [.lit (.bool false)], args := [d1, d2] }
  | _ => none }
def FnExactLabelAtWrongFalsely : Prop := fnExactLabelAtRow.holds Try.pinned (OpenSpec.ofChange fnExactLabelAtWrong)

/-- 'laws.FnExactSameLabels': WHATEVER THE INPUT: true; the input reads as it did. -/
def fnExactSameLabelsSpec : ChangeSpec := { name := "fnExactSameLabels", fn := fun _ => fun
  | [d1, d2] => { results := [.lit (.bool true)], args := [d1, d2] }
  | _ => none }
def fnExactSameLabelsRow : OpenClaim := { program := "ytfblkmldonommaa", sum := "d9e69cddbd23a70332421bb4edb2b054f37aec3d6e277b56a71496588e36d85b", func := "loop.example/g00968/laws.FnExactSameLabels", spec := "fnExactSameLabels", apart := false }
def FnExactSameLabelsSaid : Prop := fnExactSameLabelsRow.holds Try.pinned (OpenSpec.ofChange fnExactSameLabelsSpec)

/-- ITS FALSE NEIGHBOUR: 'it returns false'. Refute it at one input. -/
def fnExactSameLabelsWrong : ChangeSpec := { name := "fnExactSameLabels", fn := fun _ => fun
  | [d1, d2] => { results := [.lit (.bool false)], args := [d1, d2] }
  | _ => none }
def FnExactSameLabelsWrongFalsely : Prop := fnExactSameLabelsRow.holds Try.pinned (OpenSpec.ofChange fnExactSameLabelsWrong)

/- THE SECOND FORM. 'bulk': how many values and letters a reading holds, each counted each time it is reached (what is shared counts as often as it is met; a slice's spare places count too). A statement '..UptoSaid' is the law's where the arguments, and the package variables that the reading takes, are together of bulk at most 1048576: NARROWER than '..Said'. Prove '..Said' where nothing that the law and all that it calls make is longer than what came in: it says more and counts as full. Else prove '..UptoSaid'. A law counts once. -/
mutual
def uptoBulk {H : Type} : DataW H → Nat
  | .lit (.string bytes) => bytes.length + 1
  | .lit _ => 1
  | .nil => 1
  | .ptr d => uptoBulk d + 1
  | .slice elems spare => uptoBulkAll elems + uptoBulkAll spare + 1
  | .agg parts => uptoBulkAll parts + 1
  | .iface _ d => uptoBulk d + 1
  | .map entries => uptoBulkEntries entries + 1
  | .held _ => 1
def uptoBulkAll {H : Type} : List (DataW H) → Nat
  | [] => 0
  | d :: r => uptoBulk d + uptoBulkAll r
def uptoBulkEntries {H : Type} : List (Lit × DataW H) → Nat
  | [] => 0
  | x :: r => uptoBulkEntry x + uptoBulkEntries r
def uptoBulkEntry {H : Type} : Lit × DataW H → Nat
  | (.string bytes, d) => bytes.length + uptoBulk d + 1
  | (_, d) => uptoBulk d + 1
 end
def uptoSmall : (H : Type) → List (DataW H) → Bool := fun _ ds => decide (uptoBulkAll ds ≤ 1048576)
def OpenSpec.upto (s : _root_.Go.ChangeSpec) : _root_.Go.OpenSpec := { _root_.Go.OpenSpec.ofChange s with cond := some uptoSmall }

/-- 'laws.FnExactNameOk', WHERE WHAT IT READS IS OF BULK AT MOST 1048576: true; the input reads as it did. -/
def fnExactNameOkUptoRow : OpenClaim := { program := "ytfblkmldonommaa", sum := "d9e69cddbd23a70332421bb4edb2b054f37aec3d6e277b56a71496588e36d85b", func := "loop.example/g00968/laws.FnExactNameOk", spec := "fnExactNameOk", apart := false, narrowed := true }
def FnExactNameOkUptoSaid : Prop := fnExactNameOkUptoRow.holds Try.pinned (OpenSpec.upto fnExactNameOkSpec)

/-- 'laws.FnExactLabelValueOk', WHERE WHAT IT READS IS OF BULK AT MOST 1048576: true; the input reads as it did. -/
def fnExactLabelValueOkUptoRow : OpenClaim := { program := "ytfblkmldonommaa", sum := "d9e69cddbd23a70332421bb4edb2b054f37aec3d6e277b56a71496588e36d85b", func := "loop.example/g00968/laws.FnExactLabelValueOk", spec := "fnExactLabelValueOk", inPlace := ["internal/bytealg.IndexByteString"], unfollowed := true, recurses := true, apart := false, narrowed := true }
def FnExactLabelValueOkUptoSaid : Prop := fnExactLabelValueOkUptoRow.holds Try.pinned (OpenSpec.upto fnExactLabelValueOkSpec)

/-- 'laws.FnExactLabelKeyOk', WHERE WHAT IT READS IS OF BULK AT MOST 1048576: true; the input reads as it did. -/
def fnExactLabelKeyOkUptoRow : OpenClaim := { program := "ytfblkmldonommaa", sum := "d9e69cddbd23a70332421bb4edb2b054f37aec3d6e277b56a71496588e36d85b", func := "loop.example/g00968/laws.FnExactLabelKeyOk", spec := "fnExactLabelKeyOk", inPlace := ["internal/bytealg.IndexByteString"], unfollowed := true, recurses := true, apart := false, narrowed := true }
def FnExactLabelKeyOkUptoSaid : Prop := fnExactLabelKeyOkUptoRow.holds Try.pinned (OpenSpec.upto fnExactLabelKeyOkSpec)

/-- 'laws.FnExactLabelAt', WHERE WHAT IT READS IS OF BULK AT MOST 1048576: true; the input reads as it did. -/
def fnExactLabelAtUptoRow : OpenClaim := { program := "ytfblkmldonommaa", sum := "d9e69cddbd23a70332421bb4edb2b054f37aec3d6e277b56a71496588e36d85b", func := "loop.example/g00968/laws.FnExactLabelAt", spec := "fnExactLabelAt", apart := false, narrowed := true }
def FnExactLabelAtUptoSaid : Prop := fnExactLabelAtUptoRow.holds Try.pinned (OpenSpec.upto fnExactLabelAtSpec)

/-- 'laws.FnExactSameLabels', WHERE WHAT IT READS IS OF BULK AT MOST 1048576: true; the input reads as it did. -/
def fnExactSameLabelsUptoRow : OpenClaim := { program := "ytfblkmldonommaa", sum := "d9e69cddbd23a70332421bb4edb2b054f37aec3d6e277b56a71496588e36d85b", func := "loop.example/g00968/laws.FnExactSameLabels", spec := "fnExactSameLabels", apart := false, narrowed := true }
def FnExactSameLabelsUptoSaid : Prop := fnExactSameLabelsUptoRow.holds Try.pinned (OpenSpec.upto fnExactSameLabelsSpec)

end Rows
end Go.Proofs.Ytfblkmldonommaa
