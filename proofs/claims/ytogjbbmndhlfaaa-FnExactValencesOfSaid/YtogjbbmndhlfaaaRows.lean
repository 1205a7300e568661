/-
  No cell of these rows narrows 'for every input' (looked for: loops, veiled, ifaces, maps, wideKeys, modest, calm, conditions, laid).
  DERIVED. THE GIVEN ROWS OF THIS SEAT. 11 by the template 'for every input the law returns true; each argument reads behind the call as it read before'; 0 by the template 'total and deterministic' (their statements: YtogjbbmndhlfaaaTotals.lean).
  GIVEN WITH THE SEED: the statements are not yours to turn. If you find one false, say at which input.
  Laid BY PROGRAM, IN A SANDBOX (cutbox-rows.mjs): the forced cells as the released guide's own fill.sh prints them over the translation 62912624ea0d83c3… (all of the seat's roots in one cut). By AI agents, Wed Nov 11 2026. No macro, syntax, notation, axiom, sorry.
-/
import Derived.Test.YtogjbbmndhlfaaaChecked
import GoSem.Claim
import GoSem.ClaimJoined
import GoSem.ClaimMapViews
import Derived.JoinedTies
import Derived.KernelRfl
namespace Go.Proofs.Ytogjbbmndhlfaaa
/- THE CELL 'sum', in the pinned program and in every row, IS THE sha256 OF THE DUMP (.gsa) THAT YtogjbbmndhlfaaaProg.lean LOADS. Nothing in Lean hashes anything: it is a label: what it is worth is what the hold of that sum in a sandbox is worth. -/
noncomputable def Try.pinned : Pinned := { name := "ytogjbbmndhlfaaa", sum := "62912624ea0d83c31447c6be1312a4652b1ec63aa0f6273bd488bd8620f1f330", checked := Try.checked }
namespace Rows
def none {H : Type} : Left H := { results := [], args := [] }

/-- 'laws.FnExactPossibleIntersections': WHATEVER THE INPUT: true; the input reads as it did. -/
def fnExactPossibleIntersectionsSpec : ChangeSpec := { name := "fnExactPossibleIntersections", fn := fun _ => fun
  | [d1, d2, d3] => { results := [.lit (.bool true)], args := [d1, d2, d3] }
  | _ => none }
def fnExactPossibleIntersectionsRow : OpenClaim := { program := "ytogjbbmndhlfaaa", sum := "62912624ea0d83c31447c6be1312a4652b1ec63aa0f6273bd488bd8620f1f330", func := "loop.example/g01140/laws.FnExactPossibleIntersections", spec := "fnExactPossibleIntersections", apart := false }
def FnExactPossibleIntersectionsSaid : Prop := fnExactPossibleIntersectionsRow.holds Try.pinned (OpenSpec.ofChange fnExactPossibleIntersectionsSpec)

/-- ITS FALSE NEIGHBOUR: 'it returns false'. Refute it at one input. -/
def fnExactPossibleIntersectionsWrong : ChangeSpec := { name := "fnExactPossibleIntersections", fn := fun _ => fun
  | [d1, d2, d3] => { results := [.lit (.bool false)], args := [d1, d2, d3] }
  | _ => none }
def FnExactPossibleIntersectionsWrongFalsely : Prop := fnExactPossibleIntersectionsRow.holds Try.pinned (OpenSpec.ofChange fnExactPossibleIntersectionsWrong)

/-- 'laws.FnExactPolarNumber': WHATEVER THE INPUT: true; the input reads as it did. -/
def fnExactPolarNumberSpec : ChangeSpec := { name := "fnExactPolarNumber", fn := fun _ => fun
  | [d] => { results := [.lit (.bool true)], args := [d] }
  | _ => none }
def fnExactPolarNumberRow : OpenClaim := { program := "ytogjbbmndhlfaaa", sum := "62912624ea0d83c31447c6be1312a4652b1ec63aa0f6273bd488bd8620f1f330", func := "loop.example/g01140/laws.FnExactPolarNumber", spec := "fnExactPolarNumber", apart := false }
def FnExactPolarNumberSaid : Prop := fnExactPolarNumberRow.holds Try.pinned (OpenSpec.ofChange fnExactPolarNumberSpec)

/-- ITS FALSE NEIGHBOUR: 'it returns false'. Refute it at one input. -/
def fnExactPolarNumberWrong : ChangeSpec := { name := "fnExactPolarNumber", fn := fun _ => fun
  | [d] => { results := [.lit (.bool false)], args := [d] }
  | _ => none }
def FnExactPolarNumberWrongFalsely : Prop := fnExactPolarNumberRow.holds Try.pinned (OpenSpec.ofChange fnExactPolarNumberWrong)

/-- 'laws.FnExactPartOfCurve': WHATEVER THE INPUT: true; the input reads as it did. -/
def fnExactPartOfCurveSpec : ChangeSpec := { name := "fnExactPartOfCurve", fn := fun _ => fun
  | [d1, d2] => { results := [.lit (.bool true)], args := [d1, d2] }
  | _ => none }
def fnExactPartOfCurveRow : OpenClaim := { program := "ytogjbbmndhlfaaa", sum := "62912624ea0d83c31447c6be1312a4652b1ec63aa0f6273bd488bd8620f1f330", func := "loop.example/g01140/laws.FnExactPartOfCurve", spec := "fnExactPartOfCurve", apart := false }
def FnExactPartOfCurveSaid : Prop := fnExactPartOfCurveRow.holds Try.pinned (OpenSpec.ofChange fnExactPartOfCurveSpec)

/-- ITS FALSE NEIGHBOUR: 'it returns false'. Refute it at one input. -/
def fnExactPartOfCurveWrong : ChangeSpec := { name := "fnExactPartOfCurve", fn := fun _ => fun
  | [d1, d2] => { results := [.lit (.bool false)], args := [d1, d2] }
  | _ => none }
def FnExactPartOfCurveWrongFalsely : Prop := fnExactPartOfCurveRow.holds Try.pinned (OpenSpec.ofChange fnExactPartOfCurveWrong)

/-- 'laws.FnExactCurveCluster': WHATEVER THE INPUT: true; the input reads as it did. -/
def fnExactCurveClusterSpec : ChangeSpec := { name := "fnExactCurveCluster", fn := fun _ => fun
  | [d] => { results := [.lit (.bool true)], args := [d] }
  | _ => none }
def fnExactCurveClusterRow : OpenClaim := { program := "ytogjbbmndhlfaaa", sum := "62912624ea0d83c31447c6be1312a4652b1ec63aa0f6273bd488bd8620f1f330", func := "loop.example/g01140/laws.FnExactCurveCluster", spec := "fnExactCurveCluster", apart := false }
def FnExactCurveClusterSaid : Prop := fnExactCurveClusterRow.holds Try.pinned (OpenSpec.ofChange fnExactCurveClusterSpec)

/-- ITS FALSE NEIGHBOUR: 'it returns false'. Refute it at one input. -/
def fnExactCurveClusterWrong : ChangeSpec := { name := "fnExactCurveCluster", fn := fun _ => fun
  | [d] => { results := [.lit (.bool false)], args := [d] }
  | _ => none }
def FnExactCurveClusterWrongFalsely : Prop := fnExactCurveClusterRow.holds Try.pinned (OpenSpec.ofChange fnExactCurveClusterWrong)

/-- 'laws.FnExactLeavingPoints': WHATEVER THE INPUT: true; the input reads as it did. -/
def fnExactLeavingPointsSpec : ChangeSpec := { name := "fnExactLeavingPoints", fn := fun _ => fun
  | [d] => { results := [.lit (.bool true)], args := [d] }
  | _ => none }
def fnExactLeavingPointsRow : OpenClaim := { program := "ytogjbbmndhlfaaa", sum := "62912624ea0d83c31447c6be1312a4652b1ec63aa0f6273bd488bd8620f1f330", func := "loop.example/g01140/laws.FnExactLeavingPoints", spec := "fnExactLeavingPoints", apart := false }
def FnExactLeavingPointsSaid : Prop := fnExactLeavingPointsRow.holds Try.pinned (OpenSpec.ofChange fnExactLeavingPointsSpec)

/-- ITS FALSE NEIGHBOUR: 'it returns false'. Refute it at one input. -/
def fnExactLeavingPointsWrong : ChangeSpec := { name := "fnExactLeavingPoints", fn := fun _ => fun
  | [d] => { results := [.lit (.bool false)], args := [d] }
  | _ => none }
def FnExactLeavingPointsWrongFalsely : Prop := fnExactLeavingPointsRow.holds Try.pinned (OpenSpec.ofChange fnExactLeavingPointsWrong)

/-- 'laws.FnExactCurveEquality': WHATEVER THE INPUT: true; the input reads as it did. -/
def fnExactCurveEqualitySpec : ChangeSpec := { name := "fnExactCurveEquality", fn := fun _ => fun
  | [d1, d2] => { results := [.lit (.bool true)], args := [d1, d2] }
  | _ => none }
def fnExactCurveEqualityRow : OpenClaim := { program := "ytogjbbmndhlfaaa", sum := "62912624ea0d83c31447c6be1312a4652b1ec63aa0f6273bd488bd8620f1f330", func := "loop.example/g01140/laws.FnExactCurveEquality", spec := "fnExactCurveEquality", recurses := true, apart := false }
def FnExactCurveEqualitySaid : Prop := fnExactCurveEqualityRow.holds Try.pinned (OpenSpec.ofChange fnExactCurveEqualitySpec)

/-- ITS FALSE NEIGHBOUR: 'it returns false'. Refute it at one input. -/
def fnExactCurveEqualityWrong : ChangeSpec := { name := "fnExactCurveEquality", fn := fun _ => fun
  | [d1, d2] => { results := [.lit (.bool false)], args := [d1, d2] }
  | _ => none }
def FnExactCurveEqualityWrongFalsely : Prop := fnExactCurveEqualityRow.holds Try.pinned (OpenSpec.ofChange fnExactCurveEqualityWrong)

/-- 'laws.FnExactLeastCurve': WHATEVER THE INPUT: true; the input reads as it did. -/
def fnExactLeastCurveSpec : ChangeSpec := { name := "fnExactLeastCurve", fn := fun _ => fun
  | [d] => { results := [.lit (.bool true)], args := [d] }
  | _ => none }
def fnExactLeastCurveRow : OpenClaim := { program := "ytogjbbmndhlfaaa", sum := "62912624ea0d83c31447c6be1312a4652b1ec63aa0f6273bd488bd8620f1f330", func := "loop.example/g01140/laws.FnExactLeastCurve", spec := "fnExactLeastCurve", recurses := true, apart := false }
def FnExactLeastCurveSaid : Prop := fnExactLeastCurveRow.holds Try.pinned (OpenSpec.ofChange fnExactLeastCurveSpec)

/-- ITS FALSE NEIGHBOUR: 'it returns false'. Refute it at one input. -/
def fnExactLeastCurveWrong : ChangeSpec := { name := "fnExactLeastCurve", fn := fun _ => fun
  | [d] => { results := [.lit (.bool false)], args := [d] }
  | _ => none }
def FnExactLeastCurveWrongFalsely : Prop := fnExactLeastCurveRow.holds Try.pinned (OpenSpec.ofChange fnExactLeastCurveWrong)

/-- 'laws.FnExactRenumberCurve': WHATEVER THE INPUT: true; the input reads as it did. -/
def fnExactRenumberCurveSpec : ChangeSpec := { name := "fnExactRenumberCurve", fn := fun _ => fun
  | [d1, d2] => { results := [.lit (.bool true)], args := [d1, d2] }
  | _ => none }
def fnExactRenumberCurveRow : OpenClaim := { program := "ytogjbbmndhlfaaa", sum := "62912624ea0d83c31447c6be1312a4652b1ec63aa0f6273bd488bd8620f1f330", func := "loop.example/g01140/laws.FnExactRenumberCurve", spec := "fnExactRenumberCurve", recurses := true, apart := false }
def FnExactRenumberCurveSaid : Prop := fnExactRenumberCurveRow.holds Try.pinned (OpenSpec.ofChange fnExactRenumberCurveSpec)

/-- ITS FALSE NEIGHBOUR: 'it returns false'. Refute it at one input. -/
def fnExactRenumberCurveWrong : ChangeSpec := { name := "fnExactRenumberCurve", fn := fun _ => fun
  | [d1, d2] => { results := [.lit (.bool false)], args := [d1, d2] }
  | _ => none }
def FnExactRenumberCurveWrongFalsely : Prop := fnExactRenumberCurveRow.holds Try.pinned (OpenSpec.ofChange fnExactRenumberCurveWrong)

/-- 'laws.FnExactValencesOf': WHATEVER THE INPUT: true; the input reads as it did. -/
def fnExactValencesOfSpec : ChangeSpec := { name := "fnExactValencesOf", fn := fun _ => fun
  | [d] => { results := [.lit (.bool true)], args := [d] }
  | _ => none }
def fnExactValencesOfRow : OpenClaim := { program := "ytogjbbmndhlfaaa", sum := "62912624ea0d83c31447c6be1312a4652b1ec63aa0f6273bd488bd8620f1f330", func := "loop.example/g01140/laws.FnExactValencesOf", spec := "fnExactValencesOf", recurses := true, apart := false }
def FnExactValencesOfSaid : Prop := fnExactValencesOfRow.holds Try.pinned (OpenSpec.ofChange fnExactValencesOfSpec)

/-- ITS FALSE NEIGHBOUR: 'it returns false'. Refute it at one input. -/
def fnExactValencesOfWrong : ChangeSpec := { name := "fnExactValencesOf", fn := fun _ => fun
  | [d] => { results := [.lit (.bool false)], args := [d] }
  | _ => none }
def FnExactValencesOfWrongFalsely : Prop := fnExactValencesOfRow.holds Try.pinned (OpenSpec.ofChange fnExactValencesOfWrong)

/-- 'laws.FnExactComponentLabels': WHATEVER THE INPUT: true; the input reads as it did. -/
def fnExactComponentLabelsSpec : ChangeSpec := { name := "fnExactComponentLabels", fn := fun _ => fun
  | [d] => { results := [.lit (.bool true)], args := [d] }
  | _ => none }
def fnExactComponentLabelsRow : OpenClaim := { program := "ytogjbbmndhlfaaa", sum := "62912624ea0d83c31447c6be1312a4652b1ec63aa0f6273bd488bd8620f1f330", func := "loop.example/g01140/laws.FnExactComponentLabels", spec := "fnExactComponentLabels", apart := false }
def FnExactComponentLabelsSaid : Prop := fnExactComponentLabelsRow.holds Try.pinned (OpenSpec.ofChange fnExactComponentLabelsSpec)

/-- ITS FALSE NEIGHBOUR: 'it returns false'. Refute it at one input. -/
def fnExactComponentLabelsWrong : ChangeSpec := { name := "fnExactComponentLabels", fn := fun _ => fun
  | [d] => { results := [.lit (.bool false)], args := [d] }
  | _ => none }
def FnExactComponentLabelsWrongFalsely : Prop := fnExactComponentLabelsRow.holds Try.pinned (OpenSpec.ofChange fnExactComponentLabelsWrong)

/-- 'laws.FnExactPathBetween': WHATEVER THE INPUT: true; the input reads as it did. -/
def fnExactPathBetweenSpec : ChangeSpec := { name := "fnExactPathBetween", fn := fun _ => fun
  | [d1, d2, d3] => { results := [.lit (.bool true)], args := [d1, d2, d3] }
  | _ => none }
def fnExactPathBetweenRow : OpenClaim := { program := "ytogjbbmndhlfaaa", sum := "62912624ea0d83c31447c6be1312a4652b1ec63aa0f6273bd488bd8620f1f330", func := "loop.example/g01140/laws.FnExactPathBetween", spec := "fnExactPathBetween", recurses := true, apart := false }
def FnExactPathBetweenSaid : Prop := fnExactPathBetweenRow.holds Try.pinned (OpenSpec.ofChange fnExactPathBetweenSpec)

/-- ITS FALSE NEIGHBOUR: 'it returns false'. Refute it at one input. -/
def fnExactPathBetweenWrong : ChangeSpec := { name := "fnExactPathBetween", fn := fun _ => fun
  | [d1, d2, d3] => { results := [.lit (.bool false)], args := [d1, d2, d3] }
  | _ => none }
def FnExactPathBetweenWrongFalsely : Prop := fnExactPathBetweenRow.holds Try.pinned (OpenSpec.ofChange fnExactPathBetweenWrong)

/- THE SECOND FORM. 'bulk': how many values and letters a reading holds, each counted each time it is reached (what is shared counts as often as it is met; a slice's spare places count too). A statement '..UptoSaid' is the law's where the arguments, and the package variables that the reading takes, are together of bulk at most 1048576: NARROWER than '..Said'. Prove '..Said' where nothing that the law and all that it calls make is longer than what came in: it says more and counts as full. Else prove '..UptoSaid'. A law counts once. -/
mutual
def uptoBulk {H : Type} : DataW H → Nat
  | .lit (.string bytes) => bytes.length + 1
  | .lit _ => 1
  | .nil => 1
  | .ptr d => uptoBulk d + 1
  | .slice elems spare => uptoBulkAll elems + uptoBulkAll spare + 1
  | .agg parts => uptoBulkAll parts + 1
  | .iface _ d => uptoBulk d + 1
  | .map entries => uptoBulkEntries entries + 1
  | .held _ => 1
def uptoBulkAll {H : Type} : List (DataW H) → Nat
  | [] => 0
  | d :: r => uptoBulk d + uptoBulkAll r
def uptoBulkEntries {H : Type} : List (Lit × DataW H) → Nat
  | [] => 0
  | x :: r => uptoBulkEntry x + uptoBulkEntries r
def uptoBulkEntry {H : Type} : Lit × DataW H → Nat
  | (.string bytes, d) => bytes.length + uptoBulk d + 1
  | (_, d) => uptoBulk d + 1
 end
def uptoSmall : (H : Type) → List (DataW H) → Bool := fun _ ds => decide (uptoBulkAll ds ≤ 1048576)
def OpenSpec.upto (s : _root_.Go.ChangeSpec) : _root_.Go.OpenSpec := { _root_.Go.OpenSpec.ofChange s with cond := some uptoSmall }

/-- 'laws.FnExactPossibleIntersections', WHERE WHAT IT READS IS OF BULK AT MOST 1048576: true; the input reads as it did. -/
def fnExactPossibleIntersectionsUptoRow : OpenClaim := { program := "ytogjbbmndhlfaaa", sum := "62912624ea0d83c31447c6be1312a4652b1ec63aa0f6273bd488bd8620f1f330", func := "loop.example/g01140/laws.FnExactPossibleIntersections", spec := "fnExactPossibleIntersections", apart := false, narrowed := true }
def FnExactPossibleIntersectionsUptoSaid : Prop := fnExactPossibleIntersectionsUptoRow.holds Try.pinned (OpenSpec.upto fnExactPossibleIntersectionsSpec)

/-- 'laws.FnExactPolarNumber', WHERE WHAT IT READS IS OF BULK AT MOST 1048576: true; the input reads as it did. -/
def fnExactPolarNumberUptoRow : OpenClaim := { program := "ytogjbbmndhlfaaa", sum := "62912624ea0d83c31447c6be1312a4652b1ec63aa0f6273bd488bd8620f1f330", func := "loop.example/g01140/laws.FnExactPolarNumber", spec := "fnExactPolarNumber", apart := false, narrowed := true }
def FnExactPolarNumberUptoSaid : Prop := fnExactPolarNumberUptoRow.holds Try.pinned (OpenSpec.upto fnExactPolarNumberSpec)

/-- 'laws.FnExactPartOfCurve', WHERE WHAT IT READS IS OF BULK AT MOST 1048576: true; the input reads as it did. -/
def fnExactPartOfCurveUptoRow : OpenClaim := { program := "ytogjbbmndhlfaaa", sum := "62912624ea0d83c31447c6be1312a4652b1ec63aa0f6273bd488bd8620f1f330", func := "loop.example/g01140/laws.FnExactPartOfCurve", spec := "fnExactPartOfCurve", apart := false, narrowed := true }
def FnExactPartOfCurveUptoSaid : Prop := fnExactPartOfCurveUptoRow.holds Try.pinned (OpenSpec.upto fnExactPartOfCurveSpec)

/-- 'laws.FnExactCurveCluster', WHERE WHAT IT READS IS OF BULK AT MOST 1048576: true; the input reads as it did. -/
def fnExactCurveClusterUptoRow : OpenClaim := { program := "ytogjbbmndhlfaaa", sum := "62912624ea0d83c31447c6be1312a4652b1ec63aa0f6273bd488bd8620f1f330", func := "loop.example/g01140/laws.FnExactCurveCluster", spec := "fnExactCurveCluster", apart := false, narrowed := true }
def FnExactCurveClusterUptoSaid : Prop := fnExactCurveClusterUptoRow.holds Try.pinned (OpenSpec.upto fnExactCurveClusterSpec)

/-- 'laws.FnExactLeavingPoints', WHERE WHAT IT READS IS OF BULK AT MOST 1048576: true; the input reads as it did. -/
def fnExactLeavingPointsUptoRow : OpenClaim := { program := "ytogjbbmndhlfaaa", sum := "62912624ea0d83c31447c6be1312a4652b1ec63aa0f6273bd488bd8620f1f330", func := "loop.example/g01140/laws.FnExactLeavingPoints", spec := "fnExactLeavingPoints", apart := false, narrowed := true }
def FnExactLeavingPointsUptoSaid : Prop := fnExactLeavingPointsUptoRow.holds Try.pinned (OpenSpec.upto fnExactLeavingPointsSpec)

/-- 'laws.FnExactCurveEquality', WHERE WHAT IT READS IS OF BULK AT MOST 1048576: true; the input reads as it did. -/
def fnExactCurveEqualityUptoRow : OpenClaim := { program := "ytogjbbmndhlfaaa", sum := "62912624ea0d83c31447c6be1312a4652b1ec63aa0f6273bd488bd8620f1f330", func := "loop.example/g01140/laws.FnExactCurveEquality", spec := "fnExactCurveEquality", recurses := true, apart := false, narrowed := true }
def FnExactCurveEqualityUptoSaid : Prop := fnExactCurveEqualityUptoRow.holds Try.pinned (OpenSpec.upto fnExactCurveEqualitySpec)

/-- 'laws.FnExactLeastCurve', WHERE WHAT IT READS IS OF BULK AT MOST 1048576: true; the input reads as it did. -/
def fnExactLeastCurveUptoRow : OpenClaim := { program := "ytogjbbmndhlfaaa", sum := "62912624ea0d83c31447c6be1312a4652b1ec63aa0f6273bd488bd8620f1f330", func := "loop.example/g01140/laws.FnExactLeastCurve", spec := "fnExactLeastCurve", recurses := true, apart := false, narrowed := true }
def FnExactLeastCurveUptoSaid : Prop := fnExactLeastCurveUptoRow.holds Try.pinned (OpenSpec.upto fnExactLeastCurveSpec)

/-- 'laws.FnExactRenumberCurve', WHERE WHAT IT READS IS OF BULK AT MOST 1048576: true; the input reads as it did. -/
def fnExactRenumberCurveUptoRow : OpenClaim := { program := "ytogjbbmndhlfaaa", sum := "62912624ea0d83c31447c6be1312a4652b1ec63aa0f6273bd488bd8620f1f330", func := "loop.example/g01140/laws.FnExactRenumberCurve", spec := "fnExactRenumberCurve", recurses := true, apart := false, narrowed := true }
def FnExactRenumberCurveUptoSaid : Prop := fnExactRenumberCurveUptoRow.holds Try.pinned (OpenSpec.upto fnExactRenumberCurveSpec)

/-- 'laws.FnExactValencesOf', WHERE WHAT IT READS IS OF BULK AT MOST 1048576: true; the input reads as it did. -/
def fnExactValencesOfUptoRow : OpenClaim := { program := "ytogjbbmndhlfaaa", sum := "62912624ea0d83c31447c6be1312a4652b1ec63aa0f6273bd488bd8620f1f330", func := "loop.example/g01140/laws.FnExactValencesOf", spec := "fnExactValencesOf", recurses := true, apart := false, narrowed := true }
def FnExactValencesOfUptoSaid : Prop := fnExactValencesOfUptoRow.holds Try.pinned (OpenSpec.upto fnExactValencesOfSpec)

/-- 'laws.FnExactComponentLabels', WHERE WHAT IT READS IS OF BULK AT MOST 1048576: true; the input reads as it did. -/
def fnExactComponentLabelsUptoRow : OpenClaim := { program := "ytogjbbmndhlfaaa", sum := "62912624ea0d83c31447c6be1312a4652b1ec63aa0f6273bd488bd8620f1f330", func := "loop.example/g01140/laws.FnExactComponentLabels", spec := "fnExactComponentLabels", apart := false, narrowed := true }
def FnExactComponentLabelsUptoSaid : Prop := fnExactComponentLabelsUptoRow.holds Try.pinned (OpenSpec.upto fnExactComponentLabelsSpec)

/-- 'laws.FnExactPathBetween', WHERE WHAT IT READS IS OF BULK AT MOST 1048576: true; the input reads as it did. -/
def fnExactPathBetweenUptoRow : OpenClaim := { program := "ytogjbbmndhlfaaa", sum := "62912624ea0d83c31447c6be1312a4652b1ec63aa0f6273bd488bd8620f1f330", func := "loop.example/g01140/laws.FnExactPathBetween", spec := "fnExactPathBetween", recurses := true, apart := false, narrowed := true }
def FnExactPathBetweenUptoSaid : Prop := fnExactPathBetweenUptoRow.holds Try.pinned (OpenSpec.upto fnExactPathBetweenSpec)

end Rows
end Go.Proofs.Ytogjbbmndhlfaaa
