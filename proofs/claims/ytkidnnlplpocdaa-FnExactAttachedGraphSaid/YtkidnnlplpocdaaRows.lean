/-
  No cell of these rows narrows 'for every input' (looked for: loops, veiled, ifaces, maps, wideKeys, modest, calm, conditions, laid).
  DERIVED. THE GIVEN ROWS OF THIS SEAT. 12 by the template 'for every input the law returns true; each argument reads behind the call as it read before'; 0 by the template 'total and deterministic' (their statements: YtkidnnlplpocdaaTotals.lean).
  GIVEN WITH THE SEED: the statements are not yours to turn. If you find one false, say at which input.
  Laid BY PROGRAM, IN A SANDBOX (cutbox-rows.mjs): the forced cells as the released guide's own fill.sh prints them over the translation 840ec0da92c4a896… (all of the seat's roots in one cut). By AI agents, Wed Nov 11 2026. No macro, syntax, notation, axiom, sorry.
-/
import Derived.Test.YtkidnnlplpocdaaChecked
import GoSem.Claim
import GoSem.ClaimJoined
import GoSem.ClaimMapViews
import Derived.JoinedTies
import Derived.KernelRfl
namespace Go.Proofs.Ytkidnnlplpocdaa
/- THE CELL 'sum', in the pinned program and in every row, IS THE sha256 OF THE DUMP (.gsa) THAT YtkidnnlplpocdaaProg.lean LOADS. Nothing in Lean hashes anything: it is a label: what it is worth is what the hold of that sum in a sandbox is worth. -/
noncomputable def Try.pinned : Pinned := { name := "ytkidnnlplpocdaa", sum := "840ec0da92c4a896c514ab9d76a56253f09f9d283363a95aa31d004e7343b7d2", checked := Try.checked }
namespace Rows
def none {H : Type} : Left H := { results := [], args := [] }

/-- 'laws.FnExactLeavingPoints': WHATEVER THE INPUT: true; the input reads as it did. -/
def fnExactLeavingPointsSpec : ChangeSpec := { name := "fnExactLeavingPoints", fn := fun _ => fun
  | [d] => { results := [.lit (.bool true)], args := [d] }
  | _ => none }
def fnExactLeavingPointsRow : OpenClaim := { program := "ytkidnnlplpocdaa", sum := "840ec0da92c4a896c514ab9d76a56253f09f9d283363a95aa31d004e7343b7d2", func := "loop.example/g01140/laws.FnExactLeavingPoints", spec := "fnExactLeavingPoints", apart := false }
def FnExactLeavingPointsSaid : Prop := fnExactLeavingPointsRow.holds Try.pinned (OpenSpec.ofChange fnExactLeavingPointsSpec)

/-- ITS FALSE NEIGHBOUR: 'it returns false'. Refute it at one input. -/
def fnExactLeavingPointsWrong : ChangeSpec := { name := "fnExactLeavingPoints", fn := fun _ => fun
  | [d] => { results := [.lit (.bool false)], args := [d] }
  | _ => none }
def FnExactLeavingPointsWrongFalsely : Prop := fnExactLeavingPointsRow.holds Try.pinned (OpenSpec.ofChange fnExactLeavingPointsWrong)

/-- 'laws.FnExactCurveCluster': WHATEVER THE INPUT: true; the input reads as it did. -/
def fnExactCurveClusterSpec : ChangeSpec := { name := "fnExactCurveCluster", fn := fun _ => fun
  | [d] => { results := [.lit (.bool true)], args := [d] }
  | _ => none }
def fnExactCurveClusterRow : OpenClaim := { program := "ytkidnnlplpocdaa", sum := "840ec0da92c4a896c514ab9d76a56253f09f9d283363a95aa31d004e7343b7d2", func := "loop.example/g01140/laws.FnExactCurveCluster", spec := "fnExactCurveCluster", apart := false }
def FnExactCurveClusterSaid : Prop := fnExactCurveClusterRow.holds Try.pinned (OpenSpec.ofChange fnExactCurveClusterSpec)

/-- ITS FALSE NEIGHBOUR: 'it returns false'. Refute it at one input. -/
def fnExactCurveClusterWrong : ChangeSpec := { name := "fnExactCurveCluster", fn := fun _ => fun
  | [d] => { results := [.lit (.bool false)], args := [d] }
  | _ => none }
def FnExactCurveClusterWrongFalsely : Prop := fnExactCurveClusterRow.holds Try.pinned (OpenSpec.ofChange fnExactCurveClusterWrong)

/-- 'laws.FnExactGraphOfCluster': WHATEVER THE INPUT: true; the input reads as it did. -/
def fnExactGraphOfClusterSpec : ChangeSpec := { name := "fnExactGraphOfCluster", fn := fun _ => fun
  | [d] => { results := [.lit (.bool true)], args := [d] }
  | _ => none }
def fnExactGraphOfClusterRow : OpenClaim := { program := "ytkidnnlplpocdaa", sum := "840ec0da92c4a896c514ab9d76a56253f09f9d283363a95aa31d004e7343b7d2", func := "loop.example/g01140/laws.FnExactGraphOfCluster", spec := "fnExactGraphOfCluster", apart := false }
def FnExactGraphOfClusterSaid : Prop := fnExactGraphOfClusterRow.holds Try.pinned (OpenSpec.ofChange fnExactGraphOfClusterSpec)

/-- ITS FALSE NEIGHBOUR: 'it returns false'. Refute it at one input. -/
def fnExactGraphOfClusterWrong : ChangeSpec := { name := "fnExactGraphOfCluster", fn := fun _ => fun
  | [d] => { results := [.lit (.bool false)], args := [d] }
  | _ => none }
def FnExactGraphOfClusterWrongFalsely : Prop := fnExactGraphOfClusterRow.holds Try.pinned (OpenSpec.ofChange fnExactGraphOfClusterWrong)

/-- 'laws.FnExactEulerNumbers': WHATEVER THE INPUT: true; the input reads as it did. -/
def fnExactEulerNumbersSpec : ChangeSpec := { name := "fnExactEulerNumbers", fn := fun _ => fun
  | [d] => { results := [.lit (.bool true)], args := [d] }
  | _ => none }
def fnExactEulerNumbersRow : OpenClaim := { program := "ytkidnnlplpocdaa", sum := "840ec0da92c4a896c514ab9d76a56253f09f9d283363a95aa31d004e7343b7d2", func := "loop.example/g01140/laws.FnExactEulerNumbers", spec := "fnExactEulerNumbers", recurses := true, apart := false }
def FnExactEulerNumbersSaid : Prop := fnExactEulerNumbersRow.holds Try.pinned (OpenSpec.ofChange fnExactEulerNumbersSpec)

/-- ITS FALSE NEIGHBOUR: 'it returns false'. Refute it at one input. -/
def fnExactEulerNumbersWrong : ChangeSpec := { name := "fnExactEulerNumbers", fn := fun _ => fun
  | [d] => { results := [.lit (.bool false)], args := [d] }
  | _ => none }
def FnExactEulerNumbersWrongFalsely : Prop := fnExactEulerNumbersRow.holds Try.pinned (OpenSpec.ofChange fnExactEulerNumbersWrong)

/-- 'laws.FnExactDeadEndsOf': WHATEVER THE INPUT: true; the input reads as it did. -/
def fnExactDeadEndsOfSpec : ChangeSpec := { name := "fnExactDeadEndsOf", fn := fun _ => fun
  | [d] => { results := [.lit (.bool true)], args := [d] }
  | _ => none }
def fnExactDeadEndsOfRow : OpenClaim := { program := "ytkidnnlplpocdaa", sum := "840ec0da92c4a896c514ab9d76a56253f09f9d283363a95aa31d004e7343b7d2", func := "loop.example/g01140/laws.FnExactDeadEndsOf", spec := "fnExactDeadEndsOf", unfollowed := true, recurses := true, apart := false }
def FnExactDeadEndsOfSaid : Prop := fnExactDeadEndsOfRow.holds Try.pinned (OpenSpec.ofChange fnExactDeadEndsOfSpec)

/-- ITS FALSE NEIGHBOUR: 'it returns false'. Refute it at one input. -/
def fnExactDeadEndsOfWrong : ChangeSpec := { name := "fnExactDeadEndsOf", fn := fun _ => fun
  | [d] => { results := [.lit (.bool false)], args := [d] }
  | _ => none }
def FnExactDeadEndsOfWrongFalsely : Prop := fnExactDeadEndsOfRow.holds Try.pinned (OpenSpec.ofChange fnExactDeadEndsOfWrong)

/-- 'laws.FnExactRupturesOf': WHATEVER THE INPUT: true; the input reads as it did. -/
def fnExactRupturesOfSpec : ChangeSpec := { name := "fnExactRupturesOf", fn := fun _ => fun
  | [d] => { results := [.lit (.bool true)], args := [d] }
  | _ => none }
def fnExactRupturesOfRow : OpenClaim := { program := "ytkidnnlplpocdaa", sum := "840ec0da92c4a896c514ab9d76a56253f09f9d283363a95aa31d004e7343b7d2", func := "loop.example/g01140/laws.FnExactRupturesOf", spec := "fnExactRupturesOf", unfollowed := true, recurses := true, apart := false }
def FnExactRupturesOfSaid : Prop := fnExactRupturesOfRow.holds Try.pinned (OpenSpec.ofChange fnExactRupturesOfSpec)

/-- ITS FALSE NEIGHBOUR: 'it returns false'. Refute it at one input. -/
def fnExactRupturesOfWrong : ChangeSpec := { name := "fnExactRupturesOf", fn := fun _ => fun
  | [d] => { results := [.lit (.bool false)], args := [d] }
  | _ => none }
def FnExactRupturesOfWrongFalsely : Prop := fnExactRupturesOfRow.holds Try.pinned (OpenSpec.ofChange fnExactRupturesOfWrong)

/-- 'laws.FnExactCornersOf': WHATEVER THE INPUT: true; the input reads as it did. -/
def fnExactCornersOfSpec : ChangeSpec := { name := "fnExactCornersOf", fn := fun _ => fun
  | [d1, d2] => { results := [.lit (.bool true)], args := [d1, d2] }
  | _ => none }
def fnExactCornersOfRow : OpenClaim := { program := "ytkidnnlplpocdaa", sum := "840ec0da92c4a896c514ab9d76a56253f09f9d283363a95aa31d004e7343b7d2", func := "loop.example/g01140/laws.FnExactCornersOf", spec := "fnExactCornersOf", recurses := true, apart := false }
def FnExactCornersOfSaid : Prop := fnExactCornersOfRow.holds Try.pinned (OpenSpec.ofChange fnExactCornersOfSpec)

/-- ITS FALSE NEIGHBOUR: 'it returns false'. Refute it at one input. -/
def fnExactCornersOfWrong : ChangeSpec := { name := "fnExactCornersOf", fn := fun _ => fun
  | [d1, d2] => { results := [.lit (.bool false)], args := [d1, d2] }
  | _ => none }
def FnExactCornersOfWrongFalsely : Prop := fnExactCornersOfRow.holds Try.pinned (OpenSpec.ofChange fnExactCornersOfWrong)

/-- 'laws.FnExactAttachedGraph': WHATEVER THE INPUT: true; the input reads as it did. -/
def fnExactAttachedGraphSpec : ChangeSpec := { name := "fnExactAttachedGraph", fn := fun _ => fun
  | [d1, d2] => { results := [.lit (.bool true)], args := [d1, d2] }
  | _ => none }
def fnExactAttachedGraphRow : OpenClaim := { program := "ytkidnnlplpocdaa", sum := "840ec0da92c4a896c514ab9d76a56253f09f9d283363a95aa31d004e7343b7d2", func := "loop.example/g01140/laws.FnExactAttachedGraph", spec := "fnExactAttachedGraph", unfollowed := true, recurses := true, apart := false }
def FnExactAttachedGraphSaid : Prop := fnExactAttachedGraphRow.holds Try.pinned (OpenSpec.ofChange fnExactAttachedGraphSpec)

/-- ITS FALSE NEIGHBOUR: 'it returns false'. Refute it at one input. -/
def fnExactAttachedGraphWrong : ChangeSpec := { name := "fnExactAttachedGraph", fn := fun _ => fun
  | [d1, d2] => { results := [.lit (.bool false)], args := [d1, d2] }
  | _ => none }
def FnExactAttachedGraphWrongFalsely : Prop := fnExactAttachedGraphRow.holds Try.pinned (OpenSpec.ofChange fnExactAttachedGraphWrong)

/-- 'laws.FnExactCurveOfCluster': WHATEVER THE INPUT: true; the input reads as it did. -/
def fnExactCurveOfClusterSpec : ChangeSpec := { name := "fnExactCurveOfCluster", fn := fun _ => fun
  | [d] => { results := [.lit (.bool true)], args := [d] }
  | _ => none }
def fnExactCurveOfClusterRow : OpenClaim := { program := "ytkidnnlplpocdaa", sum := "840ec0da92c4a896c514ab9d76a56253f09f9d283363a95aa31d004e7343b7d2", func := "loop.example/g01140/laws.FnExactCurveOfCluster", spec := "fnExactCurveOfCluster", apart := false }
def FnExactCurveOfClusterSaid : Prop := fnExactCurveOfClusterRow.holds Try.pinned (OpenSpec.ofChange fnExactCurveOfClusterSpec)

/-- ITS FALSE NEIGHBOUR: 'it returns false'. Refute it at one input. -/
def fnExactCurveOfClusterWrong : ChangeSpec := { name := "fnExactCurveOfCluster", fn := fun _ => fun
  | [d] => { results := [.lit (.bool false)], args := [d] }
  | _ => none }
def FnExactCurveOfClusterWrongFalsely : Prop := fnExactCurveOfClusterRow.holds Try.pinned (OpenSpec.ofChange fnExactCurveOfClusterWrong)

/-- 'laws.FnExactPathBetween': WHATEVER THE INPUT: true; the input reads as it did. -/
def fnExactPathBetweenSpec : ChangeSpec := { name := "fnExactPathBetween", fn := fun _ => fun
  | [d1, d2, d3] => { results := [.lit (.bool true)], args := [d1, d2, d3] }
  | _ => none }
def fnExactPathBetweenRow : OpenClaim := { program := "ytkidnnlplpocdaa", sum := "840ec0da92c4a896c514ab9d76a56253f09f9d283363a95aa31d004e7343b7d2", func := "loop.example/g01140/laws.FnExactPathBetween", spec := "fnExactPathBetween", recurses := true, apart := false }
def FnExactPathBetweenSaid : Prop := fnExactPathBetweenRow.holds Try.pinned (OpenSpec.ofChange fnExactPathBetweenSpec)

/-- ITS FALSE NEIGHBOUR: 'it returns false'. Refute it at one input. -/
def fnExactPathBetweenWrong : ChangeSpec := { name := "fnExactPathBetween", fn := fun _ => fun
  | [d1, d2, d3] => { results := [.lit (.bool false)], args := [d1, d2, d3] }
  | _ => none }
def FnExactPathBetweenWrongFalsely : Prop := fnExactPathBetweenRow.holds Try.pinned (OpenSpec.ofChange fnExactPathBetweenWrong)

/-- 'laws.FnExactCurveEquality': WHATEVER THE INPUT: true; the input reads as it did. -/
def fnExactCurveEqualitySpec : ChangeSpec := { name := "fnExactCurveEquality", fn := fun _ => fun
  | [d1, d2] => { results := [.lit (.bool true)], args := [d1, d2] }
  | _ => none }
def fnExactCurveEqualityRow : OpenClaim := { program := "ytkidnnlplpocdaa", sum := "840ec0da92c4a896c514ab9d76a56253f09f9d283363a95aa31d004e7343b7d2", func := "loop.example/g01140/laws.FnExactCurveEquality", spec := "fnExactCurveEquality", recurses := true, apart := false }
def FnExactCurveEqualitySaid : Prop := fnExactCurveEqualityRow.holds Try.pinned (OpenSpec.ofChange fnExactCurveEqualitySpec)

/-- ITS FALSE NEIGHBOUR: 'it returns false'. Refute it at one input. -/
def fnExactCurveEqualityWrong : ChangeSpec := { name := "fnExactCurveEquality", fn := fun _ => fun
  | [d1, d2] => { results := [.lit (.bool false)], args := [d1, d2] }
  | _ => none }
def FnExactCurveEqualityWrongFalsely : Prop := fnExactCurveEqualityRow.holds Try.pinned (OpenSpec.ofChange fnExactCurveEqualityWrong)

/-- 'laws.FnExactBlowUpVertex': WHATEVER THE INPUT: true; the input reads as it did. -/
def fnExactBlowUpVertexSpec : ChangeSpec := { name := "fnExactBlowUpVertex", fn := fun _ => fun
  | [d1, d2] => { results := [.lit (.bool true)], args := [d1, d2] }
  | _ => none }
def fnExactBlowUpVertexRow : OpenClaim := { program := "ytkidnnlplpocdaa", sum := "840ec0da92c4a896c514ab9d76a56253f09f9d283363a95aa31d004e7343b7d2", func := "loop.example/g01140/laws.FnExactBlowUpVertex", spec := "fnExactBlowUpVertex", unfollowed := true, recurses := true, apart := false }
def FnExactBlowUpVertexSaid : Prop := fnExactBlowUpVertexRow.holds Try.pinned (OpenSpec.ofChange fnExactBlowUpVertexSpec)

/-- ITS FALSE NEIGHBOUR: 'it returns false'. Refute it at one input. -/
def fnExactBlowUpVertexWrong : ChangeSpec := { name := "fnExactBlowUpVertex", fn := fun _ => fun
  | [d1, d2] => { results := [.lit (.bool false)], args := [d1, d2] }
  | _ => none }
def FnExactBlowUpVertexWrongFalsely : Prop := fnExactBlowUpVertexRow.holds Try.pinned (OpenSpec.ofChange fnExactBlowUpVertexWrong)

/- THE SECOND FORM. 'bulk': how many values and letters a reading holds, each counted each time it is reached (what is shared counts as often as it is met; a slice's spare places count too). A statement '..UptoSaid' is the law's where the arguments, and the package variables that the reading takes, are together of bulk at most 1048576: NARROWER than '..Said'. Prove '..Said' where nothing that the law and all that it calls make is longer than what came in: it says more and counts as full. Else prove '..UptoSaid'. A law counts once. -/
mutual
def uptoBulk {H : Type} : DataW H → Nat
  | .lit (.string bytes) => bytes.length + 1
  | .lit _ => 1
  | .nil => 1
  | .ptr d => uptoBulk d + 1
  | .slice elems spare => uptoBulkAll elems + uptoBulkAll spare + 1
  | .agg parts => uptoBulkAll parts + 1
  | .iface _ d => uptoBulk d + 1
  | .map entries => uptoBulkEntries entries + 1
  | .held _ => 1
def uptoBulkAll {H : Type} : List (DataW H) → Nat
  | [] => 0
  | d :: r => uptoBulk d + uptoBulkAll r
def uptoBulkEntries {H : Type} : List (Lit × DataW H) → Nat
  | [] => 0
  | x :: r => uptoBulkEntry x + uptoBulkEntries r
def uptoBulkEntry {H : Type} : Lit × DataW H → Nat
  | (.string bytes, d) => bytes.length + uptoBulk d + 1
  | (_, d) => uptoBulk d + 1
 end
def uptoSmall : (H : Type) → List (DataW H) → Bool := fun _ ds => decide (uptoBulkAll ds ≤ 1048576)
def OpenSpec.upto (s : _root_.Go.ChangeSpec) : _root_.Go.OpenSpec := { _root_.Go.OpenSpec.ofChange s with cond := some uptoSmall }

/-- 'laws.FnExactLeavingPoints', WHERE WHAT IT READS IS OF BULK AT MOST 1048576: true; the input reads as it did. -/
def fnExactLeavingPointsUptoRow : OpenClaim := { program := "ytkidnnlplpocdaa", sum := "840ec0da92c4a896c514ab9d76a56253f09f9d283363a95aa31d004e7343b7d2", func := "loop.example/g01140/laws.FnExactLeavingPoints", spec := "fnExactLeavingPoints", apart := false, narrowed := true }
def FnExactLeavingPointsUptoSaid : Prop := fnExactLeavingPointsUptoRow.holds Try.pinned (OpenSpec.upto fnExactLeavingPointsSpec)

/-- 'laws.FnExactCurveCluster', WHERE WHAT IT READS IS OF BULK AT MOST 1048576: true; the input reads as it did. -/
def fnExactCurveClusterUptoRow : OpenClaim := { program := "ytkidnnlplpocdaa", sum := "840ec0da92c4a896c514ab9d76a56253f09f9d283363a95aa31d004e7343b7d2", func := "loop.example/g01140/laws.FnExactCurveCluster", spec := "fnExactCurveCluster", apart := false, narrowed := true }
def FnExactCurveClusterUptoSaid : Prop := fnExactCurveClusterUptoRow.holds Try.pinned (OpenSpec.upto fnExactCurveClusterSpec)

/-- 'laws.FnExactGraphOfCluster', WHERE WHAT IT READS IS OF BULK AT MOST 1048576: true; the input reads as it did. -/
def fnExactGraphOfClusterUptoRow : OpenClaim := { program := "ytkidnnlplpocdaa", sum := "840ec0da92c4a896c514ab9d76a56253f09f9d283363a95aa31d004e7343b7d2", func := "loop.example/g01140/laws.FnExactGraphOfCluster", spec := "fnExactGraphOfCluster", apart := false, narrowed := true }
def FnExactGraphOfClusterUptoSaid : Prop := fnExactGraphOfClusterUptoRow.holds Try.pinned (OpenSpec.upto fnExactGraphOfClusterSpec)

/-- 'laws.FnExactEulerNumbers', WHERE WHAT IT READS IS OF BULK AT MOST 1048576: true; the input reads as it did. -/
def fnExactEulerNumbersUptoRow : OpenClaim := { program := "ytkidnnlplpocdaa", sum := "840ec0da92c4a896c514ab9d76a56253f09f9d283363a95aa31d004e7343b7d2", func := "loop.example/g01140/laws.FnExactEulerNumbers", spec := "fnExactEulerNumbers", recurses := true, apart := false, narrowed := true }
def FnExactEulerNumbersUptoSaid : Prop := fnExactEulerNumbersUptoRow.holds Try.pinned (OpenSpec.upto fnExactEulerNumbersSpec)

/-- 'laws.FnExactDeadEndsOf', WHERE WHAT IT READS IS OF BULK AT MOST 1048576: true; the input reads as it did. -/
def fnExactDeadEndsOfUptoRow : OpenClaim := { program := "ytkidnnlplpocdaa", sum := "840ec0da92c4a896c514ab9d76a56253f09f9d283363a95aa31d004e7343b7d2", func := "loop.example/g01140/laws.FnExactDeadEndsOf", spec := "fnExactDeadEndsOf", unfollowed := true, recurses := true, apart := false, narrowed := true }
def FnExactDeadEndsOfUptoSaid : Prop := fnExactDeadEndsOfUptoRow.holds Try.pinned (OpenSpec.upto fnExactDeadEndsOfSpec)

/-- 'laws.FnExactRupturesOf', WHERE WHAT IT READS IS OF BULK AT MOST 1048576: true; the input reads as it did. -/
def fnExactRupturesOfUptoRow : OpenClaim := { program := "ytkidnnlplpocdaa", sum := "840ec0da92c4a896c514ab9d76a56253f09f9d283363a95aa31d004e7343b7d2", func := "loop.example/g01140/laws.FnExactRupturesOf", spec := "fnExactRupturesOf", unfollowed := true, recurses := true, apart := false, narrowed := true }
def FnExactRupturesOfUptoSaid : Prop := fnExactRupturesOfUptoRow.holds Try.pinned (OpenSpec.upto fnExactRupturesOfSpec)

/-- 'laws.FnExactCornersOf', WHERE WHAT IT READS IS OF BULK AT MOST 1048576: true; the input reads as it did. -/
def fnExactCornersOfUptoRow : OpenClaim := { program := "ytkidnnlplpocdaa", sum := "840ec0da92c4a896c514ab9d76a56253f09f9d283363a95aa31d004e7343b7d2", func := "loop.example/g01140/laws.FnExactCornersOf", spec := "fnExactCornersOf", recurses := true, apart := false, narrowed := true }
def FnExactCornersOfUptoSaid : Prop := fnExactCornersOfUptoRow.holds Try.pinned (OpenSpec.upto fnExactCornersOfSpec)

/-- 'laws.FnExactAttachedGraph', WHERE WHAT IT READS IS OF BULK AT MOST 1048576: true; the input reads as it did. -/
def fnExactAttachedGraphUptoRow : OpenClaim := { program := "ytkidnnlplpocdaa", sum := "840ec0da92c4a896c514ab9d76a56253f09f9d283363a95aa31d004e7343b7d2", func := "loop.example/g01140/laws.FnExactAttachedGraph", spec := "fnExactAttachedGraph", unfollowed := true, recurses := true, apart := false, narrowed := true }
def FnExactAttachedGraphUptoSaid : Prop := fnExactAttachedGraphUptoRow.holds Try.pinned (OpenSpec.upto fnExactAttachedGraphSpec)

/-- 'laws.FnExactCurveOfCluster', WHERE WHAT IT READS IS OF BULK AT MOST 1048576: true; the input reads as it did. -/
def fnExactCurveOfClusterUptoRow : OpenClaim := { program := "ytkidnnlplpocdaa", sum := "840ec0da92c4a896c514ab9d76a56253f09f9d283363a95aa31d004e7343b7d2", func := "loop.example/g01140/laws.FnExactCurveOfCluster", spec := "fnExactCurveOfCluster", apart := false, narrowed := true }
def FnExactCurveOfClusterUptoSaid : Prop := fnExactCurveOfClusterUptoRow.holds Try.pinned (OpenSpec.upto fnExactCurveOfClusterSpec)

/-- 'laws.FnExactPathBetween', WHERE WHAT IT READS IS OF BULK AT MOST 1048576: true; the input reads as it did. -/
def fnExactPathBetweenUptoRow : OpenClaim := { program := "ytkidnnlplpocdaa", sum := "840ec0da92c4a896c514ab9d76a56253f09f9d283363a95aa31d004e7343b7d2", func := "loop.example/g01140/laws.FnExactPathBetween", spec := "fnExactPathBetween", recurses := true, apart := false, narrowed := true }
def FnExactPathBetweenUptoSaid : Prop := fnExactPathBetweenUptoRow.holds Try.pinned (OpenSpec.upto fnExactPathBetweenSpec)

/-- 'laws.FnExactCurveEquality', WHERE WHAT IT READS IS OF BULK AT MOST 1048576: true; the input reads as it did. -/
def fnExactCurveEqualityUptoRow : OpenClaim := { program := "ytkidnnlplpocdaa", sum := "840ec0da92c4a896c514ab9d76a56253f09f9d283363a95aa31d004e7343b7d2", func := "loop.example/g01140/laws.FnExactCurveEquality", spec := "fnExactCurveEquality", recurses := true, apart := false, narrowed := true }
def FnExactCurveEqualityUptoSaid : Prop := fnExactCurveEqualityUptoRow.holds Try.pinned (OpenSpec.upto fnExactCurveEqualitySpec)

/-- 'laws.FnExactBlowUpVertex', WHERE WHAT IT READS IS OF BULK AT MOST 1048576: true; the input reads as it did. -/
def fnExactBlowUpVertexUptoRow : OpenClaim := { program := "ytkidnnlplpocdaa", sum := "840ec0da92c4a896c514ab9d76a56253f09f9d283363a95aa31d004e7343b7d2", func := "loop.example/g01140/laws.FnExactBlowUpVertex", spec := "fnExactBlowUpVertex", unfollowed := true, recurses := true, apart := false, narrowed := true }
def FnExactBlowUpVertexUptoSaid : Prop := fnExactBlowUpVertexUptoRow.holds Try.pinned (OpenSpec.upto fnExactBlowUpVertexSpec)

end Rows
end Go.Proofs.Ytkidnnlplpocdaa
