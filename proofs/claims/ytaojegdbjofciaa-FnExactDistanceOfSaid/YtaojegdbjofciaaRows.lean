/-
  No cell of these rows narrows 'for every input' (looked for: loops, veiled, ifaces, maps, wideKeys, modest, calm, conditions, laid).
  DERIVED. THE GIVEN ROWS OF THIS SEAT. 12 by the template 'for every input the law returns true; each argument reads behind the call as it read before'; 0 by the template 'total and deterministic' (their statements: YtaojegdbjofciaaTotals.lean).
  GIVEN WITH THE SEED: the statements are not yours to turn. If you find one false, say at which input.
  Laid BY PROGRAM, IN A SANDBOX (cutbox-rows.mjs): the forced cells as the released guide's own fill.sh prints them over the translation 461630ed37a05c3a… (all of the seat's roots in one cut). By AI agents, Wed Nov 11 2026. No macro, syntax, notation, axiom, sorry.
-/
import Derived.Test.YtaojegdbjofciaaChecked
import GoSem.Claim
import GoSem.ClaimJoined
import GoSem.ClaimMapViews
import Derived.JoinedTies
import Derived.KernelRfl
namespace Go.Proofs.Ytaojegdbjofciaa
/- THE CELL 'sum', in the pinned program and in every row, IS THE sha256 OF THE DUMP (.gsa) THAT YtaojegdbjofciaaProg.lean LOADS. Nothing in Lean hashes anything: it is a label: what it is worth is what the hold of that sum in a sandbox is worth. -/
noncomputable def Try.pinned : Pinned := { name := "ytaojegdbjofciaa", sum := "461630ed37a05c3af65f264a7883d70d77014e80fbd0485a1acd9daa71d368e7", checked := Try.checked }
namespace Rows
def none {H : Type} : Left H := { results := [], args := [] }

/-- 'laws.FnExactCanShare': WHATEVER THE INPUT: true; the input reads as it did. -/
def fnExactCanShareSpec : ChangeSpec := { name := "fnExactCanShare", fn := fun _ => fun
  | [d1, d2, d3] => { results := [.lit (.bool true)], args := [d1, d2, d3] }
  | _ => none }
def fnExactCanShareRow : OpenClaim := { program := "ytaojegdbjofciaa", sum := "461630ed37a05c3af65f264a7883d70d77014e80fbd0485a1acd9daa71d368e7", func := "loop.example/g01140/laws.FnExactCanShare", spec := "fnExactCanShare", apart := false }
def FnExactCanShareSaid : Prop := fnExactCanShareRow.holds Try.pinned (OpenSpec.ofChange fnExactCanShareSpec)

/-- ITS FALSE NEIGHBOUR: 'it returns false'. Refute it at one input. -/
def fnExactCanShareWrong : ChangeSpec := { name := "fnExactCanShare", fn := fun _ => fun
  | [d1, d2, d3] => { results := [.lit (.bool false)], args := [d1, d2, d3] }
  | _ => none }
def FnExactCanShareWrongFalsely : Prop := fnExactCanShareRow.holds Try.pinned (OpenSpec.ofChange fnExactCanShareWrong)

/-- 'laws.FnExactIntersectionWith': WHATEVER THE INPUT: true; the input reads as it did. -/
def fnExactIntersectionWithSpec : ChangeSpec := { name := "fnExactIntersectionWith", fn := fun _ => fun
  | [d1, d2, d3] => { results := [.lit (.bool true)], args := [d1, d2, d3] }
  | _ => none }
def fnExactIntersectionWithRow : OpenClaim := { program := "ytaojegdbjofciaa", sum := "461630ed37a05c3af65f264a7883d70d77014e80fbd0485a1acd9daa71d368e7", func := "loop.example/g01140/laws.FnExactIntersectionWith", spec := "fnExactIntersectionWith", apart := false }
def FnExactIntersectionWithSaid : Prop := fnExactIntersectionWithRow.holds Try.pinned (OpenSpec.ofChange fnExactIntersectionWithSpec)

/-- ITS FALSE NEIGHBOUR: 'it returns false'. Refute it at one input. -/
def fnExactIntersectionWithWrong : ChangeSpec := { name := "fnExactIntersectionWith", fn := fun _ => fun
  | [d1, d2, d3] => { results := [.lit (.bool false)], args := [d1, d2, d3] }
  | _ => none }
def FnExactIntersectionWithWrongFalsely : Prop := fnExactIntersectionWithRow.holds Try.pinned (OpenSpec.ofChange fnExactIntersectionWithWrong)

/-- 'laws.FnExactPossibleIntersections': WHATEVER THE INPUT: true; the input reads as it did. -/
def fnExactPossibleIntersectionsSpec : ChangeSpec := { name := "fnExactPossibleIntersections", fn := fun _ => fun
  | [d1, d2, d3] => { results := [.lit (.bool true)], args := [d1, d2, d3] }
  | _ => none }
def fnExactPossibleIntersectionsRow : OpenClaim := { program := "ytaojegdbjofciaa", sum := "461630ed37a05c3af65f264a7883d70d77014e80fbd0485a1acd9daa71d368e7", func := "loop.example/g01140/laws.FnExactPossibleIntersections", spec := "fnExactPossibleIntersections", apart := false }
def FnExactPossibleIntersectionsSaid : Prop := fnExactPossibleIntersectionsRow.holds Try.pinned (OpenSpec.ofChange fnExactPossibleIntersectionsSpec)

/-- ITS FALSE NEIGHBOUR: 'it returns false'. Refute it at one input. -/
def fnExactPossibleIntersectionsWrong : ChangeSpec := { name := "fnExactPossibleIntersections", fn := fun _ => fun
  | [d1, d2, d3] => { results := [.lit (.bool false)], args := [d1, d2, d3] }
  | _ => none }
def FnExactPossibleIntersectionsWrongFalsely : Prop := fnExactPossibleIntersectionsRow.holds Try.pinned (OpenSpec.ofChange fnExactPossibleIntersectionsWrong)

/-- 'laws.FnExactIsCurve': WHATEVER THE INPUT: true; the input reads as it did. -/
def fnExactIsCurveSpec : ChangeSpec := { name := "fnExactIsCurve", fn := fun _ => fun
  | [d] => { results := [.lit (.bool true)], args := [d] }
  | _ => none }
def fnExactIsCurveRow : OpenClaim := { program := "ytaojegdbjofciaa", sum := "461630ed37a05c3af65f264a7883d70d77014e80fbd0485a1acd9daa71d368e7", func := "loop.example/g01140/laws.FnExactIsCurve", spec := "fnExactIsCurve", apart := false }
def FnExactIsCurveSaid : Prop := fnExactIsCurveRow.holds Try.pinned (OpenSpec.ofChange fnExactIsCurveSpec)

/-- ITS FALSE NEIGHBOUR: 'it returns false'. Refute it at one input. -/
def fnExactIsCurveWrong : ChangeSpec := { name := "fnExactIsCurve", fn := fun _ => fun
  | [d] => { results := [.lit (.bool false)], args := [d] }
  | _ => none }
def FnExactIsCurveWrongFalsely : Prop := fnExactIsCurveRow.holds Try.pinned (OpenSpec.ofChange fnExactIsCurveWrong)

/-- 'laws.FnExactCurveMultiplicity': WHATEVER THE INPUT: true; the input reads as it did. -/
def fnExactCurveMultiplicitySpec : ChangeSpec := { name := "fnExactCurveMultiplicity", fn := fun _ => fun
  | [d] => { results := [.lit (.bool true)], args := [d] }
  | _ => none }
def fnExactCurveMultiplicityRow : OpenClaim := { program := "ytaojegdbjofciaa", sum := "461630ed37a05c3af65f264a7883d70d77014e80fbd0485a1acd9daa71d368e7", func := "loop.example/g01140/laws.FnExactCurveMultiplicity", spec := "fnExactCurveMultiplicity", apart := false }
def FnExactCurveMultiplicitySaid : Prop := fnExactCurveMultiplicityRow.holds Try.pinned (OpenSpec.ofChange fnExactCurveMultiplicitySpec)

/-- ITS FALSE NEIGHBOUR: 'it returns false'. Refute it at one input. -/
def fnExactCurveMultiplicityWrong : ChangeSpec := { name := "fnExactCurveMultiplicity", fn := fun _ => fun
  | [d] => { results := [.lit (.bool false)], args := [d] }
  | _ => none }
def FnExactCurveMultiplicityWrongFalsely : Prop := fnExactCurveMultiplicityRow.holds Try.pinned (OpenSpec.ofChange fnExactCurveMultiplicityWrong)

/-- 'laws.FnExactIntersectionNumber': WHATEVER THE INPUT: true; the input reads as it did. -/
def fnExactIntersectionNumberSpec : ChangeSpec := { name := "fnExactIntersectionNumber", fn := fun _ => fun
  | [d1, d2, d3] => { results := [.lit (.bool true)], args := [d1, d2, d3] }
  | _ => none }
def fnExactIntersectionNumberRow : OpenClaim := { program := "ytaojegdbjofciaa", sum := "461630ed37a05c3af65f264a7883d70d77014e80fbd0485a1acd9daa71d368e7", func := "loop.example/g01140/laws.FnExactIntersectionNumber", spec := "fnExactIntersectionNumber", apart := false }
def FnExactIntersectionNumberSaid : Prop := fnExactIntersectionNumberRow.holds Try.pinned (OpenSpec.ofChange fnExactIntersectionNumberSpec)

/-- ITS FALSE NEIGHBOUR: 'it returns false'. Refute it at one input. -/
def fnExactIntersectionNumberWrong : ChangeSpec := { name := "fnExactIntersectionNumber", fn := fun _ => fun
  | [d1, d2, d3] => { results := [.lit (.bool false)], args := [d1, d2, d3] }
  | _ => none }
def FnExactIntersectionNumberWrongFalsely : Prop := fnExactIntersectionNumberRow.holds Try.pinned (OpenSpec.ofChange fnExactIntersectionNumberWrong)

/-- 'laws.FnExactTotalIntersection': WHATEVER THE INPUT: true; the input reads as it did. -/
def fnExactTotalIntersectionSpec : ChangeSpec := { name := "fnExactTotalIntersection", fn := fun _ => fun
  | [d1, d2] => { results := [.lit (.bool true)], args := [d1, d2] }
  | _ => none }
def fnExactTotalIntersectionRow : OpenClaim := { program := "ytaojegdbjofciaa", sum := "461630ed37a05c3af65f264a7883d70d77014e80fbd0485a1acd9daa71d368e7", func := "loop.example/g01140/laws.FnExactTotalIntersection", spec := "fnExactTotalIntersection", apart := false }
def FnExactTotalIntersectionSaid : Prop := fnExactTotalIntersectionRow.holds Try.pinned (OpenSpec.ofChange fnExactTotalIntersectionSpec)

/-- ITS FALSE NEIGHBOUR: 'it returns false'. Refute it at one input. -/
def fnExactTotalIntersectionWrong : ChangeSpec := { name := "fnExactTotalIntersection", fn := fun _ => fun
  | [d1, d2] => { results := [.lit (.bool false)], args := [d1, d2] }
  | _ => none }
def FnExactTotalIntersectionWrongFalsely : Prop := fnExactTotalIntersectionRow.holds Try.pinned (OpenSpec.ofChange fnExactTotalIntersectionWrong)

/-- 'laws.FnExactCurveDelta': WHATEVER THE INPUT: true; the input reads as it did. -/
def fnExactCurveDeltaSpec : ChangeSpec := { name := "fnExactCurveDelta", fn := fun _ => fun
  | [d] => { results := [.lit (.bool true)], args := [d] }
  | _ => none }
def fnExactCurveDeltaRow : OpenClaim := { program := "ytaojegdbjofciaa", sum := "461630ed37a05c3af65f264a7883d70d77014e80fbd0485a1acd9daa71d368e7", func := "loop.example/g01140/laws.FnExactCurveDelta", spec := "fnExactCurveDelta", apart := false }
def FnExactCurveDeltaSaid : Prop := fnExactCurveDeltaRow.holds Try.pinned (OpenSpec.ofChange fnExactCurveDeltaSpec)

/-- ITS FALSE NEIGHBOUR: 'it returns false'. Refute it at one input. -/
def fnExactCurveDeltaWrong : ChangeSpec := { name := "fnExactCurveDelta", fn := fun _ => fun
  | [d] => { results := [.lit (.bool false)], args := [d] }
  | _ => none }
def FnExactCurveDeltaWrongFalsely : Prop := fnExactCurveDeltaRow.holds Try.pinned (OpenSpec.ofChange fnExactCurveDeltaWrong)

/-- 'laws.FnExactCurveMilnor': WHATEVER THE INPUT: true; the input reads as it did. -/
def fnExactCurveMilnorSpec : ChangeSpec := { name := "fnExactCurveMilnor", fn := fun _ => fun
  | [d] => { results := [.lit (.bool true)], args := [d] }
  | _ => none }
def fnExactCurveMilnorRow : OpenClaim := { program := "ytaojegdbjofciaa", sum := "461630ed37a05c3af65f264a7883d70d77014e80fbd0485a1acd9daa71d368e7", func := "loop.example/g01140/laws.FnExactCurveMilnor", spec := "fnExactCurveMilnor", apart := false }
def FnExactCurveMilnorSaid : Prop := fnExactCurveMilnorRow.holds Try.pinned (OpenSpec.ofChange fnExactCurveMilnorSpec)

/-- ITS FALSE NEIGHBOUR: 'it returns false'. Refute it at one input. -/
def fnExactCurveMilnorWrong : ChangeSpec := { name := "fnExactCurveMilnor", fn := fun _ => fun
  | [d] => { results := [.lit (.bool false)], args := [d] }
  | _ => none }
def FnExactCurveMilnorWrongFalsely : Prop := fnExactCurveMilnorRow.holds Try.pinned (OpenSpec.ofChange fnExactCurveMilnorWrong)

/-- 'laws.FnExactTangentsOf': WHATEVER THE INPUT: true; the input reads as it did. -/
def fnExactTangentsOfSpec : ChangeSpec := { name := "fnExactTangentsOf", fn := fun _ => fun
  | [d] => { results := [.lit (.bool true)], args := [d] }
  | _ => none }
def fnExactTangentsOfRow : OpenClaim := { program := "ytaojegdbjofciaa", sum := "461630ed37a05c3af65f264a7883d70d77014e80fbd0485a1acd9daa71d368e7", func := "loop.example/g01140/laws.FnExactTangentsOf", spec := "fnExactTangentsOf", apart := false }
def FnExactTangentsOfSaid : Prop := fnExactTangentsOfRow.holds Try.pinned (OpenSpec.ofChange fnExactTangentsOfSpec)

/-- ITS FALSE NEIGHBOUR: 'it returns false'. Refute it at one input. -/
def fnExactTangentsOfWrong : ChangeSpec := { name := "fnExactTangentsOf", fn := fun _ => fun
  | [d] => { results := [.lit (.bool false)], args := [d] }
  | _ => none }
def FnExactTangentsOfWrongFalsely : Prop := fnExactTangentsOfRow.holds Try.pinned (OpenSpec.ofChange fnExactTangentsOfWrong)

/-- 'laws.FnExactLengthsOf': WHATEVER THE INPUT: true; the input reads as it did. -/
def fnExactLengthsOfSpec : ChangeSpec := { name := "fnExactLengthsOf", fn := fun _ => fun
  | [d] => { results := [.lit (.bool true)], args := [d] }
  | _ => none }
def fnExactLengthsOfRow : OpenClaim := { program := "ytaojegdbjofciaa", sum := "461630ed37a05c3af65f264a7883d70d77014e80fbd0485a1acd9daa71d368e7", func := "loop.example/g01140/laws.FnExactLengthsOf", spec := "fnExactLengthsOf", apart := false }
def FnExactLengthsOfSaid : Prop := fnExactLengthsOfRow.holds Try.pinned (OpenSpec.ofChange fnExactLengthsOfSpec)

/-- ITS FALSE NEIGHBOUR: 'it returns false'. Refute it at one input. -/
def fnExactLengthsOfWrong : ChangeSpec := { name := "fnExactLengthsOf", fn := fun _ => fun
  | [d] => { results := [.lit (.bool false)], args := [d] }
  | _ => none }
def FnExactLengthsOfWrongFalsely : Prop := fnExactLengthsOfRow.holds Try.pinned (OpenSpec.ofChange fnExactLengthsOfWrong)

/-- 'laws.FnExactDistanceOf': WHATEVER THE INPUT: true; the input reads as it did. -/
def fnExactDistanceOfSpec : ChangeSpec := { name := "fnExactDistanceOf", fn := fun _ => fun
  | [d1, d2, d3] => { results := [.lit (.bool true)], args := [d1, d2, d3] }
  | _ => none }
def fnExactDistanceOfRow : OpenClaim := { program := "ytaojegdbjofciaa", sum := "461630ed37a05c3af65f264a7883d70d77014e80fbd0485a1acd9daa71d368e7", func := "loop.example/g01140/laws.FnExactDistanceOf", spec := "fnExactDistanceOf", apart := false }
def FnExactDistanceOfSaid : Prop := fnExactDistanceOfRow.holds Try.pinned (OpenSpec.ofChange fnExactDistanceOfSpec)

/-- ITS FALSE NEIGHBOUR: 'it returns false'. Refute it at one input. -/
def fnExactDistanceOfWrong : ChangeSpec := { name := "fnExactDistanceOf", fn := fun _ => fun
  | [d1, d2, d3] => { results := [.lit (.bool false)], args := [d1, d2, d3] }
  | _ => none }
def FnExactDistanceOfWrongFalsely : Prop := fnExactDistanceOfRow.holds Try.pinned (OpenSpec.ofChange fnExactDistanceOfWrong)

/- THE SECOND FORM. 'bulk': how many values and letters a reading holds, each counted each time it is reached (what is shared counts as often as it is met; a slice's spare places count too). A statement '..UptoSaid' is the law's where the arguments, and the package variables that the reading takes, are together of bulk at most 1048576: NARROWER than '..Said'. Prove '..Said' where nothing that the law and all that it calls make is longer than what came in: it says more and counts as full. Else prove '..UptoSaid'. A law counts once. -/
mutual
def uptoBulk {H : Type} : DataW H → Nat
  | .lit (.string bytes) => bytes.length + 1
  | .lit _ => 1
  | .nil => 1
  | .ptr d => uptoBulk d + 1
  | .slice elems spare => uptoBulkAll elems + uptoBulkAll spare + 1
  | .agg parts => uptoBulkAll parts + 1
  | .iface _ d => uptoBulk d + 1
  | .map entries => uptoBulkEntries entries + 1
  | .held _ => 1
def uptoBulkAll {H : Type} : List (DataW H) → Nat
  | [] => 0
  | d :: r => uptoBulk d + uptoBulkAll r
def uptoBulkEntries {H : Type} : List (Lit × DataW H) → Nat
  | [] => 0
  | x :: r => uptoBulkEntry x + uptoBulkEntries r
def uptoBulkEntry {H : Type} : Lit × DataW H → Nat
  | (.string bytes, d) => bytes.length + uptoBulk d + 1
  | (_, d) => uptoBulk d + 1
 end
def uptoSmall : (H : Type) → List (DataW H) → Bool := fun _ ds => decide (uptoBulkAll ds ≤ 1048576)
def OpenSpec.upto (s : _root_.Go.ChangeSpec) : _root_.Go.OpenSpec := { _root_.Go.OpenSpec.ofChange s with cond := some uptoSmall }

/-- 'laws.FnExactCanShare', WHERE WHAT IT READS IS OF BULK AT MOST 1048576: true; the input reads as it did. -/
def fnExactCanShareUptoRow : OpenClaim := { program := "ytaojegdbjofciaa", sum := "461630ed37a05c3af65f264a7883d70d77014e80fbd0485a1acd9daa71d368e7", func := "loop.example/g01140/laws.FnExactCanShare", spec := "fnExactCanShare", apart := false, narrowed := true }
def FnExactCanShareUptoSaid : Prop := fnExactCanShareUptoRow.holds Try.pinned (OpenSpec.upto fnExactCanShareSpec)

/-- 'laws.FnExactIntersectionWith', WHERE WHAT IT READS IS OF BULK AT MOST 1048576: true; the input reads as it did. -/
def fnExactIntersectionWithUptoRow : OpenClaim := { program := "ytaojegdbjofciaa", sum := "461630ed37a05c3af65f264a7883d70d77014e80fbd0485a1acd9daa71d368e7", func := "loop.example/g01140/laws.FnExactIntersectionWith", spec := "fnExactIntersectionWith", apart := false, narrowed := true }
def FnExactIntersectionWithUptoSaid : Prop := fnExactIntersectionWithUptoRow.holds Try.pinned (OpenSpec.upto fnExactIntersectionWithSpec)

/-- 'laws.FnExactPossibleIntersections', WHERE WHAT IT READS IS OF BULK AT MOST 1048576: true; the input reads as it did. -/
def fnExactPossibleIntersectionsUptoRow : OpenClaim := { program := "ytaojegdbjofciaa", sum := "461630ed37a05c3af65f264a7883d70d77014e80fbd0485a1acd9daa71d368e7", func := "loop.example/g01140/laws.FnExactPossibleIntersections", spec := "fnExactPossibleIntersections", apart := false, narrowed := true }
def FnExactPossibleIntersectionsUptoSaid : Prop := fnExactPossibleIntersectionsUptoRow.holds Try.pinned (OpenSpec.upto fnExactPossibleIntersectionsSpec)

/-- 'laws.FnExactIsCurve', WHERE WHAT IT READS IS OF BULK AT MOST 1048576: true; the input reads as it did. -/
def fnExactIsCurveUptoRow : OpenClaim := { program := "ytaojegdbjofciaa", sum := "461630ed37a05c3af65f264a7883d70d77014e80fbd0485a1acd9daa71d368e7", func := "loop.example/g01140/laws.FnExactIsCurve", spec := "fnExactIsCurve", apart := false, narrowed := true }
def FnExactIsCurveUptoSaid : Prop := fnExactIsCurveUptoRow.holds Try.pinned (OpenSpec.upto fnExactIsCurveSpec)

/-- 'laws.FnExactCurveMultiplicity', WHERE WHAT IT READS IS OF BULK AT MOST 1048576: true; the input reads as it did. -/
def fnExactCurveMultiplicityUptoRow : OpenClaim := { program := "ytaojegdbjofciaa", sum := "461630ed37a05c3af65f264a7883d70d77014e80fbd0485a1acd9daa71d368e7", func := "loop.example/g01140/laws.FnExactCurveMultiplicity", spec := "fnExactCurveMultiplicity", apart := false, narrowed := true }
def FnExactCurveMultiplicityUptoSaid : Prop := fnExactCurveMultiplicityUptoRow.holds Try.pinned (OpenSpec.upto fnExactCurveMultiplicitySpec)

/-- 'laws.FnExactIntersectionNumber', WHERE WHAT IT READS IS OF BULK AT MOST 1048576: true; the input reads as it did. -/
def fnExactIntersectionNumberUptoRow : OpenClaim := { program := "ytaojegdbjofciaa", sum := "461630ed37a05c3af65f264a7883d70d77014e80fbd0485a1acd9daa71d368e7", func := "loop.example/g01140/laws.FnExactIntersectionNumber", spec := "fnExactIntersectionNumber", apart := false, narrowed := true }
def FnExactIntersectionNumberUptoSaid : Prop := fnExactIntersectionNumberUptoRow.holds Try.pinned (OpenSpec.upto fnExactIntersectionNumberSpec)

/-- 'laws.FnExactTotalIntersection', WHERE WHAT IT READS IS OF BULK AT MOST 1048576: true; the input reads as it did. -/
def fnExactTotalIntersectionUptoRow : OpenClaim := { program := "ytaojegdbjofciaa", sum := "461630ed37a05c3af65f264a7883d70d77014e80fbd0485a1acd9daa71d368e7", func := "loop.example/g01140/laws.FnExactTotalIntersection", spec := "fnExactTotalIntersection", apart := false, narrowed := true }
def FnExactTotalIntersectionUptoSaid : Prop := fnExactTotalIntersectionUptoRow.holds Try.pinned (OpenSpec.upto fnExactTotalIntersectionSpec)

/-- 'laws.FnExactCurveDelta', WHERE WHAT IT READS IS OF BULK AT MOST 1048576: true; the input reads as it did. -/
def fnExactCurveDeltaUptoRow : OpenClaim := { program := "ytaojegdbjofciaa", sum := "461630ed37a05c3af65f264a7883d70d77014e80fbd0485a1acd9daa71d368e7", func := "loop.example/g01140/laws.FnExactCurveDelta", spec := "fnExactCurveDelta", apart := false, narrowed := true }
def FnExactCurveDeltaUptoSaid : Prop := fnExactCurveDeltaUptoRow.holds Try.pinned (OpenSpec.upto fnExactCurveDeltaSpec)

/-- 'laws.FnExactCurveMilnor', WHERE WHAT IT READS IS OF BULK AT MOST 1048576: true; the input reads as it did. -/
def fnExactCurveMilnorUptoRow : OpenClaim := { program := "ytaojegdbjofciaa", sum := "461630ed37a05c3af65f264a7883d70d77014e80fbd0485a1acd9daa71d368e7", func := "loop.example/g01140/laws.FnExactCurveMilnor", spec := "fnExactCurveMilnor", apart := false, narrowed := true }
def FnExactCurveMilnorUptoSaid : Prop := fnExactCurveMilnorUptoRow.holds Try.pinned (OpenSpec.upto fnExactCurveMilnorSpec)

/-- 'laws.FnExactTangentsOf', WHERE WHAT IT READS IS OF BULK AT MOST 1048576: true; the input reads as it did. -/
def fnExactTangentsOfUptoRow : OpenClaim := { program := "ytaojegdbjofciaa", sum := "461630ed37a05c3af65f264a7883d70d77014e80fbd0485a1acd9daa71d368e7", func := "loop.example/g01140/laws.FnExactTangentsOf", spec := "fnExactTangentsOf", apart := false, narrowed := true }
def FnExactTangentsOfUptoSaid : Prop := fnExactTangentsOfUptoRow.holds Try.pinned (OpenSpec.upto fnExactTangentsOfSpec)

/-- 'laws.FnExactLengthsOf', WHERE WHAT IT READS IS OF BULK AT MOST 1048576: true; the input reads as it did. -/
def fnExactLengthsOfUptoRow : OpenClaim := { program := "ytaojegdbjofciaa", sum := "461630ed37a05c3af65f264a7883d70d77014e80fbd0485a1acd9daa71d368e7", func := "loop.example/g01140/laws.FnExactLengthsOf", spec := "fnExactLengthsOf", apart := false, narrowed := true }
def FnExactLengthsOfUptoSaid : Prop := fnExactLengthsOfUptoRow.holds Try.pinned (OpenSpec.upto fnExactLengthsOfSpec)

/-- 'laws.FnExactDistanceOf', WHERE WHAT IT READS IS OF BULK AT MOST 1048576: true; the input reads as it did. -/
def fnExactDistanceOfUptoRow : OpenClaim := { program := "ytaojegdbjofciaa", sum := "461630ed37a05c3af65f264a7883d70d77014e80fbd0485a1acd9daa71d368e7", func := "loop.example/g01140/laws.FnExactDistanceOf", spec := "fnExactDistanceOf", apart := false, narrowed := true }
def FnExactDistanceOfUptoSaid : Prop := fnExactDistanceOfUptoRow.holds Try.pinned (OpenSpec.upto fnExactDistanceOfSpec)

end Rows
end Go.Proofs.Ytaojegdbjofciaa
