/-
  No cell of these rows narrows 'for every input' (looked for: loops, veiled, ifaces, maps, wideKeys, modest, calm, conditions, laid).
  DERIVED. THE GIVEN ROWS OF THIS SEAT. 12 by the template 'for every input the law returns true; each argument reads behind the call as it read before'; 0 by the template 'total and deterministic' (their statements: YtdnkchoihhghjaaTotals.lean).
  GIVEN WITH THE SEED: the statements are not yours to turn. If you find one false, say at which input.
  Laid BY PROGRAM, IN A SANDBOX (cutbox-rows.mjs): the forced cells as the released guide's own fill.sh prints them over the translation fde041e7337d8065… (all of the seat's roots in one cut). By AI agents, Wed Nov 11 2026. No macro, syntax, notation, axiom, sorry.
-/
import Derived.Test.YtdnkchoihhghjaaChecked
import GoSem.Claim
import GoSem.ClaimJoined
import GoSem.ClaimMapViews
import Derived.JoinedTies
import Derived.KernelRfl
namespace Go.Proofs.Ytdnkchoihhghjaa
/- THE CELL 'sum', in the pinned program and in every row, IS THE sha256 OF THE DUMP (.gsa) THAT YtdnkchoihhghjaaProg.lean LOADS. Nothing in Lean hashes anything: it is a label: what it is worth is what the hold of that sum in a sandbox is worth. -/
noncomputable def Try.pinned : Pinned := { name := "ytdnkchoihhghjaa", sum := "fde041e7337d8065c91c8444da9cd2fda9dd50bc165ca4d9f8dec58adc925d64", checked := Try.checked }
namespace Rows
def none {H : Type} : Left H := { results := [], args := [] }

/-- 'laws.FnExactIsGraph': WHATEVER THE INPUT: true; the input reads as it did. -/
def fnExactIsGraphSpec : ChangeSpec := { name := "fnExactIsGraph", fn := fun _ => fun
  | [d] => { results := [.lit (.bool true)], args := [d] }
  | _ => none }
def fnExactIsGraphRow : OpenClaim := { program := "ytdnkchoihhghjaa", sum := "fde041e7337d8065c91c8444da9cd2fda9dd50bc165ca4d9f8dec58adc925d64", func := "loop.example/g01140/laws.FnExactIsGraph", spec := "fnExactIsGraph", apart := false }
def FnExactIsGraphSaid : Prop := fnExactIsGraphRow.holds Try.pinned (OpenSpec.ofChange fnExactIsGraphSpec)

/-- ITS FALSE NEIGHBOUR: 'it returns false'. Refute it at one input. -/
def fnExactIsGraphWrong : ChangeSpec := { name := "fnExactIsGraph", fn := fun _ => fun
  | [d] => { results := [.lit (.bool false)], args := [d] }
  | _ => none }
def FnExactIsGraphWrongFalsely : Prop := fnExactIsGraphRow.holds Try.pinned (OpenSpec.ofChange fnExactIsGraphWrong)

/-- 'laws.FnExactPolarInvariants': WHATEVER THE INPUT: true; the input reads as it did. -/
def fnExactPolarInvariantsSpec : ChangeSpec := { name := "fnExactPolarInvariants", fn := fun _ => fun
  | [d] => { results := [.lit (.bool true)], args := [d] }
  | _ => none }
def fnExactPolarInvariantsRow : OpenClaim := { program := "ytdnkchoihhghjaa", sum := "fde041e7337d8065c91c8444da9cd2fda9dd50bc165ca4d9f8dec58adc925d64", func := "loop.example/g01140/laws.FnExactPolarInvariants", spec := "fnExactPolarInvariants", apart := false }
def FnExactPolarInvariantsSaid : Prop := fnExactPolarInvariantsRow.holds Try.pinned (OpenSpec.ofChange fnExactPolarInvariantsSpec)

/-- ITS FALSE NEIGHBOUR: 'it returns false'. Refute it at one input. -/
def fnExactPolarInvariantsWrong : ChangeSpec := { name := "fnExactPolarInvariants", fn := fun _ => fun
  | [d] => { results := [.lit (.bool false)], args := [d] }
  | _ => none }
def FnExactPolarInvariantsWrongFalsely : Prop := fnExactPolarInvariantsRow.holds Try.pinned (OpenSpec.ofChange fnExactPolarInvariantsWrong)

/-- 'laws.FnExactGreatestCommon': WHATEVER THE INPUT: true; the input reads as it did. -/
def fnExactGreatestCommonSpec : ChangeSpec := { name := "fnExactGreatestCommon", fn := fun _ => fun
  | [d1, d2] => { results := [.lit (.bool true)], args := [d1, d2] }
  | _ => none }
def fnExactGreatestCommonRow : OpenClaim := { program := "ytdnkchoihhghjaa", sum := "fde041e7337d8065c91c8444da9cd2fda9dd50bc165ca4d9f8dec58adc925d64", func := "loop.example/g01140/laws.FnExactGreatestCommon", spec := "fnExactGreatestCommon", apart := false }
def FnExactGreatestCommonSaid : Prop := fnExactGreatestCommonRow.holds Try.pinned (OpenSpec.ofChange fnExactGreatestCommonSpec)

/-- ITS FALSE NEIGHBOUR: 'it returns false'. Refute it at one input. -/
def fnExactGreatestCommonWrong : ChangeSpec := { name := "fnExactGreatestCommon", fn := fun _ => fun
  | [d1, d2] => { results := [.lit (.bool false)], args := [d1, d2] }
  | _ => none }
def FnExactGreatestCommonWrongFalsely : Prop := fnExactGreatestCommonRow.holds Try.pinned (OpenSpec.ofChange fnExactGreatestCommonWrong)

/-- 'laws.FnExactComponentLabels': WHATEVER THE INPUT: true; the input reads as it did. -/
def fnExactComponentLabelsSpec : ChangeSpec := { name := "fnExactComponentLabels", fn := fun _ => fun
  | [d] => { results := [.lit (.bool true)], args := [d] }
  | _ => none }
def fnExactComponentLabelsRow : OpenClaim := { program := "ytdnkchoihhghjaa", sum := "fde041e7337d8065c91c8444da9cd2fda9dd50bc165ca4d9f8dec58adc925d64", func := "loop.example/g01140/laws.FnExactComponentLabels", spec := "fnExactComponentLabels", apart := false }
def FnExactComponentLabelsSaid : Prop := fnExactComponentLabelsRow.holds Try.pinned (OpenSpec.ofChange fnExactComponentLabelsSpec)

/-- ITS FALSE NEIGHBOUR: 'it returns false'. Refute it at one input. -/
def fnExactComponentLabelsWrong : ChangeSpec := { name := "fnExactComponentLabels", fn := fun _ => fun
  | [d] => { results := [.lit (.bool false)], args := [d] }
  | _ => none }
def FnExactComponentLabelsWrongFalsely : Prop := fnExactComponentLabelsRow.holds Try.pinned (OpenSpec.ofChange fnExactComponentLabelsWrong)

/-- 'laws.FnExactGraphOfCluster': WHATEVER THE INPUT: true; the input reads as it did. -/
def fnExactGraphOfClusterSpec : ChangeSpec := { name := "fnExactGraphOfCluster", fn := fun _ => fun
  | [d] => { results := [.lit (.bool true)], args := [d] }
  | _ => none }
def fnExactGraphOfClusterRow : OpenClaim := { program := "ytdnkchoihhghjaa", sum := "fde041e7337d8065c91c8444da9cd2fda9dd50bc165ca4d9f8dec58adc925d64", func := "loop.example/g01140/laws.FnExactGraphOfCluster", spec := "fnExactGraphOfCluster", apart := false }
def FnExactGraphOfClusterSaid : Prop := fnExactGraphOfClusterRow.holds Try.pinned (OpenSpec.ofChange fnExactGraphOfClusterSpec)

/-- ITS FALSE NEIGHBOUR: 'it returns false'. Refute it at one input. -/
def fnExactGraphOfClusterWrong : ChangeSpec := { name := "fnExactGraphOfCluster", fn := fun _ => fun
  | [d] => { results := [.lit (.bool false)], args := [d] }
  | _ => none }
def FnExactGraphOfClusterWrongFalsely : Prop := fnExactGraphOfClusterRow.holds Try.pinned (OpenSpec.ofChange fnExactGraphOfClusterWrong)

/-- 'laws.FnExactIntersectionMatrix': WHATEVER THE INPUT: true; the input reads as it did. -/
def fnExactIntersectionMatrixSpec : ChangeSpec := { name := "fnExactIntersectionMatrix", fn := fun _ => fun
  | [d] => { results := [.lit (.bool true)], args := [d] }
  | _ => none }
def fnExactIntersectionMatrixRow : OpenClaim := { program := "ytdnkchoihhghjaa", sum := "fde041e7337d8065c91c8444da9cd2fda9dd50bc165ca4d9f8dec58adc925d64", func := "loop.example/g01140/laws.FnExactIntersectionMatrix", spec := "fnExactIntersectionMatrix", apart := false }
def FnExactIntersectionMatrixSaid : Prop := fnExactIntersectionMatrixRow.holds Try.pinned (OpenSpec.ofChange fnExactIntersectionMatrixSpec)

/-- ITS FALSE NEIGHBOUR: 'it returns false'. Refute it at one input. -/
def fnExactIntersectionMatrixWrong : ChangeSpec := { name := "fnExactIntersectionMatrix", fn := fun _ => fun
  | [d] => { results := [.lit (.bool false)], args := [d] }
  | _ => none }
def FnExactIntersectionMatrixWrongFalsely : Prop := fnExactIntersectionMatrixRow.holds Try.pinned (OpenSpec.ofChange fnExactIntersectionMatrixWrong)

/-- 'laws.FnExactCanShare': WHATEVER THE INPUT: true; the input reads as it did. -/
def fnExactCanShareSpec : ChangeSpec := { name := "fnExactCanShare", fn := fun _ => fun
  | [d1, d2, d3] => { results := [.lit (.bool true)], args := [d1, d2, d3] }
  | _ => none }
def fnExactCanShareRow : OpenClaim := { program := "ytdnkchoihhghjaa", sum := "fde041e7337d8065c91c8444da9cd2fda9dd50bc165ca4d9f8dec58adc925d64", func := "loop.example/g01140/laws.FnExactCanShare", spec := "fnExactCanShare", apart := false }
def FnExactCanShareSaid : Prop := fnExactCanShareRow.holds Try.pinned (OpenSpec.ofChange fnExactCanShareSpec)

/-- ITS FALSE NEIGHBOUR: 'it returns false'. Refute it at one input. -/
def fnExactCanShareWrong : ChangeSpec := { name := "fnExactCanShare", fn := fun _ => fun
  | [d1, d2, d3] => { results := [.lit (.bool false)], args := [d1, d2, d3] }
  | _ => none }
def FnExactCanShareWrongFalsely : Prop := fnExactCanShareRow.holds Try.pinned (OpenSpec.ofChange fnExactCanShareWrong)

/-- 'laws.FnPolars': WHATEVER THE INPUT: true; the input reads as it did. -/
def fnPolarsSpec : ChangeSpec := { name := "fnPolars", fn := fun _ => fun
  | [d] => { results := [.lit (.bool true)], args := [d] }
  | _ => none }
def fnPolarsRow : OpenClaim := { program := "ytdnkchoihhghjaa", sum := "fde041e7337d8065c91c8444da9cd2fda9dd50bc165ca4d9f8dec58adc925d64", func := "loop.example/g01140/laws.FnPolars", spec := "fnPolars", apart := false }
def FnPolarsSaid : Prop := fnPolarsRow.holds Try.pinned (OpenSpec.ofChange fnPolarsSpec)

/-- ITS FALSE NEIGHBOUR: 'it returns false'. Refute it at one input. -/
def fnPolarsWrong : ChangeSpec := { name := "fnPolars", fn := fun _ => fun
  | [d] => { results := [.lit (.bool false)], args := [d] }
  | _ => none }
def FnPolarsWrongFalsely : Prop := fnPolarsRow.holds Try.pinned (OpenSpec.ofChange fnPolarsWrong)

/-- 'laws.FnExactIntersectionWith': WHATEVER THE INPUT: true; the input reads as it did. -/
def fnExactIntersectionWithSpec : ChangeSpec := { name := "fnExactIntersectionWith", fn := fun _ => fun
  | [d1, d2, d3] => { results := [.lit (.bool true)], args := [d1, d2, d3] }
  | _ => none }
def fnExactIntersectionWithRow : OpenClaim := { program := "ytdnkchoihhghjaa", sum := "fde041e7337d8065c91c8444da9cd2fda9dd50bc165ca4d9f8dec58adc925d64", func := "loop.example/g01140/laws.FnExactIntersectionWith", spec := "fnExactIntersectionWith", apart := false }
def FnExactIntersectionWithSaid : Prop := fnExactIntersectionWithRow.holds Try.pinned (OpenSpec.ofChange fnExactIntersectionWithSpec)

/-- ITS FALSE NEIGHBOUR: 'it returns false'. Refute it at one input. -/
def fnExactIntersectionWithWrong : ChangeSpec := { name := "fnExactIntersectionWith", fn := fun _ => fun
  | [d1, d2, d3] => { results := [.lit (.bool false)], args := [d1, d2, d3] }
  | _ => none }
def FnExactIntersectionWithWrongFalsely : Prop := fnExactIntersectionWithRow.holds Try.pinned (OpenSpec.ofChange fnExactIntersectionWithWrong)

/-- 'laws.FnExactPossibleIntersections': WHATEVER THE INPUT: true; the input reads as it did. -/
def fnExactPossibleIntersectionsSpec : ChangeSpec := { name := "fnExactPossibleIntersections", fn := fun _ => fun
  | [d1, d2, d3] => { results := [.lit (.bool true)], args := [d1, d2, d3] }
  | _ => none }
def fnExactPossibleIntersectionsRow : OpenClaim := { program := "ytdnkchoihhghjaa", sum := "fde041e7337d8065c91c8444da9cd2fda9dd50bc165ca4d9f8dec58adc925d64", func := "loop.example/g01140/laws.FnExactPossibleIntersections", spec := "fnExactPossibleIntersections", apart := false }
def FnExactPossibleIntersectionsSaid : Prop := fnExactPossibleIntersectionsRow.holds Try.pinned (OpenSpec.ofChange fnExactPossibleIntersectionsSpec)

/-- ITS FALSE NEIGHBOUR: 'it returns false'. Refute it at one input. -/
def fnExactPossibleIntersectionsWrong : ChangeSpec := { name := "fnExactPossibleIntersections", fn := fun _ => fun
  | [d1, d2, d3] => { results := [.lit (.bool false)], args := [d1, d2, d3] }
  | _ => none }
def FnExactPossibleIntersectionsWrongFalsely : Prop := fnExactPossibleIntersectionsRow.holds Try.pinned (OpenSpec.ofChange fnExactPossibleIntersectionsWrong)

/-- 'laws.FnExactIsCurve': WHATEVER THE INPUT: true; the input reads as it did. -/
def fnExactIsCurveSpec : ChangeSpec := { name := "fnExactIsCurve", fn := fun _ => fun
  | [d] => { results := [.lit (.bool true)], args := [d] }
  | _ => none }
def fnExactIsCurveRow : OpenClaim := { program := "ytdnkchoihhghjaa", sum := "fde041e7337d8065c91c8444da9cd2fda9dd50bc165ca4d9f8dec58adc925d64", func := "loop.example/g01140/laws.FnExactIsCurve", spec := "fnExactIsCurve", apart := false }
def FnExactIsCurveSaid : Prop := fnExactIsCurveRow.holds Try.pinned (OpenSpec.ofChange fnExactIsCurveSpec)

/-- ITS FALSE NEIGHBOUR: 'it returns false'. Refute it at one input. -/
def fnExactIsCurveWrong : ChangeSpec := { name := "fnExactIsCurve", fn := fun _ => fun
  | [d] => { results := [.lit (.bool false)], args := [d] }
  | _ => none }
def FnExactIsCurveWrongFalsely : Prop := fnExactIsCurveRow.holds Try.pinned (OpenSpec.ofChange fnExactIsCurveWrong)

/-- 'laws.FnExactCurveMultiplicity': WHATEVER THE INPUT: true; the input reads as it did. -/
def fnExactCurveMultiplicitySpec : ChangeSpec := { name := "fnExactCurveMultiplicity", fn := fun _ => fun
  | [d] => { results := [.lit (.bool true)], args := [d] }
  | _ => none }
def fnExactCurveMultiplicityRow : OpenClaim := { program := "ytdnkchoihhghjaa", sum := "fde041e7337d8065c91c8444da9cd2fda9dd50bc165ca4d9f8dec58adc925d64", func := "loop.example/g01140/laws.FnExactCurveMultiplicity", spec := "fnExactCurveMultiplicity", apart := false }
def FnExactCurveMultiplicitySaid : Prop := fnExactCurveMultiplicityRow.holds Try.pinned (OpenSpec.ofChange fnExactCurveMultiplicitySpec)

/-- ITS FALSE NEIGHBOUR: 'it returns false'. Refute it at one input. -/
def fnExactCurveMultiplicityWrong : ChangeSpec := { name := "fnExactCurveMultiplicity", fn := fun _ => fun
  | [d] => { results := [.lit (.bool false)], args := [d] }
  | _ => none }
def FnExactCurveMultiplicityWrongFalsely : Prop := fnExactCurveMultiplicityRow.holds Try.pinned (OpenSpec.ofChange fnExactCurveMultiplicityWrong)

/- THE SECOND FORM. 'bulk': how many values and letters a reading holds, each counted each time it is reached (what is shared counts as often as it is met; a slice's spare places count too). A statement '..UptoSaid' is the law's where the arguments, and the package variables that the reading takes, are together of bulk at most 1048576: NARROWER than '..Said'. Prove '..Said' where nothing that the law and all that it calls make is longer than what came in: it says more and counts as full. Else prove '..UptoSaid'. A law counts once. -/
mutual
def uptoBulk {H : Type} : DataW H → Nat
  | .lit (.string bytes) => bytes.length + 1
  | .lit _ => 1
  | .nil => 1
  | .ptr d => uptoBulk d + 1
  | .slice elems spare => uptoBulkAll elems + uptoBulkAll spare + 1
  | .agg parts => uptoBulkAll parts + 1
  | .iface _ d => uptoBulk d + 1
  | .map entries => uptoBulkEntries entries + 1
  | .held _ => 1
def uptoBulkAll {H : Type} : List (DataW H) → Nat
  | [] => 0
  | d :: r => uptoBulk d + uptoBulkAll r
def uptoBulkEntries {H : Type} : List (Lit × DataW H) → Nat
  | [] => 0
  | x :: r => uptoBulkEntry x + uptoBulkEntries r
def uptoBulkEntry {H : Type} : Lit × DataW H → Nat
  | (.string bytes, d) => bytes.length + uptoBulk d + 1
  | (_, d) => uptoBulk d + 1
 end
def uptoSmall : (H : Type) → List (DataW H) → Bool := fun _ ds => decide (uptoBulkAll ds ≤ 1048576)
def OpenSpec.upto (s : _root_.Go.ChangeSpec) : _root_.Go.OpenSpec := { _root_.Go.OpenSpec.ofChange s with cond := some uptoSmall }

/-- 'laws.FnExactIsGraph', WHERE WHAT IT READS IS OF BULK AT MOST 1048576: true; the input reads as it did. -/
def fnExactIsGraphUptoRow : OpenClaim := { program := "ytdnkchoihhghjaa", sum := "fde041e7337d8065c91c8444da9cd2fda9dd50bc165ca4d9f8dec58adc925d64", func := "loop.example/g01140/laws.FnExactIsGraph", spec := "fnExactIsGraph", apart := false, narrowed := true }
def FnExactIsGraphUptoSaid : Prop := fnExactIsGraphUptoRow.holds Try.pinned (OpenSpec.upto fnExactIsGraphSpec)

/-- 'laws.FnExactPolarInvariants', WHERE WHAT IT READS IS OF BULK AT MOST 1048576: true; the input reads as it did. -/
def fnExactPolarInvariantsUptoRow : OpenClaim := { program := "ytdnkchoihhghjaa", sum := "fde041e7337d8065c91c8444da9cd2fda9dd50bc165ca4d9f8dec58adc925d64", func := "loop.example/g01140/laws.FnExactPolarInvariants", spec := "fnExactPolarInvariants", apart := false, narrowed := true }
def FnExactPolarInvariantsUptoSaid : Prop := fnExactPolarInvariantsUptoRow.holds Try.pinned (OpenSpec.upto fnExactPolarInvariantsSpec)

/-- 'laws.FnExactGreatestCommon', WHERE WHAT IT READS IS OF BULK AT MOST 1048576: true; the input reads as it did. -/
def fnExactGreatestCommonUptoRow : OpenClaim := { program := "ytdnkchoihhghjaa", sum := "fde041e7337d8065c91c8444da9cd2fda9dd50bc165ca4d9f8dec58adc925d64", func := "loop.example/g01140/laws.FnExactGreatestCommon", spec := "fnExactGreatestCommon", apart := false, narrowed := true }
def FnExactGreatestCommonUptoSaid : Prop := fnExactGreatestCommonUptoRow.holds Try.pinned (OpenSpec.upto fnExactGreatestCommonSpec)

/-- 'laws.FnExactComponentLabels', WHERE WHAT IT READS IS OF BULK AT MOST 1048576: true; the input reads as it did. -/
def fnExactComponentLabelsUptoRow : OpenClaim := { program := "ytdnkchoihhghjaa", sum := "fde041e7337d8065c91c8444da9cd2fda9dd50bc165ca4d9f8dec58adc925d64", func := "loop.example/g01140/laws.FnExactComponentLabels", spec := "fnExactComponentLabels", apart := false, narrowed := true }
def FnExactComponentLabelsUptoSaid : Prop := fnExactComponentLabelsUptoRow.holds Try.pinned (OpenSpec.upto fnExactComponentLabelsSpec)

/-- 'laws.FnExactGraphOfCluster', WHERE WHAT IT READS IS OF BULK AT MOST 1048576: true; the input reads as it did. -/
def fnExactGraphOfClusterUptoRow : OpenClaim := { program := "ytdnkchoihhghjaa", sum := "fde041e7337d8065c91c8444da9cd2fda9dd50bc165ca4d9f8dec58adc925d64", func := "loop.example/g01140/laws.FnExactGraphOfCluster", spec := "fnExactGraphOfCluster", apart := false, narrowed := true }
def FnExactGraphOfClusterUptoSaid : Prop := fnExactGraphOfClusterUptoRow.holds Try.pinned (OpenSpec.upto fnExactGraphOfClusterSpec)

/-- 'laws.FnExactIntersectionMatrix', WHERE WHAT IT READS IS OF BULK AT MOST 1048576: true; the input reads as it did. -/
def fnExactIntersectionMatrixUptoRow : OpenClaim := { program := "ytdnkchoihhghjaa", sum := "fde041e7337d8065c91c8444da9cd2fda9dd50bc165ca4d9f8dec58adc925d64", func := "loop.example/g01140/laws.FnExactIntersectionMatrix", spec := "fnExactIntersectionMatrix", apart := false, narrowed := true }
def FnExactIntersectionMatrixUptoSaid : Prop := fnExactIntersectionMatrixUptoRow.holds Try.pinned (OpenSpec.upto fnExactIntersectionMatrixSpec)

/-- 'laws.FnExactCanShare', WHERE WHAT IT READS IS OF BULK AT MOST 1048576: true; the input reads as it did. -/
def fnExactCanShareUptoRow : OpenClaim := { program := "ytdnkchoihhghjaa", sum := "fde041e7337d8065c91c8444da9cd2fda9dd50bc165ca4d9f8dec58adc925d64", func := "loop.example/g01140/laws.FnExactCanShare", spec := "fnExactCanShare", apart := false, narrowed := true }
def FnExactCanShareUptoSaid : Prop := fnExactCanShareUptoRow.holds Try.pinned (OpenSpec.upto fnExactCanShareSpec)

/-- 'laws.FnPolars', WHERE WHAT IT READS IS OF BULK AT MOST 1048576: true; the input reads as it did. -/
def fnPolarsUptoRow : OpenClaim := { program := "ytdnkchoihhghjaa", sum := "fde041e7337d8065c91c8444da9cd2fda9dd50bc165ca4d9f8dec58adc925d64", func := "loop.example/g01140/laws.FnPolars", spec := "fnPolars", apart := false, narrowed := true }
def FnPolarsUptoSaid : Prop := fnPolarsUptoRow.holds Try.pinned (OpenSpec.upto fnPolarsSpec)

/-- 'laws.FnExactIntersectionWith', WHERE WHAT IT READS IS OF BULK AT MOST 1048576: true; the input reads as it did. -/
def fnExactIntersectionWithUptoRow : OpenClaim := { program := "ytdnkchoihhghjaa", sum := "fde041e7337d8065c91c8444da9cd2fda9dd50bc165ca4d9f8dec58adc925d64", func := "loop.example/g01140/laws.FnExactIntersectionWith", spec := "fnExactIntersectionWith", apart := false, narrowed := true }
def FnExactIntersectionWithUptoSaid : Prop := fnExactIntersectionWithUptoRow.holds Try.pinned (OpenSpec.upto fnExactIntersectionWithSpec)

/-- 'laws.FnExactPossibleIntersections', WHERE WHAT IT READS IS OF BULK AT MOST 1048576: true; the input reads as it did. -/
def fnExactPossibleIntersectionsUptoRow : OpenClaim := { program := "ytdnkchoihhghjaa", sum := "fde041e7337d8065c91c8444da9cd2fda9dd50bc165ca4d9f8dec58adc925d64", func := "loop.example/g01140/laws.FnExactPossibleIntersections", spec := "fnExactPossibleIntersections", apart := false, narrowed := true }
def FnExactPossibleIntersectionsUptoSaid : Prop := fnExactPossibleIntersectionsUptoRow.holds Try.pinned (OpenSpec.upto fnExactPossibleIntersectionsSpec)

/-- 'laws.FnExactIsCurve', WHERE WHAT IT READS IS OF BULK AT MOST 1048576: true; the input reads as it did. -/
def fnExactIsCurveUptoRow : OpenClaim := { program := "ytdnkchoihhghjaa", sum := "fde041e7337d8065c91c8444da9cd2fda9dd50bc165ca4d9f8dec58adc925d64", func := "loop.example/g01140/laws.FnExactIsCurve", spec := "fnExactIsCurve", apart := false, narrowed := true }
def FnExactIsCurveUptoSaid : Prop := fnExactIsCurveUptoRow.holds Try.pinned (OpenSpec.upto fnExactIsCurveSpec)

/-- 'laws.FnExactCurveMultiplicity', WHERE WHAT IT READS IS OF BULK AT MOST 1048576: true; the input reads as it did. -/
def fnExactCurveMultiplicityUptoRow : OpenClaim := { program := "ytdnkchoihhghjaa", sum := "fde041e7337d8065c91c8444da9cd2fda9dd50bc165ca4d9f8dec58adc925d64", func := "loop.example/g01140/laws.FnExactCurveMultiplicity", spec := "fnExactCurveMultiplicity", apart := false, narrowed := true }
def FnExactCurveMultiplicityUptoSaid : Prop := fnExactCurveMultiplicityUptoRow.holds Try.pinned (OpenSpec.upto fnExactCurveMultiplicitySpec)

end Rows
end Go.Proofs.Ytdnkchoihhghjaa
