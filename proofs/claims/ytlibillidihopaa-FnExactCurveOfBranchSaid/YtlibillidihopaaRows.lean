/-
  No cell of these rows narrows 'for every input' (looked for: loops, veiled, ifaces, maps, wideKeys, modest, calm, conditions, laid).
  DERIVED. THE GIVEN ROWS OF THIS SEAT. 6 by the template 'for every input the law returns true; each argument reads behind the call as it read before'; 0 by the template 'total and deterministic' (their statements: YtlibillidihopaaTotals.lean).
  GIVEN WITH THE SEED: the statements are not yours to turn. If you find one false, say at which input.
  Laid BY PROGRAM, IN A SANDBOX (cutbox-rows.mjs): the forced cells as the released guide's own fill.sh prints them over the translation 243d811531d697c9… (all of the seat's roots in one cut). By AI agents, Wed Nov 11 2026. No macro, syntax, notation, axiom, sorry.
-/
import Derived.Test.YtlibillidihopaaChecked
import GoSem.Claim
import GoSem.ClaimJoined
import GoSem.ClaimMapViews
import Derived.JoinedTies
import Derived.KernelRfl
namespace Go.Proofs.Ytlibillidihopaa
/- THE CELL 'sum', in the pinned program and in every row, IS THE sha256 OF THE DUMP (.gsa) THAT YtlibillidihopaaProg.lean LOADS. Nothing in Lean hashes anything: it is a label: what it is worth is what the hold of that sum in a sandbox is worth. -/
noncomputable def Try.pinned : Pinned := { name := "ytlibillidihopaa", sum := "243d811531d697c95616624f99d47071ba65f9f40a282db19cfa158561dd8abc", checked := Try.checked }
namespace Rows
def none {H : Type} : Left H := { results := [], args := [] }

/-- 'laws.FnExactChainFraction': WHATEVER THE INPUT: true; the input reads as it did. -/
def fnExactChainFractionSpec : ChangeSpec := { name := "fnExactChainFraction", fn := fun _ => fun
  | [d] => { results := [.lit (.bool true)], args := [d] }
  | _ => none }
def fnExactChainFractionRow : OpenClaim := { program := "ytlibillidihopaa", sum := "243d811531d697c95616624f99d47071ba65f9f40a282db19cfa158561dd8abc", func := "loop.example/g01140/laws.FnExactChainFraction", spec := "fnExactChainFraction", apart := false }
def FnExactChainFractionSaid : Prop := fnExactChainFractionRow.holds Try.pinned (OpenSpec.ofChange fnExactChainFractionSpec)

/-- ITS FALSE NEIGHBOUR: 'it returns false'. Refute it at one input. -/
def fnExactChainFractionWrong : ChangeSpec := { name := "fnExactChainFraction", fn := fun _ => fun
  | [d] => { results := [.lit (.bool false)], args := [d] }
  | _ => none }
def FnExactChainFractionWrongFalsely : Prop := fnExactChainFractionRow.holds Try.pinned (OpenSpec.ofChange fnExactChainFractionWrong)

/-- 'laws.FnExactChainOf': WHATEVER THE INPUT: true; the input reads as it did. -/
def fnExactChainOfSpec : ChangeSpec := { name := "fnExactChainOf", fn := fun _ => fun
  | [d1, d2] => { results := [.lit (.bool true)], args := [d1, d2] }
  | _ => none }
def fnExactChainOfRow : OpenClaim := { program := "ytlibillidihopaa", sum := "243d811531d697c95616624f99d47071ba65f9f40a282db19cfa158561dd8abc", func := "loop.example/g01140/laws.FnExactChainOf", spec := "fnExactChainOf", apart := false }
def FnExactChainOfSaid : Prop := fnExactChainOfRow.holds Try.pinned (OpenSpec.ofChange fnExactChainOfSpec)

/-- ITS FALSE NEIGHBOUR: 'it returns false'. Refute it at one input. -/
def fnExactChainOfWrong : ChangeSpec := { name := "fnExactChainOf", fn := fun _ => fun
  | [d1, d2] => { results := [.lit (.bool false)], args := [d1, d2] }
  | _ => none }
def FnExactChainOfWrongFalsely : Prop := fnExactChainOfRow.holds Try.pinned (OpenSpec.ofChange fnExactChainOfWrong)

/-- 'laws.FnExactSemirootOf': WHATEVER THE INPUT: true; the input reads as it did. -/
def fnExactSemirootOfSpec : ChangeSpec := { name := "fnExactSemirootOf", fn := fun _ => fun
  | [d1, d2] => { results := [.lit (.bool true)], args := [d1, d2] }
  | _ => none }
def fnExactSemirootOfRow : OpenClaim := { program := "ytlibillidihopaa", sum := "243d811531d697c95616624f99d47071ba65f9f40a282db19cfa158561dd8abc", func := "loop.example/g01140/laws.FnExactSemirootOf", spec := "fnExactSemirootOf", apart := false }
def FnExactSemirootOfSaid : Prop := fnExactSemirootOfRow.holds Try.pinned (OpenSpec.ofChange fnExactSemirootOfSpec)

/-- ITS FALSE NEIGHBOUR: 'it returns false'. Refute it at one input. -/
def fnExactSemirootOfWrong : ChangeSpec := { name := "fnExactSemirootOf", fn := fun _ => fun
  | [d1, d2] => { results := [.lit (.bool false)], args := [d1, d2] }
  | _ => none }
def FnExactSemirootOfWrongFalsely : Prop := fnExactSemirootOfRow.holds Try.pinned (OpenSpec.ofChange fnExactSemirootOfWrong)

/-- 'laws.FnExactIsGraph': WHATEVER THE INPUT: true; the input reads as it did. -/
def fnExactIsGraphSpec : ChangeSpec := { name := "fnExactIsGraph", fn := fun _ => fun
  | [d] => { results := [.lit (.bool true)], args := [d] }
  | _ => none }
def fnExactIsGraphRow : OpenClaim := { program := "ytlibillidihopaa", sum := "243d811531d697c95616624f99d47071ba65f9f40a282db19cfa158561dd8abc", func := "loop.example/g01140/laws.FnExactIsGraph", spec := "fnExactIsGraph", apart := false }
def FnExactIsGraphSaid : Prop := fnExactIsGraphRow.holds Try.pinned (OpenSpec.ofChange fnExactIsGraphSpec)

/-- ITS FALSE NEIGHBOUR: 'it returns false'. Refute it at one input. -/
def fnExactIsGraphWrong : ChangeSpec := { name := "fnExactIsGraph", fn := fun _ => fun
  | [d] => { results := [.lit (.bool false)], args := [d] }
  | _ => none }
def FnExactIsGraphWrongFalsely : Prop := fnExactIsGraphRow.holds Try.pinned (OpenSpec.ofChange fnExactIsGraphWrong)

/-- 'laws.FnExactPolarInvariants': WHATEVER THE INPUT: true; the input reads as it did. -/
def fnExactPolarInvariantsSpec : ChangeSpec := { name := "fnExactPolarInvariants", fn := fun _ => fun
  | [d] => { results := [.lit (.bool true)], args := [d] }
  | _ => none }
def fnExactPolarInvariantsRow : OpenClaim := { program := "ytlibillidihopaa", sum := "243d811531d697c95616624f99d47071ba65f9f40a282db19cfa158561dd8abc", func := "loop.example/g01140/laws.FnExactPolarInvariants", spec := "fnExactPolarInvariants", apart := false }
def FnExactPolarInvariantsSaid : Prop := fnExactPolarInvariantsRow.holds Try.pinned (OpenSpec.ofChange fnExactPolarInvariantsSpec)

/-- ITS FALSE NEIGHBOUR: 'it returns false'. Refute it at one input. -/
def fnExactPolarInvariantsWrong : ChangeSpec := { name := "fnExactPolarInvariants", fn := fun _ => fun
  | [d] => { results := [.lit (.bool false)], args := [d] }
  | _ => none }
def FnExactPolarInvariantsWrongFalsely : Prop := fnExactPolarInvariantsRow.holds Try.pinned (OpenSpec.ofChange fnExactPolarInvariantsWrong)

/-- 'laws.FnExactCurveOfBranch': WHATEVER THE INPUT: true; the input reads as it did. -/
def fnExactCurveOfBranchSpec : ChangeSpec := { name := "fnExactCurveOfBranch", fn := fun _ => fun
  | [d] => { results := [.lit (.bool true)], args := [d] }
  | _ => none }
def fnExactCurveOfBranchRow : OpenClaim := { program := "ytlibillidihopaa", sum := "243d811531d697c95616624f99d47071ba65f9f40a282db19cfa158561dd8abc", func := "loop.example/g01140/laws.FnExactCurveOfBranch", spec := "fnExactCurveOfBranch", apart := false }
def FnExactCurveOfBranchSaid : Prop := fnExactCurveOfBranchRow.holds Try.pinned (OpenSpec.ofChange fnExactCurveOfBranchSpec)

/-- ITS FALSE NEIGHBOUR: 'it returns false'. Refute it at one input. -/
def fnExactCurveOfBranchWrong : ChangeSpec := { name := "fnExactCurveOfBranch", fn := fun _ => fun
  | [d] => { results := [.lit (.bool false)], args := [d] }
  | _ => none }
def FnExactCurveOfBranchWrongFalsely : Prop := fnExactCurveOfBranchRow.holds Try.pinned (OpenSpec.ofChange fnExactCurveOfBranchWrong)

/- THE SECOND FORM. 'bulk': how many values and letters a reading holds, each counted each time it is reached (what is shared counts as often as it is met; a slice's spare places count too). A statement '..UptoSaid' is the law's where the arguments, and the package variables that the reading takes, are together of bulk at most 1048576: NARROWER than '..Said'. Prove '..Said' where nothing that the law and all that it calls make is longer than what came in: it says more and counts as full. Else prove '..UptoSaid'. A law counts once. -/
mutual
def uptoBulk {H : Type} : DataW H → Nat
  | .lit (.string bytes) => bytes.length + 1
  | .lit _ => 1
  | .nil => 1
  | .ptr d => uptoBulk d + 1
  | .slice elems spare => uptoBulkAll elems + uptoBulkAll spare + 1
  | .agg parts => uptoBulkAll parts + 1
  | .iface _ d => uptoBulk d + 1
  | .map entries => uptoBulkEntries entries + 1
  | .held _ => 1
def uptoBulkAll {H : Type} : List (DataW H) → Nat
  | [] => 0
  | d :: r => uptoBulk d + uptoBulkAll r
def uptoBulkEntries {H : Type} : List (Lit × DataW H) → Nat
  | [] => 0
  | x :: r => uptoBulkEntry x + uptoBulkEntries r
def uptoBulkEntry {H : Type} : Lit × DataW H → Nat
  | (.string bytes, d) => bytes.length + uptoBulk d + 1
  | (_, d) => uptoBulk d + 1
 end
def uptoSmall : (H : Type) → List (DataW H) → Bool := fun _ ds => decide (uptoBulkAll ds ≤ 1048576)
def OpenSpec.upto (s : _root_.Go.ChangeSpec) : _root_.Go.OpenSpec := { _root_.Go.OpenSpec.ofChange s with cond := some uptoSmall }

/-- 'laws.FnExactChainFraction', WHERE WHAT IT READS IS OF BULK AT MOST 1048576: true; the input reads as it did. -/
def fnExactChainFractionUptoRow : OpenClaim := { program := "ytlibillidihopaa", sum := "243d811531d697c95616624f99d47071ba65f9f40a282db19cfa158561dd8abc", func := "loop.example/g01140/laws.FnExactChainFraction", spec := "fnExactChainFraction", apart := false, narrowed := true }
def FnExactChainFractionUptoSaid : Prop := fnExactChainFractionUptoRow.holds Try.pinned (OpenSpec.upto fnExactChainFractionSpec)

/-- 'laws.FnExactChainOf', WHERE WHAT IT READS IS OF BULK AT MOST 1048576: true; the input reads as it did. -/
def fnExactChainOfUptoRow : OpenClaim := { program := "ytlibillidihopaa", sum := "243d811531d697c95616624f99d47071ba65f9f40a282db19cfa158561dd8abc", func := "loop.example/g01140/laws.FnExactChainOf", spec := "fnExactChainOf", apart := false, narrowed := true }
def FnExactChainOfUptoSaid : Prop := fnExactChainOfUptoRow.holds Try.pinned (OpenSpec.upto fnExactChainOfSpec)

/-- 'laws.FnExactSemirootOf', WHERE WHAT IT READS IS OF BULK AT MOST 1048576: true; the input reads as it did. -/
def fnExactSemirootOfUptoRow : OpenClaim := { program := "ytlibillidihopaa", sum := "243d811531d697c95616624f99d47071ba65f9f40a282db19cfa158561dd8abc", func := "loop.example/g01140/laws.FnExactSemirootOf", spec := "fnExactSemirootOf", apart := false, narrowed := true }
def FnExactSemirootOfUptoSaid : Prop := fnExactSemirootOfUptoRow.holds Try.pinned (OpenSpec.upto fnExactSemirootOfSpec)

/-- 'laws.FnExactIsGraph', WHERE WHAT IT READS IS OF BULK AT MOST 1048576: true; the input reads as it did. -/
def fnExactIsGraphUptoRow : OpenClaim := { program := "ytlibillidihopaa", sum := "243d811531d697c95616624f99d47071ba65f9f40a282db19cfa158561dd8abc", func := "loop.example/g01140/laws.FnExactIsGraph", spec := "fnExactIsGraph", apart := false, narrowed := true }
def FnExactIsGraphUptoSaid : Prop := fnExactIsGraphUptoRow.holds Try.pinned (OpenSpec.upto fnExactIsGraphSpec)

/-- 'laws.FnExactPolarInvariants', WHERE WHAT IT READS IS OF BULK AT MOST 1048576: true; the input reads as it did. -/
def fnExactPolarInvariantsUptoRow : OpenClaim := { program := "ytlibillidihopaa", sum := "243d811531d697c95616624f99d47071ba65f9f40a282db19cfa158561dd8abc", func := "loop.example/g01140/laws.FnExactPolarInvariants", spec := "fnExactPolarInvariants", apart := false, narrowed := true }
def FnExactPolarInvariantsUptoSaid : Prop := fnExactPolarInvariantsUptoRow.holds Try.pinned (OpenSpec.upto fnExactPolarInvariantsSpec)

/-- 'laws.FnExactCurveOfBranch', WHERE WHAT IT READS IS OF BULK AT MOST 1048576: true; the input reads as it did. -/
def fnExactCurveOfBranchUptoRow : OpenClaim := { program := "ytlibillidihopaa", sum := "243d811531d697c95616624f99d47071ba65f9f40a282db19cfa158561dd8abc", func := "loop.example/g01140/laws.FnExactCurveOfBranch", spec := "fnExactCurveOfBranch", apart := false, narrowed := true }
def FnExactCurveOfBranchUptoSaid : Prop := fnExactCurveOfBranchUptoRow.holds Try.pinned (OpenSpec.upto fnExactCurveOfBranchSpec)

end Rows
end Go.Proofs.Ytlibillidihopaa
