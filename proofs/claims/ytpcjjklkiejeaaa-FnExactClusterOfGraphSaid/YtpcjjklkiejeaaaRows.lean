/-
  No cell of these rows narrows 'for every input' (looked for: loops, veiled, ifaces, maps, wideKeys, modest, calm, conditions, laid).
  DERIVED. THE GIVEN ROWS OF THIS SEAT. 3 by the template 'for every input the law returns true; each argument reads behind the call as it read before'; 0 by the template 'total and deterministic' (their statements: YtpcjjklkiejeaaaTotals.lean).
  GIVEN WITH THE SEED: the statements are not yours to turn. If you find one false, say at which input.
  Laid BY PROGRAM, IN A SANDBOX (cutbox-rows.mjs): the forced cells as the released guide's own fill.sh prints them over the translation c83d61d39dcb9d4c… (all of the seat's roots in one cut). By AI agents, Wed Nov 11 2026. No macro, syntax, notation, axiom, sorry.
-/
import Derived.Test.YtpcjjklkiejeaaaChecked
import GoSem.Claim
import GoSem.ClaimJoined
import GoSem.ClaimMapViews
import Derived.JoinedTies
import Derived.KernelRfl
namespace Go.Proofs.Ytpcjjklkiejeaaa
/- THE CELL 'sum', in the pinned program and in every row, IS THE sha256 OF THE DUMP (.gsa) THAT YtpcjjklkiejeaaaProg.lean LOADS. Nothing in Lean hashes anything: it is a label: what it is worth is what the hold of that sum in a sandbox is worth. -/
noncomputable def Try.pinned : Pinned := { name := "ytpcjjklkiejeaaa", sum := "c83d61d39dcb9d4cc980c03442af448085daf9b9f02acbe8e403e3da713fb4db", checked := Try.checked }
namespace Rows
def none {H : Type} : Left H := { results := [], args := [] }

/-- 'laws.FnExactContractionOf': WHATEVER THE INPUT: true; the input reads as it did. -/
def fnExactContractionOfSpec : ChangeSpec := { name := "fnExactContractionOf", fn := fun _ => fun
  | [d] => { results := [.lit (.bool true)], args := [d] }
  | _ => none }
def fnExactContractionOfRow : OpenClaim := { program := "ytpcjjklkiejeaaa", sum := "c83d61d39dcb9d4cc980c03442af448085daf9b9f02acbe8e403e3da713fb4db", func := "loop.example/g01140/laws.FnExactContractionOf", spec := "fnExactContractionOf", unfollowed := true, recurses := true, apart := false }
def FnExactContractionOfSaid : Prop := fnExactContractionOfRow.holds Try.pinned (OpenSpec.ofChange fnExactContractionOfSpec)

/-- ITS FALSE NEIGHBOUR: 'it returns false'. Refute it at one input. -/
def fnExactContractionOfWrong : ChangeSpec := { name := "fnExactContractionOf", fn := fun _ => fun
  | [d] => { results := [.lit (.bool false)], args := [d] }
  | _ => none }
def FnExactContractionOfWrongFalsely : Prop := fnExactContractionOfRow.holds Try.pinned (OpenSpec.ofChange fnExactContractionOfWrong)

/-- 'laws.FnExactIsSmoothGraph': WHATEVER THE INPUT: true; the input reads as it did. -/
def fnExactIsSmoothGraphSpec : ChangeSpec := { name := "fnExactIsSmoothGraph", fn := fun _ => fun
  | [d] => { results := [.lit (.bool true)], args := [d] }
  | _ => none }
def fnExactIsSmoothGraphRow : OpenClaim := { program := "ytpcjjklkiejeaaa", sum := "c83d61d39dcb9d4cc980c03442af448085daf9b9f02acbe8e403e3da713fb4db", func := "loop.example/g01140/laws.FnExactIsSmoothGraph", spec := "fnExactIsSmoothGraph", unfollowed := true, recurses := true, apart := false }
def FnExactIsSmoothGraphSaid : Prop := fnExactIsSmoothGraphRow.holds Try.pinned (OpenSpec.ofChange fnExactIsSmoothGraphSpec)

/-- ITS FALSE NEIGHBOUR: 'it returns false'. Refute it at one input. -/
def fnExactIsSmoothGraphWrong : ChangeSpec := { name := "fnExactIsSmoothGraph", fn := fun _ => fun
  | [d] => { results := [.lit (.bool false)], args := [d] }
  | _ => none }
def FnExactIsSmoothGraphWrongFalsely : Prop := fnExactIsSmoothGraphRow.holds Try.pinned (OpenSpec.ofChange fnExactIsSmoothGraphWrong)

/-- 'laws.FnExactClusterOfGraph': WHATEVER THE INPUT: true; the input reads as it did. -/
def fnExactClusterOfGraphSpec : ChangeSpec := { name := "fnExactClusterOfGraph", fn := fun _ => fun
  | [d] => { results := [.lit (.bool true)], args := [d] }
  | _ => none }
def fnExactClusterOfGraphRow : OpenClaim := { program := "ytpcjjklkiejeaaa", sum := "c83d61d39dcb9d4cc980c03442af448085daf9b9f02acbe8e403e3da713fb4db", func := "loop.example/g01140/laws.FnExactClusterOfGraph", spec := "fnExactClusterOfGraph", unfollowed := true, recurses := true, apart := false }
def FnExactClusterOfGraphSaid : Prop := fnExactClusterOfGraphRow.holds Try.pinned (OpenSpec.ofChange fnExactClusterOfGraphSpec)

/-- ITS FALSE NEIGHBOUR: 'it returns false'. Refute it at one input. -/
def fnExactClusterOfGraphWrong : ChangeSpec := { name := "fnExactClusterOfGraph", fn := fun _ => fun
  | [d] => { results := [.lit (.bool false)], args := [d] }
  | _ => none }
def FnExactClusterOfGraphWrongFalsely : Prop := fnExactClusterOfGraphRow.holds Try.pinned (OpenSpec.ofChange fnExactClusterOfGraphWrong)

/- THE SECOND FORM. 'bulk': how many values and letters a reading holds, each counted each time it is reached (what is shared counts as often as it is met; a slice's spare places count too). A statement '..UptoSaid' is the law's where the arguments, and the package variables that the reading takes, are together of bulk at most 1048576: NARROWER than '..Said'. Prove '..Said' where nothing that the law and all that it calls make is longer than what came in: it says more and counts as full. Else prove '..UptoSaid'. A law counts once. -/
mutual
def uptoBulk {H : Type} : DataW H → Nat
  | .lit (.string bytes) => bytes.length + 1
  | .lit _ => 1
  | .nil => 1
  | .ptr d => uptoBulk d + 1
  | .slice elems spare => uptoBulkAll elems + uptoBulkAll spare + 1
  | .agg parts => uptoBulkAll parts + 1
  | .iface _ d => uptoBulk d + 1
  | .map entries => uptoBulkEntries entries + 1
  | .held _ => 1
def uptoBulkAll {H : Type} : List (DataW H) → Nat
  | [] => 0
  | d :: r => uptoBulk d + uptoBulkAll r
def uptoBulkEntries {H : Type} : List (Lit × DataW H) → Nat
  | [] => 0
  | x :: r => uptoBulkEntry x + uptoBulkEntries r
def uptoBulkEntry {H : Type} : Lit × DataW H → Nat
  | (.string bytes, d) => bytes.length + uptoBulk d + 1
  | (_, d) => uptoBulk d + 1
 end
def uptoSmall : (H : Type) → List (DataW H) → Bool := fun _ ds => decide (uptoBulkAll ds ≤ 1048576)
def OpenSpec.upto (s : _root_.Go.ChangeSpec) : _root_.Go.OpenSpec := { _root_.Go.OpenSpec.ofChange s with cond := some uptoSmall }

/-- 'laws.FnExactContractionOf', WHERE WHAT IT READS IS OF BULK AT MOST 1048576: true; the input reads as it did. -/
def fnExactContractionOfUptoRow : OpenClaim := { program := "ytpcjjklkiejeaaa", sum := "c83d61d39dcb9d4cc980c03442af448085daf9b9f02acbe8e403e3da713fb4db", func := "loop.example/g01140/laws.FnExactContractionOf", spec := "fnExactContractionOf", unfollowed := true, recurses := true, apart := false, narrowed := true }
def FnExactContractionOfUptoSaid : Prop := fnExactContractionOfUptoRow.holds Try.pinned (OpenSpec.upto fnExactContractionOfSpec)

/-- 'laws.FnExactIsSmoothGraph', WHERE WHAT IT READS IS OF BULK AT MOST 1048576: true; the input reads as it did. -/
def fnExactIsSmoothGraphUptoRow : OpenClaim := { program := "ytpcjjklkiejeaaa", sum := "c83d61d39dcb9d4cc980c03442af448085daf9b9f02acbe8e403e3da713fb4db", func := "loop.example/g01140/laws.FnExactIsSmoothGraph", spec := "fnExactIsSmoothGraph", unfollowed := true, recurses := true, apart := false, narrowed := true }
def FnExactIsSmoothGraphUptoSaid : Prop := fnExactIsSmoothGraphUptoRow.holds Try.pinned (OpenSpec.upto fnExactIsSmoothGraphSpec)

/-- 'laws.FnExactClusterOfGraph', WHERE WHAT IT READS IS OF BULK AT MOST 1048576: true; the input reads as it did. -/
def fnExactClusterOfGraphUptoRow : OpenClaim := { program := "ytpcjjklkiejeaaa", sum := "c83d61d39dcb9d4cc980c03442af448085daf9b9f02acbe8e403e3da713fb4db", func := "loop.example/g01140/laws.FnExactClusterOfGraph", spec := "fnExactClusterOfGraph", unfollowed := true, recurses := true, apart := false, narrowed := true }
def FnExactClusterOfGraphUptoSaid : Prop := fnExactClusterOfGraphUptoRow.holds Try.pinned (OpenSpec.upto fnExactClusterOfGraphSpec)

end Rows
end Go.Proofs.Ytpcjjklkiejeaaa
