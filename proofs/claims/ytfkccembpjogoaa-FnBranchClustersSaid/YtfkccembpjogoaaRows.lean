/-
  No cell of these rows narrows 'for every input' (looked for: loops, veiled, ifaces, maps, wideKeys, modest, calm, conditions, laid).
  DERIVED. THE GIVEN ROWS OF THIS SEAT. 3 by the template 'for every input the law returns true; each argument reads behind the call as it read before'; 0 by the template 'total and deterministic' (their statements: YtfkccembpjogoaaTotals.lean).
  GIVEN WITH THE SEED: the statements are not yours to turn. If you find one false, say at which input.
  Laid BY PROGRAM, IN A SANDBOX (cutbox-rows.mjs): the forced cells as the released guide's own fill.sh prints them over the translation 6fc5a255bc6aa4e4… (all of the seat's roots in one cut). By AI agents, Wed Nov 11 2026. No macro, syntax, notation, axiom, sorry.
-/
import Derived.Test.YtfkccembpjogoaaChecked
import GoSem.Claim
import GoSem.ClaimJoined
import GoSem.ClaimMapViews
import Derived.JoinedTies
import Derived.KernelRfl
namespace Go.Proofs.Ytfkccembpjogoaa
/- THE CELL 'sum', in the pinned program and in every row, IS THE sha256 OF THE DUMP (.gsa) THAT YtfkccembpjogoaaProg.lean LOADS. Nothing in Lean hashes anything: it is a label: what it is worth is what the hold of that sum in a sandbox is worth. -/
noncomputable def Try.pinned : Pinned := { name := "ytfkccembpjogoaa", sum := "6fc5a255bc6aa4e4c1bdcffa6e890e24708476b817b9365eb966451352dc9714", checked := Try.checked }
namespace Rows
def none {H : Type} : Left H := { results := [], args := [] }

/-- 'laws.FnBranchClusters': WHATEVER THE INPUT: true; the input reads as it did. -/
def fnBranchClustersSpec : ChangeSpec := { name := "fnBranchClusters", fn := fun _ => fun
  | [d] => { results := [.lit (.bool true)], args := [d] }
  | _ => none }
def fnBranchClustersRow : OpenClaim := { program := "ytfkccembpjogoaa", sum := "6fc5a255bc6aa4e4c1bdcffa6e890e24708476b817b9365eb966451352dc9714", func := "loop.example/g01140/laws.FnBranchClusters", spec := "fnBranchClusters", unfollowed := true, recurses := true, apart := false }
def FnBranchClustersSaid : Prop := fnBranchClustersRow.holds Try.pinned (OpenSpec.ofChange fnBranchClustersSpec)

/-- ITS FALSE NEIGHBOUR: 'it returns false'. Refute it at one input. -/
def fnBranchClustersWrong : ChangeSpec := { name := "fnBranchClusters", fn := fun _ => fun
  | [d] => { results := [.lit (.bool false)], args := [d] }
  | _ => none }
def FnBranchClustersWrongFalsely : Prop := fnBranchClustersRow.holds Try.pinned (OpenSpec.ofChange fnBranchClustersWrong)

/-- 'laws.FnComplete': WHATEVER THE INPUT: true; the input reads as it did. -/
def fnCompleteSpec : ChangeSpec := { name := "fnComplete", fn := fun _ => fun
  | [d] => { results := [.lit (.bool true)], args := [d] }
  | _ => none }
def fnCompleteRow : OpenClaim := { program := "ytfkccembpjogoaa", sum := "6fc5a255bc6aa4e4c1bdcffa6e890e24708476b817b9365eb966451352dc9714", func := "loop.example/g01140/laws.FnComplete", spec := "fnComplete", unfollowed := true, recurses := true, apart := false }
def FnCompleteSaid : Prop := fnCompleteRow.holds Try.pinned (OpenSpec.ofChange fnCompleteSpec)

/-- ITS FALSE NEIGHBOUR: 'it returns false'. Refute it at one input. -/
def fnCompleteWrong : ChangeSpec := { name := "fnComplete", fn := fun _ => fun
  | [d] => { results := [.lit (.bool false)], args := [d] }
  | _ => none }
def FnCompleteWrongFalsely : Prop := fnCompleteRow.holds Try.pinned (OpenSpec.ofChange fnCompleteWrong)

/-- 'laws.FnMultipliers': WHATEVER THE INPUT: true; the input reads as it did. -/
def fnMultipliersSpec : ChangeSpec := { name := "fnMultipliers", fn := fun _ => fun
  | [d] => { results := [.lit (.bool true)], args := [d] }
  | _ => none }
def fnMultipliersRow : OpenClaim := { program := "ytfkccembpjogoaa", sum := "6fc5a255bc6aa4e4c1bdcffa6e890e24708476b817b9365eb966451352dc9714", func := "loop.example/g01140/laws.FnMultipliers", spec := "fnMultipliers", unfollowed := true, recurses := true, apart := false }
def FnMultipliersSaid : Prop := fnMultipliersRow.holds Try.pinned (OpenSpec.ofChange fnMultipliersSpec)

/-- ITS FALSE NEIGHBOUR: 'it returns false'. Refute it at one input. -/
def fnMultipliersWrong : ChangeSpec := { name := "fnMultipliers", fn := fun _ => fun
  | [d] => { results := [.lit (.bool false)], args := [d] }
  | _ => none }
def FnMultipliersWrongFalsely : Prop := fnMultipliersRow.holds Try.pinned (OpenSpec.ofChange fnMultipliersWrong)

/- THE SECOND FORM. 'bulk': how many values and letters a reading holds, each counted each time it is reached (what is shared counts as often as it is met; a slice's spare places count too). A statement '..UptoSaid' is the law's where the arguments, and the package variables that the reading takes, are together of bulk at most 1048576: NARROWER than '..Said'. Prove '..Said' where nothing that the law and all that it calls make is longer than what came in: it says more and counts as full. Else prove '..UptoSaid'. A law counts once. -/
mutual
def uptoBulk {H : Type} : DataW H → Nat
  | .lit (.string bytes) => bytes.length + 1
  | .lit _ => 1
  | .nil => 1
  | .ptr d => uptoBulk d + 1
  | .slice elems spare => uptoBulkAll elems + uptoBulkAll spare + 1
  | .agg parts => uptoBulkAll parts + 1
  | .iface _ d => uptoBulk d + 1
  | .map entries => uptoBulkEntries entries + 1
  | .held _ => 1
def uptoBulkAll {H : Type} : List (DataW H) → Nat
  | [] => 0
  | d :: r => uptoBulk d + uptoBulkAll r
def uptoBulkEntries {H : Type} : List (Lit × DataW H) → Nat
  | [] => 0
  | x :: r => uptoBulkEntry x + uptoBulkEntries r
def uptoBulkEntry {H : Type} : Lit × DataW H → Nat
  | (.string bytes, d) => bytes.length + uptoBulk d + 1
  | (_, d) => uptoBulk d + 1
 end
def uptoSmall : (H : Type) → List (DataW H) → Bool := fun _ ds => decide (uptoBulkAll ds ≤ 1048576)
def OpenSpec.upto (s : _root_.Go.ChangeSpec) : _root_.Go.OpenSpec := { _root_.Go.OpenSpec.ofChange s with cond := some uptoSmall }

/-- 'laws.FnBranchClusters', WHERE WHAT IT READS IS OF BULK AT MOST 1048576: true; the input reads as it did. -/
def fnBranchClustersUptoRow : OpenClaim := { program := "ytfkccembpjogoaa", sum := "6fc5a255bc6aa4e4c1bdcffa6e890e24708476b817b9365eb966451352dc9714", func := "loop.example/g01140/laws.FnBranchClusters", spec := "fnBranchClusters", unfollowed := true, recurses := true, apart := false, narrowed := true }
def FnBranchClustersUptoSaid : Prop := fnBranchClustersUptoRow.holds Try.pinned (OpenSpec.upto fnBranchClustersSpec)

/-- 'laws.FnComplete', WHERE WHAT IT READS IS OF BULK AT MOST 1048576: true; the input reads as it did. -/
def fnCompleteUptoRow : OpenClaim := { program := "ytfkccembpjogoaa", sum := "6fc5a255bc6aa4e4c1bdcffa6e890e24708476b817b9365eb966451352dc9714", func := "loop.example/g01140/laws.FnComplete", spec := "fnComplete", unfollowed := true, recurses := true, apart := false, narrowed := true }
def FnCompleteUptoSaid : Prop := fnCompleteUptoRow.holds Try.pinned (OpenSpec.upto fnCompleteSpec)

/-- 'laws.FnMultipliers', WHERE WHAT IT READS IS OF BULK AT MOST 1048576: true; the input reads as it did. -/
def fnMultipliersUptoRow : OpenClaim := { program := "ytfkccembpjogoaa", sum := "6fc5a255bc6aa4e4c1bdcffa6e890e24708476b817b9365eb966451352dc9714", func := "loop.example/g01140/laws.FnMultipliers", spec := "fnMultipliers", unfollowed := true, recurses := true, apart := false, narrowed := true }
def FnMultipliersUptoSaid : Prop := fnMultipliersUptoRow.holds Try.pinned (OpenSpec.upto fnMultipliersSpec)

end Rows
end Go.Proofs.Ytfkccembpjogoaa
