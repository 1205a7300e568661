/-
  Graphs: comparison of lists, labels of components, what a graph is. No conditions but those of the contracts.
-/
import Derived.Test.YtpbkkbjgmlfloaaFlp
set_option linter.all false
namespace Go.Ax
open Go.Proofs

theorem bif_and (a b : Bool) : (bif a then b else false) = (a && b) := by cases a <;> rfl
theorem bif_or (a b : Bool) : (bif a then true else b) = (a || b) := by cases a <;> rfl
def q_II (a b : List V) : Prop := IsI a ∧ IsI b
def c_ll_b (f : List V → List V → Bool) (q : List V → List V → Prop) : Contract := fun
  | [.slc false 2 (.int .i64 0) a0, .slc false 2 (.int .i64 0) a1] => some ([q a0 a1], .bool (f a0 a1))
  | _ => none
end Go.Ax
