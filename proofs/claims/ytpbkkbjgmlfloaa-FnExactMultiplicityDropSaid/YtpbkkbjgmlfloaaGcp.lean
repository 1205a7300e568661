/-
  Lengths and tangents of curves, distances. No conditions but those of the contracts.
-/
import Derived.Test.YtpbkkbjgmlfloaaGbp
set_option linter.all false
namespace Go.Ax
open Go.Proofs

def c_C_l (f : List V → List V → List V) (q : List V → List V → Prop) : Contract := fun
  | [.agg [.slc false 58 (.agg [.slc false 2 (.int .i64 0) []]) a0, .slc false 53 (.slc false 2 (.int .i64 0) []) a1]] => some ([q a0 a1], .slc true 2 (.int .i64 0) (f a0 a1))
  | _ => none
end Go.Ax
