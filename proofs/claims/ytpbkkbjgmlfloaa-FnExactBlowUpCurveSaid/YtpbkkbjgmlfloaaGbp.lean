/-
  Delta invariants, Milnor numbers, lengths and tangents of curves, distances. No conditions but those of the contracts.
-/
import Derived.Test.YtpbkkbjgmlfloaaGap
set_option linter.all false
namespace Go.Ax
open Go.Proofs

end Go.Ax
