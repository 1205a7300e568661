/-
  Lists of branches; curves. No conditions but those of the contracts.
-/
import Derived.Test.YtlbmgfiepmhjhaaFfp
set_option linter.all false
namespace Go.Ax
open Go.Proofs

end Go.Ax
