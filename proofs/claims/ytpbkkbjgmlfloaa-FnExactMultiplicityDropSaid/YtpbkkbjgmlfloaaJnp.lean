/-
  BlowUpCurve: both sides, the law. No conditions but those of the contracts.
-/
import Derived.Test.YtpbkkbjgmlfloaaJip
import Derived.Test.YtpbkkbjgmlfloaaJkp
import Derived.Test.YtpbkkbjgmlfloaaJlp
set_option linter.all false
namespace Go.Ax
open Go.Proofs

end Go.Ax
