/-
  What a branch is; cuts of branches; semiroots. No conditions but those of the contracts.
-/
import Derived.Test.YtlbmgfiepmhjhaaFcp
set_option linter.all false
namespace Go.Ax
open Go.Proofs

def isBr (xs : List Int) : Bool :=
  bif (bif (bif (bif decide (0 < (xs.length : Int)) then inRange (xs.getD 0 0) 1 64 else false) then asc xs else false) then within xs 1 2000 else false) then dec (dv xs) else false
end Go.Ax
