/-
  Delta invariants, Milnor numbers, lengths and tangents of curves, distances. No conditions but those of the contracts.
-/
import Derived.Test.YtpbkkbjgmlfloaaGap
set_option linter.all false
namespace Go.Ax
open Go.Proofs

def dI (bs ms : List (List Int)) (i : Nat) (s : Int) : Nat → Int
  | 0 => s
  | k + 1 => W (dI bs ms i s k + meetC bs ms i k)
def dOC (bs ms : List (List Int)) : Nat → Int
  | 0 => 0
  | i + 1 => dI bs ms i (W (dOC bs ms i + delT (seqI (bs.getD i [])))) i
def f_cd (a b : List V) : Int := dOC (unBB a) (unII b) a.length
end Go.Ax
