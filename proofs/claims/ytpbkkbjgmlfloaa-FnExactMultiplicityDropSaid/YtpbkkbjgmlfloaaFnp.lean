/-
  Graphs: labels of components, what a graph is. No conditions but those of the contracts.
-/
import Derived.Test.YtpbkkbjgmlfloaaFmp
set_option linter.all false
namespace Go.Ax
open Go.Proofs

theorem toNat0 : Int.toNat 0 = 0 := rfl
theorem toNat1 : Int.toNat 1 = 1 := rfl
theorem mem_getD {xss : List (List Int)} {i : Nat} (h : i < xss.length) : xss.getD i [] ∈ xss := by
  rw [List.getD_eq_getElem?_getD, List.getElem?_eq_getElem h]
  exact List.getElem_mem _
end Go.Ax
