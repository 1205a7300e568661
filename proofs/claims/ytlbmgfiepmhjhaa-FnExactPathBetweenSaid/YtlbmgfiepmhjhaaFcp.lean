/-
  Functions of branches: divisors, ascending lists, what a branch is, its cuts. No conditions but those of the contracts.
-/
import Derived.Test.YtlbmgfiepmhjhaaFbp
set_option linter.all false
namespace Go.Ax
open Go.Proofs

theorem noown_one (n : Int) : V.owneds [V.int .i64 n] = false := rfl
theorem solid1 {v : V} (h : v.solid = true) : ∀ x ∈ [v], x.solid = true := by
  intro x hx
  simp at hx
  subst hx
  exact h
theorem solid_one (n : Int) : ∀ x ∈ [V.int .i64 n], x.solid = true := by
  intro x hx
  simp at hx
  subst hx
  rfl

def dvGo (d : Int) : List Int → List Int
  | [] => []
  | t :: l => gcdW d t :: dvGo (gcdW d t) l
def dv (xs : List Int) : List Int := dvGo 0 xs
def asc : List Int → Bool
  | a :: b :: l => bif decide (b ≤ a) then false else asc (b :: l)
  | _ => true
def dec : List Int → Bool
  | a :: b :: l => bif decide (a ≤ b) then false else dec (b :: l)
  | [a] => a == 1
  | [] => false
end Go.Ax
