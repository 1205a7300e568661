import Derived.Test.YtdibahknjbgdkaaB04p2
/-
  What the laws do with curves: sizes, copies. No conditions but those of the contracts.
-/
set_option linter.all false
namespace Go.Ax
open Go.Proofs

def IsBBs (es : List V) : Prop := ∃ xss, es = BB false xss ∧ xss.length ≤ 2147483647 ∧ ∀ xs ∈ xss, xs.length ≤ 2147483647
theorem IsBBs.isBB {es : List V} (h : IsBBs es) : IsBB false es := by
  obtain ⟨x, h, _⟩ := h
  exact ⟨x, h⟩
end Go.Ax
