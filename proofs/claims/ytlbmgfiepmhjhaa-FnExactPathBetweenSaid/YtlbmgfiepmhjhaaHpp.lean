/-
  Edges in order, graphs, vertices contracted, in plain Lean. No conditions but those of the theorems.
-/
import Derived.Test.YtlbmgfiepmhjhaaGtp
set_option linter.all false
namespace Go.Ax
open Go.Proofs

structure GrN (n : Nat) (es : List (List Int)) : Prop where
  n1 : 1 ≤ n
  n2 : n ≤ 40
  el : es.length ≤ 400
  eok : edsOk n none es = true
  ed : ∀ e ∈ es, EdIn n e
  lt : ∀ e ∈ es, e0 e < e1 e
theorem Gr.toN {ws : List Int} {es : List (List Int)} (h : Gr ws es) : GrN ws.length es := ⟨h.n1, h.n2, by have := h.el; have := h.n2; omega, h.eok, h.ed, h.lt⟩
end Go.Ax
