/-
  What every row of this seat asks of the whole program, once. No conditions.
-/
import Derived.Test.YtlbmgfiepmhjhaaRbp
set_option linter.all false
namespace Go.Ax
open Go.Proofs Go.Proofs.Ytlbmgfiepmhjhaa

theorem and2 {a b : Bool} (ha : a = true) (hb : b = true) : (a && b) = true := by rw [ha, hb]; rfl
set_option maxRecDepth 100000 in
theorem pfEnter : Try.prog.mayEnter = true := by kernel_rfl
set_option maxRecDepth 100000 in
theorem pfLift : (({ program := "", sum := "", func := "", spec := "" } : OpenClaim).lifted == Try.prog.liftsFinal) = true := by kernel_rfl
set_option maxRecDepth 100000 in
theorem pfMake : (Try.prog.make == some ({ program := "", sum := "", func := "", spec := "" } : OpenClaim).make) = true := by kernel_rfl
end Go.Ax
