/-
  Numbers of curves: multiplicity, intersection numbers. No conditions but those of the contracts.
-/
import Derived.Test.YtpbkkbjgmlfloaaFyp
import Derived.Test.YtpbkkbjgmlfloaaFzp
set_option linter.all false
namespace Go.Ax
open Go.Proofs

theorem TabP.range {ms : List (List Int)} {n : Nat} (h : TabP ms n) {i k : Nat} (hi : i < n) (hk : k < n) : 0 ≤ mm ms i k ∧ mm ms i k ≤ 200 := by
  have hE := (h.row i hi).2 k hk
  by_cases he : i = k
  · have := hE.1 he; omega
  · have := hE.2 he; omega
def q_cv (a b : List V) : Prop := q_C a b ∧ CvP (unBB a) (unII b)
theorem q_cv_of {a b : List V} (h : q_C a b) (hc : f_isCv a b = true) : q_cv a b := ⟨h, isCv_iff.1 hc⟩
end Go.Ax
