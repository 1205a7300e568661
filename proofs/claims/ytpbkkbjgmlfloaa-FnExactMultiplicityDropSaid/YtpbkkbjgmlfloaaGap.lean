/-
  Numbers of curves: multiplicity, intersection numbers. No conditions but those of the contracts.
-/
import Derived.Test.YtpbkkbjgmlfloaaFyp
import Derived.Test.YtpbkkbjgmlfloaaFzp
set_option linter.all false
namespace Go.Ax
open Go.Proofs

theorem TabP.range {ms : List (List Int)} {n : Nat} (h : TabP ms n) {i k : Nat} (hi : i < n) (hk : k < n) : 0 ≤ mm ms i k ∧ mm ms i k ≤ 200 := by
  have hE := (h.row i hi).2 k hk
  by_cases he : i = k
  · have := hE.1 he; omega
  · have := hE.2 he; omega
def q_cv (a b : List V) : Prop := q_C a b ∧ CvP (unBB a) (unII b)
theorem q_cv_of {a b : List V} (h : q_C a b) (hc : f_isCv a b = true) : q_cv a b := ⟨h, isCv_iff.1 hc⟩
def c_C_i (f : List V → List V → Int) (q : List V → List V → Prop) : Contract := fun
  | [.agg [.slc false 58 (.agg [.slc false 2 (.int .i64 0) []]) a0, .slc false 53 (.slc false 2 (.int .i64 0) []) a1]] => some ([q a0 a1], .int .i64 (f a0 a1))
  | _ => none
def c_C_ii (f : List V → List V → Int × Int) (q : List V → List V → Prop) : Contract := fun
  | [.agg [.slc false 58 (.agg [.slc false 2 (.int .i64 0) []]) a0, .slc false 53 (.slc false 2 (.int .i64 0) []) a1]] => some ([q a0 a1], .tup [.int .i64 ((f a0 a1).1), .int .i64 ((f a0 a1).2)])
  | _ => none
def meetC (bs ms : List (List Int)) (i k : Nat) : Int := meet (bs.getD i []) (bs.getD k []) (mm ms i k).toNat
def c_Cii_i (f : List V → List V → Int → Int → Int) (q : List V → List V → Int → Int → Prop) : Contract := fun
  | [.agg [.slc false 58 (.agg [.slc false 2 (.int .i64 0) []]) a0, .slc false 53 (.slc false 2 (.int .i64 0) []) a1], .int .i64 a2, .int .i64 a3] => some ([q a0 a1 a2 a3], .int .i64 (f a0 a1 a2 a3))
  | _ => none
def f_mt (a b : List V) (i k : Int) : Int := meetC (unBB a) (unII b) i.toNat k.toNat
end Go.Ax
