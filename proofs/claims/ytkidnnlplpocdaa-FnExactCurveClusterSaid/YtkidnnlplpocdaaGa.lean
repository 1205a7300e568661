/-
  Numbers of curves: multiplicity, intersection numbers. No conditions but those of the contracts.
-/
import Derived.Test.YtkidnnlplpocdaaFy
import Derived.Test.YtkidnnlplpocdaaFz
set_option linter.all false
namespace Go.Ax
open Go.Proofs

theorem TabP.range {ms : List (List Int)} {n : Nat} (h : TabP ms n) {i k : Nat} (hi : i < n) (hk : k < n) : 0 ≤ mm ms i k ∧ mm ms i k ≤ 200 := by
  have hE := (h.row i hi).2 k hk
  by_cases he : i = k
  · have := hE.1 he; omega
  · have := hE.2 he; omega
/-- curves -/
def q_cv (a b : List V) : Prop := q_C a b ∧ CvP (unBB a) (unII b)
theorem q_cv_of {a b : List V} (h : q_C a b) (hc : f_isCv a b = true) : q_cv a b := ⟨h, isCv_iff.1 hc⟩
/-! multiplicity -/
def multN (bs : List (List Int)) : Nat → Int
  | 0 => 0
  | n + 1 => multN bs n + (bs.getD n []).getD 0 0
theorem multN_in {bs : List (List Int)} (h : ∀ i, i < bs.length → Br (bs.getD i [])) : ∀ n, n ≤ bs.length → 0 ≤ multN bs n ∧ multN bs n ≤ 64 * n
  | 0, _ => by simp [multN]
  | n + 1, hn => by
    have h1 := multN_in h n (by omega)
    have h2 := (h n (by omega)).first
    have h3 := (h n (by omega)).low 0 (h n (by omega)).pos
    simp only [multN]; omega
def c_C_i (f : List V → List V → Int) (q : List V → List V → Prop) : Contract := fun
  | [.agg [.slc false 99 (.agg [.slc false 2 (.int .i64 0) []]) a0, .slc false 27 (.slc false 2 (.int .i64 0) []) a1]] => some ([q a0 a1], .int .i64 (f a0 a1))
  | _ => none
def f_mult (a _ : List V) : Int := multN (unBB a) a.length
def c_C_ii (f : List V → List V → Int × Int) (q : List V → List V → Prop) : Contract := fun
  | [.agg [.slc false 99 (.agg [.slc false 2 (.int .i64 0) []]) a0, .slc false 27 (.slc false 2 (.int .i64 0) []) a1]] => some ([q a0 a1], .tup [.int .i64 ((f a0 a1).1), .int .i64 ((f a0 a1).2)])
  | _ => none
noncomputable def f_cm (a b : List V) : Int × Int := bif f_isCv a b then (f_mult a b, 0) else (0, 1)
/-! intersection numbers -/
def meetC (bs ms : List (List Int)) (i k : Nat) : Int := meet (bs.getD i []) (bs.getD k []) (mm ms i k).toNat
def c_Cii_i (f : List V → List V → Int → Int → Int) (q : List V → List V → Int → Int → Prop) : Contract := fun
  | [.agg [.slc false 99 (.agg [.slc false 2 (.int .i64 0) []]) a0, .slc false 27 (.slc false 2 (.int .i64 0) []) a1], .int .i64 a2, .int .i64 a3] => some ([q a0 a1 a2 a3], .int .i64 (f a0 a1 a2 a3))
  | _ => none
def f_mt (a b : List V) (i k : Int) : Int := meetC (unBB a) (unII b) i.toNat k.toNat
def q_mt (a b : List V) (i k : Int) : Prop := q_cv a b ∧ 0 ≤ i ∧ i < a.length ∧ 0 ≤ k ∧ k < a.length ∧ i ≠ k
def dvd0 : Nat := 0
/-- the numbers of branches -/
def isOf (n : Nat) (i : Int) : Bool := inRange i 0 ((n : Int) - 1)
def c_Ci_b (f : List V → List V → Int → Bool) (q : List V → List V → Int → Prop) : Contract := fun
  | [.agg [.slc false 99 (.agg [.slc false 2 (.int .i64 0) []]) a0, .slc false 27 (.slc false 2 (.int .i64 0) []) a1], .int .i64 a2] => some ([q a0 a1 a2], .bool (f a0 a1 a2))
  | _ => none
def f_of (a _ : List V) (i : Int) : Bool := isOf a.length i
def q_of (a b : List V) (_ : Int) : Prop := q_cv a b
def c_Cii_ii (f : List V → List V → Int → Int → Int × Int) (q : List V → List V → Int → Int → Prop) : Contract := fun
  | [.agg [.slc false 99 (.agg [.slc false 2 (.int .i64 0) []]) a0, .slc false 27 (.slc false 2 (.int .i64 0) []) a1], .int .i64 a2, .int .i64 a3] => some ([q a0 a1 a2 a3], .tup [.int .i64 ((f a0 a1 a2 a3).1), .int .i64 ((f a0 a1 a2 a3).2)])
  | _ => none
noncomputable def f_in (a b : List V) (i k : Int) : Int × Int := bif f_isCv a b then (bif isOf a.length i && isOf a.length k && !(i == k) then (f_mt a b i k, 0) else (0, 2)) else (0, 1)
def q_Cii (a b : List V) (_ _ : Int) : Prop := q_C a b
theorem isOf_iff {n : Nat} {i : Int} : isOf n i = true ↔ 0 ≤ i ∧ i < n := by
  simp only [isOf, inRange, Bool.and_eq_true, decide_eq_true_eq]
  omega
def c_law_Dii (f : List V → List V → Int → Int → Bool) (q : List V → List V → Int → Int → Prop) : Contract := fun
  | [.agg [.slc false 118 (.agg [.slc false 2 (.int .i64 0) []]) a0, .slc false 27 (.slc false 2 (.int .i64 0) []) a1], .int .i64 a2, .int .i64 a3] => some ([q a0 a1 a2 a3], .bool (f a0 a1 a2 a3))
  | _ => none
def q_law_Dii : List V → List V → Int → Int → Prop := fun x y _ _ => q_C' x y
def yesCii (_ _ : List V) (_ _ : Int) : Bool := true
/-! sums of intersection numbers -/
def totN (bs ms : List (List Int)) (i : Nat) : Nat → Int
  | 0 => 0
  | k + 1 => if k = i then totN bs ms i k else W (totN bs ms i k + meetC bs ms i k)
def c_Ci_ii (f : List V → List V → Int → Int × Int) (q : List V → List V → Int → Prop) : Contract := fun
  | [.agg [.slc false 99 (.agg [.slc false 2 (.int .i64 0) []]) a0, .slc false 27 (.slc false 2 (.int .i64 0) []) a1], .int .i64 a2] => some ([q a0 a1 a2], .tup [.int .i64 ((f a0 a1 a2).1), .int .i64 ((f a0 a1 a2).2)])
  | _ => none
noncomputable def f_tot (a b : List V) (i : Int) : Int × Int := bif f_isCv a b then (bif isOf a.length i then (totN (unBB a) (unII b) i.toNat a.length, 0) else (0, 2)) else (0, 1)
def q_Ci (a b : List V) (_ : Int) : Prop := q_C a b
def c_law_Di (f : List V → List V → Int → Bool) (q : List V → List V → Int → Prop) : Contract := fun
  | [.agg [.slc false 118 (.agg [.slc false 2 (.int .i64 0) []]) a0, .slc false 27 (.slc false 2 (.int .i64 0) []) a1], .int .i64 a2] => some ([q a0 a1 a2], .bool (f a0 a1 a2))
  | _ => none
def q_law_Di : List V → List V → Int → Prop := fun x y _ => q_C' x y
def yesCi (_ _ : List V) (_ : Int) : Bool := true
end Go.Ax
