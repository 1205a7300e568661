/-
  What the laws do with branches: sizes, copies, comparisons, marks; the law of semiroots. No conditions but those of the contracts.
-/
import Derived.Test.YtpcjjklkiejeaaaFd
set_option linter.all false
namespace Go.Ax
open Go.Proofs

def c_li_i (f0 : List V → Int → Int) : Contract := fun
  | [.slc false 2 (.int .i64 0) a0, .int .i64 a1] => some ([], .int .i64 (f0 a0 a1))
  | _ => none
def c_bi_i (f0 : List V → Int → Int) (q : List V → Int → Prop) : Contract := fun
  | [.agg [.slc false 2 (.int .i64 0) a0], .int .i64 a1] => some ([q a0 a1], .int .i64 (f0 a0 a1))
  | _ => none
def szL (n : Nat) (left : Int) : Int := bif decide (IntKind.wrap .i64 (left - n) < 0) then -1 else IntKind.wrap .i64 (left - n)
def f0_sz (es : List V) (left : Int) : Int := szL es.length left
def noq (_ : List V) (_ : Int) : Prop := True
set_option maxRecDepth 100000 in
theorem s_laws_szInt64S : Sat Try.prog 22 (c_li_i f0_sz) := by
  intro args ps r h hp
  unfold c_li_i at h
  split at h
  · rename_i a0 a1
    simp only [Option.some.injEq, Prod.mk.injEq] at h
    obtain ⟨rfl, rfl⟩ := h
    refine fnOk_ofI (T := tab) (B := []) (Bi := []) [0, 1, 4] Try.func22 rfl rfl (by kernel_rfl) (Nat.le_of_ble_eq_true rfl) mixed tabOk (by exact bookNil) (by exact bookINil) (by kernel_rfl) ?_
    intro L lp rr hL hr hf hlp
    conv => cbv
    simp only [stdEqs hL]
    rw [hr, f0_sz, szL]
    refine ⟨fun h => ?_, fun h => ?_⟩
    · rw [h]; rfl
    · rw [h]; rfl
  · cases h
theorem szL_neg (n : Nat) (left : Int) : (bif decide (szL n left < 0) then -1 else szL n left) = szL n left := by
  unfold szL
  cases h : decide (IntKind.wrap .i64 (left - n) < 0)
  · simp only [cond_false, h]
  · rfl
def c_b_b (f0 : List V → List V) (q : List V → Prop) : Contract := fun
  | [.agg [.slc false 2 (.int .i64 0) a0]] => some ([q a0], .agg [.slc true 2 (.int .i64 0) (f0 a0)])
  | _ => none
def c_bb_bool (f0 : List V → List V → Bool) (q : List V → List V → Prop) : Contract := fun
  | [.agg [.slc false 2 (.int .i64 0) a0], .agg [.slc false 2 (.int .i64 0) a1]] => some ([q a0 a1], .bool (f0 a0 a1))
  | _ => none
def ic_markBranch (f0 : List V → Int → Int) (f1 : List V → Int → List V) (q : List V → Int → Prop) : IContract := fun
  | [.agg [.slc true 2 (.int .i64 0) a0], .int .i64 a1] => some ([q a0 a1], .int .i64 (f0 a0 a1), .agg [.slc true 2 (.int .i64 0) (f1 a0 a1)])
  | _ => none
theorem Sh.agg1 {x y : V} (h : Sh x y) : Sh (.agg [x]) (.agg [y]) := by
  refine .agg _ _ rfl (fun i a b ha hb => ?_)
  cases i with
  | zero => simp at ha hb; subst ha; subst hb; exact h
  | succ i => simp at ha
/-! the law -/
def c_bi_law (f0 : List V → Int → Bool) (q : List V → Prop) : Contract := fun
  | [.agg [.slc false 2 (.int .i64 0) a0], .int .i64 a1] => some ([q a0], .bool (f0 a0 a1))
  | _ => none
def yesB (_ : List V) (_ : Int) : Bool := true
theorem szL_ok {n : Nat} (hn : n ≤ 9223372036854775807) (h : (decide (szL n 1048576 < 0)) = false) : n ≤ 1048576 := by
  rw [decide_eq_false_iff_not, szL] at h
  have ew : IntKind.wrap .i64 ((1048576 : Int) - n) = 1048576 - n := wrap_id (by omega) (by omega)
  rw [ew] at h
  by_cases hh : (1048576 : Int) - n < 0
  · rw [decide_eq_true hh] at h
    simp at h
  · omega
theorem sr_len (xs : List Int) (i : Int) : (sr xs i).1.length ≤ xs.length := by
  unfold sr
  cases isBr xs
  · simp
  · cases inRange i 1 (IntKind.wrap .i64 ((xs.length : Int) - 1))
    · simp
    · simp only [Bool.not_true, cond_false, cut, List.length_map, List.length_take]
      omega
end Go.Ax
