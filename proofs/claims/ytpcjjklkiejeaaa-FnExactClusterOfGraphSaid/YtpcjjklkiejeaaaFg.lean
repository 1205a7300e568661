/-
  Lists of branches; curves. No conditions but those of the contracts.
-/
import Derived.Test.YtpcjjklkiejeaaaFf
set_option linter.all false
namespace Go.Ax
open Go.Proofs

def bL : V → List V
  | .agg [.slc _ _ _ es] => es
  | _ => []
def BB (o : Bool) (xss : List (List Int)) : List V := xss.map fun xs => .agg [.slc o 2 (.int .i64 0) (I xs)]
def unBB (es : List V) : List (List Int) := es.map fun v => unI (bL v)
theorem unBB_BB (o : Bool) (xss : List (List Int)) : unBB (BB o xss) = xss := by
  simp only [unBB, BB, List.map_map]
  conv => rhs; rw [← List.map_id xss]
  apply List.map_congr_left
  intro xs _
  simp [bL]
theorem BB_length (o : Bool) (xss : List (List Int)) : (BB o xss).length = xss.length := by simp [BB]
theorem BB_getD (o : Bool) (xss : List (List Int)) (i : Nat) : (BB o xss).getD i (.agg [.slc o 2 (.int .i64 0) []]) = .agg [.slc o 2 (.int .i64 0) (I (xss.getD i []))] := by
  simp only [BB, List.getD_eq_getElem?_getD, List.getElem?_map]
  cases xss[i]? <;> rfl
theorem BB_set (o : Bool) (xss : List (List Int)) (i : Nat) (xs : List Int) : (BB o xss).set i (.agg [.slc o 2 (.int .i64 0) (I xs)]) = BB o (xss.set i xs) := by simp [BB, List.map_set]
theorem BB_frzs (o : Bool) (xss : List (List Int)) : V.frzs (BB o xss) = BB false xss := by
  rw [V.frzs_eq]
  simp only [BB, List.map_map]
  apply List.map_congr_left
  intro xs _
  simp [V.frz, V.frzs, I_frzs]
theorem BB_noFzs (xss : List (List Int)) : V.noFzs (BB true xss) = true := by
  rw [V.noFzs_eq]
  simp only [BB, List.all_map, List.all_eq_true]
  intro xs _
  simp [V.noFz, V.noFzs]
theorem fld_bran (o : Bool) (e : TypeId) (d : V) (es : List V) : stdV.fld (.agg [.slc o e d es]) 0 = .slc o e d es := rfl
theorem toL_bran (o : Bool) (e : TypeId) (d : V) (es : List V) : stdV.toL (stdV.fld (.agg [.slc o e d es]) 0) = es := rfl
def IsBB (o : Bool) (es : List V) : Prop := ∃ xss, es = BB o xss
def f0_markBS (es : List V) (k : Int) : Int := k + tot (unBB es)
def f1_markBS (es : List V) (k : Int) : List V := BB true (marksGo k (unBB es))
def q_markBS (o : Bool) (es : List V) (k : Int) : Prop := IsBB o es ∧ 0 ≤ k ∧ k + tot (unBB es) ≤ 9223372036854775807
def q_markBO (es : List V) (k : Int) : Prop := q_markBS true es k
def f0_heldBS (es : List V) (k : Int) : Int := if unBB es = marksGo k (unBB es) then k + tot (unBB es) else -1
def q_markBF (es : List V) (k : Int) : Prop := q_markBS false es k
def f0_eqBS (a b : List V) : Bool := decide (unBB a = unBB b)
def q_eqBS (a b : List V) : Prop := IsBB false a ∧ IsBB false b
end Go.Ax
