/-
  Lists of curves: comparison, marks. No conditions but those of the contracts.
-/
import Derived.Test.YtpbkkbjgmlfloaaJhp
set_option linter.all false
namespace Go.Ax
open Go.Proofs

def C1 (o : Bool) (p : Cur) : V := .agg [.slc o 58 (.agg [.slc o 2 (.int .i64 0) []]) (BB o p.1), .slc o 53 (.slc o 2 (.int .i64 0) []) (II o p.2)]
theorem CC_C1 (o : Bool) (l : List Cur) : CC o l = l.map (C1 o) := rfl
theorem ok_cur (o o' : Bool) (a b : List V) : vw stdV tab o 20 31 (.agg [.slc o' 58 (.agg [.slc o' 2 (.int .i64 0) []]) a, .slc o' 53 (.slc o' 2 (.int .i64 0) []) b]) = some (.agg [.slc o 58 (.agg [.slc o 2 (.int .i64 0) []]) a, .slc o 53 (.slc o 2 (.int .i64 0) []) b]) := by cases o <;> rfl
theorem fld2_0 (x y : V) : stdV.fld (.agg [x, y]) 0 = x := rfl
theorem fld2_1 (x y : V) : stdV.fld (.agg [x, y]) 1 = y := rfl
theorem CC_getD (o : Bool) (l : List Cur) (i : Nat) : (CC o l).getD i (.agg [.slc o 58 (.agg [.slc o 2 (.int .i64 0) []]) [], .slc o 53 (.slc o 2 (.int .i64 0) []) []]) = .agg [.slc o 58 (.agg [.slc o 2 (.int .i64 0) []]) (BB o (l.getD i ([], [])).1), .slc o 53 (.slc o 2 (.int .i64 0) []) (II o (l.getD i ([], [])).2)] := by
  simp only [CC, List.getD_eq_getElem?_getD, List.getElem?_map]
  cases l[i]? <;> rfl
theorem C1_frz (o : Bool) (p : Cur) : (C1 o p).frz = C1 false p := by
  simp [C1, V.frz, V.frzs, BB_frzs, II_frzs]
theorem CC_frzs (o : Bool) (l : List Cur) : V.frzs (CC o l) = CC false l := by
  rw [V.frzs_eq]
  simp only [CC_C1, List.map_map]
  exact List.map_congr_left fun p _ => C1_frz o p
end Go.Ax
