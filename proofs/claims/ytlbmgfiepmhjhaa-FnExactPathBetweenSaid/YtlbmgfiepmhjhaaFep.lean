/-
  What the laws do with branches: sizes, copies, comparisons, marks; the law of semiroots. No conditions but those of the contracts.
-/
import Derived.Test.YtlbmgfiepmhjhaaFdp
set_option linter.all false
namespace Go.Ax
open Go.Proofs

def c_li_i (f0 : List V → Int → Int) : Contract := fun
  | [.slc false 2 (.int .i64 0) a0, .int .i64 a1] => some ([], .int .i64 (f0 a0 a1))
  | _ => none
def szL (n : Nat) (left : Int) : Int := bif decide (IntKind.wrap .i64 (left - n) < 0) then -1 else IntKind.wrap .i64 (left - n)
def f0_sz (es : List V) (left : Int) : Int := szL es.length left
set_option maxRecDepth 100000 in
theorem s_laws_szInt64S : Sat Try.prog 27 (c_li_i f0_sz) := by
  intro args ps r h hp
  unfold c_li_i at h
  split at h
  · rename_i a0 a1
    simp only [Option.some.injEq, Prod.mk.injEq] at h
    obtain ⟨rfl, rfl⟩ := h
    refine fnOk_ofI (T := tab) (B := []) (Bi := []) [0, 1, 4] Try.func27 rfl rfl (by kernel_rfl) (Nat.le_of_ble_eq_true rfl) mixed tabOk (by exact bookNil) (by exact bookINil) (by kernel_rfl) ?_
    intro L lp rr hL hr hf hlp
    conv => cbv
    simp only [stdEqs hL]
    rw [hr, f0_sz, szL]
    refine ⟨fun h => ?_, fun h => ?_⟩
    · rw [h]; rfl
    · rw [h]; rfl
  · cases h
end Go.Ax
