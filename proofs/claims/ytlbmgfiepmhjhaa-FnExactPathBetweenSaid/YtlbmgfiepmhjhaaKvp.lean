/-
  Vertices of graphs: impl.isVertex, spec.l11Vertex. No conditions but those of the contracts.
-/
import Derived.Test.YtlbmgfiepmhjhaaFpp
set_option linter.all false
namespace Go.Ax
open Go.Proofs

def c_Gi_b (f : List V → List V → Int → Bool) (q : List V → List V → Int → Prop) : Contract := fun
  | [.agg [.slc false 2 (.int .i64 0) a0, .slc false 22 (.slc false 2 (.int .i64 0) []) a1], .int .i64 a2] => some ([q a0 a1 a2], .bool (f a0 a1 a2))
  | _ => none
def f_isV (a _ : List V) (v : Int) : Bool := decide (0 ≤ v) && decide (v ≤ (a.length : Int) - 1)
def q_isV (a b : List V) (_ : Int) : Prop := IsI a ∧ IsII false b ∧ a.length ≤ 1000
set_option maxRecDepth 100000 in
theorem s_impl_isVertex : Sat Try.prog 35 (c_Gi_b f_isV q_isV) := by
  intro args ps r h hp
  unfold c_Gi_b at h
  split at h
  · rename_i a0 a1 v
    simp only [Option.some.injEq, Prod.mk.injEq] at h
    obtain ⟨rfl, rfl⟩ := h
    obtain ⟨h0, h1, h2⟩ : q_isV a0 a1 v := (alls_cons.1 hp).1
    have g0 := h0.frz
    have g1 := frzs_II h1
    generalize H_inRange : inRange = F_inRange
    refine fnOk_ofI (T := tab) (B := [(60, c_impl_inRange F_inRange)]) (Bi := []) [0, 1, 2, 4] Try.func35 rfl rfl (by kernel_rfl) (Nat.le_of_ble_eq_true rfl) mixed tabOk (by subst H_inRange; exact (bookCons s_impl_inRange bookNil)) (by subst H_inRange; exact bookINil) (by kernel_rfl) ?_
    intro L lp rr hL hr hf hlp
    have Er : ∀ x y z, F_inRange x y z = inRange x y z := fun x y z => by rw [← H_inRange]
    conv => cbv
    simp only [stdEqs hL, g0, g1, Er]
    rw [wrap_id (by omega) (by omega), hr]
    rfl
  · cases h
set_option maxRecDepth 100000 in
theorem s_spec_l11Vertex : Sat Try.prog 30 (c_Gi_b f_isV q_isV) := by
  intro args ps r h hp
  unfold c_Gi_b at h
  split at h
  · rename_i a0 a1 v
    simp only [Option.some.injEq, Prod.mk.injEq] at h
    obtain ⟨rfl, rfl⟩ := h
    obtain ⟨h0, h1, h2⟩ : q_isV a0 a1 v := (alls_cons.1 hp).1
    have g0 := h0.frz
    have g1 := frzs_II h1
    generalize H_inRange : inRange = F_inRange
    refine fnOk_ofI (T := tab) (B := [(69, c_impl_inRange F_inRange)]) (Bi := []) [0, 1, 2, 4] Try.func30 rfl rfl (by kernel_rfl) (Nat.le_of_ble_eq_true rfl) mixed tabOk (by subst H_inRange; exact (bookCons s_spec_l01In bookNil)) (by subst H_inRange; exact bookINil) (by kernel_rfl) ?_
    intro L lp rr hL hr hf hlp
    have Er : ∀ x y z, F_inRange x y z = inRange x y z := fun x y z => by rw [← H_inRange]
    conv => cbv
    simp only [stdEqs hL, g0, g1, Er]
    rw [wrap_id (by omega) (by omega), hr]
    rfl
  · cases h
end Go.Ax
