import Derived.Test.YtdibahknjbgdkaaB08p1
/-
  Common points of two branches: whether they can share c points, their intersection numbers. No conditions but those of the contracts.
-/
set_option linter.all false
namespace Go.Ax
open Go.Proofs

set_option maxHeartbeats 1000000 in
set_option maxRecDepth 100000 in
theorem s_spec_l01Same : Sat Try.prog 79 (c_ll_b f0_eqI q_II) := by
  intro args ps r h hp
  unfold c_ll_b at h
  split at h
  · rename_i a0 a1
    simp only [Option.some.injEq, Prod.mk.injEq] at h
    obtain ⟨rfl, rfl⟩ := h
    obtain ⟨⟨xs, hxs⟩, ys, hys⟩ : q_II a0 a1 := (alls_cons.1 hp).1
    have hxl : a0.length = xs.length := by rw [hxs, I_length]
    have hyl : a1.length = ys.length := by rw [hys, I_length]
    have hf0 : f0_eqI a0 a1 = decide (xs = ys) := by rw [f0_eqI, hxs, hys, unI_I, unI_I]
    have gx : ∀ i, a0.getD i (.int .i64 0) = .int .i64 (xs.getD i 0) := fun i => by rw [hxs, I_getD]
    have gy : ∀ i, a1.getD i (.int .i64 0) = .int .i64 (ys.getD i 0) := fun i => by rw [hys, I_getD]
    refine fnOk_ofI (T := tab) (B := []) (Bi := []) [0, 1, 4, 5] Try.func79 rfl rfl (by kernel_rfl) (Nat.le_of_ble_eq_true rfl) mixed tabOk (by exact bookNil) (by exact bookINil) (by kernel_rfl) ?_
    intro L lp rr hL hr hf hlp
    have hlen := hf.1.1
    conv => cbv
    simp only [stdEqs hL, imp_self, true_and, and_true, bif_or, bif_and, Bool.or_eq_true, Bool.or_eq_false_iff, Bool.and_eq_true, Bool.and_eq_false_iff, decide_eq_true_eq, decide_eq_false_iff_not, Bool.not_eq_true', Bool.not_eq_false', beq_iff_eq, beq_eq_false_iff_ne, ne_eq, toNat0, toNat1, ok_int, toI_int, I_frzs, I_length, I_getD, ok_ints, toL_slc, hxl, hyl]
    refine ⟨fun h => ?_, fun h => ?_⟩
    · rw [hr, hf0, decide_eq_false]
      rintro rfl
      omega
    refine hlp (Int) _ _ _ [0, 1, 5] (fun x => [(0, none, .val (.slc false 2 (.int .i64 0) a0)), (1, none, .val (.slc false 2 (.int .i64 0) a1)), (5, none, .val (.int .i64 x))])
      (fun x => 0 ≤ x ∧ x ≤ xs.length ∧ xs.take x.toNat = ys.take x.toNat) (fun x => (xs.length - x).toNat) (0) (by subst hL; rfl) ?_ ?_
    · simp
    rintro i ⟨i0, i1, hI⟩ hfx ag hag
    conv => cbv
    simp only [stdEqs hL, imp_self, true_and, and_true, bif_or, bif_and, Bool.or_eq_true, Bool.or_eq_false_iff, Bool.and_eq_true, Bool.and_eq_false_iff, decide_eq_true_eq, decide_eq_false_iff_not, Bool.not_eq_true', Bool.not_eq_false', beq_iff_eq, beq_eq_false_iff_ne, ne_eq, toNat0, toNat1, ok_int, toI_int, I_frzs, I_length, I_getD, ok_ints, toL_slc, hxl, hyl, gx, gy]
    refine ⟨fun h2 => ⟨i0, by omega, i0, by omega, fun h4 => ?_, fun h4 => ?_⟩, fun h2 => ?_⟩
    · rw [hr, hf0, decide_eq_false]
      rintro rfl
      exact h4 rfl
    · rw [wrap_id (n := i + 1) (by omega) (by omega)]
      refine hag (i + 1) ⟨by omega, by omega, ?_⟩ (by omega)
      have e1 : i.toNat < xs.length := by omega
      have e2 : i.toNat < ys.length := by omega
      rw [toNat_succ i0, List.take_succ_eq_append_getElem e1, List.take_succ_eq_append_getElem e2, hI]
      simp only [List.getD_eq_getElem?_getD, List.getElem?_eq_getElem e1, List.getElem?_eq_getElem e2, Option.getD_some] at h4
      rw [h4]
    · rw [List.take_of_length_le (by omega), List.take_of_length_le (by omega)] at hI
      rw [hr, hf0, decide_eq_true hI]
  · cases h
def cshL (X Y : List Int) (c : Nat) : Bool := decide (X.take (c - 1) = Y.take (c - 1)) && (X.getD (c - 1) 0 != Y.getD (c - 1) 0 || X.getD (c - 1) 0 == 0)
def shr (xs ys : List Int) (c : Nat) : Bool := cshL (codeK xs 201) (codeK ys 201) c
end Go.Ax
