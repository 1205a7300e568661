/-
  What the laws do with branches: sizes, copies, comparisons, marks; the law of semiroots. No conditions but those of the contracts.
-/
import Derived.Test.YtpbkkbjgmlfloaaFdp
set_option linter.all false
namespace Go.Ax
open Go.Proofs

def c_li_i (f0 : List V → Int → Int) : Contract := fun
  | [.slc false 2 (.int .i64 0) a0, .int .i64 a1] => some ([], .int .i64 (f0 a0 a1))
  | _ => none
def c_bi_i (f0 : List V → Int → Int) (q : List V → Int → Prop) : Contract := fun
  | [.agg [.slc false 2 (.int .i64 0) a0], .int .i64 a1] => some ([q a0 a1], .int .i64 (f0 a0 a1))
  | _ => none
def szL (n : Nat) (left : Int) : Int := bif decide (IntKind.wrap .i64 (left - n) < 0) then -1 else IntKind.wrap .i64 (left - n)
def f0_sz (es : List V) (left : Int) : Int := szL es.length left
def noq (_ : List V) (_ : Int) : Prop := True
set_option maxRecDepth 100000 in
theorem s_laws_szInt64S : Sat Try.prog 33 (c_li_i f0_sz) := by
  intro args ps r h hp
  unfold c_li_i at h
  split at h
  · rename_i a0 a1
    simp only [Option.some.injEq, Prod.mk.injEq] at h
    obtain ⟨rfl, rfl⟩ := h
    refine fnOk_ofI (T := tab) (B := []) (Bi := []) [0, 1, 4] Try.func33 rfl rfl (by kernel_rfl) (Nat.le_of_ble_eq_true rfl) mixed tabOk (by exact bookNil) (by exact bookINil) (by kernel_rfl) ?_
    intro L lp rr hL hr hf hlp
    conv => cbv
    simp only [stdEqs hL]
    rw [hr, f0_sz, szL]
    refine ⟨fun h => ?_, fun h => ?_⟩
    · rw [h]; rfl
    · rw [h]; rfl
  · cases h
theorem szL_neg (n : Nat) (left : Int) : (bif decide (szL n left < 0) then -1 else szL n left) = szL n left := by
  unfold szL
  cases h : decide (IntKind.wrap .i64 (left - n) < 0)
  · simp only [cond_false, h]
  · rfl
set_option maxRecDepth 100000 in
theorem s_laws_szBranch : Sat Try.prog 32 (c_bi_i f0_sz noq) := by
  intro args ps r h hp
  unfold c_bi_i at h
  split at h
  · rename_i a0 a1
    simp only [Option.some.injEq, Prod.mk.injEq] at h
    obtain ⟨rfl, rfl⟩ := h
    have g1 : f0_sz (V.frzs a0) a1 = szL a0.length a1 := by rw [f0_sz, V.frzs_eq, List.length_map]
    generalize H_f0_sz : f0_sz = F_f0_sz
    refine fnOk_ofI (T := tab) (B := [(33, c_li_i F_f0_sz)]) (Bi := []) [0, 1, 2, 4] Try.func32 rfl rfl (by kernel_rfl) (Nat.le_of_ble_eq_true rfl) mixed tabOk (by subst H_f0_sz; exact (bookCons s_laws_szInt64S bookNil)) (by subst H_f0_sz; exact bookINil) (by kernel_rfl) ?_
    intro L lp rr hL hr hf hlp
    conv => cbv
    simp only [stdEqs hL]
    subst H_f0_sz
    rw [hr, g1, f0_sz]
    refine ⟨fun h => ?_, fun h => rfl⟩
    have := szL_neg a0.length a1
    rw [h] at this
    rw [← this]
    rfl
  · cases h

def c_b_b (f0 : List V → List V) (q : List V → Prop) : Contract := fun
  | [.agg [.slc false 2 (.int .i64 0) a0]] => some ([q a0], .agg [.slc true 2 (.int .i64 0) (f0 a0)])
  | _ => none
set_option maxRecDepth 100000 in
theorem s_laws_toBranch : Sat Try.prog 43 (c_b_b same IsIs) := by
  intro args ps r h hp
  unfold c_b_b at h
  split at h
  · rename_i a0
    simp only [Option.some.injEq, Prod.mk.injEq] at h
    obtain ⟨rfl, rfl⟩ := h
    have hq : IsIs a0 := (alls_cons.1 hp).1
    have q1 : IsIs (V.frzs a0) := by
      obtain ⟨⟨xs, hxs⟩, hl⟩ := hq
      rw [hxs, I_frzs, ← hxs]
      exact ⟨⟨xs, hxs⟩, hl⟩
    have g1 : V.frzs a0 = a0 := by
      obtain ⟨⟨xs, hxs⟩, hl⟩ := hq
      rw [hxs, I_frzs]
    generalize H_same : same = F_same
    generalize H_IsIs : IsIs = F_IsIs
    refine fnOk_ofI (T := tab) (B := [(44, c_laws_toInt64S F_same F_IsIs)]) (Bi := []) [0, 1, 2, 3] Try.func43 rfl rfl (by kernel_rfl) (Nat.le_of_ble_eq_true rfl) mixed tabOk (by subst H_same H_IsIs; exact (bookCons s_laws_toInt64S bookNil)) (by subst H_same H_IsIs; exact bookINil) (by kernel_rfl) ?_
    intro L lp rr hL hr hf hlp
    conv => cbv
    simp only [stdEqs hL]
    subst H_same H_IsIs
    rw [hr, same, same, g1]
    exact ⟨hq, rfl⟩
  · cases h
def c_bb_bool (f0 : List V → List V → Bool) (q : List V → List V → Prop) : Contract := fun
  | [.agg [.slc false 2 (.int .i64 0) a0], .agg [.slc false 2 (.int .i64 0) a1]] => some ([q a0 a1], .bool (f0 a0 a1))
  | _ => none
set_option maxRecDepth 100000 in
theorem s_laws_eqBranch : Sat Try.prog 57 (c_bb_bool f0_eqI q_eqI) := by
  intro args ps r h hp
  unfold c_bb_bool at h
  split at h
  · rename_i a0 a1
    simp only [Option.some.injEq, Prod.mk.injEq] at h
    obtain ⟨rfl, rfl⟩ := h
    have hq : q_eqI a0 a1 := (alls_cons.1 hp).1
    have g1 : V.frzs a0 = a0 ∧ V.frzs a1 = a1 := by
      obtain ⟨⟨xs, hxs⟩, ys, hys⟩ := hq
      rw [hxs, hys, I_frzs, I_frzs]
      exact ⟨rfl, rfl⟩
    generalize H_f0_eqI : f0_eqI = F_f0_eqI
    generalize H_q_eqI : q_eqI = F_q_eqI
    refine fnOk_ofI (T := tab) (B := [(58, c_laws_eqInt64S F_f0_eqI F_q_eqI)]) (Bi := []) [0, 1, 2, 3, 4] Try.func57 rfl rfl (by kernel_rfl) (Nat.le_of_ble_eq_true rfl) mixed tabOk (by subst H_f0_eqI H_q_eqI; exact (bookCons s_laws_eqInt64S bookNil)) (by subst H_f0_eqI H_q_eqI; exact bookINil) (by kernel_rfl) ?_
    intro L lp rr hL hr hf hlp
    conv => cbv
    simp only [stdEqs hL, g1]
    subst H_f0_eqI H_q_eqI
    rw [hr]
    refine ⟨hq, fun h => ?_, fun h => ?_⟩
    · simp only [Bool.not_eq_true'] at h; rw [h]
    · simp only [Bool.not_eq_false'] at h; rw [h]
  · cases h
end Go.Ax
