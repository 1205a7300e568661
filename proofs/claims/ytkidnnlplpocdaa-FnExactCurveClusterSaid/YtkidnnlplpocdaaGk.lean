/-
  Clusters of curves: CurveCluster, both sides, the law. No conditions but those of the contracts.
-/
import Derived.Test.YtkidnnlplpocdaaGj
import Derived.Test.YtkidnnlplpocdaaHb
set_option linter.all false
namespace Go.Ax
open Go.Proofs

noncomputable def f_cc (a b : List V) : List V × List V × List V × Int := bif f_isCv a b then (bif tooB (unBB a) (unII b) then ([], [], [], 3) else (I (clS (unBB a) (unII b) a.length).1.P, I (clS (unBB a) (unII b) a.length).1.S, I (clS (unBB a) (unII b) a.length).1.Q, 0)) else ([], [], [], 1)
def c_C_Ki (f : List V → List V → List V × List V × List V × Int) (q : List V → List V → Prop) : Contract := fun
  | [.agg [.slc false 99 (.agg [.slc false 2 (.int .i64 0) []]) a0, .slc false 27 (.slc false 2 (.int .i64 0) []) a1]] => some ([q a0 a1], .tup [.agg [.slc true 2 (.int .i64 0) ((f a0 a1).1), .slc true 2 (.int .i64 0) ((f a0 a1).2.1), .slc true 2 (.int .i64 0) ((f a0 a1).2.2.1)], .int .i64 ((f a0 a1).2.2.2)])
  | _ => none
def c_C_Ji (f : List V → List V → List V × List V × List V × Int) (q : List V → List V → Prop) : Contract := fun
  | [.agg [.slc false 99 (.agg [.slc false 2 (.int .i64 0) []]) a0, .slc false 27 (.slc false 2 (.int .i64 0) []) a1]] => some ([q a0 a1], .tup [.agg [.slc false 2 (.int .i64 0) ((f a0 a1).1), .slc false 2 (.int .i64 0) ((f a0 a1).2.1), .slc false 2 (.int .i64 0) ((f a0 a1).2.2.1)], .int .i64 ((f a0 a1).2.2.2)])
  | _ => none
set_option maxRecDepth 100000 in
theorem s_impl_CurveCluster : Sat Try.prog 25 (c_C_Ki f_cc q_C) := by
  intro args ps r h hp
  unfold c_C_Ki at h
  split at h
  · rename_i a0 a1
    simp only [Option.some.injEq, Prod.mk.injEq] at h
    obtain ⟨rfl, rfl⟩ := h
    have hq : q_C a0 a1 := (alls_cons.1 hp).1
    have g1 := frzs_BB hq.1.isBB
    have g2 := frzs_II hq.2.isII
    generalize H_f_isCv : f_isCv = F_f_isCv
    generalize H_q_C : q_C = F_q_C
    generalize H_f_cpt : f_cpt = F_f_cpt
    generalize H_q_cv : q_cv = F_q_cv
    refine fnOk_ofI (T := tab) (B := [(64, c_C_b F_f_isCv F_q_C), (65, c_C_Kli F_f_cpt F_q_cv)]) (Bi := []) [0, 1, 2, 3, 4, 6] Try.func25 rfl rfl (by kernel_rfl) (Nat.le_of_ble_eq_true rfl) mixed tabOk (by subst H_f_isCv H_q_C H_f_cpt H_q_cv; exact (bookCons s_impl_IsCurve (bookCons s_impl_curvePoints bookNil))) (by subst H_f_isCv H_q_C H_f_cpt H_q_cv; exact bookINil) (by kernel_rfl) ?_
    intro L lp rr hL hr hf hlp
    conv => cbv
    simp only [stdEqs hL, imp_self, true_and, and_true, bif_or, bif_and, Bool.or_eq_true, Bool.or_eq_false_iff, Bool.and_eq_true, Bool.and_eq_false_iff, decide_eq_true_eq, decide_eq_false_iff_not, Bool.not_eq_true', Bool.not_eq_false', beq_iff_eq, beq_eq_false_iff_ne, ne_eq, toNat0, toNat1, ok_int, toI_int, I_frzs, I_length, I_getD, ok_ints, toL_slc, g1, g2]
    subst H_f_isCv H_q_C H_f_cpt H_q_cv
    refine ⟨hq, fun h => ?_, fun h => ⟨q_cv_of hq h, ?_⟩⟩
    · rw [hr, f_cc, h]; rfl
    · rw [hr, f_cc, h]
      cases hb : tooB (unBB a0) (unII a1) with
      | true => simp only [f_cpt, hb, cond_true]
      | false => simp only [f_cpt, hb, cond_true, cond_false]
  · cases h
set_option maxRecDepth 100000 in
theorem s_spec_CurveCluster : Sat Try.prog 24 (c_C_Ji f_cc q_C) := by
  intro args ps r h hp
  unfold c_C_Ji at h
  split at h
  · rename_i a0 a1
    simp only [Option.some.injEq, Prod.mk.injEq] at h
    obtain ⟨rfl, rfl⟩ := h
    have hq : q_C a0 a1 := (alls_cons.1 hp).1
    have g1 := frzs_BB hq.1.isBB
    have g2 := frzs_II hq.2.isII
    have hal : a0.length = (unBB a0).length := by obtain ⟨bs, hbs⟩ := hq.1.isBB; rw [hbs, unBB_BB, BB_length]
    generalize H_f_isCv : f_isCv = F_f_isCv
    generalize H_q_C : q_C = F_q_C
    generalize H_f_spc : f_spc = F_f_spc
    generalize H_q_cv : q_cv = F_q_cv
    refine fnOk_ofF (T := tab) (B := [(60, c_C_b F_f_isCv F_q_C), (61, c_C_JLb F_f_spc F_q_cv)]) (Bi := []) [0, 1, 2, 3, 4, 6] Try.func24 rfl rfl (by kernel_rfl) (Nat.le_of_ble_eq_true rfl) mixed tabOk (by subst H_f_isCv H_q_C H_f_spc H_q_cv; exact (bookCons s_spec_l09Is (bookCons s_spec_l09Cluster bookNil))) (by subst H_f_isCv H_q_C H_f_spc H_q_cv; exact bookINil) (by kernel_rfl) ?_
    intro L lp rr hL hr hf hlp
    conv => cbv
    simp only [stdEqs hL, imp_self, true_and, and_true, bif_or, bif_and, Bool.or_eq_true, Bool.or_eq_false_iff, Bool.and_eq_true, Bool.and_eq_false_iff, decide_eq_true_eq, decide_eq_false_iff_not, Bool.not_eq_true', Bool.not_eq_false', beq_iff_eq, beq_eq_false_iff_ne, ne_eq, toNat0, toNat1, ok_int, toI_int, I_frzs, I_length, I_getD, ok_ints, toL_slc, g1, g2]
    subst H_f_isCv H_q_C H_f_spc H_q_cv
    refine ⟨hq, fun h => ?_, fun h => ⟨q_cv_of hq h, ?_⟩⟩
    · rw [hr, f_cc, h]; rfl
    · rw [hr, f_cc, h]
      obtain ⟨c1, c2⟩ := @spc_cases (unBB a0) (unII a1)
      rw [← hal] at c1 c2
      cases hb : tooB (unBB a0) (unII a1) with
      | true =>
        rcases c1 hb with h1 | ⟨h1, h2⟩
        · have e : f_spc a0 a1 = ([], [], [], [], false) := by rw [f_spc, h1]; rfl
          rw [e]
          exact ⟨fun _ => rfl, fun h => absurd h (by simp)⟩
        · have e : f_spc a0 a1 = (I (clS (unBB a0) (unII a1) a0.length).1.P, I (clS (unBB a0) (unII a1) a0.length).1.S, I (clS (unBB a0) (unII a1) a0.length).1.Q, I (leavL (clS (unBB a0) (unII a1) a0.length).2), false) := by rw [f_spc, h1, h2]; rfl
          rw [e]
          exact ⟨fun _ => rfl, fun h => absurd h (by simp)⟩
      | false =>
        obtain ⟨h1, h2⟩ := c2 hb
        have e : f_spc a0 a1 = (I (clS (unBB a0) (unII a1) a0.length).1.P, I (clS (unBB a0) (unII a1) a0.length).1.S, I (clS (unBB a0) (unII a1) a0.length).1.Q, I (leavL (clS (unBB a0) (unII a1) a0.length).2), true) := by rw [f_spc, h1, h2]; rfl
        rw [e]
        refine ⟨fun h => absurd h (by simp), fun _ => ?_⟩
        simp only [I_frzs]
        rfl
  · cases h
set_option maxRecDepth 100000 in
theorem s_laws_FnExactCurveCluster : Sat Try.prog 4 (c_law_D yesC q_law_D) := by
  intro args ps r h hp
  unfold c_law_D at h
  split at h
  · rename_i a0 a1
    simp only [Option.some.injEq, Prod.mk.injEq] at h
    obtain ⟨rfl, rfl⟩ := h
    have hq : q_C' a0 a1 := (alls_cons.1 hp).1
    have g0 := frzs_BB hq.1
    have g1 := frzs_II hq.2
    generalize H_f_szC : f_szC = F_f_szC
    generalize H_q_szC : q_szC = F_q_szC
    generalize H_f_cpC : f_cpC = F_f_cpC
    generalize H_q_cpC : q_cpC = F_q_cpC
    generalize H_f_cc : f_cc = F_f_cc
    generalize H_q_C : q_C = F_q_C
    generalize H_f0_eqC : f0_eqC = F_f0_eqC
    generalize H_q_eqC : q_eqC = F_q_eqC
    generalize H_f_eqK : f_eqK = F_f_eqK
    generalize H_q_eqK : q_eqK = F_q_eqK
    generalize H_f0_heldK : f0_heldK = F_f0_heldK
    generalize H_q_heldK : q_heldK = F_q_heldK
    generalize H_f0_markK : f0_markK = F_f0_markK
    generalize H_f1_markK : f1_markK = F_f1_markK
    generalize H_f2_markK : f2_markK = F_f2_markK
    generalize H_f3_markK : f3_markK = F_f3_markK
    generalize H_q_markK : q_markK = F_q_markK
    generalize H_f0_markC : f0_markC = F_f0_markC
    generalize H_f1_markC : f1_markC = F_f1_markC
    generalize H_f2_markC : f2_markC = F_f2_markC
    generalize H_q_markC : q_markC = F_q_markC
    refine fnOk_ofI (T := tab) (B := [(15, c_Di_i F_f_szC F_q_szC), (17, c_D_C F_f_cpC F_q_cpC), (24, c_C_Ji F_f_cc F_q_C), (25, c_C_Ki F_f_cc F_q_C), (20, c_cc_bool F_f0_eqC F_q_eqC), (26, c_KK_b F_f_eqK F_q_eqK), (28, c_Ki_i F_f0_heldK F_q_heldK)]) (Bi := [(27, 0, false, ic_markK F_f0_markK F_f1_markK F_f2_markK F_f3_markK F_q_markK), (21, 0, false, ic_markC F_f0_markC F_f1_markC F_f2_markC F_q_markC)]) [2000005621, 0, 1, 2, 3, 4, 5, 6, 7, 8, 9, 10, 11, 12, 13] Try.func4 rfl rfl (by kernel_rfl) (Nat.le_of_ble_eq_true rfl) mixed tabOk (by subst H_f_szC H_q_szC H_f_cpC H_q_cpC H_f_cc H_q_C H_f0_eqC H_q_eqC H_f_eqK H_q_eqK H_f0_heldK H_q_heldK H_f0_markK H_f1_markK H_f2_markK H_f3_markK H_q_markK H_f0_markC H_f1_markC H_f2_markC H_q_markC; exact (bookCons s_laws_szCurve (bookCons s_laws_toCurve (bookCons s_spec_CurveCluster (bookCons s_impl_CurveCluster (bookCons s_laws_eqCurve (bookCons s_laws_eqCluster (bookCons s_laws_heldCluster bookNil)))))))) (by subst H_f_szC H_q_szC H_f_cpC H_q_cpC H_f_cc H_q_C H_f0_eqC H_q_eqC H_f_eqK H_q_eqK H_f0_heldK H_q_heldK H_f0_markK H_f1_markK H_f2_markK H_f3_markK H_q_markK H_f0_markC H_f1_markC H_f2_markC H_q_markC; exact (bookICons s_laws_markCluster (bookICons s_laws_markCurve bookINil))) (by kernel_rfl) ?_
    intro L lp rr hL hr hf hlp
    have hlen := hf.1
    conv => cbv
    simp only [stdEqs hL, g0, g1]
    subst H_f_szC H_q_szC H_f_cpC H_q_cpC H_f_cc H_q_C H_f0_eqC H_q_eqC H_f_eqK H_q_eqK H_f0_heldK H_q_heldK H_f0_markK H_f1_markK H_f2_markK H_f3_markK H_q_markK H_f0_markC H_f1_markC H_f2_markC H_q_markC
    refine ⟨hq, fun h => by rw [hr]; rfl, fun h => ?_⟩
    obtain ⟨hc, ht1, ht2, _, _⟩ := szC_ok (by omega) (by omega) hq hlen.1.1 hlen.1.2 hlen.2.1.1 hlen.2.1.2 h
    obtain ⟨⟨bs, hbs⟩, ⟨ms, hms⟩⟩ := hq
    have e0 : f_cpC a0 a1 = (BB true bs, II true ms) := by rw [f_cpC, hbs, hms, unBB_BB, unII_II]
    rw [hbs, unBB_BB] at ht1
    rw [hms, unII_II] at ht2
    have kg := curve_keys bs ms (by omega)
    have hqc : q_C (BB false bs) (II false ms) := by have := q_C_of hc; rwa [hbs, hms] at this
    have hqx := hqc

    obtain ⟨P, S, Q, code, ez, hzl⟩ : ∃ (P S Q : List Int) (code : Int), f_cc (BB false bs) (II false ms) = (I P, I S, I Q, code) ∧ P.length + S.length + Q.length ≤ 72 := by
      rw [f_cc, f_isCv, unBB_BB, unII_II]
      cases hh : isCv bs ms with
      | false => exact ⟨[], [], [], 1, rfl, by simp⟩
      | true =>
        cases hb : tooB bs ms with
        | true => exact ⟨[], [], [], 3, rfl, by simp⟩
        | false =>
          have hc := isCv_iff.1 hh
          have hk := clS_ok hc bs.length (Nat.le_refl _)
          have h24 := (spc_cases.2 hb).2
          simp only [decide_eq_true_eq] at h24
          have := hk.sl
          have := hk.ql
          refine ⟨_, _, _, _, rfl, ?_⟩
          rw [BB_length]
          omega
    have ck := cluster_keys P S Q (by omega)
    have hn1 : ∀ n : Nat, decide ((1 : Int) + n < 0) = false := fun n => by simp; omega
    have hn2 : ∀ n m : Nat, decide ((1 : Int) + n + m < 0) = false := fun n m => by simp; omega
    have hn3 : ∀ n m r : Nat, decide ((1 : Int) + n + m + r < 0) = false := fun n m r => by simp; omega
    simp only [e0, hc, II_frzs, BB_frzs, kg, hqc, ez, ck, hn1, hn2, hn3, hr, yesC, I_frzs]
    simp
  · cases h
end Go.Ax
