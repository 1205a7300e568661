import Derived.Test.YtdkfhllofjdmaaaB20n2
/-
  The law of CurveEquality. No conditions but those of the contracts.
-/
set_option linter.all false
namespace Go.Ax
open Go.Proofs
set_option maxHeartbeats 1000000

theorem curve_keysM (bs ms : List (List Int)) (k : Int) (hk : 0 ≤ k) (h : k + tot bs + tot ms ≤ 4611686018427387904) :
    q_markC (BB true bs) (II true ms) k ∧ f0_markC (BB true bs) (II true ms) k = k + tot bs + tot ms := by
  have e : f0_markBS (BB true bs) k = k + tot bs := by rw [f0_markBS, unBB_BB]
  refine ⟨⟨⟨⟨_, rfl⟩, by omega, by rw [unBB_BB]; omega⟩, ?_⟩, by rw [f0_markC, e, f0_markSS, unII_II]⟩
  rw [e]
  exact ⟨⟨_, rfl⟩, by omega, by rw [unII_II]; omega⟩
def c_law_DD (f : List V → List V → List V → List V → Bool) (q : List V → List V → List V → List V → Prop) : Contract := fun
  | [.agg [.slc false 59 (.agg [.slc false 2 (.int .i64 0) []]) a0, .slc false 27 (.slc false 2 (.int .i64 0) []) a1], .agg [.slc false 59 (.agg [.slc false 2 (.int .i64 0) []]) a2, .slc false 27 (.slc false 2 (.int .i64 0) []) a3]] => some ([q a0 a1 a2 a3], .bool (f a0 a1 a2 a3))
  | _ => none
def q_law_DD (a b c d : List V) : Prop := q_C' a b ∧ q_C' c d
def yesDD (_ _ _ _ : List V) : Bool := true
set_option maxHeartbeats 1000000 in
set_option maxRecDepth 100000 in
theorem s_laws_FnExactCurveEquality : Sat Try.prog 3 (c_law_DD yesDD q_law_DD) := by
  intro args ps r h hp
  unfold c_law_DD at h
  split at h
  · rename_i a0 a1 a2 a3
    simp only [Option.some.injEq, Prod.mk.injEq] at h
    obtain ⟨rfl, rfl⟩ := h
    obtain ⟨hq, hq2⟩ : q_law_DD a0 a1 a2 a3 := (alls_cons.1 hp).1
    have g0 := frzs_BB hq.1
    have g1 := frzs_II hq.2
    have g2 := frzs_BB hq2.1
    have g3 := frzs_II hq2.2
    generalize H_f_szC : f_szC = F_f_szC
    generalize H_q_szC : q_szC = F_q_szC
    generalize H_f_cpC : f_cpC = F_f_cpC
    generalize H_q_cpC : q_cpC = F_q_cpC
    generalize H_f_ceq : f_ceq = F_f_ceq
    generalize H_q_CC : q_CC = F_q_CC
    generalize H_f0_eqC : f0_eqC = F_f0_eqC
    generalize H_q_eqC : q_eqC = F_q_eqC
    generalize H_f0_eqI : f0_eqI = F_f0_eqI
    generalize H_q_eqI : q_eqI = F_q_eqI
    generalize H_f0_held : f0_held = F_f0_held
    generalize H_q_mark : q_mark = F_q_mark
    generalize H_f0_mark : f0_mark = F_f0_mark
    generalize H_f1_mark : f1_mark = F_f1_mark
    generalize H_f0_markC : f0_markC = F_f0_markC
    generalize H_f1_markC : f1_markC = F_f1_markC
    generalize H_f2_markC : f2_markC = F_f2_markC
    generalize H_q_markC : q_markC = F_q_markC
    refine fnOk_ofI (T := tab) (B := [(5, c_Di_i F_f_szC F_q_szC), (7, c_D_C F_f_cpC F_q_cpC), (6, c_CC_li F_f_ceq F_q_CC), (8, c_CC_li F_f_ceq F_q_CC), (10, c_cc_bool F_f0_eqC F_q_eqC), (9, c_laws_eqInt64S F_f0_eqI F_q_eqI), (13, c_heldInt64S F_f0_held F_q_mark)]) (Bi := [(12, 0, false, ic_markInt64S F_f0_mark F_f1_mark F_q_mark), (11, 0, false, ic_markC F_f0_markC F_f1_markC F_f2_markC F_q_markC)]) [2000008033, 2000008632, 2000031100, 2000031699, 0, 1, 2, 3, 4, 5, 6, 7, 8, 9, 10, 11, 12, 13, 14, 15, 16] Try.func3 rfl rfl (by kernel_rfl) (Nat.le_of_ble_eq_true rfl) mixed tabOk (by subst H_f_szC H_q_szC H_f_cpC H_q_cpC H_f_ceq H_q_CC H_f0_eqC H_q_eqC H_f0_eqI H_q_eqI H_f0_held H_q_mark H_f0_mark H_f1_mark H_f0_markC H_f1_markC H_f2_markC H_q_markC; exact (bookCons s_laws_szCurve (bookCons s_laws_toCurve (bookCons s_spec_CurveEquality (bookCons s_impl_CurveEquality (bookCons s_laws_eqCurve (bookCons s_laws_eqInt64S (bookCons s_laws_heldInt64S bookNil)))))))) (by subst H_f_szC H_q_szC H_f_cpC H_q_cpC H_f_ceq H_q_CC H_f0_eqC H_q_eqC H_f0_eqI H_q_eqI H_f0_held H_q_mark H_f0_mark H_f1_mark H_f0_markC H_f1_markC H_f2_markC H_q_markC; exact (bookICons s_laws_markInt64S (bookICons s_laws_markCurve bookINil))) (by kernel_rfl) ?_
    intro L lp rr hL hr hf hlp
    have hlen := hf.1
    have hlen2 := hf.2.1
    conv => cbv
    simp only [stdEqs hL, g0, g1, g2, g3]
    subst H_f_szC H_q_szC H_f_cpC H_q_cpC H_f_ceq H_q_CC H_f0_eqC H_q_eqC H_f0_eqI H_q_eqI H_f0_held H_q_mark H_f0_mark H_f1_mark H_f0_markC H_f1_markC H_f2_markC H_q_markC
    refine ⟨hq, fun h => by rw [hr]; rfl, fun h => ?_⟩
    obtain ⟨hc, ht1, ht2, ls1, ls2⟩ := szC_ok (by omega) (by omega) hq hlen.1.1 hlen.1.2 hlen.2.1.1 hlen.2.1.2 h
    refine ⟨hq2, fun h => by rw [hr]; rfl, fun h2 => ?_⟩
    obtain ⟨hc2, ht3, ht4, _, _⟩ := szC_ok ls1 (by omega) hq2 hlen2.1.1 hlen2.1.2 hlen2.2.1.1 hlen2.2.1.2 h2
    obtain ⟨⟨bs, hbs⟩, ⟨ms, hms⟩⟩ := hq
    obtain ⟨⟨ds, hds⟩, ⟨ns, hns⟩⟩ := hq2
    have e0 : f_cpC a0 a1 = (BB true bs, II true ms) := by rw [f_cpC, hbs, hms, unBB_BB, unII_II]
    have e1 : f_cpC a2 a3 = (BB true ds, II true ns) := by rw [f_cpC, hds, hns, unBB_BB, unII_II]
    rw [hbs, unBB_BB] at ht1
    rw [hms, unII_II] at ht2
    rw [hds, unBB_BB] at ht3
    rw [hns, unII_II] at ht4
    have kg := curve_keys bs ms (by omega)
    have kd := curve_keys ds ns (by omega)
    have km := curve_keysM ds ns (1 + tot bs + tot ms) (by omega) (by omega)
    have hqc : q_C (BB false bs) (II false ms) := by have := q_C_of hc; rwa [hbs, hms] at this
    have hqd : q_C (BB false ds) (II false ns) := by have := q_C_of hc2; rwa [hds, hns] at this
    have hqx : q_CC (BB false bs) (II false ms) (BB false ds) (II false ns) := ⟨hqc, hqd⟩
    obtain ⟨zs, code, ez, hzl⟩ : ∃ (zs : List Int) (code : Int), f_ceq (BB false bs) (II false ms) (BB false ds) (II false ns) = (I zs, code) ∧ zs.length ≤ 6 := by
      rw [f_ceq, f_isCv, f_isCv, unBB_BB, unII_II, unBB_BB, unII_II]
      cases hh : isCv bs ms && isCv ds ns with
      | false => exact ⟨[], 1, rfl, by simp⟩
      | true =>
        rw [cond_true]
        cases h3 : decide ((BB false bs).length = (BB false ds).length) with
        | false => exact ⟨[], 4, rfl, by simp⟩
        | true =>
          rw [cond_true]
          cases h4 : (f_map (BB false bs) (II false ms) (BB false ds) (II false ns)).isEmpty with
          | true => exact ⟨[], 4, rfl, by simp⟩
          | false =>
            refine ⟨_, 0, rfl, ?_⟩
            simp only [Bool.and_eq_true] at hh
            have hcv := isCv_iff.1 hh.1
            rw [f_map, BB_length]
            rcases mapsF_least (chk := chkC (unBB (BB false bs)) (unII (II false ms)) (unBB (BB false ds)) (unII (II false ns))) hcv.n1 with ⟨e, _⟩ | ⟨e, _⟩
            · rw [e]; simp
            · rw [e.length_eq, iota_len]; exact hcv.n6
    have ck := ints_keys zs (by omega)
    have hn1 : ∀ n : Nat, decide ((1 : Int) + n < 0) = false := fun n => by simp; omega
    have hn2 : ∀ n m : Nat, decide ((1 : Int) + n + m < 0) = false := fun n m => by simp; omega
    have hn3 : ∀ n m r : Nat, decide ((1 : Int) + n + m + r < 0) = false := fun n m r => by simp; omega
    have hn4 : ∀ n m r s : Nat, decide ((1 : Int) + n + m + r + s < 0) = false := fun n m r s => by simp; omega
    simp only [e0, e1, hc, hc2, kg, kd, km, hqc, hqd, hqx, ez, ck, hn1, hn2, hn3, hn4, hr, yesDD, I_frzs]
    simp
  · cases h
end Go.Ax
