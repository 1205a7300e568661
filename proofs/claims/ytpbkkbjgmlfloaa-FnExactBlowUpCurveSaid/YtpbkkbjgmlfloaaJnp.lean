/-
  BlowUpCurve: both sides, the law. No conditions but those of the contracts.
-/
import Derived.Test.YtpbkkbjgmlfloaaJip
import Derived.Test.YtpbkkbjgmlfloaaJkp
import Derived.Test.YtpbkkbjgmlfloaaJlp
set_option linter.all false
namespace Go.Ax
open Go.Proofs

noncomputable def f_BU (a b : List V) : List V × Int := bif f_isCv a b then f_bup a b else ([], 1)
set_option maxRecDepth 100000 in
theorem s_impl_BlowUpCurve : Sat Try.prog 11 (c_C_Ri f_BU q_C) := by
  intro args ps r h hp
  unfold c_C_Ri at h
  split at h
  · rename_i a0 a1
    simp only [Option.some.injEq, Prod.mk.injEq] at h
    obtain ⟨rfl, rfl⟩ := h
    have hq : q_C a0 a1 := (alls_cons.1 hp).1
    have g1 := frzs_BB hq.1.isBB
    have g2 := frzs_II hq.2.isII
    generalize H_f_isCv : f_isCv = F_f_isCv
    generalize H_q_C : q_C = F_q_C
    generalize H_f_bup : f_bup = F_f_bup
    generalize H_q_cv : q_cv = F_q_cv
    refine fnOk_ofI (T := tab) (B := [(23, c_C_b F_f_isCv F_q_C), (24, c_C_Ri F_f_bup F_q_cv)]) (Bi := []) [0, 1, 2, 3] Try.func11 rfl rfl (by kernel_rfl) (Nat.le_of_ble_eq_true rfl) mixed tabOk (by subst H_f_isCv H_q_C H_f_bup H_q_cv; exact (bookCons s_impl_IsCurve (bookCons s_impl_blownUp bookNil))) (by subst H_f_isCv H_q_C H_f_bup H_q_cv; exact bookINil) (by kernel_rfl) ?_
    intro L lp rr hL hr hf hlp
    conv => cbv
    simp only [stdEqs hL, imp_self, true_and, and_true, bif_or, bif_and, Bool.or_eq_true, Bool.or_eq_false_iff, Bool.and_eq_true, Bool.and_eq_false_iff, decide_eq_true_eq, decide_eq_false_iff_not, Bool.not_eq_true', Bool.not_eq_false', beq_iff_eq, beq_eq_false_iff_ne, ne_eq, toNat0, toNat1, ok_int, toI_int, I_frzs, I_length, I_getD, ok_ints, toL_slc, g1, g2]
    subst H_f_isCv H_q_C H_f_bup H_q_cv
    refine ⟨hq, fun h => ?_, fun h => ⟨q_cv_of hq h, ?_⟩⟩
    · rw [hr, f_BU, h]; rfl
    · rw [hr, f_BU, h]; rfl
  · cases h
set_option maxRecDepth 100000 in
theorem s_spec_BlowUpCurve : Sat Try.prog 10 (c_C_Ri f_BU q_C) := by
  intro args ps r h hp
  unfold c_C_Ri at h
  split at h
  · rename_i a0 a1
    simp only [Option.some.injEq, Prod.mk.injEq] at h
    obtain ⟨rfl, rfl⟩ := h
    have hq : q_C a0 a1 := (alls_cons.1 hp).1
    have g1 := frzs_BB hq.1.isBB
    have g2 := frzs_II hq.2.isII
    generalize H_f_isCv : f_isCv = F_f_isCv
    generalize H_q_C : q_C = F_q_C
    generalize H_f_bupB : f_bupB = F_f_bupB
    generalize H_q_cv : q_cv = F_q_cv
    refine fnOk_ofI (T := tab) (B := [(18, c_C_b F_f_isCv F_q_C), (19, c_C_Rb F_f_bupB F_q_cv)]) (Bi := []) [0, 1, 2, 3, 4, 5] Try.func10 rfl rfl (by kernel_rfl) (Nat.le_of_ble_eq_true rfl) mixed tabOk (by subst H_f_isCv H_q_C H_f_bupB H_q_cv; exact (bookCons s_spec_l09Is (bookCons s_spec_l10BlowUp bookNil))) (by subst H_f_isCv H_q_C H_f_bupB H_q_cv; exact bookINil) (by kernel_rfl) ?_
    intro L lp rr hL hr hf hlp
    conv => cbv
    simp only [stdEqs hL, imp_self, true_and, and_true, bif_or, bif_and, Bool.or_eq_true, Bool.or_eq_false_iff, Bool.and_eq_true, Bool.and_eq_false_iff, decide_eq_true_eq, decide_eq_false_iff_not, Bool.not_eq_true', Bool.not_eq_false', beq_iff_eq, beq_eq_false_iff_ne, ne_eq, toNat0, toNat1, ok_int, toI_int, I_frzs, I_length, I_getD, ok_ints, toL_slc, g1, g2]
    subst H_f_isCv H_q_C H_f_bupB H_q_cv
    have e0 : f_BU a0 a1 = bif f_isCv a0 a1 then bupR (bl (unBB a0) (unII a1) a0.length) else ([], 1) := rfl
    have e1 : f_bupB a0 a1 = bupB (bl (unBB a0) (unII a1) a0.length) := rfl
    rw [hr, e0, e1]
    cases bl (unBB a0) (unII a1) a0.length with
    | none =>
      refine ⟨hq, fun h => ?_, fun h => ⟨q_cv_of hq h, ?_⟩⟩
      · rw [h]; rfl
      · rw [h]
        exact ⟨fun _ => rfl, fun h' => (by cases h')⟩
    | some o =>
      refine ⟨hq, fun h => ?_, fun h => ⟨q_cv_of hq h, ?_⟩⟩
      · rw [h]; rfl
      · rw [h]
        exact ⟨fun h' => (by cases h'), fun _ => rfl⟩
  · cases h
theorem blS_tot {bs ms : List (List Int)} {L : List Int} (hl : L.length ≤ 6) (hb : ∀ i, i < L.length → Br (bs.getD i [])) : ∀ (t : Nat) {o : List Cur}, blS bs ms L t = some o → totC o ≤ t * 1000
  | 0, o, h => by simp only [blS, Option.some.injEq] at h; subst h; simp [totC]
  | t + 1, o, h => by
    rw [blS] at h
    cases h1 : blS bs ms L t with
    | none => rw [h1] at h; cases h
    | some o' =>
      rw [h1, Option.bind_some] at h
      split at h
      · simp only [Option.some.injEq] at h
        subst h
        obtain ⟨hin, hle⟩ := plN_in L t L.length
        have h2 := blS_tot hl hb t h1
        have h3 := tot_le (stB bs (plN L t L.length) (plN L t L.length).length) 64 (fun x hx => by
          simp only [stB, tab', List.mem_map, List.mem_range] at hx
          obtain ⟨k, hk, rfl⟩ := hx
          have := hin k hk
          have h5 := hb ((plN L t L.length).getD k 0).toNat (by omega)
          rw [if_pos hk]
          exact (str_seq h5).1.len)
        have h4 := tot_le (stM ms (plN L t L.length) (plN L t L.length).length 0) 6 (fun x hx => by
          simp only [stM, tab', List.mem_map, List.mem_range] at hx
          obtain ⟨k, hk, rfl⟩ := hx
          rw [dcR_len]; omega)
        rw [stB_len] at h3
        rw [stM_len] at h4
        rw [totC_append]
        simp only [totC]
        omega
      · cases h
theorem BU_keys {bs ms : List (List Int)} : ∃ (o : List Cur) (code : Int), f_BU (BB false bs) (II false ms) = (CC true o, code) ∧ o.length ≤ 6 ∧ totC o ≤ 6000 := by
  rw [f_BU, f_isCv, unBB_BB, unII_II]
  cases hh : isCv bs ms with
  | false => exact ⟨[], 1, rfl, by simp, by simp [totC]⟩
  | true =>
    have hcv := isCv_iff.1 hh
    have n6 := hcv.n6
    rw [cond_true, f_bup, BB_length, unBB_BB, unII_II]
    cases hb : bl bs ms bs.length with
    | none => exact ⟨[], 3, rfl, by simp, by simp [totC]⟩
    | some o =>
      obtain ⟨t1, t2, t3, _⟩ := tanS_in ms bs.length
      have h1 := blS_len _ hb
      have h2 := blS_tot (by omega) (fun i hi => br_of (hcv.br i (by omega))) _ hb
      exact ⟨o, 0, rfl, by omega, by omega⟩
theorem curs_keys (o : List Cur) (h1 : o.length ≤ 6) (h2 : totC o ≤ 6000) :
    q_eqCC (CC false o) (CC false o) ∧ q_markCC (CC true o) 1 ∧ f0_markCC (CC true o) 1 = 1 + totC o ∧ f1_markCC (CC true o) 1 = CC true (marksC 1 o) ∧ V.frzs (CC true (marksC 1 o)) = CC false (marksC 1 o) ∧
      q_heldCC (CC false (marksC 1 o)) 1 ∧ f0_markCC (CC false (marksC 1 o)) 1 = 1 + totC o ∧ yesCC (CC false o) (CC false o) = true ∧ V.noFzs (CC true o) = true ∧ V.frzs (CC true o) = CC false o :=
  ⟨⟨o, rfl, rfl, by omega⟩, ⟨o, rfl, by omega, by omega, by omega⟩, by rw [f0_markCC, unCC_CC], by rw [f1_markCC, unCC_CC], CC_frzs _ _, ⟨o, rfl, by omega, by omega, by omega⟩, by rw [f0_markCC, unCC_CC, totC_marksC], rfl, CC_noFzs _, CC_frzs _ _⟩
set_option maxRecDepth 100000 in
theorem s_laws_FnExactBlowUpCurve : Sat Try.prog 4 (c_law_D yesC q_law_D) := by
  intro args ps r h hp
  unfold c_law_D at h
  split at h
  · rename_i a0 a1
    simp only [Option.some.injEq, Prod.mk.injEq] at h
    obtain ⟨rfl, rfl⟩ := h
    have hq : q_C' a0 a1 := (alls_cons.1 hp).1
    have g0 := frzs_BB hq.1
    have g1 := frzs_II hq.2
    generalize H_f_szC : f_szC = F_f_szC
    generalize H_q_szC : q_szC = F_q_szC
    generalize H_f_cpC : f_cpC = F_f_cpC
    generalize H_q_cpC : q_cpC = F_q_cpC
    generalize H_f_BU : f_BU = F_f_BU
    generalize H_q_C : q_C = F_q_C
    generalize H_f0_eqC : f0_eqC = F_f0_eqC
    generalize H_q_eqC : q_eqC = F_q_eqC
    generalize H_yesCC : yesCC = F_yesCC
    generalize H_q_eqCC : q_eqCC = F_q_eqCC
    generalize H_f0_markCC : f0_markCC = F_f0_markCC
    generalize H_q_heldCC : q_heldCC = F_q_heldCC
    generalize H_f0_markC : f0_markC = F_f0_markC
    generalize H_f1_markC : f1_markC = F_f1_markC
    generalize H_f2_markC : f2_markC = F_f2_markC
    generalize H_q_markC : q_markC = F_q_markC
    generalize H_f1_markCC : f1_markCC = F_f1_markCC
    generalize H_q_markCC : q_markCC = F_q_markCC
    refine fnOk_ofI (T := tab) (B := [(5, c_Di_i F_f_szC F_q_szC), (7, c_D_C F_f_cpC F_q_cpC), (10, c_C_Ri F_f_BU F_q_C), (11, c_C_Ri F_f_BU F_q_C), (9, c_cc_bool F_f0_eqC F_q_eqC), (12, c_eqCC F_yesCC F_q_eqCC), (15, c_heldCC F_f0_markCC F_q_heldCC)]) (Bi := [(13, 0, false, ic_markC F_f0_markC F_f1_markC F_f2_markC F_q_markC), (14, 0, false, ic_markCC F_f0_markCC F_f1_markCC F_q_markCC)]) [0, 1, 2, 3, 4, 5, 6, 7, 8, 9, 10, 11, 12, 13] Try.func4 rfl rfl (by kernel_rfl) (Nat.le_of_ble_eq_true rfl) mixed tabOk (by subst H_f_szC H_q_szC H_f_cpC H_q_cpC H_f_BU H_q_C H_f0_eqC H_q_eqC H_yesCC H_q_eqCC H_f0_markCC H_q_heldCC H_f0_markC H_f1_markC H_f2_markC H_q_markC H_f1_markCC H_q_markCC; exact (bookCons s_laws_szCurve (bookCons s_laws_toCurve (bookCons s_spec_BlowUpCurve (bookCons s_impl_BlowUpCurve (bookCons s_laws_eqCurve (bookCons s_laws_eqCurveS (bookCons s_laws_heldCurveS bookNil)))))))) (by subst H_f_szC H_q_szC H_f_cpC H_q_cpC H_f_BU H_q_C H_f0_eqC H_q_eqC H_yesCC H_q_eqCC H_f0_markCC H_q_heldCC H_f0_markC H_f1_markC H_f2_markC H_q_markC H_f1_markCC H_q_markCC; exact (bookICons s_laws_markCurve (bookICons s_laws_markCurveS bookINil))) (by kernel_rfl) ?_
    intro L lp rr hL hr hf hlp
    have hlen := hf.1
    conv => cbv
    simp only [stdEqs hL, g0, g1]
    subst H_f_szC H_q_szC H_f_cpC H_q_cpC H_f_BU H_q_C H_f0_eqC H_q_eqC H_yesCC H_q_eqCC H_f0_markCC H_q_heldCC H_f0_markC H_f1_markC H_f2_markC H_q_markC H_f1_markCC H_q_markCC
    refine ⟨hq, fun h => by rw [hr]; rfl, fun h => ?_⟩
    obtain ⟨hc, ht1, ht2, _, _⟩ := szC_ok (by omega) (by omega) hq hlen.1.1 hlen.1.2 hlen.2.1.1 hlen.2.1.2 h
    obtain ⟨⟨bs, hbs⟩, ⟨ms, hms⟩⟩ := hq
    have e0 : f_cpC a0 a1 = (BB true bs, II true ms) := by rw [f_cpC, hbs, hms, unBB_BB, unII_II]
    rw [hbs, unBB_BB] at ht1
    rw [hms, unII_II] at ht2
    have kg := curve_keys bs ms (by omega)
    have hqc : q_C (BB false bs) (II false ms) := by have := q_C_of hc; rwa [hbs, hms] at this
    obtain ⟨o, code, eb, o6, ot⟩ := @BU_keys bs ms
    have ck := curs_keys o o6 ot
    have hn1 : ∀ n : Nat, decide ((1 : Int) + n < 0) = false := fun n => by simp; omega
    simp only [e0, hc, kg, hqc, eb, ck, hn1, hr, yesC]
    simp
    omega
  · cases h
end Go.Ax
