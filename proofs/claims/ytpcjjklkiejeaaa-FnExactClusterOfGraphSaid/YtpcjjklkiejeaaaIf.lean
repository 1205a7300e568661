/-
  ClusterOfGraph: spec. No conditions but those of the contracts.
-/
import Derived.Test.YtpcjjklkiejeaaaId
set_option linter.all false
namespace Go.Ax
open Go.Proofs
set_option maxHeartbeats 2000000

theorem pts_take {nm li : List Int} {t : Nat} (h : t < li.length) : (ptsG nm li).take (t + 1 + 1) = (ptsG nm li).take (t + 1) ++ [li.getD (li.length - 1 - t) 0] := by
  rw [ptsG, List.take_succ_cons, List.take_succ_cons, List.cons_append, List.take_succ, List.getElem?_reverse h, List.getD_eq_getElem?_getD (l := li), List.getElem?_eq_getElem (show li.length - 1 - t < li.length by omega)]
  rfl
set_option maxRecDepth 100000 in
theorem s_spec_ClusterOfGraph : Sat Try.prog 17 (c_G_Kli f_cog q_G) := by
  intro args ps r h hp
  unfold c_G_Kli at h
  split at h
  · rename_i a0 a1
    simp only [Option.some.injEq, Prod.mk.injEq] at h
    obtain ⟨rfl, rfl⟩ := h
    have hq : q_G a0 a1 := (alls_cons.1 hp).1
    obtain ⟨⟨ws, hws⟩, es, hes⟩ := id hq
    have g0 := hq.1.frz
    have g1 := frzs_II hq.2
    have hwl : a0.length = ws.length := by rw [hws, I_length]
    obtain ⟨n, hn⟩ : ∃ n : Int, n = ws.length := ⟨_, rfl⟩
    obtain ⟨us, rs, os, fs, ms, ok, hz⟩ : ∃ us rs os fs ms ok, f_ctrs a0 a1 = (us, rs, os, fs, ms, ok) := ⟨_, _, _, _, _, _, rfl⟩
    obtain ⟨sm, code, hsm⟩ : ∃ sm code, f_ism a0 a1 = (sm, code) := ⟨_, _, rfl⟩
    generalize H_f_ism : f_ism = F_f_ism
    generalize H_q_G : q_G = F_q_G
    generalize H_f_ctrs : f_ctrs = F_f_ctrs
    generalize H_q_ctr : q_ctr = F_q_ctr
    generalize H_f_idx : f_idx = F_f_idx
    generalize H_q_lI : q_lI = F_q_lI
    refine fnOk_ofI (T := tab) (B := [(15, c_G_bi F_f_ism F_q_G), (25, c_G_Ctn F_f_ctrs F_q_ctr), (36, c_lxi_i F_f_idx F_q_lI)]) (Bi := []) [0, 1, 2, 3, 4, 5, 6, 7, 8, 10, 12, 13, 14, 15, 16, 17, 18] Try.func17 rfl rfl (by kernel_rfl) (Nat.le_of_ble_eq_true rfl) mixed tabOk (by subst H_f_ism H_q_G H_f_ctrs H_q_ctr H_f_idx H_q_lI; exact (bookCons s_spec_IsSmoothGraph (bookCons s_spec_l12Contraction (bookCons s_spec_l01Index bookNil)))) (by subst H_f_ism H_q_G H_f_ctrs H_q_ctr H_f_idx H_q_lI; exact bookINil) (by kernel_rfl) ?_
    intro L lp rr hL hr hf hlp
    have Ez : F_f_ctrs a0 a1 = (us, rs, os, fs, ms, ok) := by rw [← H_f_ctrs, hz]
    have Em : F_f_ism a0 a1 = (sm, code) := by rw [← H_f_ism, hsm]
    conv => cbv
    simp only [stdEqs hL, imp_self, true_and, and_true, bif_or, bif_and, Bool.or_eq_true, Bool.or_eq_false_iff, Bool.and_eq_true, Bool.and_eq_false_iff, decide_eq_true_eq, decide_eq_false_iff_not, Bool.not_eq_true', Bool.not_eq_false', beq_iff_eq, beq_eq_false_iff_ne, ne_eq, toNat0, toNat1, ok_int, toI_int, I_frzs, I_length, I_getD, ok_ints, toL_slc, g0, g1, hwl, Ez, Em, ← hn]
    rw [f_ism] at hsm
    refine ⟨by rw [← H_q_G]; exact hq, fun h2 => ?_, fun h2 => ⟨fun h3 => ?_, fun h3 => ⟨fun h4 => ?_, fun h4 => ?_⟩⟩⟩
    · rw [hr, f_cog]
      cases hG : f_isGr a0 a1 with
      | false =>
        rw [hG] at hsm
        simp only [cond_false, Prod.mk.injEq] at hsm
        rw [← hsm.2]; rfl
      | true =>
        rw [hG, hws, hes, unI_I, unII_II] at hsm
        rw [hws, hes, unI_I, unII_II]
        cases hc : ctI ws es with
        | none =>
          rw [hc] at hsm
          simp only [cond_true, Prod.mk.injEq] at hsm
          rw [← hsm.2]; rfl
        | some x =>
          rw [hc] at hsm
          simp only [cond_true, Prod.mk.injEq] at hsm
          exact absurd hsm.2.symm h2
    all_goals
      have hG : f_isGr a0 a1 = true := by
        cases hG : f_isGr a0 a1 with
        | true => rfl
        | false =>
          rw [hG] at hsm
          simp only [cond_false, Prod.mk.injEq] at hsm
          omega
      rw [hG, hws, hes, unI_I, unII_II] at hsm
      obtain ⟨x, hc⟩ : ∃ x, ctI ws es = some x := by
        cases hc : ctI ws es with
        | some x => exact ⟨x, rfl⟩
        | none =>
          rw [hc] at hsm
          simp only [cond_true, Prod.mk.injEq] at hsm
          omega
      obtain ⟨wx, ex, nm, li, nr⟩ := x
      rw [hc] at hsm
      simp only [cond_true, Prod.mk.injEq] at hsm
      have hff : f_cog a0 a1 = bif sm then (bif decide (24 < ws.length) then ([], [], [], [], 3) else (I (parG nm li nr li.length), I (secG nm li nr li.length), I (List.replicate ws.length 0), I (ptsG nm li), 0)) else ([], [], [], [], 5) := by
        rw [f_cog, hG, hws, hes, unI_I, unII_II, hc, ← hsm.1]; rfl
    · rw [hr, hff, h3]; rfl
    · rw [hr, hff, h3, decide_eq_true (show 24 < ws.length by omega)]; rfl
    have hg : isGr ws es = true := by rw [f_isGr, hws, hes, unI_I, unII_II] at hG; exact hG
    have gr := gr_of hg
    have n1 := gr.n1
    have n2 := gr.n2
    have n3 := gr.el
    obtain ⟨gx, hQ, hle⟩ := ct_ok gr.toN (Sep_of gr.n1 gr.ed gr.acyc) hc
    simp only at gx hQ hle
    have hwx : wx.length = 1 := by
      have h5 := hsm.1
      rw [h3, Bool.and_eq_true, smo, Bool.and_eq_true, decide_eq_true_eq] at h5
      exact h5.1.1
    have hnm : nm.length = 1 := by
      have h9 : nm.length = wx.length := hQ.len
      omega
    have hnl : li.length + 1 = ws.length := by
      have h5 := hQ.perm.length_eq
      rw [iota_len, List.length_append] at h5
      simp only at h5
      omega
    have hrl : nr.length = li.length := hQ.nl
    rw [f_ctrs, hws, hes, unI_I, unII_II, hc] at hz
    simp only [Prod.mk.injEq] at hz
    obtain ⟨hz1, hz2, hz3, hz4, hz5, -⟩ := hz
    have hul : us.length = li.length := by rw [← hz1, I_length]
    have hrl2 : rs.length = li.length := by rw [← hz2, II_length, hrl]
    have hml : ms.length = 1 := by rw [← hz5, I_length, hnm]
    have gms : ∀ k, ms.getD k (.int .i64 0) = .int .i64 (nm.getD k 0) := fun k => by rw [← hz5, I_getD]
    have gus : ∀ k, us.getD k (.int .i64 0) = .int .i64 (li.getD k 0) := fun k => by rw [← hz1, I_getD]
    have grs : ∀ j, rs.getD j (.slc false 2 (.int .i64 0) []) = .slc false 2 (.int .i64 0) (I (nr.getD j [])) := fun j => by rw [← hz2, II_getD]
    have f1 : V.frzs us = us := by rw [← hz1, I_frzs]
    have f2 : V.frzs rs = rs := by rw [← hz2, II_frzs]
    have f5 : V.frzs ms = ms := by rw [← hz5, I_frzs]
    have hpl : (ptsG nm li).length = ws.length := by rw [ptsG_len, hnl]
    simp only [hml, gms, toI_int, hul]
    rw [wrap_id (n := (li.length : Int) - 1) (by omega) (by omega)]
    obtain ⟨m, hm⟩ : ∃ m : Int, m = li.length := ⟨_, rfl⟩
    rw [← hm]
    refine ⟨by rw [← H_q_ctr]; exact q_ctr_of hq hG, by omega, by omega, rfl, ?_⟩
    refine hlp ((List V × List V × List V × List V) × Int) _ _ _ [2, 7, 8, 12, 13, 14] (fun x => [(2, none, .val (.box 39 (.agg [.slc true 2 (.int .i64 0) [], .slc true 2 (.int .i64 0) [], .slc true 2 (.int .i64 0) []]))), (7, none, .val (.slc false 2 (.int .i64 0) us)), (8, none, .val (.slc false 22 (.slc false 2 (.int .i64 0) []) rs)), (12, none, .val (.slc true 2 (.int .i64 0) x.1.1)), (13, none, .val (.box 39 (.agg [.slc true 2 (.int .i64 0) x.1.2.1, .slc true 2 (.int .i64 0) x.1.2.2.1, .slc true 2 (.int .i64 0) x.1.2.2.2]))), (14, none, .val (.int .i64 x.2))])
      (fun x => -1 ≤ x.2 ∧ x.2 ≤ m - 1 ∧ x.1.1 = I ((ptsG nm li).take ((m - 1 - x.2).toNat + 1)) ∧ x.1.2.1 = I (parG nm li nr (m - 1 - x.2).toNat) ∧ x.1.2.2.1 = I (secG nm li nr (m - 1 - x.2).toNat) ∧ x.1.2.2.2 = I (List.replicate ((m - 1 - x.2).toNat + 1) 0)) (fun x => (x.2 + 1).toNat) ((([V.int IntKind.i64 (nm.getD 0 0)], [V.int IntKind.i64 (-1)], [V.int IntKind.i64 (-1)], [V.int IntKind.i64 0]), m - 1)) (by subst hL; rfl) ?_ ?_
    · refine ⟨by simp only; omega, by simp only; omega, ?_, ?_, ?_, ?_⟩
      all_goals
        simp only [Int.sub_self]; rfl
    rintro ⟨⟨ts, ps, ss, qs⟩, k⟩ ⟨k0, k1, hT, hP, hS, hZ⟩ hfx ag hag
    simp only at k0 k1 hT hP hS hZ
    have htl : ts.length = (m - 1 - k).toNat + 1 := by rw [hT, I_length, List.length_take, ptsG_len]; omega
    have hpsl : ps.length = (m - 1 - k).toNat + 1 := by rw [hP, I_length, parG_len]
    have hssl : ss.length = (m - 1 - k).toNat + 1 := by rw [hS, I_length, secG_len]
    have hqsl : qs.length = (m - 1 - k).toNat + 1 := by rw [hZ, I_length, List.length_replicate]
    have fts : V.frzs ts = ts := by rw [hT, I_frzs]
    obtain ⟨kn, hkn⟩ : ∃ kn, kn = k.toNat := ⟨_, rfl⟩
    obtain ⟨L, hL9⟩ : ∃ L, L = nr.getD kn [] := ⟨_, rfl⟩
    obtain ⟨lm, hlm⟩ : ∃ lm : Int, lm = L.length := ⟨_, rfl⟩
    conv => cbv
    simp only [stdEqs hL, imp_self, true_and, and_true, bif_or, bif_and, Bool.or_eq_true, Bool.or_eq_false_iff, Bool.and_eq_true, Bool.and_eq_false_iff, decide_eq_true_eq, decide_eq_false_iff_not, Bool.not_eq_true', Bool.not_eq_false', beq_iff_eq, beq_eq_false_iff_ne, ne_eq, toNat0, toNat1, ok_int, toI_int, I_frzs, I_length, I_getD, ok_ints, toL_slc, f1, f2, ← hkn]
    refine ⟨fun h7 => ?_, fun h7 => ?_⟩
    · have hkl : kn < li.length := by omega
      have hLl : L.length ≤ 1000 := by rw [hL9]; exact hQ.nb _ (by simp only; exact mem_getD (by omega))
      have hkt : li.length - 1 - (m - 1 - k).toNat = kn := by omega
      have hLin : ∀ v ∈ L, v ∈ (ptsG nm li).take ((m - 1 - k).toNat + 1) := fun v hv => by
        rw [hL9] at hv
        refine pts_near hQ hnm (t := (m - 1 - k).toNat) (by omega) ?_
        rw [hkt]
        exact hv
      refine hlp ((Int × Int) × Int) _ _ _ [2, 7, 8, 12, 13, 14, 15, 16, 17] (fun x => [(2, none, .val (.box 39 (.agg [.slc true 2 (.int .i64 0) [], .slc true 2 (.int .i64 0) [], .slc true 2 (.int .i64 0) []]))), (7, none, .val (.slc false 2 (.int .i64 0) us)), (8, none, .val (.slc false 22 (.slc false 2 (.int .i64 0) []) rs)), (12, none, .val (.slc true 2 (.int .i64 0) ts)), (13, none, .val (.box 39 (.agg [.slc true 2 (.int .i64 0) ps, .slc true 2 (.int .i64 0) ss, .slc true 2 (.int .i64 0) qs]))), (14, none, .val (.int .i64 k)), (15, none, .val (.int .i64 x.1.1)), (16, none, .val (.int .i64 x.1.2)), (17, none, .val (.int .i64 x.2))])
        (fun x => 0 ≤ x.2 ∧ x.2 ≤ lm ∧ x.1 = parS (fun v => idx (ptsG nm li) v) (-1, -1) (L.take x.2.toNat)) (fun x => (lm - x.2).toNat) (((-1, -1), 0)) (by subst hL; rfl) ?_ ?_
      · exact ⟨by simp, by simp only; omega, rfl⟩
      rintro ⟨⟨p, q⟩, j⟩ ⟨j0, j1, hPQ⟩ hfx2 ag2 hag2
      simp only at j0 j1 hPQ
      obtain ⟨ix, hix⟩ : ∃ ix, ix = idx ((ptsG nm li).take ((m - 1 - k).toNat + 1)) := ⟨_, rfl⟩
      have Ei : ∀ v, F_f_idx ts v = ix v := fun v => by rw [← H_f_idx, f_idx, hT, unI_I, hix]
      conv => cbv
      simp only [stdEqs hL, imp_self, true_and, and_true, bif_or, bif_and, Bool.or_eq_true, Bool.or_eq_false_iff, Bool.and_eq_true, Bool.and_eq_false_iff, decide_eq_true_eq, decide_eq_false_iff_not, Bool.not_eq_true', Bool.not_eq_false', beq_iff_eq, beq_eq_false_iff_ne, ne_eq, toNat0, toNat1, ok_int, toI_int, I_frzs, I_length, I_getD, ok_ints, toL_slc, f1, f2, fts, hrl2, grs, ← hkn, ← hL9, I_length, ← hlm, I_getD, hul, gus, Ei]
      rw [wrap_id (n := j + 1) (by omega) (by omega), wrap_id (n := k - 1) (by omega) (by omega)]
      refine ⟨h7, by omega, fun h8 => ⟨h7, by omega, j0, h8, ?_, fun h9 => ?_, fun h9 => ?_⟩, fun h8 => ?_⟩
      · rw [← H_q_lI]
        exact ⟨⟨_, hT⟩, by omega⟩
      · have hjl : j.toNat < L.length := by omega
        obtain ⟨t, ht⟩ : ∃ t, t = L.getD j.toNat 0 := ⟨_, rfl⟩
        have htm := hLin t (by rw [ht]; exact gAtD hjl)
        have hd : ix t = idx (ptsG nm li) t := by rw [hix, idx_take htm]
        obtain ⟨d, hd2⟩ : ∃ d, d = idx (ptsG nm li) t := ⟨_, rfl⟩
        rw [← ht, hd, ← hd2] at h9
        simp only [← ht, hd, ← hd2]
        refine hag2 ((_, _), j + 1) ⟨by simp only; omega, by simp only; omega, ?_⟩ (by simp only; omega)
        simp only [toNat_succ j0]
        have htk : L.take (j.toNat + 1) = L.take j.toNat ++ [t] := by
          rw [List.take_succ, ht, List.getD_eq_getElem?_getD, List.getElem?_eq_getElem hjl]; rfl
        rw [htk, parS_snoc, ← hPQ]
        simp only [Prod.mk.injEq, ← hd2]
        omega
      · have hjl : j.toNat < L.length := by omega
        obtain ⟨t, ht⟩ : ∃ t, t = L.getD j.toNat 0 := ⟨_, rfl⟩
        have htm := hLin t (by rw [ht]; exact gAtD hjl)
        have hd : ix t = idx (ptsG nm li) t := by rw [hix, idx_take htm]
        obtain ⟨d, hd2⟩ : ∃ d, d = idx (ptsG nm li) t := ⟨_, rfl⟩
        rw [← ht, hd, ← hd2] at h9
        simp only [← ht, hd, ← hd2]
        refine hag2 ((_, _), j + 1) ⟨by simp only; omega, by simp only; omega, ?_⟩ (by simp only; omega)
        simp only [toNat_succ j0]
        have htk : L.take (j.toNat + 1) = L.take j.toNat ++ [t] := by
          rw [List.take_succ, ht, List.getD_eq_getElem?_getD, List.getElem?_eq_getElem hjl]; rfl
        rw [htk, parS_snoc, ← hPQ]
        simp only [Prod.mk.injEq, ← hd2]
        omega
      · rw [List.take_of_length_le (by omega)] at hPQ
        have hrow : rowG nm li nr (m - 1 - k).toNat = (p, q) := by
          rw [rowG, hkt, ← hL9, hPQ]
        have hnx : (m - 1 - (k - 1)).toNat = (m - 1 - k).toNat + 1 := by omega
        refine ⟨h7, by omega, rfl, by simp only [List.length_singleton]; omega, solid_one _, rfl, by simp only [List.length_singleton]; omega, solid_one _, rfl, by simp only [List.length_singleton]; omega, solid_one _, rfl, by simp only [List.length_singleton]; omega, solid_one _, ?_⟩
        refine hag ((_, _, _, _), k - 1) ⟨by simp only; omega, by simp only; omega, ?_, ?_, ?_, ?_⟩ (by simp only; omega)
        · simp only [hnx]
          rw [hT, pts_take (by omega), ← I_append, hkt]; rfl
        · simp only [hnx]
          rw [hP, parG_succ, ← I_append, hrow]; rfl
        · simp only [hnx]
          rw [hS, secG_succ, ← I_append, hrow]; rfl
        · simp only [hnx]
          rw [hZ, List.replicate_succ' (n := (m - 1 - k).toNat + 1), ← I_append]; rfl
    · have hk9 : (m - 1 - k).toNat = li.length := by omega
      rw [hk9] at hP hS hT hZ
      rw [List.take_of_length_le (by rw [ptsG_len]; exact Nat.le_refl _)] at hT
      rw [hnl] at hZ
      rw [hr, hff, h3, decide_eq_false (show ¬ 24 < ws.length by omega), hP, hS, hZ, hT]
      rfl
  · cases h
end Go.Ax
