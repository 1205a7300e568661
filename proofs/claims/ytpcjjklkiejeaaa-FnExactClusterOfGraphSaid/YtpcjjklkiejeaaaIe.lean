/-
  ClusterOfGraph: impl. No conditions but those of the contracts.
-/
import Derived.Test.YtpcjjklkiejeaaaId
set_option linter.all false
namespace Go.Ax
open Go.Proofs
set_option maxHeartbeats 2000000

set_option maxRecDepth 100000 in
theorem s_impl_ClusterOfGraph : Sat Try.prog 18 (c_G_Kli f_cog q_G) := by
  intro args ps r h hp
  unfold c_G_Kli at h
  split at h
  · rename_i a0 a1
    simp only [Option.some.injEq, Prod.mk.injEq] at h
    obtain ⟨rfl, rfl⟩ := h
    have hq : q_G a0 a1 := (alls_cons.1 hp).1
    obtain ⟨⟨ws, hws⟩, es, hes⟩ := id hq
    have g0 := hq.1.frz
    have g1 := frzs_II hq.2
    have hwl : a0.length = ws.length := by rw [hws, I_length]
    obtain ⟨n, hn⟩ : ∃ n : Int, n = ws.length := ⟨_, rfl⟩
    obtain ⟨us, rs, os, fs, ms, code, hz⟩ : ∃ us rs os fs ms code, f_ctr a0 a1 = (us, rs, os, fs, ms, code) := ⟨_, _, _, _, _, _, rfl⟩
    obtain ⟨us', hus⟩ : ∃ v, v = V.frzs us := ⟨_, rfl⟩
    obtain ⟨rs', hrs⟩ : ∃ v, v = V.frzs rs := ⟨_, rfl⟩
    obtain ⟨os', hos⟩ : ∃ v, v = V.frzs os := ⟨_, rfl⟩
    obtain ⟨fs', hfs⟩ : ∃ v, v = V.frzs fs := ⟨_, rfl⟩
    obtain ⟨ms', hms⟩ : ∃ v, v = V.frzs ms := ⟨_, rfl⟩
    obtain ⟨cn, hcn⟩ : ∃ b, b = f_conn a0 a1 := ⟨_, rfl⟩
    obtain ⟨sb, hsb⟩ : ∃ b, b = f_smo us' rs' os' fs' ms' := ⟨_, rfl⟩
    generalize H_f_isGr : f_isGr = F_f_isGr
    generalize H_q_G : q_G = F_q_G
    generalize H_f_ctr : f_ctr = F_f_ctr
    generalize H_q_ctr : q_ctr = F_q_ctr
    generalize H_f_conn : f_conn = F_f_conn
    generalize H_q_conn : q_conn = F_q_conn
    generalize H_f_smo : f_smo = F_f_smo
    generalize H_q_smo : q_smo = F_q_smo
    generalize H_f_rev : f_rev = F_f_rev
    generalize H_IsIs : IsIs = F_IsIs
    refine fnOk_ofI (T := tab) (B := [(28, c_G_b F_f_isGr F_q_G), (29, c_G_Ni F_f_ctr F_q_ctr), (34, c_G_b F_f_conn F_q_conn), (35, c_N_b F_f_smo F_q_smo), (37, c_laws_toInt64S F_f_rev F_IsIs)]) (Bi := []) [0, 1, 2, 3, 4, 5, 6, 7, 8, 9, 10, 11, 12, 13, 14, 15, 17, 57, 58, 59, 86, 87, 88] Try.func18 rfl rfl (by kernel_rfl) (Nat.le_of_ble_eq_true rfl) mixed tabOk (by subst H_f_isGr H_q_G H_f_ctr H_q_ctr H_f_conn H_q_conn H_f_smo H_q_smo H_f_rev H_IsIs; exact (bookCons s_impl_IsGraph (bookCons s_impl_contract (bookCons s_impl_isConnected (bookCons s_impl_smooth (bookCons s_impl_reversed bookNil)))))) (by subst H_f_isGr H_q_G H_f_ctr H_q_ctr H_f_conn H_q_conn H_f_smo H_q_smo H_f_rev H_IsIs; exact bookINil) (by kernel_rfl) ?_
    intro L lp rr hL hr hf hlp
    have Ez : F_f_ctr a0 a1 = (us, rs, os, fs, ms, code) := by rw [← H_f_ctr, hz]
    have Ec : F_f_conn a0 a1 = cn := by rw [← H_f_conn, hcn]
    have Es : F_f_smo us' rs' os' fs' ms' = sb := by rw [← H_f_smo, hsb]
    conv => cbv
    simp only [stdEqs hL, imp_self, true_and, and_true, bif_or, bif_and, Bool.or_eq_true, Bool.or_eq_false_iff, Bool.and_eq_true, Bool.and_eq_false_iff, decide_eq_true_eq, decide_eq_false_iff_not, Bool.not_eq_true', Bool.not_eq_false', beq_iff_eq, beq_eq_false_iff_ne, ne_eq, toNat0, toNat1, ok_int, toI_int, I_frzs, I_length, I_getD, ok_ints, toL_slc, g0, g1, hwl, Ez, Ec, ← hus, ← hrs, ← hos, ← hfs, ← hms, Es, ← hn]
    refine ⟨by rw [← H_q_G]; exact hq, fun h => ?_, fun h => ?_⟩
    · have hG : f_isGr a0 a1 = false := by rw [H_f_isGr]; exact h
      rw [hr, f_cog, hG]; rfl
    have hG : f_isGr a0 a1 = true := by rw [H_f_isGr]; exact h
    have hg : isGr ws es = true := by rw [f_isGr, hws, hes, unI_I, unII_II] at hG; exact hG
    have gr := gr_of hg
    have n1 := gr.n1
    have n2 := gr.n2
    have n3 := gr.el
    refine ⟨by rw [← H_q_ctr]; exact q_ctr_of hq hG, fun h2 => ?_, fun h2 => ?_⟩
    · have hc : ctI ws es = none := by
        cases hc : ctI ws es with
        | none => rfl
        | some x =>
          rw [f_ctr, hws, hes, unI_I, unII_II, hc] at hz
          simp only [Prod.mk.injEq] at hz
          exact absurd hz.2.2.2.2.2.symm h2
      have hf0 : f_cog a0 a1 = ([], [], [], [], 3) := by rw [f_cog, hG, hws, hes, unI_I, unII_II, hc]; rfl
      rw [f_ctr, hws, hes, unI_I, unII_II, hc] at hz
      simp only [Prod.mk.injEq] at hz
      rw [hr, hf0, ← hz.2.2.2.2.2]
    obtain ⟨x, hc⟩ : ∃ x, ctI ws es = some x := by
      cases hc : ctI ws es with
      | some x => exact ⟨x, rfl⟩
      | none =>
        rw [f_ctr, hws, hes, unI_I, unII_II, hc] at hz
        simp only [Prod.mk.injEq] at hz
        omega
    obtain ⟨wx, ex, nm, li, nr⟩ := x
    rw [f_ctr, hws, hes, unI_I, unII_II, hc] at hz
    simp only [Prod.mk.injEq] at hz
    obtain ⟨hz1, hz2, hz3, hz4, hz5, -⟩ := hz
    obtain ⟨gx, hQ, hle⟩ := ct_ok gr.toN (Sep_of gr.n1 gr.ed gr.acyc) hc
    simp only at gx hQ hle
    have eus : us' = I li := by rw [hus, ← hz1, I_frzs]
    have ers : rs' = II false nr := by rw [hrs, ← hz2, II_frzs]
    have eos : os' = I wx := by rw [hos, ← hz3, I_frzs]
    have efs : fs' = II false ex := by rw [hfs, ← hz4, II_frzs]
    have ems : ms' = I nm := by rw [hms, ← hz5, I_frzs]
    have esb : sb = smo wx := by rw [hsb, f_smo, eos, unI_I]
    have hf0 : f_cog a0 a1 = bif sb && cn then (bif decide (24 < ws.length) then ([], [], [], [], 3) else (I (parG nm li nr li.length), I (secG nm li nr li.length), I (List.replicate ws.length 0), I (ptsG nm li), 0)) else ([], [], [], [], 5) := by
      rw [f_cog, hG, ← hcn, hws, hes, unI_I, unII_II, hc, esb]; rfl
    refine ⟨by rw [← H_q_conn]; exact ⟨⟨_, hws⟩, ⟨_, hes⟩, by omega, by rw [hes, II_length]; omega⟩, fun _ => by rw [← H_q_smo]; exact ⟨⟨_, eus⟩, ⟨_, ers⟩, ⟨_, eos⟩, ⟨_, efs⟩, ⟨_, ems⟩⟩, fun h3 => ?_, fun h3 => ⟨fun h4 => ?_, fun h4 => ?_⟩⟩
    · rw [hr, hf0]
      rcases h3 with h3 | h3 <;> rw [h3]
      · rw [Bool.and_false]; rfl
      · rfl
    · rw [hr, hf0, h3.1, h3.2, decide_eq_true (show 24 < ws.length by omega)]; rfl
    have hwx : wx.length = 1 := by
      have h5 := h3.2
      rw [esb, smo, Bool.and_eq_true, decide_eq_true_eq] at h5
      exact h5.1
    have hnm : nm.length = 1 := by
      have h9 : nm.length = wx.length := hQ.len
      omega
    have hnl : li.length + 1 = ws.length := by
      have h5 := hQ.perm.length_eq
      rw [iota_len, List.length_append] at h5
      simp only at h5
      omega
    have hrl : nr.length = li.length := hQ.nl
    have hul : us.length = li.length := by rw [← hz1, I_length]
    have hrl2 : rs.length = li.length := by rw [← hz2, II_length, hrl]
    have hml : ms.length = 1 := by rw [← hz5, I_length, hnm]
    have gms : ∀ k, ms.getD k (.int .i64 0) = .int .i64 (nm.getD k 0) := fun k => by rw [← hz5, I_getD]
    have Er : F_f_rev us' = I li.reverse := by rw [← H_f_rev, f_rev, eus, unI_I]
    have Qr : F_IsIs us' := by rw [← H_IsIs, eus]; exact ⟨⟨_, rfl⟩, by rw [I_length]; omega⟩
    obtain ⟨vp, hvp⟩ : ∃ vp, vp = I (ptsG nm li) := ⟨_, rfl⟩
    have hvp2 : V.int .i64 (nm.getD 0 0) :: I li.reverse = vp := by rw [hvp]; rfl
    have hvpl : vp.length = ws.length := by rw [hvp, I_length, ptsG_len, hnl]
    have hnp : (ptsG nm li).Nodup := (pts_perm hnm hQ.perm).nodup_iff.2 (iota_nodup _)
    have hpin : ∀ v ∈ ptsG nm li, 0 ≤ v ∧ v < ws.length := fun v hv => mem_iota.1 ((pts_perm hnm hQ.perm).mem_iff.1 hv)
    have hpl : (ptsG nm li).length = ws.length := by rw [ptsG_len, hnl]
    have gvp : ∀ k, vp.getD k (.int .i64 0) = .int .i64 ((ptsG nm li).getD k 0) := fun k => by rw [hvp, I_getD]
    obtain ⟨va0, hva0⟩ : ∃ va0, va0 = List.replicate n.toNat (V.int IntKind.i64 0) := ⟨_, rfl⟩
    have hva1 : va0 = I (atG (ptsG nm li) ws.length 0) := by rw [hva0, atG_0, I_replicate]; rw [hn, Int.toNat_natCast]
    simp only [hml, gms, Er, toI_int, List.cons_append, List.nil_append, hvp2, hvpl, ← hn, ← hva0]
    refine ⟨by omega, by omega, by omega, rfl, Qr, I_noFzs _, I_owneds _, by simp only [I_length, List.length_reverse, List.length_singleton]; omega, I_solid _, by omega, by omega, by omega, ?_⟩
    refine hlp (List V × Int) _ _ _ [2, 5, 7, 8, 9, 57, 58, 59] (fun x => [(2, none, .val (.box 39 (.agg [.slc true 2 (.int .i64 0) [], .slc true 2 (.int .i64 0) [], .slc true 2 (.int .i64 0) []]))), (5, none, .val (.box 51 (.agg [.slc true 2 (.int .i64 0) us, .slc true 22 (.slc true 2 (.int .i64 0) []) rs, .agg [.slc true 2 (.int .i64 0) os, .slc true 22 (.slc true 2 (.int .i64 0) []) fs], .slc true 2 (.int .i64 0) ms]))), (7, none, .val (.int .i64 n)), (8, none, .val (.slc true 2 (.int .i64 0) vp)), (9, none, .val (.slc true 2 (.int .i64 0) x.1)), (57, none, .rf 8 0 []), (58, none, .val (.int .i64 n)), (59, none, .val (.int .i64 x.2))])
      (fun x => 0 ≤ x.2 ∧ x.2 ≤ n ∧ x.1 = I (atG (ptsG nm li) ws.length x.2.toNat)) (fun x => (n - x.2).toNat) ((va0, 0)) (by subst hL; rfl) ?_ ?_
    · exact ⟨by simp, by simp only; omega, hva1⟩
    rintro ⟨va, i⟩ ⟨i0, i1, hA⟩ hfx ag hag
    simp only at i0 i1 hA
    have hal : va.length = ws.length := by rw [hA, I_length, atG_len]
    have gva : ∀ k, va.getD k (.int .i64 0) = .int .i64 ((atG (ptsG nm li) ws.length i.toNat).getD k 0) := fun k => by rw [hA, I_getD]
    conv => cbv
    simp only [stdEqs hL, imp_self, true_and, and_true, bif_or, bif_and, Bool.or_eq_true, Bool.or_eq_false_iff, Bool.and_eq_true, Bool.and_eq_false_iff, decide_eq_true_eq, decide_eq_false_iff_not, Bool.not_eq_true', Bool.not_eq_false', beq_iff_eq, beq_eq_false_iff_ne, ne_eq, toNat0, toNat1, ok_int, toI_int, I_frzs, I_length, I_getD, ok_ints, toL_slc, hvpl, gvp, hal, gva, ← hn, hul, ← hva0]
    rw [wrap_id (n := i + 1) (by omega) (by omega), wrap_id (n := (li.length : Int) - 1) (by omega) (by omega)]
    refine ⟨fun h7 => ?_, fun h7 => ⟨by omega, by omega, by omega, ?_⟩⟩
    · have hin : i.toNat < (ptsG nm li).length := by omega
      have htn := hpin _ (gAtD hin)
      refine ⟨i0, h7, by omega, htn.1, by omega, by omega, ?_⟩
      refine hag (_, i + 1) ⟨by simp only; omega, by simp only; omega, ?_⟩ (by simp only; omega)
      simp only [toNat_succ i0]
      rw [hA, I_set]
      have h9 := atG_step (n := ws.length) hnp hin htn.1 htn.2
      rw [show ((i.toNat : Nat) : Int) = i by omega] at h9
      rw [h9]
    clear hag hfx ag
    have hiw : ws.length ≤ i.toNat := by omega
    have hva : ∀ v ∈ ptsG nm li, (atG (ptsG nm li) ws.length i.toNat).getD v.toNat 0 = idx (ptsG nm li) v := fun v hv => atG_get hv (hpin v hv).1 (hpin v hv).2 (by omega)
    obtain ⟨m, hm⟩ : ∃ m : Int, m = li.length := ⟨_, rfl⟩
    rw [← hm]
    refine hlp ((List V × List V) × Int) _ _ _ [2, 5, 8, 9, 12, 13] (fun x => [(2, none, .val (.box 39 (.agg [.slc true 2 (.int .i64 0) [], .slc true 2 (.int .i64 0) [], .slc true 2 (.int .i64 0) []]))), (5, none, .val (.box 51 (.agg [.slc true 2 (.int .i64 0) us, .slc true 22 (.slc true 2 (.int .i64 0) []) rs, .agg [.slc true 2 (.int .i64 0) os, .slc true 22 (.slc true 2 (.int .i64 0) []) fs], .slc true 2 (.int .i64 0) ms]))), (8, none, .val (.slc true 2 (.int .i64 0) vp)), (9, none, .val (.slc true 2 (.int .i64 0) va)), (12, none, .val (.box 39 (.agg [.slc true 2 (.int .i64 0) x.1.1, .slc true 2 (.int .i64 0) x.1.2, .slc true 2 (.int .i64 0) va0]))), (13, none, .val (.int .i64 x.2))])
      (fun x => -1 ≤ x.2 ∧ x.2 ≤ m - 1 ∧ x.1.1 = I (parG nm li nr (m - 1 - x.2).toNat) ∧ x.1.2 = I (secG nm li nr (m - 1 - x.2).toNat)) (fun x => (x.2 + 1).toNat) ((([V.int IntKind.i64 (-1)], [V.int IntKind.i64 (-1)]), m - 1)) (by subst hL; rfl) ?_ ?_
    · refine ⟨by simp only; omega, by simp only; omega, ?_, ?_⟩
      · simp only [Int.sub_self]; rfl
      · simp only [Int.sub_self]; rfl
    rintro ⟨⟨ps, ss⟩, k⟩ ⟨k0, k1, hP, hS⟩ hfx ag hag
    simp only at k0 k1 hP hS
    have hpsl : ps.length = (m - 1 - k).toNat + 1 := by rw [hP, I_length, parG_len]
    have hssl : ss.length = (m - 1 - k).toNat + 1 := by rw [hS, I_length, secG_len]
    have grs : ∀ j, rs.getD j (.slc true 2 (.int .i64 0) []) = .slc true 2 (.int .i64 0) (I (nr.getD j [])) := fun j => by rw [← hz2, II_getD]
    obtain ⟨kn, hkn⟩ : ∃ kn, kn = k.toNat := ⟨_, rfl⟩
    obtain ⟨L, hL9⟩ : ∃ L, L = nr.getD kn [] := ⟨_, rfl⟩
    obtain ⟨lm, hlm⟩ : ∃ lm : Int, lm = L.length := ⟨_, rfl⟩
    conv => cbv
    simp only [stdEqs hL, imp_self, true_and, and_true, bif_or, bif_and, Bool.or_eq_true, Bool.or_eq_false_iff, Bool.and_eq_true, Bool.and_eq_false_iff, decide_eq_true_eq, decide_eq_false_iff_not, Bool.not_eq_true', Bool.not_eq_false', beq_iff_eq, beq_eq_false_iff_ne, ne_eq, toNat0, toNat1, ok_int, toI_int, I_frzs, I_length, I_getD, ok_ints, toL_slc, hrl2, grs, ← hkn, ← hL9, I_length, ← hlm]
    refine ⟨fun h7 => ?_, fun h7 => ?_⟩
    · have hkl : kn < li.length := by omega
      have hkr : kn < rs.length := by omega
      have hLl : L.length ≤ 1000 := by rw [hL9]; exact hQ.nb _ (by simp only; exact mem_getD (by omega))
      have hLin : ∀ v ∈ L, v ∈ ptsG nm li := fun v hv => by
        rw [hL9] at hv
        refine List.mem_of_mem_take (pts_near hQ hnm (t := li.length - 1 - kn) (by omega) ?_)
        rw [show li.length - 1 - (li.length - 1 - kn) = kn by omega]
        exact hv
      refine ⟨h7, by omega, hkl, hkl, ?_⟩
      refine hlp ((Int × Int) × Int) _ _ _ [2, 5, 8, 9, 12, 13, 14, 15, 86, 87, 88] (fun x => [(2, none, .val (.box 39 (.agg [.slc true 2 (.int .i64 0) [], .slc true 2 (.int .i64 0) [], .slc true 2 (.int .i64 0) []]))), (5, none, .val (.box 51 (.agg [.slc true 2 (.int .i64 0) us, .slc true 22 (.slc true 2 (.int .i64 0) []) rs, .agg [.slc true 2 (.int .i64 0) os, .slc true 22 (.slc true 2 (.int .i64 0) []) fs], .slc true 2 (.int .i64 0) ms]))), (8, none, .val (.slc true 2 (.int .i64 0) vp)), (9, none, .val (.slc true 2 (.int .i64 0) va)), (12, none, .val (.box 39 (.agg [.slc true 2 (.int .i64 0) ps, .slc true 2 (.int .i64 0) ss, .slc true 2 (.int .i64 0) va0]))), (13, none, .val (.int .i64 k)), (14, none, .val (.int .i64 x.1.1)), (15, none, .val (.int .i64 x.1.2)), (86, none, .rf 5 0 [0, 1, kn]), (87, none, .val (.int .i64 lm)), (88, none, .val (.int .i64 x.2))])
        (fun x => 0 ≤ x.2 ∧ x.2 ≤ lm ∧ x.1 = parS (fun v => idx (ptsG nm li) v) (-1, -1) (L.take x.2.toNat)) (fun x => (lm - x.2).toNat) (((-1, -1), 0)) (by subst hL; rfl) ?_ ?_
      · exact ⟨by simp, by simp only; omega, rfl⟩
      rintro ⟨⟨p, q⟩, j⟩ ⟨j0, j1, hPQ⟩ hfx2 ag2 hag2
      simp only at j0 j1 hPQ
      conv => cbv
      simp only [stdEqs hL, imp_self, true_and, and_true, bif_or, bif_and, Bool.or_eq_true, Bool.or_eq_false_iff, Bool.and_eq_true, Bool.and_eq_false_iff, decide_eq_true_eq, decide_eq_false_iff_not, Bool.not_eq_true', Bool.not_eq_false', beq_iff_eq, beq_eq_false_iff_ne, ne_eq, toNat0, toNat1, ok_int, toI_int, I_frzs, I_length, I_getD, ok_ints, toL_slc, hrl2, grs, ← hL9, I_length, ← hlm, I_getD, hal, gva, ← hn]
      rw [wrap_id (n := j + 1) (by omega) (by omega), wrap_id (n := k - 1) (by omega) (by omega)]
      refine ⟨fun h8 => ?_, fun h8 => ?_⟩
      · have hjl : j.toNat < L.length := by omega
        obtain ⟨t, ht⟩ : ∃ t, t = L.getD j.toNat 0 := ⟨_, rfl⟩
        have htm : t ∈ ptsG nm li := hLin t (by rw [ht]; exact gAtD hjl)
        have htn := hpin t htm
        simp only [← ht, hva t htm]
        refine ⟨hkl, j0, h8, hkl, hjl, htn.1, by omega, by omega, htn.1, by omega, by omega, ?_⟩
        refine hag2 ((_, _), j + 1) ⟨by simp only; omega, by simp only; omega, ?_⟩ (by simp only; omega)
        simp only [toNat_succ j0]
        have htk : L.take (j.toNat + 1) = L.take j.toNat ++ [t] := by
          rw [List.take_succ, ht, List.getD_eq_getElem?_getD, List.getElem?_eq_getElem hjl]; rfl
        rw [htk, parS_snoc, ← hPQ]
      · rw [List.take_of_length_le (by omega)] at hPQ
        have hrow : rowG nm li nr (m - 1 - k).toNat = (p, q) := by
          rw [rowG, show li.length - 1 - (m - 1 - k).toNat = kn by omega, ← hL9, hPQ]
        have hnx : (m - 1 - (k - 1)).toNat = (m - 1 - k).toNat + 1 := by omega
        refine ⟨rfl, by simp only [List.length_singleton]; omega, solid_one _, rfl, by simp only [List.length_singleton]; omega, solid_one _, ?_⟩
        refine hag ((_, _), k - 1) ⟨by simp only; omega, by simp only; omega, ?_, ?_⟩ (by simp only; omega)
        · simp only [hnx]
          rw [hP, parG_succ, ← I_append, hrow]; rfl
        · simp only [hnx]
          rw [hS, secG_succ, ← I_append, hrow]; rfl
    · have hk9 : (m - 1 - k).toNat = li.length := by omega
      rw [hk9] at hP hS
      have hvz : va0 = I (List.replicate ws.length 0) := by rw [hva1, atG_0]
      rw [hr, hf0, h3.1, h3.2, decide_eq_false (show ¬ 24 < ws.length by omega), hP, hS, hvz, hvp]
      rfl
  · cases h
end Go.Ax
