/-
  Vertices contracted: impl. No conditions but those of the contracts.
-/
import Derived.Test.YtpcjjklkiejeaaaHs
import Derived.Test.YtpcjjklkiejeaaaSp
import Derived.Test.YtpcjjklkiejeaaaSr
set_option linter.all false
namespace Go.Ax
open Go.Proofs

def c_Gi_Gi9 (f : List V → List V → Int → List V × List V × Int) (q : List V → List V → Int → Prop) : Contract := fun
  | [.agg [.slc false 2 (.int .i64 0) a0, .slc false 22 (.slc false 2 (.int .i64 0) []) a1], .int .i64 a2] => some ([q a0 a1 a2], .tup [.agg [.slc true 2 (.int .i64 0) ((f a0 a1 a2).1), .slc true 22 (.slc true 2 (.int .i64 0) []) ((f a0 a1 a2).2.1)], .int .i64 ((f a0 a1 a2).2.2)])
  | _ => none
def f_ctd (a b : List V) (v : Int) : List V × List V × Int := match incW (unI a) (near (unII b) v) with
  | some ws => (I (delL ws v.toNat (v.toNat + 1)), II true (srtE ((conE (unII b) v).map (decE v))), 0)
  | none => ([], [], 3)
set_option maxRecDepth 100000 in
theorem s_impl_contracted : Sat Try.prog 52 (c_Gi_Gi9 f_ctd q_ctd) := by
  intro args ps r h hp
  unfold c_Gi_Gi9 at h
  split at h
  · rename_i a0 a1 v
    simp only [Option.some.injEq, Prod.mk.injEq] at h
    obtain ⟨rfl, rfl⟩ := h
    obtain ⟨hqg, v0, v1⟩ : q_ctd a0 a1 v := (alls_cons.1 hp).1
    obtain ⟨ws, es, hws, hes, g⟩ := id hqg
    have g0 : V.frzs a0 = a0 := by rw [hws, I_frzs]
    have g1 : V.frzs a1 = a1 := by rw [hes, II_frzs]
    have hwl : a0.length = ws.length := by rw [hws, I_length]
    have hel : a1.length = es.length := by rw [hes, II_length]
    rw [hwl] at v1
    have n1 := g.n1
    have n2 := g.n2
    have n3 := g.el
    obtain ⟨n, hn⟩ : ∃ n : Int, n = ws.length := ⟨_, rfl⟩
    obtain ⟨vt, hvt⟩ : ∃ vt, vt = v.toNat := ⟨_, rfl⟩
    have hvv : (vt : Int) = v := by omega
    have hvn : vt < ws.length := by omega
    obtain ⟨nr, hnr⟩ : ∃ nr, nr = near es v := ⟨_, rfl⟩
    have hf1 : incW ws nr = none → f_ctd a0 a1 v = ([], [], 3) := fun h => by rw [f_ctd, hws, hes, unI_I, unII_II, ← hnr, h]
    have hf2 : ∀ ws', incW ws nr = some ws' → f_ctd a0 a1 v = (I (delL ws' vt (vt + 1)), II true (srtE ((conE es v).map (decE v))), 0) := fun ws' h => by rw [f_ctd, hws, hes, unI_I, unII_II, ← hnr, h, hvt]
    obtain ⟨vn, hvn2⟩ : ∃ vn, vn = II true (nbs ws.length es) := ⟨_, rfl⟩
    have hvnl : vn.length = ws.length := by rw [hvn2, II_length, nbs, tab_len]
    have gvn : ∀ j, vn.getD j (.slc true 2 (.int .i64 0) []) = .slc true 2 (.int .i64 0) (I ((nbs ws.length es).getD j [])) := fun j => by rw [hvn2, II_getD]
    have hnv : (nbs ws.length es).getD vt [] = nr := by rw [nbs, tab_get _ _ _ _ hvn, hvv, hnr]
    have hnrl : nr.length ≤ 1000 := by
      rw [hnr, near, List.length_append]
      have := nearA_len es v
      have := nearB_len es v
      omega
    have hnin : ∀ i, i < nr.length → 0 ≤ nr.getD i 0 ∧ nr.getD i 0 < ws.length := fun i hi => by
      refine near_in g.ed (v := v) (x := nr.getD i 0) ?_
      rw [← hnr, List.getD_eq_getElem?_getD, List.getElem?_eq_getElem hi]
      exact List.getElem_mem _
    obtain ⟨ve, hve⟩ : ∃ ve, ve = II true es := ⟨_, rfl⟩
    have hvel : ve.length = es.length := by rw [hve, II_length]
    have hc0 : f_cpG a0 a1 = (a0, ve) := by rw [f_cpG, hes, unII_II, hve]
    generalize H_f_nbs : f_nbs = F_f_nbs
    generalize H_q_GrN : q_GrN = F_q_GrN
    generalize H_f_cpG : f_cpG = F_f_cpG
    generalize H_q_cpG : q_cpG = F_q_cpG
    generalize H_same : same = F_same
    generalize H_IsIs : IsIs = F_IsIs
    generalize H_f_del : f_del = F_f_del
    generalize H_q_del : q_del = F_q_del
    generalize H_f_srtE : f_srtE = F_f_srtE
    generalize H_q_srtE : q_srtE = F_q_srtE
    refine fnOk_ofI (T := tab) (B := [(53, c_G_m F_f_nbs F_q_GrN), (49, c_G_G F_f_cpG F_q_cpG), (56, c_laws_toInt64S F_same F_IsIs)]) (Bi := [(54, 0, true, ic_del F_f_del F_q_del), (64, 0, true, ic_srtE F_f_srtE F_q_srtE)]) [17, 0, 1, 2, 4, 5, 6, 7, 9, 10, 12, 14, 15, 23, 24, 25, 46, 47, 48, 77, 78, 79, 84, 85] Try.func52 rfl rfl (by kernel_rfl) (Nat.le_of_ble_eq_true rfl) mixed tabOk (by subst H_f_nbs H_q_GrN H_f_cpG H_q_cpG H_same H_IsIs H_f_del H_q_del H_f_srtE H_q_srtE; exact (bookCons s_impl_neighboursOf (bookCons s_impl_copyGraph (bookCons s_clone bookNil)))) (by subst H_f_nbs H_q_GrN H_f_cpG H_q_cpG H_same H_IsIs H_f_del H_q_del H_f_srtE H_q_srtE; exact (bookMCons s_delete (bookMCons s_impl_sortedEdges bookINil))) (by kernel_rfl) ?_
    intro L lp rr hL hr hf hlp
    have En : F_f_nbs a0 a1 = vn := by rw [← H_f_nbs, f_nbs, hes, unII_II, hwl, hvn2]
    have Ec : F_f_cpG a0 a1 = (a0, ve) := by rw [← H_f_cpG, hc0]
    conv => cbv
    simp only [stdEqs hL, imp_self, true_and, and_true, bif_or, bif_and, Bool.or_eq_true, Bool.or_eq_false_iff, Bool.and_eq_true, Bool.and_eq_false_iff, decide_eq_true_eq, decide_eq_false_iff_not, Bool.not_eq_true', Bool.not_eq_false', beq_iff_eq, beq_eq_false_iff_ne, ne_eq, toNat0, toNat1, ok_int, toI_int, I_frzs, I_length, I_getD, ok_ints, toL_slc, g0, g1, hwl, En, Ec, hvnl, ← hvt, gvn, hnv, ← hn]
    obtain ⟨m, hm⟩ : ∃ m : Int, m = nr.length := ⟨_, rfl⟩
    rw [← hm]
    refine ⟨by rw [← H_q_GrN]; exact hqg, v0, by omega, hvn, by rw [← H_q_cpG]; exact ⟨⟨⟨_, hws⟩, by omega⟩, _, hes, by omega, fun e he => by rw [(g.ed e he).1]; decide⟩, hvn, ?_⟩
    refine hlp (List V × Int) _ _ _ [1, 4, 6, 7, 17, 23, 24, 25] (fun x => [(1, none, .val (.int .i64 v)), (4, none, .val (.box 29 (.agg [.slc true 2 (.int .i64 0) [], .slc true 22 (.slc true 2 (.int .i64 0) []) []]))), (6, none, .rf 17 0 [vt]), (7, none, .val (.box 29 (.agg [.slc true 2 (.int .i64 0) x.1, .slc true 22 (.slc true 2 (.int .i64 0) []) ve]))), (17, none, .val (.slc true 22 (.slc true 2 (.int .i64 0) []) vn)), (23, none, .rf 17 0 [vt]), (24, none, .val (.int .i64 m)), (25, none, .val (.int .i64 x.2))])
      (fun x => 0 ≤ x.2 ∧ x.2 ≤ m ∧ ∃ wx, x.1 = I wx ∧ incW ws (nr.take x.2.toNat) = some wx) (fun x => (m - x.2).toNat) ((a0, 0)) (by subst hL; rfl) ?_ ?_
    · exact ⟨by simp, by simp only; omega, ws, hws, rfl⟩
    rintro ⟨os, i⟩ ⟨i0, i1, wx, hO, hI⟩ hfx ag hag
    simp only at i0 i1 hO hI
    have hxl := incW_len _ _ _ hI
    have hol : os.length = ws.length := by rw [hO, I_length, hxl]
    have gos : ∀ k, os.getD k (.int .i64 0) = .int .i64 (wx.getD k 0) := fun k => by rw [hO, I_getD]
    conv => cbv
    simp only [stdEqs hL, imp_self, true_and, and_true, bif_or, bif_and, Bool.or_eq_true, Bool.or_eq_false_iff, Bool.and_eq_true, Bool.and_eq_false_iff, decide_eq_true_eq, decide_eq_false_iff_not, Bool.not_eq_true', Bool.not_eq_false', beq_iff_eq, beq_eq_false_iff_ne, ne_eq, toNat0, toNat1, ok_int, toI_int, I_frzs, I_length, I_getD, ok_ints, toL_slc, hvnl, gvn, hnv, hol, gos, ← hn]
    refine ⟨fun h2 => ?_, fun h2 => ?_⟩
    · have hin : i.toNat < nr.length := by omega
      obtain ⟨t, ht⟩ : ∃ t, t = nr.getD i.toNat 0 := ⟨_, rfl⟩
      have htn := hnin i.toNat hin
      rw [← ht] at htn
      simp only [← ht]
      have hs1 : ∀ x, (os.set t.toNat x).getD t.toNat (.int .i64 0) = x := fun x => by rw [set_getD (by omega), if_pos rfl]
      have hsn := incW_snoc _ _ _ t hI
      have htk : nr.take (i.toNat + 1) = nr.take i.toNat ++ [t] := by
        rw [List.take_succ, ht, List.getD_eq_getElem?_getD, List.getElem?_eq_getElem hin]; rfl
      rw [← htk] at hsn
      simp only [hs1, List.length_set, hol, toI_int]
      rw [wrap_id (n := i + 1) (by omega) (by omega)]
      have htt : t.toNat < ws.length := by omega
      refine ⟨hvn, i0, by omega, hvn, hin, htn.1, by omega, htt, htn.1, by omega, htt, htn.1, by omega, htt, rfl, fun h3 => ?_, fun h3 => ?_⟩
      · have h4 : incW ws nr = none := by
          have h5 : nr = nr.take (i.toNat + 1) ++ nr.drop (i.toNat + 1) := (List.take_append_drop _ _).symm
          rw [h5]
          refine incW_none _ _ _ ?_
          rw [hsn]
          exact if_pos h3
        rw [hr, hf1 h4]
      · refine hag (_, i + 1) ⟨by simp only; omega, by simp only; omega, wx.set t.toNat (W (wx.getD t.toNat 0 + 1)), ?_, ?_⟩ (by simp only; omega)
        · rw [hO, I_set]
        · simp only [toNat_succ i0]
          rw [hsn]
          exact if_neg h3
    · have htk : nr.take i.toNat = nr := List.take_of_length_le (by omega)
      rw [htk] at hI
      clear hag hfx ag gos
      have hve0 : ve = hVE es v 0 := by rw [hve, hVE_0]
      obtain ⟨em, hem⟩ : ∃ em : Int, em = es.length := ⟨_, rfl⟩
      have hvem : (ve.length : Int) = em := by omega
      rw [hvem]
      refine hlp ((List V × List V) × Int) _ _ _ [1, 4, 6, 7, 10, 17, 46, 47, 48] (fun x => [(1, none, .val (.int .i64 v)), (4, none, .val (.box 29 (.agg [.slc true 2 (.int .i64 0) [], .slc true 22 (.slc true 2 (.int .i64 0) []) []]))), (6, none, .rf 17 0 [vt]), (7, none, .val (.box 29 (.agg [.slc true 2 (.int .i64 0) os, .slc true 22 (.slc true 2 (.int .i64 0) []) x.1.1]))), (10, none, .val (.slc true 22 (.slc true 2 (.int .i64 0) []) x.1.2)), (17, none, .val (.slc true 22 (.slc true 2 (.int .i64 0) []) vn)), (46, none, .rf 7 0 [0, 1]), (47, none, .val (.int .i64 em)), (48, none, .val (.int .i64 x.2))])
        (fun x => 0 ≤ x.2 ∧ x.2 ≤ em ∧ x.1.1 = hVE es v x.2.toNat ∧ x.1.2 = II true ((es.take x.2.toNat).filter (awayE v))) (fun x => (em - x.2).toNat) (((ve, []), 0)) (by subst hL; rfl) ?_ ?_
      · exact ⟨by simp, by simp only; omega, hve0, rfl⟩
      rintro ⟨⟨hs, fs⟩, k⟩ ⟨k0, k1, hH, hF⟩ hfx ag hag
      simp only at k0 k1 hH hF
      have hhl : hs.length = es.length := by rw [hH, hVE_len]
      have hfl : fs.length ≤ 400 := by
        rw [hF, II_length]
        have := List.length_filter_le (awayE v) (es.take k.toNat)
        rw [List.length_take] at this
        omega
      conv => cbv
      simp only [stdEqs hL, imp_self, true_and, and_true, bif_or, bif_and, Bool.or_eq_true, Bool.or_eq_false_iff, Bool.and_eq_true, Bool.and_eq_false_iff, decide_eq_true_eq, decide_eq_false_iff_not, Bool.not_eq_true', Bool.not_eq_false', beq_iff_eq, beq_eq_false_iff_ne, ne_eq, toNat0, toNat1, ok_int, toI_int, I_frzs, I_length, I_getD, ok_ints, toL_slc, hhl]
      refine ⟨fun h3 => ?_, fun h3 => ?_⟩
      · have hkn : k.toNat < es.length := by omega
        have hg := hVE_at (v := v) hkn (.slc true 2 (.int .i64 0) [])
        rw [← hH] at hg
        obtain ⟨E, hE⟩ : ∃ E, E = es.getD k.toNat [] := ⟨_, rfl⟩
        have hmE := mem_getD hkn
        rw [← hE] at hmE hg
        have hE2 := (g.ed _ hmE).1
        simp only [hg, I_length, I_getD, toL_slc, toI_int]
        rw [wrap_id (n := k + 1) (by omega) (by omega)]
        have hkk : es.take (k.toNat + 1) = es.take k.toNat ++ [E] := by
          rw [List.take_succ, hE, List.getD_eq_getElem?_getD, List.getElem?_eq_getElem hkn]; rfl
        refine ⟨k0, by omega, hkn, rfl, hkn, rfl, by omega, by omega, hkn, rfl, by omega, rfl, fun _ => hkn, fun _ => rfl, fun _ => by omega, fun _ => by omega, fun _ => hkn, fun _ => rfl, fun _ => by omega, fun _ => rfl, fun h4 => ⟨hkn, rfl, by simp only [List.length_singleton]; omega, by simp [V.solid], ?_⟩, fun h4 => ?_⟩
        · have haw : awayE v E = true := by rw [awayE, decide_eq_true h4.1, decide_eq_true h4.2]; rfl
          refine hag ((_, _), k + 1) ⟨by simp only; omega, by simp only; omega, ?_, ?_⟩ (by simp only; omega)
          · simp only [toNat_succ k0]
            rw [hH, hVE_take hkn (by rw [← hE]; exact haw)]
          · simp only [toNat_succ k0]
            rw [hkk, List.filter_append, hF, II_append, show List.filter (awayE v) [E] = [E] by simp [haw]]
            rfl
        · have haw : awayE v E = false := by
            rw [awayE]
            rcases h4 with h4 | h4
            · rw [decide_eq_false (fun h => h h4)]; rfl
            · rw [decide_eq_false (p := E.getD 1 0 ≠ v) (fun h => h h4), Bool.and_false]
          refine hag ((_, _), k + 1) ⟨by simp only; omega, by simp only; omega, ?_, ?_⟩ (by simp only; omega)
          · simp only [toNat_succ k0]
            rw [hH, hVE_keep (by rw [← hE]; exact haw)]
          · simp only [toNat_succ k0]
            rw [hkk, List.filter_append, hF, show List.filter (awayE v) [E] = [] by simp [haw], List.append_nil]
      · have hkt : es.take k.toNat = es := List.take_of_length_le (by omega)
        rw [hkt] at hF
        clear hag hfx ag
        have hst : stdV.4 (vn.getD vt (.slc true 2 (.int .i64 0) [])) = I nr := by rw [gvn, hnv]; rfl
        have hvt2 : vn.getD vt (.slc true 2 (.int .i64 0) []) = .slc true 2 (.int .i64 0) (I nr) := by rw [gvn, hnv]
        have Es : F_same (I nr) = I nr := by rw [← H_same]; rfl
        simp only [hvt2, toL_slc, I_length, I_frzs, Es, ← hm]
        have hcn : nr.length = 2 → fs ++ [V.slc true 2 (.int .i64 0) (I nr)] = II true (conE es v) := fun h5 => by
          rw [conE, ← hnr, if_pos h5, II_append, hF]; rfl
        have hcm : nr.length ≠ 2 → fs = II true (conE es v) := fun h5 => by
          rw [conE, ← hnr, if_neg h5, List.append_nil, hF]
        obtain ⟨C, hC⟩ : ∃ C, C = conE es v := ⟨_, rfl⟩
        rw [← hC] at hcn hcm
        have hC2 : ∀ e ∈ C, e.length = 2 := fun e he => by
          rw [hC, conE, List.mem_append] at he
          rcases he with he | he
          · exact (g.ed e (List.mem_filter.1 he).1).1
          · split at he
            · rename_i h5
              rw [List.mem_singleton.1 he]; exact h5
            · cases he
        have hvn3 : vt < vn.length := by omega
        obtain ⟨cm, hcm2⟩ : ∃ cm : Int, cm = C.length := ⟨_, rfl⟩
        have hC4 : C.length ≤ 401 := by
          rw [hC, conE, List.length_append]
          have := List.length_filter_le (awayE v) es
          split <;> simp <;> omega
        refine ⟨hvn3, rfl, fun h5 => ⟨hvn3, rfl, by rw [← H_IsIs]; exact ⟨⟨_, rfl⟩, by rw [I_length]; omega⟩, I_noFzs _, by simp only [List.length_singleton]; omega, by simp [V.solid], ?_⟩, fun h5 => ?_⟩
        rw [hcn (by omega)]
        rotate_left
        rw [hcm (by omega)]
        all_goals
          rw [II_length, ← hcm2]
          refine hlp (List V × Int) _ _ _ [1, 4, 7, 10, 77, 78, 79] (fun x => [(1, none, .val (.int .i64 v)), (4, none, .val (.box 29 (.agg [.slc true 2 (.int .i64 0) [], .slc true 22 (.slc true 2 (.int .i64 0) []) []]))), (7, none, .val (.box 29 (.agg [.slc true 2 (.int .i64 0) os, .slc true 22 (.slc true 2 (.int .i64 0) []) hs]))), (10, none, .val (.slc true 22 (.slc true 2 (.int .i64 0) []) x.1)), (77, none, .rf 10 0 []), (78, none, .val (.int .i64 cm)), (79, none, .val (.int .i64 x.2))])
            (fun x => 0 ≤ x.2 ∧ x.2 ≤ cm ∧ x.1 = II true (mapK (decE v) x.2.toNat C)) (fun x => (cm - x.2).toNat) ((II true C, 0)) (by subst hL; rfl) ?_ ?_
          · exact ⟨by simp, by simp only; omega, by simp only; rw [show (0 : Int).toNat = 0 from rfl, mapK_0]⟩
          rintro ⟨gs, j⟩ ⟨j0, j1, hG⟩ hfx ag hag
          simp only at j0 j1 hG
          have hgl : gs.length = C.length := by rw [hG, II_length, mapK_len]
          conv => cbv
          simp only [stdEqs hL, imp_self, true_and, and_true, bif_or, bif_and, Bool.or_eq_true, Bool.or_eq_false_iff, Bool.and_eq_true, Bool.and_eq_false_iff, decide_eq_true_eq, decide_eq_false_iff_not, Bool.not_eq_true', Bool.not_eq_false', beq_iff_eq, beq_eq_false_iff_ne, ne_eq, toNat0, toNat1, ok_int, toI_int, I_frzs, I_length, I_getD, ok_ints, toL_slc, hgl]
          refine ⟨fun h6 => ?_, fun h6 => ?_⟩
          · obtain ⟨jn, hjn⟩ : ∃ jn, jn = j.toNat := ⟨_, rfl⟩
            simp only [← hjn]
            have hjc : jn < C.length := by omega
            have hjc2 : jn < gs.length := by omega
            obtain ⟨E, hE⟩ : ∃ E, E = C.getD jn [] := ⟨_, rfl⟩
            have hE2 : E.length = 2 := by rw [hE]; exact hC2 _ (mem_getD hjc)
            have hg : gs.getD jn (.slc true 2 (.int .i64 0) []) = .slc true 2 (.int .i64 0) (I E) := by
              rw [hG, II_getD, ← hjn, mapK_at, hE]
            simp only [hg, toL_slc, I_length, hE2]
            refine ⟨j0, by omega, hjc, rfl, hjc, rfl, ?_⟩
            refine hlp (List V × Int) _ _ _ [1, 4, 7, 10, 14, 77, 78, 79, 84, 85] (fun x => [(1, none, .val (.int .i64 v)), (4, none, .val (.box 29 (.agg [.slc true 2 (.int .i64 0) [], .slc true 22 (.slc true 2 (.int .i64 0) []) []]))), (7, none, .val (.box 29 (.agg [.slc true 2 (.int .i64 0) os, .slc true 22 (.slc true 2 (.int .i64 0) []) hs]))), (10, none, .val (.slc true 22 (.slc true 2 (.int .i64 0) []) x.1)), (14, none, .rf 10 0 [jn]), (77, none, .rf 10 0 []), (78, none, .val (.int .i64 cm)), (79, none, .val (.int .i64 j)), (84, none, .val (.int .i64 2)), (85, none, .val (.int .i64 x.2))])
              (fun x => 0 ≤ x.2 ∧ x.2 ≤ 2 ∧ x.1 = gs.set jn (.slc true 2 (.int .i64 0) (I (mapK (decI v) x.2.toNat E)))) (fun x => (2 - x.2).toNat) ((gs, 0)) (by subst hL; rfl) ?_ ?_
            · refine ⟨by simp, by simp, ?_⟩
              simp only
              rw [show (0 : Int).toNat = 0 from rfl, mapK_0, ← hg, List.getD_eq_getElem?_getD, List.getElem?_eq_getElem hjc2, Option.getD_some, List.set_getElem_self]
            rintro ⟨ts, q⟩ ⟨q0, q1, hT⟩ hfx2 ag2 hag2
            simp only at q0 q1 hT
            have htl : ts.length = C.length := by rw [hT, List.length_set, hgl]
            have hgt : ts.getD jn (.slc true 2 (.int .i64 0) []) = .slc true 2 (.int .i64 0) (I (mapK (decI v) q.toNat E)) := by
              rw [hT, set_getD hjc2, if_pos rfl]
            conv => cbv
            simp only [stdEqs hL, imp_self, true_and, and_true, bif_or, bif_and, Bool.or_eq_true, Bool.or_eq_false_iff, Bool.and_eq_true, Bool.and_eq_false_iff, decide_eq_true_eq, decide_eq_false_iff_not, Bool.not_eq_true', Bool.not_eq_false', beq_iff_eq, beq_eq_false_iff_ne, ne_eq, toNat0, toNat1, ok_int, toI_int, I_frzs, I_length, I_getD, ok_ints, toL_slc, htl, hgt, toL_slc, I_length, mapK_len, hE2, I_getD, mapK_at]
            refine ⟨fun h7 => ?_, fun h7 => ?_⟩
            · rw [wrap_id (n := q + 1) (by omega) (by omega)]
              have hq2 : q.toNat < E.length := by omega
              refine ⟨hjc, q0, by omega, hjc, by omega, fun h8 => ⟨hjc, q0, by omega, hjc, by omega, hjc, q0, by omega, hjc, by omega, ?_⟩, fun h8 => ?_⟩
              · refine hag2 (_, q + 1) ⟨by simp only; omega, by simp only; omega, ?_⟩ (by simp only; omega)
                simp only [toNat_succ q0]
                rw [hT, List.set_set, I_set, ← mapK_set (decI v) E 0 hq2, decI, if_pos h8]
              · refine hag2 (_, q + 1) ⟨by simp only; omega, by simp only; omega, ?_⟩ (by simp only; omega)
                simp only [toNat_succ q0]
                rw [hT, mapK_keep (decI v) E 0 hq2 (by rw [decI, if_neg h8])]
            · rw [wrap_id (n := j + 1) (by omega) (by omega)]
              refine hag (_, j + 1) ⟨by simp only; omega, by simp only; omega, ?_⟩ (by simp only; omega)
              simp only [toNat_succ j0]
              rw [hT, hG, II_set, ← hjn, mapK_all (decI v) E (k := q.toNat) (by omega), ← mapK_set (decE v) C [] hjc, ← hE, decE]
          · have hjt : mapK (decE v) j.toNat C = C.map (decE v) := mapK_all _ _ (by omega)
            rw [hjt] at hG
            rw [wrap_id (n := v + 1) (by omega) (by omega)]
            have Ed : F_f_del os v (v + 1) = I (delL wx vt (vt + 1)) := by
              rw [← H_f_del, f_del, hO, unI_I, ← hvt, show (v + 1).toNat = vt + 1 by omega]
            have Ee : F_f_srtE gs = II true (srtE (C.map (decE v))) := by rw [← H_f_srtE, f_srtE, hG, unII_II]
            rw [Ed, Ee]
            refine ⟨?_, ?_, ?_⟩
            · rw [← H_q_del]
              exact ⟨wx, hO, v0, by omega, by omega, by omega, by omega⟩
            · rw [← H_q_srtE]
              exact ⟨_, hG, by rw [List.length_map]; omega⟩
            · rw [hr, hf2 _ hI, ← hC]
  · cases h
end Go.Ax
