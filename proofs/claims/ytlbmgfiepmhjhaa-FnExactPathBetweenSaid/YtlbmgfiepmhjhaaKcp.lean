/-
  PathBetween: both sides, the law. No conditions but those of the contracts.
-/
import Derived.Test.YtlbmgfiepmhjhaaKbp
import Derived.Test.YtlbmgfiepmhjhaaKdp
import Derived.Test.YtlbmgfiepmhjhaaGvp
set_option linter.all false
namespace Go.Ax
open Go.Proofs

theorem nbs_nrF {ws : List Int} {es : List (List Int)} {v : Int} (h : 0 ≤ v ∧ v < ws.length) : nrF (nbs ws.length es) v = near es v := by
  rw [nrF, nbs, tab_get _ _ _ _ (show v.toNat < ws.length by omega), show ((v.toNat : Nat) : Int) = v by omega]
theorem nbs_in {ws : List Int} {es : List (List Int)} (g : Gr ws es) (v : Int) : ∀ x ∈ nrF (nbs ws.length es) v, 0 ≤ x ∧ x < ws.length := by
  intro x hx
  rw [nrF, nbs] at hx
  by_cases hv : v.toNat < ws.length
  · rw [tab_get _ _ _ _ hv] at hx
    exact near_in g.ed hx
  · rw [List.getD_eq_getElem?_getD, List.getElem?_eq_none (by rw [tab_len]; omega)] at hx
    cases hx
theorem nbs_len {ws : List Int} {es : List (List Int)} (g : Gr ws es) (v : Int) : (nrF (nbs ws.length es) v).length ≤ 100 := by
  rw [nrF, nbs]
  by_cases hv : v.toNat < ws.length
  · rw [tab_get _ _ _ _ hv, near, List.length_append]
    have := nearA_len es v.toNat
    have := nearB_len es v.toNat
    have := g.el
    have := g.n2
    omega
  · rw [List.getD_eq_getElem?_getD, List.getElem?_eq_none (by rw [tab_len]; omega)]
    exact Nat.zero_le _
theorem pf_nbs {ws : List Int} {es : List (List Int)} (g : Gr ws es) {i k : Int} (hi : 0 ≤ i ∧ i < ws.length) : f_pf (II false (nbs ws.length es)) i k (-1) = I (pthG es i k) ∧ q_pfE (II false (nbs ws.length es)) i k (-1) := by
  have hl : (nbs ws.length es).length = ws.length := by rw [nbs, tab_len]
  refine ⟨?_, ws.length, nbs ws.length es, rfl, by rw [hl]; exact g.n2, hi.1, by rw [hl]; exact hi.2, fun v => ⟨nbs_len g v, by rw [hl]; exact nbs_in g v⟩, by have := g.n2; omega, ?_⟩
  · rw [f_pf, unII_II, pthG, pf_congr (n := ws.length) (fun v hv => nbs_nrF hv) (nbs_in g) _ _ _ hi]
  · exact Dp_congr (n := ws.length) (fun v hv => (nbs_nrF hv).symm) (nbs_in g) _ _ _ hi (path_dp g hi)
set_option maxRecDepth 100000 in
theorem s_impl_PathBetween : Sat Try.prog 9 (c_Gii_li f_PB q_Gii) := by
  intro args ps r h hp
  unfold c_Gii_li at h
  split at h
  · rename_i a0 a1 i k
    simp only [Option.some.injEq, Prod.mk.injEq] at h
    obtain ⟨rfl, rfl⟩ := h
    have hq : q_G a0 a1 := (alls_cons.1 hp).1
    have g0 := hq.1.frz
    have g1 := frzs_II hq.2
    obtain ⟨⟨ws, hws⟩, es, hes⟩ := id hq
    have hf0 : f_PB a0 a1 i k = bif f_isGr a0 a1 then (bif f_isV a0 a1 i && f_isV a0 a1 k then (if pthG es i k = [] then ([], 5) else (I (pthG es i k), 0)) else ([], 2)) else ([], 1) := by rw [f_PB, f_isGr, hes, unII_II]
    have hgr : f_isGr a0 a1 = true → Gr ws es := fun h => by
      rw [f_isGr, hes, hws, unII_II, unI_I] at h
      exact gr_of h
    have hqn : f_isGr a0 a1 = true → q_GrN a0 a1 := fun h => ⟨ws, es, hws, hes, (hgr h).toN⟩
    have hwl : a0.length = ws.length := by rw [hws, I_length]
    have hnb : f_isGr a0 a1 = true → f_isV a0 a1 i = true → f_pf (V.frzs (f_nbs a0 a1)) i k (-1) = I (pthG es i k) ∧ q_pfE (V.frzs (f_nbs a0 a1)) i k (-1) := fun h h2 => by
      have h3 := isV_in.1 h2
      rw [hwl] at h3
      rw [f_nbs, hes, unII_II, II_frzs, hwl]
      exact pf_nbs (hgr h) h3
    generalize H_f_isGr : f_isGr = F_f_isGr
    generalize H_q_G : q_G = F_q_G
    generalize H_f_isV : f_isV = F_f_isV
    generalize H_q_isV : q_isV = F_q_isV
    generalize H_f_nbs : f_nbs = F_f_nbs
    generalize H_q_GrN : q_GrN = F_q_GrN
    generalize H_f_pf : f_pf = F_f_pf
    generalize H_q_pfE : q_pfE = F_q_pfE
    refine fnOk_ofI (T := tab) (B := [(34, c_G_b F_f_isGr F_q_G), (35, c_Gi_b F_f_isV F_q_isV), (37, c_G_m F_f_nbs F_q_GrN), (36, c_pf F_f_pf F_q_pfE)]) (Bi := []) [1000008508, 0, 1, 2, 3, 6, 7, 8] Try.func9 rfl rfl (by kernel_rfl) (Nat.le_of_ble_eq_true rfl) mixed tabOk (by subst H_f_isGr H_q_G H_f_isV H_q_isV H_f_nbs H_q_GrN H_f_pf H_q_pfE; exact (bookCons s_impl_IsGraph (bookCons s_impl_isVertex (bookCons s_impl_neighboursOf (bookCons s_impl_pathFrom bookNil))))) (by subst H_f_isGr H_q_G H_f_isV H_q_isV H_f_nbs H_q_GrN H_f_pf H_q_pfE; exact bookINil) (by kernel_rfl) ?_
    intro L lp rr hL hr hf hlp
    conv => cbv
    simp only [stdEqs hL, imp_self, true_and, and_true, bif_or, bif_and, Bool.or_eq_true, Bool.or_eq_false_iff, Bool.and_eq_true, Bool.and_eq_false_iff, decide_eq_true_eq, decide_eq_false_iff_not, Bool.not_eq_true', Bool.not_eq_false', beq_iff_eq, beq_eq_false_iff_ne, ne_eq, toNat0, toNat1, ok_int, toI_int, I_frzs, I_length, I_getD, ok_ints, toL_slc, g0, g1]
    subst H_f_isGr H_q_G H_f_isV H_q_isV H_f_nbs H_q_GrN H_f_pf H_q_pfE
    have hV := isVq hq
    refine ⟨hq, fun h => by rw [hr, hf0, h]; rfl, fun h => ⟨hV h i, fun _ => hV h k, fun h2 => ?_, fun ⟨h2, h3⟩ => ?_⟩⟩
    · have h3 : (f_isV a0 a1 i && f_isV a0 a1 k) = false := by rw [Bool.and_eq_false_iff]; exact h2
      rw [hr, hf0, h, h3]; rfl
    · obtain ⟨e1, e2⟩ := hnb h h2
      rw [e1, I_length]
      simp only [Bool.false_eq_true, false_implies, true_and, and_true, true_implies, reduceCtorEq]
      refine ⟨hqn h, e2, I_noFzs _, fun h4 => ?_, fun h4 => ?_⟩
      · have h5 : pthG es i k = [] := List.eq_nil_of_length_eq_zero (by omega)
        rw [hr, hf0, h, h2, h3, h5]; rfl
      · have h5 : pthG es i k ≠ [] := fun h5 => by rw [h5] at h4; exact h4 rfl
        rw [hr, hf0, h, h2, h3]
        simp only [Bool.and_self, cond_true, if_neg h5]
  · cases h
def c_lawg_Gii (f : List V → List V → Int → Int → Bool) (q : List V → List V → Int → Int → Prop) : Contract := fun
  | [.agg [.slc false 2 (.int .i64 0) a0, .slc false 22 (.slc false 2 (.int .i64 0) []) a1], .int .i64 a2, .int .i64 a3] => some ([q a0 a1 a2 a3], .bool (f a0 a1 a2 a3))
  | _ => none
def q_lawg_Gii : List V → List V → Int → Int → Prop := fun x y _ _ => q_G x y
def yesg_Gii : List V → List V → Int → Int → Bool := fun _ _ _ _ => true
set_option maxRecDepth 100000 in
theorem s_laws_FnExactPathBetween : Sat Try.prog 3 (c_lawg_Gii yesg_Gii q_lawg_Gii) := by
  intro args ps r h hp
  unfold c_lawg_Gii at h
  split at h
  · rename_i a0 a1 a2 a3
    simp only [Option.some.injEq, Prod.mk.injEq] at h
    obtain ⟨rfl, rfl⟩ := h
    have hq : q_G a0 a1 := (alls_cons.1 hp).1
    obtain ⟨hq0, hq1⟩ := id hq
    have g0 := hq0.frz
    have g1 := frzs_II hq1
    generalize H_f_szG : f_szG = F_f_szG
    generalize H_q_szG : q_szG = F_q_szG
    generalize H_f_cpG : f_cpG = F_f_cpG
    generalize H_q_cpG : q_cpG = F_q_cpG
    generalize H_f_PB : f_PB = F_f_PB
    generalize H_q_Gii : q_Gii = F_q_Gii
    generalize H_f_eqG : f_eqG = F_f_eqG
    generalize H_q_eqG : q_eqG = F_q_eqG
    generalize H_f0_eqI : f0_eqI = F_f0_eqI
    generalize H_q_eqI : q_eqI = F_q_eqI
    generalize H_f0_held : f0_held = F_f0_held
    generalize H_q_mark : q_mark = F_q_mark
    generalize H_f0_mark : f0_mark = F_f0_mark
    generalize H_f1_mark : f1_mark = F_f1_mark
    generalize H_f0_markG : f0_markG = F_f0_markG
    generalize H_f1_markG : f1_markG = F_f1_markG
    generalize H_f2_markG : f2_markG = F_f2_markG
    generalize H_q_markG : q_markG = F_q_markG
    refine fnOk_ofI (T := tab) (B := [(6, c_Gi_i F_f_szG F_q_szG), (8, c_G_G F_f_cpG F_q_cpG), (7, c_Gii_li F_f_PB F_q_Gii), (9, c_Gii_li F_f_PB F_q_Gii), (11, c_GG_b F_f_eqG F_q_eqG), (10, c_laws_eqInt64S F_f0_eqI F_q_eqI), (14, c_heldInt64S F_f0_held F_q_mark)]) (Bi := [(13, 0, false, ic_markInt64S F_f0_mark F_f1_mark F_q_mark), (12, 0, false, ic_markG F_f0_markG F_f1_markG F_f2_markG F_q_markG)]) [0, 1, 2, 3, 6, 7, 8, 9, 10, 11, 12, 13, 14, 15, 16, 17] Try.func3 rfl rfl (by kernel_rfl) (Nat.le_of_ble_eq_true rfl) mixed tabOk (by subst H_f_szG H_q_szG H_f_cpG H_q_cpG H_f_PB H_q_Gii H_f_eqG H_q_eqG H_f0_eqI H_q_eqI H_f0_held H_q_mark H_f0_mark H_f1_mark H_f0_markG H_f1_markG H_f2_markG H_q_markG; exact (bookCons s_laws_szGraph (bookCons s_laws_toGraph (bookCons s_spec_PathBetween (bookCons s_impl_PathBetween (bookCons s_laws_eqGraph (bookCons s_laws_eqInt64S (bookCons s_laws_heldInt64S bookNil)))))))) (by subst H_f_szG H_q_szG H_f_cpG H_q_cpG H_f_PB H_q_Gii H_f_eqG H_q_eqG H_f0_eqI H_q_eqI H_f0_held H_q_mark H_f0_mark H_f1_mark H_f0_markG H_f1_markG H_f2_markG H_q_markG; exact (bookICons s_laws_markInt64S (bookICons s_laws_markGraph bookINil))) (by kernel_rfl) ?_
    intro L lp rr hL hr hf hlp
    have hlen := hf.1
    conv => cbv
    simp only [stdEqs hL, g0, g1]
    subst H_f_szG H_q_szG H_f_cpG H_q_cpG H_f_PB H_q_Gii H_f_eqG H_q_eqG H_f0_eqI H_q_eqI H_f0_held H_q_mark H_f0_mark H_f1_mark H_f0_markG H_f1_markG H_f2_markG H_q_markG
    refine ⟨hq1, fun h => by rw [hr]; rfl, fun h => ?_⟩
    obtain ⟨hc, hb0, hb1⟩ := szG_ok hq1 hlen.1.1 hlen.2.1.1 hlen.2.1.2 hq0 h
    obtain ⟨ws, hws⟩ := hq0
    obtain ⟨es, hes⟩ := hq1
    rw [hws, I_length] at hb0
    rw [hes, unII_II] at hb1
    have e0 : f_cpG a0 a1 = (I ws, II true es) := by rw [f_cpG, hes, hws, unII_II]
    have kg := graph_keys ws es
    have mg := markG_keys ws es (by omega)
    have hqg : q_G (I ws) (II false es) := ⟨⟨_, rfl⟩, ⟨_, rfl⟩⟩
    have hqx : q_Gii (I ws) (II false es) a2 a3 := hqg

    obtain ⟨zs, code, ez, hzl⟩ : ∃ (zs : List Int) (code : Int), f_PB (I ws) (II false es) a2 a3 = (I zs, code) ∧ zs.length ≤ 64 := by
      rw [f_PB, unII_II]
      have hl := pf_len (nr := near es) (k := a3) 64 a2 (-1)
      cases isGr (unI (I ws)) es with
      | false => exact ⟨[], 1, rfl, by simp⟩
      | true =>
        cases f_isV (I ws) (II false es) a2 && f_isV (I ws) (II false es) a3 with
        | false => exact ⟨[], 2, rfl, by simp⟩
        | true =>
          simp only [cond_true]
          split
          · exact ⟨[], 5, rfl, by simp⟩
          · exact ⟨_, 0, rfl, hl⟩
    have ck := ints_keys zs (by omega)
    have hn1 : ∀ n : Nat, decide ((1 : Int) + n < 0) = false := fun n => by simp; omega
    have hn2 : ∀ n m : Nat, decide ((1 : Int) + n + m < 0) = false := fun n m => by simp; omega
    simp only [e0, hc, kg, mg, hqg, hqx, ez, ck, hn1, hn2, hr, yesg_Gii, I_frzs]
    simp
  · cases h
end Go.Ax
