/-
  ContractVertex: both sides, the law. No conditions but those of the contracts.
-/
import Derived.Test.YtfconfdlkonfnaaHr
import Derived.Test.YtfconfdlkonfnaaHl
import Derived.Test.YtfconfdlkonfnaaHt
import Derived.Test.YtfconfdlkonfnaaHv
set_option linter.all false
namespace Go.Ax
open Go.Proofs

theorem q_ctd_of {a b : List V} {v : Int} (hq : q_G a b) (h : f_isGr a b = true) (h2 : f_isV a b v = true) : q_ctd a b v := by
  obtain ⟨⟨ws, hws⟩, es, hes⟩ := hq
  rw [f_isGr, hws, hes, unI_I, unII_II] at h
  have g := gr_of h
  have hwl : a.length = ws.length := by rw [hws, I_length]
  simp only [f_isV, Bool.and_eq_true, decide_eq_true_eq] at h2
  exact ⟨⟨ws, es, hws, hes, g.toN⟩, h2.1, by omega⟩
def f_CV (a b : List V) (v : Int) : List V × List V × Int := bif isGr (unI a) (unII b) then (bif f_isV a b v then (bif f_can a b v then f_ctd a b v else ([], [], 5)) else ([], [], 2)) else ([], [], 1)
set_option maxRecDepth 100000 in
theorem s_impl_ContractVertex : Sat Try.prog 9 (c_Gi_Gi9 f_CV q_Gi9) := by
  intro args ps r h hp
  unfold c_Gi_Gi9 at h
  split at h
  · rename_i a0 a1 v
    simp only [Option.some.injEq, Prod.mk.injEq] at h
    obtain ⟨rfl, rfl⟩ := h
    have hq : q_G a0 a1 := (alls_cons.1 hp).1
    have g0 := hq.1.frz
    have g1 := frzs_II hq.2
    have hf0 : f_CV a0 a1 v = bif f_isGr a0 a1 then (bif f_isV a0 a1 v then (bif f_can a0 a1 v then f_ctd a0 a1 v else ([], [], 5)) else ([], [], 2)) else ([], [], 1) := rfl
    generalize H_f_isGr : f_isGr = F_f_isGr
    generalize H_q_G : q_G = F_q_G
    generalize H_f_isV : f_isV = F_f_isV
    generalize H_q_isV : q_isV = F_q_isV
    generalize H_f_can : f_can = F_f_can
    generalize H_q_ctd : q_ctd = F_q_ctd
    generalize H_f_ctd : f_ctd = F_f_ctd
    refine fnOk_ofI (T := tab) (B := [(28, c_G_b F_f_isGr F_q_G), (29, c_Gi_b F_f_isV F_q_isV), (30, c_Gi_b F_f_can F_q_ctd), (31, c_Gi_Gi9 F_f_ctd F_q_ctd)]) (Bi := []) [0, 1, 2, 4, 5] Try.func9 rfl rfl (by kernel_rfl) (Nat.le_of_ble_eq_true rfl) mixed tabOk (by subst H_f_isGr H_q_G H_f_isV H_q_isV H_f_can H_q_ctd H_f_ctd; exact (bookCons s_impl_IsGraph (bookCons s_impl_isVertex (bookCons s_impl_canContract (bookCons s_impl_contracted bookNil))))) (by subst H_f_isGr H_q_G H_f_isV H_q_isV H_f_can H_q_ctd H_f_ctd; exact bookINil) (by kernel_rfl) ?_
    intro L lp rr hL hr hf hlp
    conv => cbv
    simp only [stdEqs hL, imp_self, true_and, and_true, bif_or, bif_and, Bool.or_eq_true, Bool.or_eq_false_iff, Bool.and_eq_true, Bool.and_eq_false_iff, decide_eq_true_eq, decide_eq_false_iff_not, Bool.not_eq_true', Bool.not_eq_false', beq_iff_eq, beq_eq_false_iff_ne, ne_eq, toNat0, toNat1, ok_int, toI_int, I_frzs, I_length, I_getD, ok_ints, toL_slc, g0, g1]
    subst H_f_isGr H_q_G H_f_isV H_q_isV H_f_can H_q_ctd H_f_ctd
    refine ⟨hq, fun h => ?_, fun h => ⟨q_isV_of hq h v, fun h2 => ?_, fun h2 => ⟨q_ctd_of hq h h2, fun h3 => ?_, fun h3 => ⟨q_ctd_of hq h h2, ?_⟩⟩⟩⟩
    · rw [hr, hf0, h]; rfl
    · rw [hr, hf0, h, h2]; rfl
    · rw [hr, hf0, h, h2, h3]; rfl
    · rw [hr, hf0, h, h2, h3]; rfl
  · cases h
def c_Gi_Xi (f : List V → List V → Int → List V × List V × Int) (q : List V → List V → Int → Prop) : Contract := fun
  | [.agg [.slc false 2 (.int .i64 0) a0, .slc false 22 (.slc false 2 (.int .i64 0) []) a1], .int .i64 a2] => some ([q a0 a1 a2], .tup [.agg [.slc false 2 (.int .i64 0) ((f a0 a1 a2).1), .slc false 22 (.slc false 2 (.int .i64 0) []) ((f a0 a1 a2).2.1)], .int .i64 ((f a0 a1 a2).2.2)])
  | _ => none
def f_CVs (a b : List V) (v : Int) : List V × List V × Int := bif isGr (unI a) (unII b) then (bif f_isV a b v then (bif f_can a b v then (bif (f_lct a b v).2.2 then ((f_lct a b v).1, (f_lct a b v).2.1, 0) else ([], [], 3)) else ([], [], 5)) else ([], [], 2)) else ([], [], 1)
set_option maxRecDepth 100000 in
theorem s_spec_ContractVertex : Sat Try.prog 7 (c_Gi_Xi f_CVs q_Gi9) := by
  intro args ps r h hp
  unfold c_Gi_Xi at h
  split at h
  · rename_i a0 a1 v
    simp only [Option.some.injEq, Prod.mk.injEq] at h
    obtain ⟨rfl, rfl⟩ := h
    have hq : q_G a0 a1 := (alls_cons.1 hp).1
    have g0 := hq.1.frz
    have g1 := frzs_II hq.2
    have hf0 : f_CVs a0 a1 v = bif f_isGr a0 a1 then (bif f_isV a0 a1 v then (bif f_can a0 a1 v then (bif (f_lct a0 a1 v).2.2 then ((f_lct a0 a1 v).1, (f_lct a0 a1 v).2.1, 0) else ([], [], 3)) else ([], [], 5)) else ([], [], 2)) else ([], [], 1) := rfl
    generalize H_f_isGr : f_isGr = F_f_isGr
    generalize H_q_G : q_G = F_q_G
    generalize H_f_isV : f_isV = F_f_isV
    generalize H_q_isV : q_isV = F_q_isV
    generalize H_f_can : f_can = F_f_can
    generalize H_q_ctd : q_ctd = F_q_ctd
    generalize H_f_lct : f_lct = F_f_lct
    refine fnOk_ofF (T := tab) (B := [(22, c_G_b F_f_isGr F_q_G), (23, c_Gi_b F_f_isV F_q_isV), (24, c_Gi_b F_f_can F_q_ctd), (25, c_Gi_Xb F_f_lct F_q_ctd)]) (Bi := []) [0, 1, 2, 4, 5, 6, 7] Try.func7 rfl rfl (by kernel_rfl) (Nat.le_of_ble_eq_true rfl) mixed tabOk (by subst H_f_isGr H_q_G H_f_isV H_q_isV H_f_can H_q_ctd H_f_lct; exact (bookCons s_spec_l11Is (bookCons s_spec_l11Vertex (bookCons s_spec_l11Can (bookCons s_spec_l11Contract bookNil))))) (by subst H_f_isGr H_q_G H_f_isV H_q_isV H_f_can H_q_ctd H_f_lct; exact bookINil) (by kernel_rfl) ?_
    intro L lp rr hL hr hf hlp
    conv => cbv
    simp only [stdEqs hL, imp_self, true_and, and_true, bif_or, bif_and, Bool.or_eq_true, Bool.or_eq_false_iff, Bool.and_eq_true, Bool.and_eq_false_iff, decide_eq_true_eq, decide_eq_false_iff_not, Bool.not_eq_true', Bool.not_eq_false', beq_iff_eq, beq_eq_false_iff_ne, ne_eq, toNat0, toNat1, ok_int, toI_int, I_frzs, I_length, I_getD, ok_ints, toL_slc, g0, g1]
    subst H_f_isGr H_q_G H_f_isV H_q_isV H_f_can H_q_ctd H_f_lct
    obtain ⟨z1, z2, ok, hz⟩ : ∃ z1 z2 ok, f_lct a0 a1 v = (z1, z2, ok) := ⟨_, _, _, rfl⟩
    obtain ⟨hz1, hz2⟩ : V.frzs z1 = z1 ∧ V.frzs z2 = z2 := by
      rw [f_lct] at hz
      split at hz
      · injection hz with hz1 hz
        injection hz with hz2 _
        rw [← hz1, ← hz2, I_frzs, II_frzs]
        exact ⟨rfl, rfl⟩
      · injection hz with hz1 hz
        injection hz with hz2 _
        rw [← hz1, ← hz2]
        exact ⟨rfl, rfl⟩
    rw [hz] at hf0
    simp only [hz, hz1, hz2]
    refine ⟨hq, fun h => ?_, fun h => ⟨q_isV_of hq h v, fun h2 => ?_, fun h2 => ⟨q_ctd_of hq h h2, fun h3 => ?_, fun h3 => ⟨q_ctd_of hq h h2, fun h4 => ?_, fun h4 => ?_⟩⟩⟩⟩
    · rw [hr, hf0, h]; rfl
    · rw [hr, hf0, h, h2]; rfl
    · rw [hr, hf0, h, h2, h3]; rfl
    · rw [hr, hf0, h, h2, h3, h4]; rfl
    · rw [hr, hf0, h, h2, h3, h4]; rfl
  · cases h
def c_lawg_Gi (f : List V → List V → Int → Bool) (q : List V → List V → Int → Prop) : Contract := fun
  | [.agg [.slc false 2 (.int .i64 0) a0, .slc false 22 (.slc false 2 (.int .i64 0) []) a1], .int .i64 a2] => some ([q a0 a1 a2], .bool (f a0 a1 a2))
  | _ => none
def q_lawg_Gi : List V → List V → Int → Prop := fun x y _ => q_G x y
def yesg_Gi : List V → List V → Int → Bool := fun _ _ _ => true
set_option maxRecDepth 100000 in
theorem s_laws_FnExactContractVertex : Sat Try.prog 3 (c_lawg_Gi yesg_Gi q_lawg_Gi) := by
  intro args ps r h hp
  unfold c_lawg_Gi at h
  split at h
  · rename_i a0 a1 a2
    simp only [Option.some.injEq, Prod.mk.injEq] at h
    obtain ⟨rfl, rfl⟩ := h
    have hq : q_G a0 a1 := (alls_cons.1 hp).1
    obtain ⟨hq0, hq1⟩ := id hq
    have g0 := hq0.frz
    have g1 := frzs_II hq1
    generalize H_f_szG : f_szG = F_f_szG
    generalize H_q_szG : q_szG = F_q_szG
    generalize H_f_cpG : f_cpG = F_f_cpG
    generalize H_q_cpG : q_cpG = F_q_cpG
    generalize H_f_CVs : f_CVs = F_f_CVs
    generalize H_q_Gi9 : q_Gi9 = F_q_Gi9
    generalize H_f_CV : f_CV = F_f_CV
    generalize H_f_eqG : f_eqG = F_f_eqG
    generalize H_q_eqG : q_eqG = F_q_eqG
    generalize H_f0_heldG : f0_heldG = F_f0_heldG
    generalize H_q_heldG : q_heldG = F_q_heldG
    generalize H_f0_markG : f0_markG = F_f0_markG
    generalize H_f1_markG : f1_markG = F_f1_markG
    generalize H_f2_markG : f2_markG = F_f2_markG
    generalize H_q_markG : q_markG = F_q_markG
    refine fnOk_ofI (T := tab) (B := [(6, c_Gi_i F_f_szG F_q_szG), (8, c_G_G F_f_cpG F_q_cpG), (7, c_Gi_Xi F_f_CVs F_q_Gi9), (9, c_Gi_Gi9 F_f_CV F_q_Gi9), (10, c_GG_b F_f_eqG F_q_eqG), (12, c_Gi_i F_f0_heldG F_q_heldG)]) (Bi := [(11, 0, false, ic_markG F_f0_markG F_f1_markG F_f2_markG F_q_markG)]) [2000005623, 0, 1, 2, 4, 5, 6, 7, 8, 9, 10, 11, 12, 13, 14, 15] Try.func3 rfl rfl (by kernel_rfl) (Nat.le_of_ble_eq_true rfl) mixed tabOk (by subst H_f_szG H_q_szG H_f_cpG H_q_cpG H_f_CVs H_q_Gi9 H_f_CV H_f_eqG H_q_eqG H_f0_heldG H_q_heldG H_f0_markG H_f1_markG H_f2_markG H_q_markG; exact (bookCons s_laws_szGraph (bookCons s_laws_toGraph (bookCons s_spec_ContractVertex (bookCons s_impl_ContractVertex (bookCons s_laws_eqGraph (bookCons s_laws_heldGraph bookNil))))))) (by subst H_f_szG H_q_szG H_f_cpG H_q_cpG H_f_CVs H_q_Gi9 H_f_CV H_f_eqG H_q_eqG H_f0_heldG H_q_heldG H_f0_markG H_f1_markG H_f2_markG H_q_markG; exact (bookICons s_laws_markGraph bookINil)) (by kernel_rfl) ?_
    intro L lp rr hL hr hf hlp
    have hlen := hf.1
    conv => cbv
    simp only [stdEqs hL, g0, g1]
    subst H_f_szG H_q_szG H_f_cpG H_q_cpG H_f_CVs H_q_Gi9 H_f_CV H_f_eqG H_q_eqG H_f0_heldG H_q_heldG H_f0_markG H_f1_markG H_f2_markG H_q_markG
    refine ⟨hq1, fun h => by rw [hr]; rfl, fun h => ?_⟩
    obtain ⟨hc, hb0, hb1⟩ := szG_ok hq1 hlen.1.1 hlen.2.1.1 hlen.2.1.2 hq0 h
    obtain ⟨ws, hws⟩ := hq0
    obtain ⟨es, hes⟩ := hq1
    rw [hws, I_length] at hb0
    rw [hes, unII_II] at hb1
    have e0 : f_cpG a0 a1 = (I ws, II true es) := by rw [f_cpG, hes, hws, unII_II]
    have kg := graph_keys ws es
    have mg := markG_keys ws es (by omega)
    have hqg : q_G (I ws) (II false es) := ⟨⟨_, rfl⟩, ⟨_, rfl⟩⟩
    have hqx : q_Gi9 (I ws) (II false es) a2 := hqg

    obtain ⟨zs, fs, code, ez, ez2, hzl⟩ : ∃ (zs : List Int) (fs : List (List Int)) (code : Int), f_CV (I ws) (II false es) a2 = (I zs, II true fs, code) ∧ f_CVs (I ws) (II false es) a2 = (I zs, II false fs, code) ∧ zs.length + tot fs ≤ 2000 := by
      rw [f_CV, f_CVs, unI_I, unII_II]
      cases hh : isGr ws es with
      | false => exact ⟨[], [], 1, rfl, rfl, by simp [tot]⟩
      | true =>
        cases h2 : f_isV (I ws) (II false es) a2 with
        | false => exact ⟨[], [], 2, rfl, rfl, by simp [tot]⟩
        | true =>
          cases h3 : f_can (I ws) (II false es) a2 with
          | false => exact ⟨[], [], 5, rfl, rfl, by simp [tot]⟩
          | true =>
            have g := gr_of hh
            have n2 := g.n2
            simp only [f_isV, I_length, Bool.and_eq_true, decide_eq_true_eq] at h2
            rw [f_can, unI_I, unII_II, I_length] at h3
            simp only [Bool.and_eq_true, decide_eq_true_eq] at h3
            cases hi : incW ws (near es a2) with
            | none => refine ⟨[], [], 3, ?_, ?_, by simp [tot]⟩ <;> simp [f_ctd, f_lct, unI_I, unII_II, hi] <;> rfl
            | some ws' =>
              refine ⟨delL ws' a2.toNat (a2.toNat + 1), srtE ((conE es a2).map (decE a2)), 0, by simp [f_ctd, unI_I, unII_II, hi], by simp [f_lct, unI_I, unII_II, hi], ?_⟩
              have hco := con_ok g.toN (Sep_of g.n1 g.ed g.acyc) (v := a2) (by omega) (by omega) (by omega) h3.2
              have k3 := hco.1.el
              rw [tot_len2 _ 2 (fun e he => (hco.1.ed e he).1), delL_len (by omega) (by rw [incW_len _ _ _ hi]; omega), incW_len _ _ _ hi]
              omega
    have ck := graph_keys zs fs
    have ck2 := markG_keys zs fs (by omega)
    have ck3 := graph_keys2 zs fs (by omega)
    have hn1 : ∀ n : Nat, decide ((1 : Int) + n < 0) = false := fun n => by simp; omega
    have hn2 : ∀ n m : Nat, decide ((1 : Int) + n + m < 0) = false := fun n m => by simp; omega
    have hn3 : ∀ n m r : Nat, decide ((1 : Int) + n + m + r < 0) = false := fun n m r => by simp; omega
    simp only [e0, hc, II_frzs, kg, mg, hqg, hqx, ez, ez2, ck, ck2, ck3, hn1, hn2, hn3, hr, yesg_Gi, I_frzs]
    simp
  · cases h
end Go.Ax
