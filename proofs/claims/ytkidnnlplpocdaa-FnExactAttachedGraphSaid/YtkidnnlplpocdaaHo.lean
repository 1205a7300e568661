/-
  BlowUpVertex: the law. No conditions but those of the contracts.
-/
import Derived.Test.YtkidnnlplpocdaaHn
set_option linter.all false
namespace Go.Ax
open Go.Proofs

def c_lawg_Gi (f : List V → List V → Int → Bool) (q : List V → List V → Int → Prop) : Contract := fun
  | [.agg [.slc false 2 (.int .i64 0) a0, .slc false 27 (.slc false 2 (.int .i64 0) []) a1], .int .i64 a2] => some ([q a0 a1 a2], .bool (f a0 a1 a2))
  | _ => none
def q_lawg_Gi : List V → List V → Int → Prop := fun x y _ => q_G x y
def yesg_Gi : List V → List V → Int → Bool := fun _ _ _ => true
theorem buE_len2 {n : Nat} {es : List (List Int)} {v : Nat} (h : ∀ e ∈ es, e.length = 2) : tot (buE n es v) = (es.length + 1) * 2 := by
  have hp := srtE_perm (es ++ [[(v : Int), (n : Int)]])
  rw [tot_len2 (buE n es v) 2 (fun x hx => ?_), buE, srtE_len, List.length_append]
  · rfl
  · have := hp.mem_iff.1 hx
    rcases List.mem_append.1 this with h1 | h1
    · exact h x h1
    · simp only [List.mem_singleton] at h1
      rw [h1]; rfl
set_option maxRecDepth 100000 in
theorem s_laws_FnExactBlowUpVertex : Sat Try.prog 14 (c_lawg_Gi yesg_Gi q_lawg_Gi) := by
  intro args ps r h hp
  unfold c_lawg_Gi at h
  split at h
  · rename_i a0 a1 a2
    simp only [Option.some.injEq, Prod.mk.injEq] at h
    obtain ⟨rfl, rfl⟩ := h
    have hq : q_G a0 a1 := (alls_cons.1 hp).1
    obtain ⟨hq0, hq1⟩ := id hq
    have g0 := hq0.frz
    have g1 := frzs_II hq1
    generalize H_f_szG : f_szG = F_f_szG
    generalize H_q_szG : q_szG = F_q_szG
    generalize H_f_cpG : f_cpG = F_f_cpG
    generalize H_q_cpG : q_cpG = F_q_cpG
    generalize H_f_BUs : f_BUs = F_f_BUs
    generalize H_q_Gi9 : q_Gi9 = F_q_Gi9
    generalize H_f_BU : f_BU = F_f_BU
    generalize H_f_eqG : f_eqG = F_f_eqG
    generalize H_q_eqG : q_eqG = F_q_eqG
    generalize H_f0_heldG : f0_heldG = F_f0_heldG
    generalize H_q_heldG : q_heldG = F_q_heldG
    generalize H_f0_markG : f0_markG = F_f0_markG
    generalize H_f1_markG : f1_markG = F_f1_markG
    generalize H_f2_markG : f2_markG = F_f2_markG
    generalize H_q_markG : q_markG = F_q_markG
    refine fnOk_ofI (T := tab) (B := [(42, c_Gi_i F_f_szG F_q_szG), (44, c_G_G F_f_cpG F_q_cpG), (56, c_Gi_Xi F_f_BUs F_q_Gi9), (57, c_Gi_Gi F_f_BU F_q_Gi9), (33, c_GG_b F_f_eqG F_q_eqG), (35, c_Gi_i F_f0_heldG F_q_heldG)]) (Bi := [(34, 0, false, ic_markG F_f0_markG F_f1_markG F_f2_markG F_q_markG)]) [2000005623, 0, 1, 2, 4, 5, 6, 7, 8, 9, 10, 11, 12, 13, 14, 15] Try.func14 rfl rfl (by kernel_rfl) (Nat.le_of_ble_eq_true rfl) mixed tabOk (by subst H_f_szG H_q_szG H_f_cpG H_q_cpG H_f_BUs H_q_Gi9 H_f_BU H_f_eqG H_q_eqG H_f0_heldG H_q_heldG H_f0_markG H_f1_markG H_f2_markG H_q_markG; exact (bookCons s_laws_szGraph (bookCons s_laws_toGraph (bookCons s_spec_BlowUpVertex (bookCons s_impl_BlowUpVertex (bookCons s_laws_eqGraph (bookCons s_laws_heldGraph bookNil))))))) (by subst H_f_szG H_q_szG H_f_cpG H_q_cpG H_f_BUs H_q_Gi9 H_f_BU H_f_eqG H_q_eqG H_f0_heldG H_q_heldG H_f0_markG H_f1_markG H_f2_markG H_q_markG; exact (bookICons s_laws_markGraph bookINil)) (by kernel_rfl) ?_
    intro L lp rr hL hr hf hlp
    have hlen := hf.1
    conv => cbv
    simp only [stdEqs hL, g0, g1]
    subst H_f_szG H_q_szG H_f_cpG H_q_cpG H_f_BUs H_q_Gi9 H_f_BU H_f_eqG H_q_eqG H_f0_heldG H_q_heldG H_f0_markG H_f1_markG H_f2_markG H_q_markG
    refine ⟨hq1, fun h => by rw [hr]; rfl, fun h => ?_⟩
    obtain ⟨hc, hb0, hb1⟩ := szG_ok hq1 hlen.1.1 hlen.2.1.1 hlen.2.1.2 hq0 h
    obtain ⟨ws, hws⟩ := hq0
    obtain ⟨es, hes⟩ := hq1
    rw [hws, I_length] at hb0
    rw [hes, unII_II] at hb1
    have e0 : f_cpG a0 a1 = (I ws, II true es) := by rw [f_cpG, hes, hws, unII_II]
    have kg := graph_keys ws es
    have mg := markG_keys ws es (by omega)
    have hqg : q_G (I ws) (II false es) := ⟨⟨_, rfl⟩, ⟨_, rfl⟩⟩
    have hqx : q_Gi9 (I ws) (II false es) a2 := hqg

    obtain ⟨zs, fs, code, ez, ez2, hzl⟩ : ∃ (zs : List Int) (fs : List (List Int)) (code : Int), f_BU (I ws) (II false es) a2 = (I zs, II true fs, code) ∧ f_BUs (I ws) (II false es) a2 = (I zs, II false fs, code) ∧ zs.length + tot fs ≤ 2000 := by
      rw [f_BU, f_BUs, unI_I, unII_II]
      cases hh : isGr ws es with
      | false => exact ⟨[], [], 1, rfl, rfl, by simp [tot]⟩
      | true =>
        cases h2 : f_isV (I ws) (II false es) a2 with
        | false => exact ⟨[], [], 2, rfl, rfl, by simp [tot]⟩
        | true =>
          rw [buv_eq]
          cases h3 : f_full (I ws) (II false es) (I [a2]) with
          | true => exact ⟨[], [], 3, rfl, rfl, by simp [tot]⟩
          | false =>
            refine ⟨buW ws a2.toNat, buE ws.length es a2.toNat, 0, by rw [unI_I, unII_II, I_length]; rfl, by rw [I_length]; rfl, ?_⟩
            have g := gr_of hh
            have n2 := g.n2
            have n3 := g.el
            rw [buE_len2 (fun e he => (g.ed e he).1), buW, List.length_append, List.length_set]
            simp only [List.length_cons, List.length_nil]
            omega
    have ck := graph_keys zs fs
    have ck2 := markG_keys zs fs (by omega)
    have ck3 := graph_keys2 zs fs (by omega)
    have hn1 : ∀ n : Nat, decide ((1 : Int) + n < 0) = false := fun n => by simp; omega
    have hn2 : ∀ n m : Nat, decide ((1 : Int) + n + m < 0) = false := fun n m => by simp; omega
    have hn3 : ∀ n m r : Nat, decide ((1 : Int) + n + m + r < 0) = false := fun n m r => by simp; omega
    simp only [e0, hc, II_frzs, kg, mg, hqg, hqx, ez, ez2, ck, ck2, ck3, hn1, hn2, hn3, hr, yesg_Gi, I_frzs]
    simp
  · cases h
end Go.Ax
