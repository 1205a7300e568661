/-
  ClusterOfGraph: the law. No conditions but those of the contracts.
-/
import Derived.Test.YtpcjjklkiejeaaaIe
import Derived.Test.YtpcjjklkiejeaaaIf
import Derived.Test.YtpcjjklkiejeaaaHb
set_option linter.all false
namespace Go.Ax
open Go.Proofs

set_option maxRecDepth 100000 in
theorem s_laws_FnExactClusterOfGraph : Sat Try.prog 5 (c_lawg_G yesg_G q_lawg_G) := by
  intro args ps r h hp
  unfold c_lawg_G at h
  split at h
  · rename_i a0 a1
    simp only [Option.some.injEq, Prod.mk.injEq] at h
    obtain ⟨rfl, rfl⟩ := h
    have hq : q_G a0 a1 := (alls_cons.1 hp).1
    obtain ⟨hq0, hq1⟩ := id hq
    have g0 := hq0.frz
    have g1 := frzs_II hq1
    generalize H_f_szG : f_szG = F_f_szG
    generalize H_q_szG : q_szG = F_q_szG
    generalize H_f_cpG : f_cpG = F_f_cpG
    generalize H_q_cpG : q_cpG = F_q_cpG
    generalize H_f_cog : f_cog = F_f_cog
    generalize H_q_G : q_G = F_q_G
    generalize H_f_eqG : f_eqG = F_f_eqG
    generalize H_q_eqG : q_eqG = F_q_eqG
    generalize H_f_eqK : f_eqK = F_f_eqK
    generalize H_q_eqK : q_eqK = F_q_eqK
    generalize H_f0_heldK : f0_heldK = F_f0_heldK
    generalize H_q_heldK : q_heldK = F_q_heldK
    generalize H_f0_markK : f0_markK = F_f0_markK
    generalize H_f1_markK : f1_markK = F_f1_markK
    generalize H_f2_markK : f2_markK = F_f2_markK
    generalize H_f3_markK : f3_markK = F_f3_markK
    generalize H_q_markK : q_markK = F_q_markK
    generalize H_f0_eqI : f0_eqI = F_f0_eqI
    generalize H_q_eqI : q_eqI = F_q_eqI
    generalize H_f0_held : f0_held = F_f0_held
    generalize H_q_mark : q_mark = F_q_mark
    generalize H_f0_mark : f0_mark = F_f0_mark
    generalize H_f1_mark : f1_mark = F_f1_mark
    generalize H_f0_markG : f0_markG = F_f0_markG
    generalize H_f1_markG : f1_markG = F_f1_markG
    generalize H_f2_markG : f2_markG = F_f2_markG
    generalize H_q_markG : q_markG = F_q_markG
    refine fnOk_ofI (T := tab) (B := [(6, c_Gi_i F_f_szG F_q_szG), (8, c_G_G F_f_cpG F_q_cpG), (17, c_G_Kli F_f_cog F_q_G), (18, c_G_Kli F_f_cog F_q_G), (11, c_GG_b F_f_eqG F_q_eqG), (19, c_KK_b F_f_eqK F_q_eqK), (21, c_Ki_i F_f0_heldK F_q_heldK), (10, c_laws_eqInt64S F_f0_eqI F_q_eqI), (14, c_heldInt64S F_f0_held F_q_mark)]) (Bi := [(20, 0, false, ic_markK F_f0_markK F_f1_markK F_f2_markK F_f3_markK F_q_markK), (13, 0, false, ic_markInt64S F_f0_mark F_f1_mark F_q_mark), (12, 0, false, ic_markG F_f0_markG F_f1_markG F_f2_markG F_q_markG)]) [0, 1, 2, 3, 4, 5, 6, 7, 8, 9, 10, 11, 12, 13, 14, 15, 16] Try.func5 rfl rfl (by kernel_rfl) (Nat.le_of_ble_eq_true rfl) mixed tabOk (by subst H_f_szG H_q_szG H_f_cpG H_q_cpG H_f_cog H_q_G H_f_eqG H_q_eqG H_f_eqK H_q_eqK H_f0_heldK H_q_heldK H_f0_markK H_f1_markK H_f2_markK H_f3_markK H_q_markK H_f0_eqI H_q_eqI H_f0_held H_q_mark H_f0_mark H_f1_mark H_f0_markG H_f1_markG H_f2_markG H_q_markG; exact (bookCons s_laws_szGraph (bookCons s_laws_toGraph (bookCons s_spec_ClusterOfGraph (bookCons s_impl_ClusterOfGraph (bookCons s_laws_eqGraph (bookCons s_laws_eqCluster (bookCons s_laws_heldCluster (bookCons s_laws_eqInt64S (bookCons s_laws_heldInt64S bookNil)))))))))) (by subst H_f_szG H_q_szG H_f_cpG H_q_cpG H_f_cog H_q_G H_f_eqG H_q_eqG H_f_eqK H_q_eqK H_f0_heldK H_q_heldK H_f0_markK H_f1_markK H_f2_markK H_f3_markK H_q_markK H_f0_eqI H_q_eqI H_f0_held H_q_mark H_f0_mark H_f1_mark H_f0_markG H_f1_markG H_f2_markG H_q_markG; exact (bookICons s_laws_markCluster (bookICons s_laws_markInt64S (bookICons s_laws_markGraph bookINil)))) (by kernel_rfl) ?_
    intro L lp rr hL hr hf hlp
    have hlen := hf.1
    conv => cbv
    simp only [stdEqs hL, g0, g1]
    subst H_f_szG H_q_szG H_f_cpG H_q_cpG H_f_cog H_q_G H_f_eqG H_q_eqG H_f_eqK H_q_eqK H_f0_heldK H_q_heldK H_f0_markK H_f1_markK H_f2_markK H_f3_markK H_q_markK H_f0_eqI H_q_eqI H_f0_held H_q_mark H_f0_mark H_f1_mark H_f0_markG H_f1_markG H_f2_markG H_q_markG
    refine ⟨hq1, fun h => by rw [hr]; rfl, fun h => ?_⟩
    obtain ⟨hc, hb0, hb1⟩ := szG_ok hq1 hlen.1.1 hlen.2.1.1 hlen.2.1.2 hq0 h
    obtain ⟨ws, hws⟩ := hq0
    obtain ⟨es, hes⟩ := hq1
    rw [hws, I_length] at hb0
    rw [hes, unII_II] at hb1
    have e0 : f_cpG a0 a1 = (I ws, II true es) := by rw [f_cpG, hes, hws, unII_II]
    have kg := graph_keys ws es
    have mg := markG_keys ws es (by omega)
    have hqg : q_G (I ws) (II false es) := ⟨⟨_, rfl⟩, ⟨_, rfl⟩⟩
    have hqx := hqg

    obtain ⟨P, S, Q, zs, code, ez, hzl⟩ : ∃ (P S Q zs : List Int) (code : Int), f_cog (I ws) (II false es) = (I P, I S, I Q, I zs, code) ∧ P.length + S.length + Q.length + zs.length ≤ 1000 := by
      rw [f_cog, f_isGr, unI_I, unII_II]
      cases hh : isGr ws es with
      | false => exact ⟨[], [], [], [], 1, rfl, by simp⟩
      | true =>
        have g := gr_of hh
        cases hc : ctI ws es with
        | none => exact ⟨[], [], [], [], 3, rfl, by simp⟩
        | some x =>
          simp only [cond_true]
          cases hb : smo x.1 && f_conn (I ws) (II false es) with
          | false => exact ⟨[], [], [], [], 5, rfl, by simp⟩
          | true =>
            cases h24 : decide (24 < ws.length) with
            | true => exact ⟨[], [], [], [], 3, rfl, by simp⟩
            | false =>
              obtain ⟨_, h2, _⟩ := ct_ok g.toN (Sep_of g.n1 g.ed g.acyc) hc
              have h3 := h2.perm.length_eq
              rw [iota_len, List.length_append] at h3
              have := g.n2
              refine ⟨_, _, _, _, 0, rfl, ?_⟩
              rw [parG_len, secG_len, List.length_replicate, ptsG_len]
              omega
    have ck := cluster_keys P S Q (by omega)
    have ckz := ints_keys zs (by omega)
    have hn1 : ∀ n : Nat, decide ((1 : Int) + n < 0) = false := fun n => by simp; omega
    have hn2 : ∀ n m : Nat, decide ((1 : Int) + n + m < 0) = false := fun n m => by simp; omega
    have hn3 : ∀ n m r : Nat, decide ((1 : Int) + n + m + r < 0) = false := fun n m r => by simp; omega
    have hn4 : ∀ n m r t : Nat, decide ((1 : Int) + n + m + r + t < 0) = false := fun n m r t => by simp; omega
    have km : q_mark (I zs) (1 + P.length + S.length + Q.length) ∧ q_mark (I (marks zs.length (1 + P.length + S.length + Q.length))) (1 + P.length + S.length + Q.length) ∧ f0_mark (I zs) (1 + P.length + S.length + Q.length) = 1 + P.length + S.length + Q.length + zs.length ∧ f1_mark (I zs) (1 + P.length + S.length + Q.length) = I (marks zs.length (1 + P.length + S.length + Q.length)) ∧ f0_held (I (marks zs.length (1 + P.length + S.length + Q.length))) (1 + P.length + S.length + Q.length) = 1 + P.length + S.length + Q.length + zs.length :=
      ⟨⟨⟨_, rfl⟩, by omega, by rw [I_length]; omega⟩, ⟨⟨_, rfl⟩, by omega, by rw [I_length, marks_len]; omega⟩, by rw [f0_mark, I_length], by rw [f1_mark, I_length], by rw [f0_held, unI_I, I_length, marks_len, if_pos rfl]⟩
    simp only [e0, hc, II_frzs, kg, mg, hqg, ez, ck, ckz, km, hn1, hn2, hn3, hn4, hr, yesg_G, I_frzs, I_noFzs]
    simp
  · cases h
end Go.Ax
