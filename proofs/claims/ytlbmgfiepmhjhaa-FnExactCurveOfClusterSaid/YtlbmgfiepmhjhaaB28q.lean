import Derived.Test.YtlbmgfiepmhjhaaB26q
import Derived.Test.YtlbmgfiepmhjhaaB27q
import Derived.Test.YtlbmgfiepmhjhaaB15q
/-
  The law function of CurveOfCluster. No conditions but those of the contracts.
-/
set_option linter.all false
namespace Go.Ax
open Go.Proofs
theorem tot_maps {α : Type} (f : α → List Int) (m : Nat) : ∀ l : List α, (∀ x ∈ l, (f x).length ≤ m) → tot (l.map f) ≤ l.length * m
  | [], _ => by simp [tot]
  | x :: l, h => by
    have h1 := tot_maps f m l (fun y hy => h y (by simp [hy]))
    have h2 := h x (by simp)
    rw [List.map_cons, tot, List.length_cons, Nat.add_mul, Nat.one_mul]
    omega
theorem T2_tot (n : Nat) (f : Nat → Nat → Int) : tot (T2 n f) ≤ n * n := by
  have h := tot_maps (fun i => tab' (f i) n) n (List.range n) (fun x _ => by rw [tab_len]; omega)
  rwa [List.length_range] at h
set_option maxHeartbeats 1000000 in
set_option maxRecDepth 100000 in
theorem s_laws_FnExactCurveOfCluster : Sat Try.prog 5 (c_lawk_K yesk_K q_lawk_K) := by
  intro args ps r h hp
  unfold c_lawk_K at h
  split at h
  · rename_i a0 a1 a2
    simp only [Option.some.injEq, Prod.mk.injEq] at h
    obtain ⟨rfl, rfl⟩ := h
    have hq : q_K a0 a1 a2 := (alls_cons.1 hp).1
    obtain ⟨hq0, hq1, hq2⟩ := id hq
    have g0 := hq0.frz
    have g1 := hq1.frz
    have g2 := hq2.frz
    generalize H_f_szK : f_szK = F_f_szK
    generalize H_q_szK : q_szK = F_q_szK
    generalize H_f_cpK : f_cpK = F_f_cpK
    generalize H_q_cpK : q_cpK = F_q_cpK
    generalize H_f_coq : f_coq = F_f_coq
    generalize H_q_K : q_K = F_q_K
    generalize H_f_coc : f_coc = F_f_coc
    generalize H_f_eqK : f_eqK = F_f_eqK
    generalize H_q_eqK : q_eqK = F_q_eqK
    generalize H_f0_eqC : f0_eqC = F_f0_eqC
    generalize H_q_eqC : q_eqC = F_q_eqC
    generalize H_f0_heldC : f0_heldC = F_f0_heldC
    generalize H_q_heldC : q_heldC = F_q_heldC
    generalize H_f0_markC : f0_markC = F_f0_markC
    generalize H_f1_markC : f1_markC = F_f1_markC
    generalize H_f2_markC : f2_markC = F_f2_markC
    generalize H_q_markC : q_markC = F_q_markC
    generalize H_f0_markK : f0_markK = F_f0_markK
    generalize H_f1_markK : f1_markK = F_f1_markK
    generalize H_f2_markK : f2_markK = F_f2_markK
    generalize H_f3_markK : f3_markK = F_f3_markK
    generalize H_q_markK : q_markK = F_q_markK
    refine fnOk_ofI (T := tab) (B := [(18, c_Ki_i F_f_szK F_q_szK), (20, c_K_K F_f_cpK F_q_cpK), (19, c_K_Qi F_f_coq F_q_K), (21, c_K_Ci F_f_coc F_q_K), (23, c_KK_b F_f_eqK F_q_eqK), (22, c_cc_bool F_f0_eqC F_q_eqC), (26, c_heldC F_f0_heldC F_q_heldC)]) (Bi := [(25, 0, false, ic_markC F_f0_markC F_f1_markC F_f2_markC F_q_markC), (24, 0, false, ic_markK F_f0_markK F_f1_markK F_f2_markK F_f3_markK F_q_markK)]) [2000005621, 0, 1, 2, 3, 4, 5, 6, 7, 8, 9, 10, 11, 12, 13] Try.func5 rfl rfl (by kernel_rfl) (Nat.le_of_ble_eq_true rfl) mixed tabOk (by subst H_f_szK H_q_szK H_f_cpK H_q_cpK H_f_coq H_q_K H_f_coc H_f_eqK H_q_eqK H_f0_eqC H_q_eqC H_f0_heldC H_q_heldC H_f0_markC H_f1_markC H_f2_markC H_q_markC H_f0_markK H_f1_markK H_f2_markK H_f3_markK H_q_markK; exact (bookCons s_laws_szCluster (bookCons s_laws_toCluster (bookCons s_spec_CurveOfCluster (bookCons s_impl_CurveOfCluster (bookCons s_laws_eqCluster (bookCons s_laws_eqCurve (bookCons s_laws_heldCurve bookNil)))))))) (by subst H_f_szK H_q_szK H_f_cpK H_q_cpK H_f_coq H_q_K H_f_coc H_f_eqK H_q_eqK H_f0_eqC H_q_eqC H_f0_heldC H_q_heldC H_f0_markC H_f1_markC H_f2_markC H_q_markC H_f0_markK H_f1_markK H_f2_markK H_f3_markK H_q_markK; exact (bookICons s_laws_markCurve (bookICons s_laws_markCluster bookINil))) (by kernel_rfl) ?_
    intro L lp rr hL hr hf hlp
    have hlen := hf.1
    conv => cbv
    simp only [stdEqs hL, g0, g1, g2]
    subst H_f_szK H_q_szK H_f_cpK H_q_cpK H_f_coq H_q_K H_f_coc H_f_eqK H_q_eqK H_f0_eqC H_q_eqC H_f0_heldC H_q_heldC H_f0_markC H_f1_markC H_f2_markC H_q_markC H_f0_markK H_f1_markK H_f2_markK H_f3_markK H_q_markK
    refine ⟨trivial, fun h => by rw [hr]; rfl, fun h => ?_⟩
    obtain ⟨hc, hb0, hb1, hb2⟩ := szK_ok hq0 hq1 hq2 hlen.1.1 hlen.2.1.1 hlen.2.2.1.1 h
    obtain ⟨P, hP⟩ := hq0
    obtain ⟨S, hS⟩ := hq1
    obtain ⟨Q, hQ⟩ := hq2
    rw [hP, I_length] at hb0
    rw [hS, I_length] at hb1
    rw [hQ, I_length] at hb2
    have e0 : f_cpK a0 a1 a2 = (I P, I S, I Q) := by rw [f_cpK, hP, hS, hQ]
    have kg := cluster_keys P S Q (by omega)
    have hqg : q_K (I P) (I S) (I Q) := ⟨⟨_, rfl⟩, ⟨_, rfl⟩, ⟨_, rfl⟩⟩
    have hqx := hqg

    obtain ⟨cs, ns, code, ez, ez2, hz1⟩ : ∃ (cs ns : List (List Int)) (code : Int), f_coc (I P) (I S) (I Q) = (BB true cs, II true ns, code) ∧ f_coq (I P) (I S) (I Q) = (BB false cs, II false ns, code) ∧ tot cs + tot ns ≤ 4611686018427387904 := by
      suffices h : ∃ (cs ns : List (List Int)) (code : Int), f_coc (I P) (I S) (I Q) = (BB true cs, II true ns, code) ∧ tot cs + tot ns ≤ 4611686018427387904 by
        obtain ⟨cs, ns, code, h1, h2⟩ := h
        exact ⟨cs, ns, code, h1, by rw [f_coq, h1]; simp only [BB_frzs, II_frzs], h2⟩
      rw [f_coc, f_isCl, unI_I, unI_I, unI_I, I_length]
      cases hh : isCl P S Q with
      | false => exact ⟨[], [], 1, rfl, by simp [tot]⟩
      | true =>
        cases h2 : f_cons (I P) (I S) (I Q) with
        | false => exact ⟨[], [], 5, rfl, by simp [tot]⟩
        | true =>
          have hc := isCl_iff.1 hh
          have hfo := facs_ok hc
          obtain ⟨ps, hps⟩ : ∃ ps, ps = ptsF (facA (exsL P S Q) P.length) := ⟨_, rfl⟩
          simp only [cond_true, ← hps, cocP]
          split
          · exact ⟨[], [], 3, rfl, by simp [tot]⟩
          · rename_i hn
            cases ha : ps.all (okX P S) with
            | false => exact ⟨[], [], 5, rfl, by simp [tot]⟩
            | true =>
              refine ⟨_, _, 0, rfl, ?_⟩
              rw [List.all_eq_true] at ha
              have h3 := tot_maps (curX P S) 3000 ps (fun x hx => by
                have := ptsF_in hfo x (by rw [← hps]; exact hx)
                exact curX_len hc this.1 this.2 (ha x hx))
              have h4 := T2_tot ps.length (com P ps)
              have h5 : ps.length * ps.length ≤ 6 * 6 := Nat.mul_le_mul (by omega) (by omega)
              omega
    have ck := curve_keys cs ns hz1
    have hn1 : ∀ n : Nat, decide ((1 : Int) + n < 0) = false := fun n => by simp; omega
    have hn2 : ∀ n m : Nat, decide ((1 : Int) + n + m < 0) = false := fun n m => by simp; omega
    have hn3 : ∀ n m r : Nat, decide ((1 : Int) + n + m + r < 0) = false := fun n m r => by simp; omega
    simp only [e0, hc, BB_frzs, II_frzs, kg, hqg, hqx, ez, ez2, ck, hn1, hn2, hn3, hr, yesk_K, I_frzs]
    simp
  · cases h
end Go.Ax
