/-
  Proximity and intersection matrices of clusters: the other side. No conditions but those of the contracts.
-/
import Derived.Test.YtkidnnlplpocdaaHc
set_option linter.all false
namespace Go.Ax
open Go.Proofs

def prq (P S : List Int) (i k : Nat) (b : Nat) : Int := if b < k then prm P S i b else 0
set_option maxRecDepth 100000 in
theorem s_spec_l07Prox : Sat Try.prog 172 (c_K_m f_prm q_Kv) := by
  intro args ps r h hp
  unfold c_K_m at h
  split at h
  · rename_i a0 a1 a2
    simp only [Option.some.injEq, Prod.mk.injEq] at h
    obtain ⟨rfl, rfl⟩ := h
    have hqv : q_Kv a0 a1 a2 := (alls_cons.1 hp).1
    obtain ⟨⟨⟨P, hP⟩, ⟨S, hS⟩, ⟨Q, hQ⟩⟩, hcl⟩ := id hqv
    rw [hP, hS, hQ, unI_I, unI_I, unI_I] at hcl
    have g0 : V.frzs a0 = a0 := by rw [hP, I_frzs]
    have g1 : V.frzs a1 = a1 := by rw [hS, I_frzs]
    have g2 : V.frzs a2 = a2 := by rw [hQ, I_frzs]
    have hpl : a0.length = P.length := by rw [hP, I_length]
    have hsl : a1.length = P.length := by rw [hS, I_length, hcl.sl]
    have hql : a2.length = P.length := by rw [hQ, I_length, hcl.ql]
    have gp : ∀ k, a0.getD k (.int .i64 0) = .int .i64 (P.getD k 0) := fun k => by rw [hP, I_getD]
    have gs : ∀ k, a1.getD k (.int .i64 0) = .int .i64 (S.getD k 0) := fun k => by rw [hS, I_getD]
    have gq : ∀ k, a2.getD k (.int .i64 0) = .int .i64 (Q.getD k 0) := fun k => by rw [hQ, I_getD]
    obtain ⟨n, hn⟩ : ∃ n : Int, n = P.length := ⟨_, rfl⟩
    have n1 := hcl.n1
    have n24 := hcl.n24
    have low := fun t ht => hcl.low (i := t) ht
    have hf0 : f_prm a0 a1 a2 = II true (T2 P.length (prm P S)) := by rw [f_prm, hpl, hP, hS, unI_I, unI_I]
    generalize H_f_nr : f_nr = F_f_nr
    generalize H_q_nr : q_nr = F_q_nr
    refine fnOk_ofI (T := tab) (B := [(135, c_Kii_b F_f_nr F_q_nr)]) (Bi := []) [0, 1, 2, 3, 4, 5, 6] Try.func172 rfl rfl (by kernel_rfl) (Nat.le_of_ble_eq_true rfl) mixed tabOk (by subst H_f_nr H_q_nr; exact (bookCons s_spec_l07Near bookNil)) (by subst H_f_nr H_q_nr; exact bookINil) (by kernel_rfl) ?_
    intro L lp rr hL hr hf hlp
    have En : ∀ i j, F_f_nr a0 a1 a2 i j = (decide (0 ≤ j) && (decide (P.getD i.toNat 0 = j) || decide (S.getD i.toNat 0 = j))) := fun i j => by rw [← H_f_nr, f_nr, hP, hS, unI_I, unI_I]
    conv => cbv
    refine hlp (List V × Int) _ _ _ [1, 3, 4] (fun x => [(1, none, .val (.box 40 (.agg [.slc false 2 (.int .i64 0) a0, .slc false 2 (.int .i64 0) a1, .slc false 2 (.int .i64 0) a2]))), (3, none, .val (.slc true 27 (.slc true 2 (.int .i64 0) []) x.1)), (4, none, .val (.int .i64 x.2))])
      (fun x => 0 ≤ x.2 ∧ x.2 ≤ n ∧ x.1 = II true (tab' (fun i => tab' (prm P S i) P.length) x.2.toNat)) (fun x => (n - x.2).toNat) (([], 0)) (by subst hL; rfl) ?_ ?_
    · exact ⟨by simp, by simp only; omega, rfl⟩
    rintro ⟨ls, i⟩ ⟨i0, i1, hI⟩ hfx ag hag
    simp only at i0 i1 hI
    conv => cbv
    simp only [stdEqs hL, imp_self, true_and, and_true, bif_or, bif_and, Bool.or_eq_true, Bool.or_eq_false_iff, Bool.and_eq_true, Bool.and_eq_false_iff, decide_eq_true_eq, decide_eq_false_iff_not, Bool.not_eq_true', Bool.not_eq_false', beq_iff_eq, beq_eq_false_iff_ne, ne_eq, toNat0, toNat1, ok_int, toI_int, I_frzs, I_length, I_getD, ok_ints, toL_slc, g0, g1, g2, hpl, ← hn]
    refine ⟨fun h2 => ?_, fun h2 => ?_⟩
    · obtain ⟨it, hit⟩ : ∃ it, it = i.toNat := ⟨_, rfl⟩
      have hin : it < P.length := by omega
      obtain ⟨s0, hs0⟩ : ∃ s0, s0 = List.replicate n.toNat (V.int IntKind.i64 0) := ⟨_, rfl⟩
      have hs00 : s0 = I (tab' (prq P S it 0) P.length) := by
        rw [hs0, hn, Int.toNat_natCast, I_replicate, eq_comm]
        congr 1
        rw [List.eq_replicate_iff]
        refine ⟨tab_len _ _, fun b hb => ?_⟩
        simp only [tab', List.mem_map, List.mem_range] at hb
        obtain ⟨x, hx, rfl⟩ := hb
        rw [prq, if_neg (by omega)]
      have hll : ls.length ≤ 24 := by rw [hI, II_length, tab_len]; omega
      simp only [← hs0]
      refine ⟨by omega, by omega, by omega, ?_⟩
      refine hlp (List V × Int) _ _ _ [1, 3, 4, 5, 6] (fun x => [(1, none, .val (.box 40 (.agg [.slc false 2 (.int .i64 0) a0, .slc false 2 (.int .i64 0) a1, .slc false 2 (.int .i64 0) a2]))), (3, none, .val (.slc true 27 (.slc true 2 (.int .i64 0) []) ls)), (4, none, .val (.int .i64 i)), (5, none, .val (.slc true 2 (.int .i64 0) x.1)), (6, none, .val (.int .i64 x.2))])
        (fun x => 0 ≤ x.2 ∧ x.2 ≤ i ∧ x.1 = I (tab' (prq P S it x.2.toNat) P.length)) (fun x => (i - x.2).toNat) ((s0, 0)) (by subst hL; rfl) ?_ ?_
      · exact ⟨by simp, i0, hs00⟩
      rintro ⟨rs, j⟩ ⟨j0, j1, hJ⟩ hfx2 ag2 hag2
      simp only at j0 j1 hJ
      have hrl : rs.length = P.length := by rw [hJ, I_length, tab_len]
      have grs : ∀ k, rs.getD k (.int .i64 0) = .int .i64 ((tab' (prq P S it j.toNat) P.length).getD k 0) := fun k => by rw [hJ, I_getD]
      conv => cbv
      simp only [stdEqs hL, imp_self, true_and, and_true, bif_or, bif_and, Bool.or_eq_true, Bool.or_eq_false_iff, Bool.and_eq_true, Bool.and_eq_false_iff, decide_eq_true_eq, decide_eq_false_iff_not, Bool.not_eq_true', Bool.not_eq_false', beq_iff_eq, beq_eq_false_iff_ne, ne_eq, toNat0, toNat1, ok_int, toI_int, I_frzs, I_length, I_getD, ok_ints, toL_slc, g0, g1, g2, hpl, ← hn, En, hrl, grs, ok_int]
      refine ⟨fun h3 => ?_, fun h3 => ?_⟩
      · obtain ⟨jt, hjt⟩ : ∃ jt, jt = j.toNat := ⟨_, rfl⟩
        have hjn : jt < P.length := by omega
        have hjc : (jt : Int) = j := by omega
        rw [← hjt] at hJ
        simp only [← hjt, ← hit]
        rw [wrap_id (n := j + 1) (by omega) (by omega)]
        have hdec : (i - (j + 1)).toNat < (i - j).toNat := by omega
        refine ⟨by rw [← H_q_nr]; exact ⟨hqv.1.1, hqv.1.2.1, hqv.1.2.2, i0, by omega, by omega⟩, fun h4 => ⟨j0, by omega, hjn, ?_⟩, fun h4 => ?_⟩
        · refine hag2 (_, j + 1) ⟨by simp only; omega, by simp only; omega, ?_⟩ hdec
          simp only [toNat_succ j0]
          rw [← hjt, hJ, I_set, tab_setG _ _ hjn]
          congr 1
          refine tab_congr fun b hb => ?_
          by_cases h5 : b = jt
          · rw [if_pos h5, prq, if_pos (by omega), prm, if_neg (by omega), if_pos (by rw [h5, hjc]; exact h4.2)]
          · rw [if_neg h5, prq, prq]
            exact ifc (by omega)
        · refine hag2 (rs, j + 1) ⟨by simp only; omega, by simp only; omega, ?_⟩ hdec
          simp only [toNat_succ j0]
          rw [← hjt, hJ]
          congr 1
          refine tab_congr fun b hb => ?_
          rw [prq, prq]
          by_cases h5 : b = jt
          · rw [if_neg (by omega), if_pos (by omega), prm, if_neg (by omega), if_neg (by rw [h5, hjc]; omega)]
          · exact ifc (by omega)
      · have hin2 : i < n := h2
        rw [wrap_id (n := i + 1) (by omega) (by omega)]
        refine ⟨i0, hin2, by omega, by simp only [List.length_cons, List.length_nil]; omega, ?_, ?_⟩
        · rw [hJ, I_set]; exact solid1 (by simp [V.solid])
        refine hag (_, i + 1) ⟨by simp only; omega, by simp only; omega, ?_⟩ (by simp only; omega)
        simp only [toNat_succ i0]
        obtain ⟨l1, l2, l3, l4, l5, l6⟩ := low it hin
        have e : (tab' (prq P S it j.toNat) P.length).set it 1 = tab' (prm P S it) P.length := by
          rw [tab_setG _ _ hin]
          refine tab_congr fun b hb => ?_
          by_cases h5 : b = it
          · rw [if_pos h5, prm, if_pos h5]
          · rw [if_neg h5, prq]
            by_cases h6 : b < j.toNat
            · rw [if_pos h6]
            · rw [if_neg h6, prm, if_neg h5, if_neg (by omega)]
        rw [hI, hJ, tab_succ, ← hit, I_set, e, II_append]
        rfl
    · rw [hr, hf0, hI, show i.toNat = P.length by omega]
      rfl
  · cases h
set_option maxRecDepth 100000 in
theorem s_spec_l07Meet : Sat Try.prog 136 (c_K_m f_exc q_Kv) := by
  intro args ps r h hp
  unfold c_K_m at h
  split at h
  · rename_i a0 a1 a2
    simp only [Option.some.injEq, Prod.mk.injEq] at h
    obtain ⟨rfl, rfl⟩ := h
    have hqv : q_Kv a0 a1 a2 := (alls_cons.1 hp).1
    obtain ⟨⟨⟨P, hP⟩, ⟨S, hS⟩, ⟨Q, hQ⟩⟩, hcl⟩ := id hqv
    rw [hP, hS, hQ, unI_I, unI_I, unI_I] at hcl
    have g0 : V.frzs a0 = a0 := by rw [hP, I_frzs]
    have g1 : V.frzs a1 = a1 := by rw [hS, I_frzs]
    have g2 : V.frzs a2 = a2 := by rw [hQ, I_frzs]
    have hpl : a0.length = P.length := by rw [hP, I_length]
    have hsl : a1.length = P.length := by rw [hS, I_length, hcl.sl]
    have hql : a2.length = P.length := by rw [hQ, I_length, hcl.ql]
    have gp : ∀ k, a0.getD k (.int .i64 0) = .int .i64 (P.getD k 0) := fun k => by rw [hP, I_getD]
    have gs : ∀ k, a1.getD k (.int .i64 0) = .int .i64 (S.getD k 0) := fun k => by rw [hS, I_getD]
    have gq : ∀ k, a2.getD k (.int .i64 0) = .int .i64 (Q.getD k 0) := fun k => by rw [hQ, I_getD]
    obtain ⟨n, hn⟩ : ∃ n : Int, n = P.length := ⟨_, rfl⟩
    have n1 := hcl.n1
    have n24 := hcl.n24
    have low := fun t ht => hcl.low (i := t) ht
    have hf0 : f_exc a0 a1 a2 = II true (T2 P.length (exc (prm P S) P.length)) := by rw [f_exc, hpl, hP, hS, unI_I, unI_I]
    obtain ⟨p, hp9⟩ : ∃ p, p = prm P S := ⟨_, rfl⟩
    rw [← hp9] at hf0
    obtain ⟨vp, hvp⟩ : ∃ vp, vp = II true (T2 P.length p) := ⟨_, rfl⟩
    have hvpl : vp.length = P.length := by rw [hvp, II_length, T2_len]
    have gvp : ∀ j, vp.getD j (.slc true 2 (.int .i64 0) []) = .slc true 2 (.int .i64 0) (I ((T2 P.length p).getD j [])) := fun j => by rw [hvp, II_getD]
    have grow : ∀ j, j < P.length → ((T2 P.length p).getD j []).length = P.length := fun j hj => by rw [T2_row _ hj, tab_len]
    have ggt : ∀ j k, j < P.length → k < P.length → ((T2 P.length p).getD j []).getD k 0 = p j k := fun j k hj hk => T2_get p hj hk
    generalize H_f_prm : f_prm = F_f_prm
    generalize H_q_Kv : q_Kv = F_q_Kv
    refine fnOk_ofI (T := tab) (B := [(172, c_K_m F_f_prm F_q_Kv)]) (Bi := []) [0, 1, 2, 3, 4, 5, 6, 7, 8, 9] Try.func136 rfl rfl (by kernel_rfl) (Nat.le_of_ble_eq_true rfl) mixed tabOk (by subst H_f_prm H_q_Kv; exact (bookCons s_spec_l07Prox bookNil)) (by subst H_f_prm H_q_Kv; exact bookINil) (by kernel_rfl) ?_
    intro L lp rr hL hr hf hlp
    have Ep : F_f_prm a0 a1 a2 = vp := by rw [← H_f_prm, f_prm, hpl, hP, hS, unI_I, unI_I, hvp, hp9]
    conv => cbv
    simp only [stdEqs hL, imp_self, true_and, and_true, bif_or, bif_and, Bool.or_eq_true, Bool.or_eq_false_iff, Bool.and_eq_true, Bool.and_eq_false_iff, decide_eq_true_eq, decide_eq_false_iff_not, Bool.not_eq_true', Bool.not_eq_false', beq_iff_eq, beq_eq_false_iff_ne, ne_eq, toNat0, toNat1, ok_int, toI_int, I_frzs, I_length, I_getD, ok_ints, toL_slc, g0, g1, g2, hpl, Ep, hvpl, ← hn]
    refine ⟨by rw [← H_q_Kv]; exact hqv, ?_⟩
    refine hlp (List V × Int) _ _ _ [3, 4, 5] (fun x => [(3, none, .val (.slc true 27 (.slc true 2 (.int .i64 0) []) vp)), (4, none, .val (.slc true 27 (.slc true 2 (.int .i64 0) []) x.1)), (5, none, .val (.int .i64 x.2))])
      (fun x => 0 ≤ x.2 ∧ x.2 ≤ n ∧ x.1 = II true (tab' (fun i => tab' (exc p P.length i) P.length) x.2.toNat)) (fun x => (n - x.2).toNat) (([], 0)) (by subst hL; rfl) ?_ ?_
    · exact ⟨by simp, by simp only; omega, rfl⟩
    rintro ⟨ls, i⟩ ⟨i0, i1, hI⟩ hfx ag hag
    simp only at i0 i1 hI
    conv => cbv
    simp only [stdEqs hL, imp_self, true_and, and_true, bif_or, bif_and, Bool.or_eq_true, Bool.or_eq_false_iff, Bool.and_eq_true, Bool.and_eq_false_iff, decide_eq_true_eq, decide_eq_false_iff_not, Bool.not_eq_true', Bool.not_eq_false', beq_iff_eq, beq_eq_false_iff_ne, ne_eq, toNat0, toNat1, ok_int, toI_int, I_frzs, I_length, I_getD, ok_ints, toL_slc, hvpl, gvp, ← hn]
    refine ⟨fun h2 => ?_, fun h2 => ?_⟩
    · obtain ⟨it, hit⟩ : ∃ it, it = i.toNat := ⟨_, rfl⟩
      have hin : it < P.length := by omega
      have hip : i < (P.length : Int) := by omega
      refine hlp (List V × Int) _ _ _ [3, 4, 5, 6, 7] (fun x => [(3, none, .val (.slc true 27 (.slc true 2 (.int .i64 0) []) vp)), (4, none, .val (.slc true 27 (.slc true 2 (.int .i64 0) []) ls)), (5, none, .val (.int .i64 i)), (6, none, .val (.slc true 2 (.int .i64 0) x.1)), (7, none, .val (.int .i64 x.2))])
        (fun x => 0 ≤ x.2 ∧ x.2 ≤ n ∧ x.1 = I (tab' (exc p P.length it) x.2.toNat)) (fun x => (n - x.2).toNat) (([], 0)) (by subst hL; rfl) ?_ ?_
      · exact ⟨by simp, by simp only; omega, rfl⟩
      rintro ⟨rs, k⟩ ⟨k0, k1, hK⟩ hfx2 ag2 hag2
      simp only at k0 k1 hK
      conv => cbv
      simp only [stdEqs hL, imp_self, true_and, and_true, bif_or, bif_and, Bool.or_eq_true, Bool.or_eq_false_iff, Bool.and_eq_true, Bool.and_eq_false_iff, decide_eq_true_eq, decide_eq_false_iff_not, Bool.not_eq_true', Bool.not_eq_false', beq_iff_eq, beq_eq_false_iff_ne, ne_eq, toNat0, toNat1, ok_int, toI_int, I_frzs, I_length, I_getD, ok_ints, toL_slc, hvpl, gvp, ← hn]
      refine ⟨fun h3 => ?_, fun h3 => ?_⟩
      · obtain ⟨kt, hkt⟩ : ∃ kt, kt = k.toNat := ⟨_, rfl⟩
        have hkn : kt < P.length := by omega
        have hkp : k < (P.length : Int) := by omega
        refine hlp (Int × Int) _ _ _ [3, 4, 5, 6, 7, 8, 9] (fun x => [(3, none, .val (.slc true 27 (.slc true 2 (.int .i64 0) []) vp)), (4, none, .val (.slc true 27 (.slc true 2 (.int .i64 0) []) ls)), (5, none, .val (.int .i64 i)), (6, none, .val (.slc true 2 (.int .i64 0) rs)), (7, none, .val (.int .i64 k)), (8, none, .val (.int .i64 x.1)), (9, none, .val (.int .i64 x.2))])
          (fun x => 0 ≤ x.2 ∧ x.2 ≤ n ∧ x.1 = mt p it kt x.2.toNat) (fun x => (n - x.2).toNat) ((0, 0)) (by subst hL; rfl) ?_ ?_
        · exact ⟨by simp, by simp only; omega, rfl⟩
        rintro ⟨sm, j⟩ ⟨j0, j1, hJ⟩ hfx3 ag3 hag3
        simp only at j0 j1 hJ
        conv => cbv
        simp only [stdEqs hL, imp_self, true_and, and_true, bif_or, bif_and, Bool.or_eq_true, Bool.or_eq_false_iff, Bool.and_eq_true, Bool.and_eq_false_iff, decide_eq_true_eq, decide_eq_false_iff_not, Bool.not_eq_true', Bool.not_eq_false', beq_iff_eq, beq_eq_false_iff_ne, ne_eq, toNat0, toNat1, ok_int, toI_int, I_frzs, I_length, I_getD, ok_ints, toL_slc, hvpl, gvp, ← hn]
        refine ⟨fun h4 => ?_, fun h4 => ?_⟩
        · obtain ⟨jt, hjt⟩ : ∃ jt, jt = j.toNat := ⟨_, rfl⟩
          have hjn : jt < P.length := by omega
          have hjp : j < (P.length : Int) := by omega
          simp only [← hjt, ← hit, ← hkt, grow _ hjn, ggt _ _ hjn hin, ggt _ _ hjn hkn]
          rw [wrap_id (n := j + 1) (by omega) (by omega)]
          refine ⟨j0, h4, hjn, hjn, i0, hip, hjn, hin, j0, h4, hjn, hjn, k0, hkp, hjn, hkn, ?_⟩
          refine hag3 (_, j + 1) ⟨by simp only; omega, by simp only; omega, ?_⟩ (by simp only; omega)
          simp only [toNat_succ j0]
          rw [← hjt, hJ, mt, hjt]
          rfl
        · have hrs : rs.length ≤ 24 := by rw [hK, I_length, tab_len]; omega
          rw [wrap_id (n := k + 1) (by omega) (by omega)]
          refine ⟨rfl, by simp only [List.length_cons, List.length_nil]; omega, solid_one _, ?_⟩
          refine hag2 (_, k + 1) ⟨by simp only; omega, by simp only; omega, ?_⟩ (by simp only; omega)
          simp only [toNat_succ k0]
          rw [hK, hJ, tab_succ, show j.toNat = P.length by omega, hkt]
          simp [I, exc]
      · have hls : ls.length ≤ 24 := by rw [hI, II_length, tab_len]; omega
        rw [wrap_id (n := i + 1) (by omega) (by omega)]
        refine ⟨by simp only [List.length_cons, List.length_nil]; omega, by rw [hK]; exact solid1 (by simp [V.solid]), ?_⟩
        refine hag (_, i + 1) ⟨by simp only; omega, by simp only; omega, ?_⟩ (by simp only; omega)
        simp only [toNat_succ i0]
        rw [hI, hK, tab_succ, show k.toNat = P.length by omega, II_append, hit]
        rfl
    · rw [hr, hf0, hI, show i.toNat = P.length by omega]
      rfl
  · cases h
end Go.Ax
