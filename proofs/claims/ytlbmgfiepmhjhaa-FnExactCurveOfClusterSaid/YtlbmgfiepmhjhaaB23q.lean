import Derived.Test.YtlbmgfiepmhjhaaB17q
import Derived.Test.YtlbmgfiepmhjhaaB22q
/-
  Branches at points of clusters: impl.branchAt, spec.BranchAtPoint. No conditions but those of the contracts.
-/
set_option linter.all false
namespace Go.Ax
open Go.Proofs

def c_Ki_Bi (f : List V → List V → List V → Int → List V × Int) (q : List V → List V → List V → Int → Prop) : Contract := fun
  | [.agg [.slc false 2 (.int .i64 0) a0, .slc false 2 (.int .i64 0) a1, .slc false 2 (.int .i64 0) a2], .int .i64 a3] => some ([q a0 a1 a2 a3], .tup [.agg [.slc true 2 (.int .i64 0) ((f a0 a1 a2 a3).1)], .int .i64 ((f a0 a1 a2 a3).2)])
  | _ => none
def codI (P S : List Int) (i : Int) : List Nat := cdN S (pthC P i)
def curR (cs : List Nat) : List V × Int := bif okC cs then (I (curB cs), 0) else ([], 5)
def f_bat (a b _ : List V) (i : Int) : List V × Int := curR (codI (unI a) (unI b) i)
theorem curR_noFz (cs : List Nat) : V.noFzs (curR cs).1 = true := by
  rw [curR]
  cases okC cs with
  | true => exact I_noFzs _
  | false => rfl
theorem curR_frz (cs : List Nat) : V.frzs (curR cs).1 = (curR cs).1 := by
  rw [curR]
  cases okC cs with
  | true => exact I_frzs _
  | false => rfl
theorem codI_ok {P S Q : List Int} (h : ClP P S Q) {i : Int} (h0 : 0 ≤ i) (h1 : i < P.length) : q_cvm (I (natL (codI P S i))) ∧ f_cur (I (natL (codI P S i))) = curR (codI P S i) := by
  refine ⟨⟨_, rfl, (path_code h i (by omega) h1).2, ?_⟩, by rw [f_cur, unI_I, int_nat, curR]⟩
  have := pthC_len h (show -1 ≤ i by omega) h1
  rw [codI, cdN_len]
  omega
set_option maxHeartbeats 1000000 in
set_option maxRecDepth 100000 in
theorem s_impl_branchAt : Sat Try.prog 61 (c_Ki_Bi f_bat q_Kp) := by
  intro args ps r h hp
  unfold c_Ki_Bi at h
  split at h
  · rename_i a0 a1 a2 i
    simp only [Option.some.injEq, Prod.mk.injEq] at h
    obtain ⟨rfl, rfl⟩ := h
    have hqp : q_Kp a0 a1 a2 i := (alls_cons.1 hp).1
    obtain ⟨hqv, i0, i1⟩ := id hqp
    obtain ⟨⟨⟨P, hP⟩, ⟨S, hS⟩, ⟨Q, hQ⟩⟩, hcl⟩ := id hqv
    rw [hP, hS, hQ, unI_I, unI_I, unI_I] at hcl
    have g0 : V.frzs a0 = a0 := by rw [hP, I_frzs]
    have g1 : V.frzs a1 = a1 := by rw [hS, I_frzs]
    have g2 : V.frzs a2 = a2 := by rw [hQ, I_frzs]
    have hpl : a0.length = P.length := by rw [hP, I_length]
    have hsl : a1.length = P.length := by rw [hS, I_length, hcl.sl]
    rw [hpl] at i1
    obtain ⟨p, hpp⟩ : ∃ p, p = pthC P i := ⟨_, rfl⟩
    obtain ⟨a3, hpi⟩ : ∃ a3, a3 = I p := ⟨_, rfl⟩
    have hfp : f_path a0 a1 a2 i = a3 := by rw [f_path, hP, unI_I, ← hpp, hpi]
    have g3 : V.frzs a3 = a3 := by rw [hpi, I_frzs]
    have hal : a3.length = p.length := by rw [hpi, I_length]
    have ga : ∀ k, a3.getD k (.int .i64 0) = .int .i64 (p.getD k 0) := fun k => by rw [hpi, I_getD]
    have gs : ∀ k, a1.getD k (.int .i64 0) = .int .i64 (S.getD k 0) := fun k => by rw [hS, I_getD]
    have n24 := hcl.n24
    have hlen := pthC_len hcl (show -1 ≤ i by omega) i1
    rw [← hpp] at hlen
    have hpg := fun j hj => path_get hcl i0 i1 (j := j) hj
    have hc1 := fun j hj hs => cod1_int hcl i0 i1 (j := j) hj hs
    rw [← hpp] at hpg hc1
    have hf0 : f_bat a0 a1 a2 i = curR (codI P S i) := by rw [f_bat, hP, hS, unI_I, unI_I]
    have hcd : codI P S i = cdN S p := by rw [codI, ← hpp]
    obtain ⟨ck1, ck2⟩ := codI_ok hcl i0 i1
    rw [hcd] at ck1 ck2 hf0
    have hfi : ∀ x, f_idx a3 x = idx p x := fun x => by rw [f_idx, hpi, unI_I]
    have hqi : ∀ x, q_lI a3 x := fun x => ⟨⟨p, hpi⟩, by rw [hal]; omega⟩
    generalize H_f_path : f_path = F_f_path
    generalize H_q_Kp : q_Kp = F_q_Kp
    generalize H_f_idx : f_idx = F_f_idx
    generalize H_q_lI : q_lI = F_q_lI
    generalize H_f_cur : f_cur = F_f_cur
    generalize H_q_cvm : q_cvm = F_q_cvm
    refine fnOk_ofI (T := tab) (B := [(63, c_Ki_l9 F_f_path F_q_Kp), (96, c_lxi_i F_f_idx F_q_lI), (97, c_l_Bi F_f_cur F_q_cvm)]) (Bi := []) [0, 1, 2, 4, 5, 6, 7, 8, 9, 10] Try.func61 rfl rfl (by kernel_rfl) (Nat.le_of_ble_eq_true rfl) mixed tabOk (by subst H_f_path H_q_Kp H_f_idx H_q_lI H_f_cur H_q_cvm; exact (bookCons s_impl_pathOf (bookCons s_slicesIndex (bookCons s_impl_curvette bookNil)))) (by subst H_f_path H_q_Kp H_f_idx H_q_lI H_f_cur H_q_cvm; exact bookINil) (by kernel_rfl) ?_
    intro L lp rr hL hr hf hlp
    have Qp : F_q_Kp a0 a1 a2 i := by rw [← H_q_Kp]; exact hqp
    have Ep : F_f_path a0 a1 a2 i = a3 := by rw [← H_f_path]; exact hfp
    have Ei : ∀ x, F_f_idx a3 x = idx p x := by rw [← H_f_idx]; exact hfi
    have Qi : ∀ x, F_q_lI a3 x := by rw [← H_q_lI]; exact hqi
    have Ec : F_f_cur (I (natL (cdN S p))) = curR (cdN S p) := by rw [← H_f_cur]; exact ck2
    have Qc : F_q_cvm (I (natL (cdN S p))) := by rw [← H_q_cvm]; exact ck1
    conv => cbv
    simp only [stdEqs hL, imp_self, true_and, and_true, bif_or, bif_and, Bool.or_eq_true, Bool.or_eq_false_iff, Bool.and_eq_true, Bool.and_eq_false_iff, decide_eq_true_eq, decide_eq_false_iff_not, Bool.not_eq_true', Bool.not_eq_false', beq_iff_eq, beq_eq_false_iff_ne, ne_eq, toNat0, toNat1, ok_int, toI_int, I_frzs, I_length, I_getD, ok_ints, toL_slc, g0, g1, g2, Ep]
    refine ⟨Qp, ?_⟩
    refine hlp (List V × Int) _ _ _ [2, 4, 6, 7, 8] (fun x => [(2, none, .val (.box 46 (.agg [.slc false 2 (.int .i64 0) a0, .slc false 2 (.int .i64 0) a1, .slc false 2 (.int .i64 0) a2]))), (4, none, .val (.box 74 (.agg [.slc true 2 (.int .i64 0) []]))), (6, none, .val (.slc true 2 (.int .i64 0) a3)), (7, none, .val (.slc true 2 (.int .i64 0) x.1)), (8, none, .val (.int .i64 x.2))])
      (fun x => 1 ≤ x.2 ∧ (x.2 ≤ p.length ∨ x.2 = 1) ∧ x.1 = I (natL (tab' (fun t => cod1 S p (t + 1)) (x.2 - 1).toNat))) (fun x => (p.length - x.2).toNat) (([], 1)) (by subst hL; rfl) ?_ ?_
    · exact ⟨by simp, .inr rfl, rfl⟩
    rintro ⟨os, j⟩ ⟨j0, j1, hO⟩ hfx ag hag
    simp only at j0 j1 hO
    conv => cbv
    simp only [stdEqs hL, imp_self, true_and, and_true, bif_or, bif_and, Bool.or_eq_true, Bool.or_eq_false_iff, Bool.and_eq_true, Bool.and_eq_false_iff, decide_eq_true_eq, decide_eq_false_iff_not, Bool.not_eq_true', Bool.not_eq_false', beq_iff_eq, beq_eq_false_iff_ne, ne_eq, toNat0, toNat1, ok_int, toI_int, I_frzs, I_length, I_getD, ok_ints, toL_slc, g0, g1, g2, g3, ga, gs, hal, hsl, Ei]
    refine ⟨fun h2 => ?_, fun h2 => ?_⟩
    · have hol : os.length = j.toNat - 1 := by rw [hO, I_length, natL_len, tab_len]; omega
      have hg := hpg j.toNat (by omega)
      have hnx : ∀ c : Nat, c = cod1 S p j.toNat → 0 ≤ j → (1 ≤ j + 1 ∧ (j + 1 ≤ p.length ∨ j + 1 = 1) ∧ os ++ [V.int .i64 (c : Int)] = I (natL (tab' (fun t => cod1 S p (t + 1)) (j + 1 - 1).toNat))) := fun c hc _ => by
        refine ⟨by omega, .inl (by omega), ?_⟩
        rw [hO, show (j + 1 - 1).toNat = (j - 1).toNat + 1 by omega, tab_succ, natL_append, ← I_append, show (j - 1).toNat + 1 = j.toNat by omega, hc]
        rfl
      rw [wrap_id (n := j + 1) (by omega) (by omega)]
      refine ⟨by omega, h2, by omega, hg.1, hg.2, fun h3 => ?_, fun h3 => ?_⟩
      · obtain ⟨c1, c2, c3⟩ := hc1 j.toNat (by omega) h3
        have e1 : IntKind.wrap .i64 (j - idx p (S.getD (p.getD j.toNat 0).toNat 0)) = (cod1 S p j.toNat : Nat) := by
          rw [wrap_id (by omega) (by omega), ← c3]; omega
        rw [e1]
        refine ⟨Qi _, rfl, by simp only [List.length_cons, List.length_nil]; omega, fun x hx => by (simp only [List.mem_singleton] at hx; subst hx; rfl), ?_⟩
        exact hag (_, j + 1) (hnx _ rfl (by omega)) (by simp only; omega)
      · refine ⟨rfl, by simp only [List.length_cons, List.length_nil]; omega, fun x hx => by (simp only [List.mem_singleton] at hx; subst hx; rfl), ?_⟩
        exact hag (_, j + 1) (hnx 0 (by rw [cod1, if_neg h3]) (by omega)) (by simp only; omega)
    · have he : (j - 1).toNat = p.length - 1 := by omega
      have hO2 : os = I (natL (cdN S p)) := by rw [hO, he, cdN]
      rw [hO2, I_frzs, Ec]
      refine ⟨Qc, curR_noFz _, ?_⟩
      rw [hr, hf0]
  · cases h
def f_pt (a b c : List V) (i : Int) : Int := 0
set_option maxHeartbeats 1000000 in
set_option maxRecDepth 100000 in
theorem s_spec_l08Point : Sat Try.prog 90 (c_Ki_i f_pt q_Kp) := by
  intro args ps r h hp
  unfold c_Ki_i at h
  split at h
  · rename_i a0 a1 a2 i
    simp only [Option.some.injEq, Prod.mk.injEq] at h
    obtain ⟨rfl, rfl⟩ := h
    have hqp : q_Kp a0 a1 a2 i := (alls_cons.1 hp).1
    obtain ⟨hqv, i0, i1⟩ := id hqp
    obtain ⟨⟨⟨P, hP⟩, ⟨S, hS⟩, ⟨Q, hQ⟩⟩, hcl⟩ := id hqv
    rw [hP, hS, hQ, unI_I, unI_I, unI_I] at hcl
    have g0 : V.frzs a0 = a0 := by rw [hP, I_frzs]
    have g1 : V.frzs a1 = a1 := by rw [hS, I_frzs]
    have g2 : V.frzs a2 = a2 := by rw [hQ, I_frzs]
    have hpl : a0.length = P.length := by rw [hP, I_length]
    have n24 := hcl.n24
    have hf2 : f_isCl a0 a1 a2 = true := by rw [f_isCl, hP, hS, hQ, unI_I, unI_I, unI_I]; exact isCl_iff.2 hcl
    rw [hpl] at i1
    generalize H_f_isCl : f_isCl = F_f_isCl
    generalize H_q_K : q_K = F_q_K
    generalize H_inRange : inRange = F_inRange
    refine fnOk_ofI (T := tab) (B := [(52, c_K_b F_f_isCl F_q_K), (69, c_impl_inRange F_inRange)]) (Bi := []) [0, 1, 2, 4] Try.func90 rfl rfl (by kernel_rfl) (Nat.le_of_ble_eq_true rfl) mixed tabOk (by subst H_f_isCl H_q_K H_inRange; exact (bookCons s_spec_l07Is (bookCons s_spec_l01In bookNil))) (by subst H_f_isCl H_q_K H_inRange; exact bookINil) (by kernel_rfl) ?_
    intro L lp rr hL hr hf hlp
    have E1 : ∀ x a b, F_inRange x a b = inRange x a b := fun x a b => by rw [← H_inRange]
    conv => cbv
    simp only [stdEqs hL, imp_self, true_and, and_true, bif_or, bif_and, Bool.or_eq_true, Bool.or_eq_false_iff, Bool.and_eq_true, Bool.and_eq_false_iff, decide_eq_true_eq, decide_eq_false_iff_not, Bool.not_eq_true', Bool.not_eq_false', beq_iff_eq, beq_eq_false_iff_ne, ne_eq, toNat0, toNat1, ok_int, toI_int, I_frzs, I_length, I_getD, ok_ints, toL_slc, g0, g1, g2, hpl, E1]
    rw [← H_f_isCl, ← H_q_K, hf2, wrap_id (by omega) (by omega)]
    refine ⟨hqv.1, fun h => (nomatch h), fun _ => ⟨fun h => ?_, fun _ => ?_⟩⟩
    · rw [inRange, Bool.and_eq_false_iff, decide_eq_false_iff_not, decide_eq_false_iff_not] at h
      omega
    · rw [hr, f_pt]
  · cases h
def c_Ki_Ai (f : List V → List V → List V → Int → List V × Int) (q : List V → List V → List V → Int → Prop) : Contract := fun
  | [.agg [.slc false 2 (.int .i64 0) a0, .slc false 2 (.int .i64 0) a1, .slc false 2 (.int .i64 0) a2], .int .i64 a3] => some ([q a0 a1 a2 a3], .tup [.agg [.slc false 2 (.int .i64 0) ((f a0 a1 a2 a3).1)], .int .i64 ((f a0 a1 a2 a3).2)])
  | _ => none
set_option maxHeartbeats 1000000 in
set_option maxRecDepth 100000 in
theorem s_spec_BranchAtPoint : Sat Try.prog 55 (c_Ki_Ai f_bat q_Kp) := by
  intro args ps r h hp
  unfold c_Ki_Ai at h
  split at h
  · rename_i a0 a1 a2 i
    simp only [Option.some.injEq, Prod.mk.injEq] at h
    obtain ⟨rfl, rfl⟩ := h
    have hqp : q_Kp a0 a1 a2 i := (alls_cons.1 hp).1
    obtain ⟨hqv, i0, i1⟩ := id hqp
    obtain ⟨⟨⟨P, hP⟩, ⟨S, hS⟩, ⟨Q, hQ⟩⟩, hcl⟩ := id hqv
    rw [hP, hS, hQ, unI_I, unI_I, unI_I] at hcl
    have g0 : V.frzs a0 = a0 := by rw [hP, I_frzs]
    have g1 : V.frzs a1 = a1 := by rw [hS, I_frzs]
    have g2 : V.frzs a2 = a2 := by rw [hQ, I_frzs]
    have hpl : a0.length = P.length := by rw [hP, I_length]
    have hi1 := i1
    rw [hpl] at i1
    have hfp : f_path a0 a1 a2 i = I (pthC P i) := by rw [f_path, hP, unI_I]
    have hfc : f_cod a0 a1 a2 (I (pthC P i)) = I (natL (codI P S i)) := by rw [f_cod, hS, unI_I, unI_I, codI]
    have hqc : q_cod a0 a1 a2 (I (pthC P i)) := ⟨hqv, i, by rw [hP, unI_I], i0, hi1⟩
    obtain ⟨ck1, ck2⟩ := codI_ok hcl i0 i1
    have hf0 : f_bat a0 a1 a2 i = curR (codI P S i) := by rw [f_bat, hP, hS, unI_I, unI_I]
    generalize H_f_pt : f_pt = F_f_pt
    generalize H_q_Kp : q_Kp = F_q_Kp
    generalize H_f_path : f_path = F_f_path
    generalize H_f_cod : f_cod = F_f_cod
    generalize H_q_cod : q_cod = F_q_cod
    generalize H_f_cur : f_cur = F_f_cur
    generalize H_q_cvm : q_cvm = F_q_cvm
    refine fnOk_ofF (T := tab) (B := [(90, c_Ki_i F_f_pt F_q_Kp), (56, c_Ki_l9 F_f_path F_q_Kp), (92, c_Kl_l F_f_cod F_q_cod), (91, c_l_Bi F_f_cur F_q_cvm), (2000000091, c_alias)]) (Bi := []) [2000004807, 2000004824, 2000004998, 0, 1, 2, 4, 5, 6, 7, 8] Try.func55 rfl rfl (by kernel_rfl) (Nat.le_of_ble_eq_true rfl) mixed tabOk (by subst H_f_pt H_q_Kp H_f_path H_f_cod H_q_cod H_f_cur H_q_cvm; exact (bookCons s_spec_l08Point (bookCons s_spec_l08Path (bookCons s_spec_l08Code (bookCons s_spec_CurvetteOfCode (bookCons s_alias bookNil)))))) (by subst H_f_pt H_q_Kp H_f_path H_f_cod H_q_cod H_f_cur H_q_cvm; exact bookINil) (by kernel_rfl) ?_
    intro L lp rr hL hr hf hlp
    conv => cbv
    simp only [stdEqs hL, imp_self, true_and, and_true, bif_or, bif_and, Bool.or_eq_true, Bool.or_eq_false_iff, Bool.and_eq_true, Bool.and_eq_false_iff, decide_eq_true_eq, decide_eq_false_iff_not, Bool.not_eq_true', Bool.not_eq_false', beq_iff_eq, beq_eq_false_iff_ne, ne_eq, toNat0, toNat1, ok_int, toI_int, I_frzs, I_length, I_getD, ok_ints, toL_slc, g0, g1, g2]
    subst H_f_pt H_q_Kp H_f_path H_f_cod H_q_cod H_f_cur H_q_cvm
    rw [hfp, I_frzs, hfc, I_frzs, ck2]
    refine ⟨hqp, fun h => absurd rfl h, fun _ => ⟨hqp, hqc, I_noFzs _, ck1, curR_noFz _, ?_⟩⟩
    rw [curR_frz, curR_frz, hr, hf0]
  · cases h
end Go.Ax
