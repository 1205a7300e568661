import Derived.Test.YtlbmgfiepmhjhaaB13q
import Derived.Test.YtlbmgfiepmhjhaaB14q
import Derived.Test.YtlbmgfiepmhjhaaB15q
import Derived.Test.YtlbmgfiepmhjhaaB16q
import Derived.Test.YtlbmgfiepmhjhaaB08q
/-
  Paths of points of clusters: impl.pathOf, spec.l08Path, spec.l08Code, spec.l08Point. No conditions but those of the contracts.
-/
set_option linter.all false
namespace Go.Ax
open Go.Proofs

def c_Ki_l9 (f : List V → List V → List V → Int → List V) (q : List V → List V → List V → Int → Prop) : Contract := fun
  | [.agg [.slc false 2 (.int .i64 0) a0, .slc false 2 (.int .i64 0) a1, .slc false 2 (.int .i64 0) a2], .int .i64 a3] => some ([q a0 a1 a2 a3], .slc true 2 (.int .i64 0) (f a0 a1 a2 a3))
  | _ => none
def f_path (a _ _ : List V) (i : Int) : List V := I (pthC (unI a) i)
def q_Kp (a b c : List V) (i : Int) : Prop := q_Kv a b c ∧ 0 ≤ i ∧ i < a.length
theorem up_step {P S Q : List Int} (h : ClP P S Q) {i : Int} (h0 : 0 ≤ i) (h1 : i < P.length) : upL P 32 i = i :: upL P 32 (P.getD i.toNat 0) := by
  have h2 := congrArg List.reverse (pthC_step h h0 h1)
  rw [pthC, pthC, List.reverse_reverse, List.reverse_append, List.reverse_reverse] at h2
  simpa using h2
theorem up_neg (P : List Int) {i : Int} (h : i < 0) : upL P 32 i = [] := by rw [upL, if_pos h]
theorem up_len {P S Q : List Int} (h : ClP P S Q) {i : Int} (h0 : -1 ≤ i) (h1 : i < P.length) : (upL P 32 i).length ≤ 24 := by
  have := pthC_len h h0 h1
  rwa [pthC, List.length_reverse] at this
set_option maxHeartbeats 1000000 in
set_option maxRecDepth 100000 in
theorem s_impl_pathOf : Sat Try.prog 63 (c_Ki_l9 f_path q_Kp) := by
  intro args ps r h hp
  unfold c_Ki_l9 at h
  split at h
  · rename_i a0 a1 a2 i
    simp only [Option.some.injEq, Prod.mk.injEq] at h
    obtain ⟨rfl, rfl⟩ := h
    obtain ⟨hqv, i0, i1⟩ : q_Kp a0 a1 a2 i := (alls_cons.1 hp).1
    obtain ⟨⟨⟨P, hP⟩, ⟨S, hS⟩, ⟨Q, hQ⟩⟩, hcl⟩ := id hqv
    rw [hP, hS, hQ, unI_I, unI_I, unI_I] at hcl
    have g0 : V.frzs a0 = a0 := by rw [hP, I_frzs]
    have g1 : V.frzs a1 = a1 := by rw [hS, I_frzs]
    have g2 : V.frzs a2 = a2 := by rw [hQ, I_frzs]
    have hpl : a0.length = P.length := by rw [hP, I_length]
    have gp : ∀ k, a0.getD k (.int .i64 0) = .int .i64 (P.getD k 0) := fun k => by rw [hP, I_getD]
    have n24 := hcl.n24
    have hf0 : f_path a0 a1 a2 i = I (pthC P i) := by rw [f_path, hP, unI_I]
    rw [hpl] at i1
    generalize H_f_rev : f_rev = F_f_rev
    generalize H_IsIs : IsIs = F_IsIs
    refine fnOk_ofI (T := tab) (B := []) (Bi := [(98, 0, false, ic_rev F_f_rev F_IsIs)]) [0, 1, 2, 4, 5] Try.func63 rfl rfl (by kernel_rfl) (Nat.le_of_ble_eq_true rfl) mixed tabOk (by subst H_f_rev H_IsIs; exact bookNil) (by subst H_f_rev H_IsIs; exact (bookICons s_reverse bookINil)) (by kernel_rfl) ?_
    intro L lp rr hL hr hf hlp
    have Er : ∀ xs : List Int, F_f_rev (I xs) = I xs.reverse := fun xs => by rw [← H_f_rev, f_rev, unI_I]
    conv => cbv
    refine hlp (List V × Int) _ _ _ [1, 2, 5] (fun x => [(1, none, .val (.int .i64 x.2)), (2, none, .val (.box 46 (.agg [.slc false 2 (.int .i64 0) a0, .slc false 2 (.int .i64 0) a1, .slc false 2 (.int .i64 0) a2]))), (5, none, .val (.slc true 2 (.int .i64 0) x.1))])
      (fun x => -1 ≤ x.2 ∧ x.2 < P.length ∧ ∃ ls, x.1 = I ls ∧ ls ++ upL P 32 x.2 = upL P 32 i) (fun x => (x.2 + 1).toNat) (([], i)) (by subst hL; rfl) ?_ ?_
    · exact ⟨by simp only; omega, by simp only; exact i1, [], rfl, rfl⟩
    rintro ⟨os, j⟩ ⟨j0, j1, ls, hO, hU⟩ hfx ag hag
    simp only at j0 j1 hO hU
    have hul := up_len hcl (show -1 ≤ i by omega) i1
    have hll : ls.length ≤ 24 := by rw [← hU, List.length_append] at hul; omega
    have hol : os.length = ls.length := by rw [hO, I_length]
    conv => cbv
    simp only [stdEqs hL, imp_self, true_and, and_true, bif_or, bif_and, Bool.or_eq_true, Bool.or_eq_false_iff, Bool.and_eq_true, Bool.and_eq_false_iff, decide_eq_true_eq, decide_eq_false_iff_not, Bool.not_eq_true', Bool.not_eq_false', beq_iff_eq, beq_eq_false_iff_ne, ne_eq, toNat0, toNat1, ok_int, toI_int, I_frzs, I_length, I_getD, ok_ints, toL_slc, g0, g1, g2, gp, hpl]
    refine ⟨fun h2 => ?_, fun h2 => ?_⟩
    · have hlow := hcl.low (i := j.toNat) (by omega)
      (repeat' first | (exact solid_one _) | (exact solid1 rfl) | (exact noown_one _) | (apply And.intro) | (intro _)) <;> (try first | exact True.intro | omega | rfl | (simp only [List.length_cons, List.length_nil, I_length]; omega))
      refine hag (_, P.getD j.toNat 0) ⟨by simp only; omega, by simp only; omega, ls ++ [j], ?_, ?_⟩ (by simp only; omega)
      · simp only
        rw [hO, ← I_append]
        rfl
      · simp only
        rw [List.append_assoc, List.singleton_append, ← up_step hcl h2 j1]
        exact hU
    · rw [up_neg P (by omega), List.append_nil] at hU
      have hEr : F_f_rev os = I (pthC P i) := by rw [hO, Er, hU, pthC]
      rw [hEr]
      refine ⟨by rw [← H_IsIs, hO]; exact ⟨⟨_, rfl⟩, by rw [I_length]; omega⟩, ?_⟩
      rw [hr, hf0]
  · cases h
set_option maxHeartbeats 1000000 in
set_option maxRecDepth 100000 in
theorem s_spec_l08Path : Sat Try.prog 56 (c_Ki_l9 f_path q_Kp) := by
  intro args ps r h hp
  unfold c_Ki_l9 at h
  split at h
  · rename_i a0 a1 a2 i
    simp only [Option.some.injEq, Prod.mk.injEq] at h
    obtain ⟨rfl, rfl⟩ := h
    obtain ⟨hqv, i0, i1⟩ : q_Kp a0 a1 a2 i := (alls_cons.1 hp).1
    obtain ⟨⟨⟨P, hP⟩, ⟨S, hS⟩, ⟨Q, hQ⟩⟩, hcl⟩ := id hqv
    rw [hP, hS, hQ, unI_I, unI_I, unI_I] at hcl
    have g0 : V.frzs a0 = a0 := by rw [hP, I_frzs]
    have g1 : V.frzs a1 = a1 := by rw [hS, I_frzs]
    have g2 : V.frzs a2 = a2 := by rw [hQ, I_frzs]
    have hpl : a0.length = P.length := by rw [hP, I_length]
    have gp : ∀ k, a0.getD k (.int .i64 0) = .int .i64 (P.getD k 0) := fun k => by rw [hP, I_getD]
    have n24 := hcl.n24
    have hf0 : f_path a0 a1 a2 i = I (pthC P i) := by rw [f_path, hP, unI_I]
    rw [hpl] at i1
    refine fnOk_ofI (T := tab) (B := []) (Bi := []) [0, 1, 2, 4, 5] Try.func56 rfl rfl (by kernel_rfl) (Nat.le_of_ble_eq_true rfl) mixed tabOk (by exact bookNil) (by exact bookINil) (by kernel_rfl) ?_
    intro L lp rr hL hr hf hlp
    conv => cbv
    refine hlp (List V × Int) _ _ _ [1, 2, 5] (fun x => [(1, none, .val (.int .i64 x.2)), (2, none, .val (.box 46 (.agg [.slc false 2 (.int .i64 0) a0, .slc false 2 (.int .i64 0) a1, .slc false 2 (.int .i64 0) a2]))), (5, none, .val (.slc true 2 (.int .i64 0) x.1))])
      (fun x => -1 ≤ x.2 ∧ x.2 < P.length ∧ ∃ ls, x.1 = I ls.reverse ∧ ls ++ upL P 32 x.2 = upL P 32 i) (fun x => (x.2 + 1).toNat) (([], i)) (by subst hL; rfl) ?_ ?_
    · exact ⟨by simp only; omega, by simp only; exact i1, [], rfl, rfl⟩
    rintro ⟨os, j⟩ ⟨j0, j1, ls, hO, hU⟩ hfx ag hag
    simp only at j0 j1 hO hU
    have hul := up_len hcl (show -1 ≤ i by omega) i1
    have hll : ls.length ≤ 24 := by rw [← hU, List.length_append] at hul; omega
    have hol : os.length = ls.length := by rw [hO, I_length, List.length_reverse]
    conv => cbv
    simp only [stdEqs hL, imp_self, true_and, and_true, bif_or, bif_and, Bool.or_eq_true, Bool.or_eq_false_iff, Bool.and_eq_true, Bool.and_eq_false_iff, decide_eq_true_eq, decide_eq_false_iff_not, Bool.not_eq_true', Bool.not_eq_false', beq_iff_eq, beq_eq_false_iff_ne, ne_eq, toNat0, toNat1, ok_int, toI_int, I_frzs, I_length, I_getD, ok_ints, toL_slc, g0, g1, g2, gp, hpl]
    refine ⟨fun h2 => ?_, fun h2 => ?_⟩
    · have hlow := hcl.low (i := j.toNat) (by omega)
      refine ⟨by rw [hO]; exact I_owneds _, by rw [hol]; simp only [List.length_cons, List.length_nil]; omega, by rw [hO]; exact I_solid _, h2, by omega, ?_⟩
      refine hag (_, P.getD j.toNat 0) ⟨by simp only; omega, by simp only; omega, ls ++ [j], ?_, ?_⟩ (by simp only; omega)
      · simp only
        rw [hO, List.reverse_append, ← I_append]
        rfl
      · simp only
        rw [List.append_assoc, List.singleton_append, ← up_step hcl h2 j1]
        exact hU
    · rw [up_neg P (by omega), List.append_nil] at hU
      rw [hr, hf0, hO, hU, pthC]
  · cases h
def f_cod (_ b _ d : List V) : List V := I (natL (cdN (unI b) (unI d)))
def q_cod (a b c d : List V) : Prop := q_Kv a b c ∧ ∃ i, d = I (pthC (unI a) i) ∧ 0 ≤ i ∧ i < a.length
theorem path_get {P S Q : List Int} (h : ClP P S Q) {i : Int} (h0 : 0 ≤ i) (h1 : i < P.length) {j : Nat} (hj : j < (pthC P i).length) : 0 ≤ (pthC P i).getD j 0 ∧ (pthC P i).getD j 0 < P.length := by
  have := (pthC_mem h i (by omega) h1).1 _ (show (pthC P i).getD j 0 ∈ pthC P i by rw [List.getD_eq_getElem?_getD, List.getElem?_eq_getElem hj]; exact List.getElem_mem _)
  omega
theorem cod1_int {P S Q : List Int} (h : ClP P S Q) {i : Int} (h0 : 0 ≤ i) (h1 : i < P.length) {j : Nat} (hj : j < (pthC P i).length) (hs : 0 ≤ S.getD ((pthC P i).getD j 0).toNat 0) :
    0 ≤ idx (pthC P i) (S.getD ((pthC P i).getD j 0).toNat 0) ∧ idx (pthC P i) (S.getD ((pthC P i).getD j 0).toNat 0) < 24 ∧ (j : Int) - idx (pthC P i) (S.getD ((pthC P i).getD j 0).toNat 0) = (cod1 S (pthC P i) j : Nat) := by
  have hm := (path_code h i (by omega) h1).1 _ (show (pthC P i).getD j 0 ∈ pthC P i by rw [List.getD_eq_getElem?_getD, List.getElem?_eq_getElem hj]; exact List.getElem_mem _) hs
  obtain ⟨k, hk⟩ : ∃ k, k = (pthC P i).idxOf (S.getD ((pthC P i).getD j 0).toNat 0) := ⟨_, rfl⟩
  have hi := idx_of hm
  rw [← hk] at hi
  have hkl : k < (pthC P i).length := by rw [hk]; exact List.idxOf_lt_length_iff.2 hm
  have hlen := pthC_len h (show -1 ≤ i by omega) h1
  -- the second point lies ahead
  have hlt : k < j := by
    have hp := List.pairwise_iff_getElem.1 (pthC_mem h i (by omega) h1).2
    have hpk : (pthC P i)[k] = S.getD ((pthC P i).getD j 0).toNat 0 := by
      simp only [hk]
      exact List.getElem_idxOf _
    have hpj : (pthC P i)[j] = (pthC P i).getD j 0 := by rw [List.getD_eq_getElem?_getD, List.getElem?_eq_getElem hj]; rfl
    have hg := path_get h h0 h1 hj
    have hl := h.low (i := ((pthC P i).getD j 0).toNat) (by omega)
    have h00 : ((pthC P i).getD j 0).toNat ≠ 0 := fun e => by have := (hl.2.2.2.2.2 e).2; omega
    have h4 := hl.2.2.2.1 (by omega)
    rcases Nat.lt_trichotomy k j with h5 | h5 | h5
    · exact h5
    · subst h5
      rw [hpj] at hpk
      omega
    · have := hp j k hj hkl h5
      rw [hpj, hpk] at this
      omega
  rw [hi, cod1, if_pos hs, hi]
  omega
set_option maxHeartbeats 1000000 in
set_option maxRecDepth 100000 in
theorem s_spec_l08Code : Sat Try.prog 92 (c_Kl_l f_cod q_cod) := by
  intro args ps r h hp
  unfold c_Kl_l at h
  split at h
  · rename_i a0 a1 a2 a3
    simp only [Option.some.injEq, Prod.mk.injEq] at h
    obtain ⟨rfl, rfl⟩ := h
    obtain ⟨hqv, i, hpi, i0, i1⟩ : q_cod a0 a1 a2 a3 := (alls_cons.1 hp).1
    obtain ⟨⟨⟨P, hP⟩, ⟨S, hS⟩, ⟨Q, hQ⟩⟩, hcl⟩ := id hqv
    rw [hP, hS, hQ, unI_I, unI_I, unI_I] at hcl
    have g0 : V.frzs a0 = a0 := by rw [hP, I_frzs]
    have g1 : V.frzs a1 = a1 := by rw [hS, I_frzs]
    have g2 : V.frzs a2 = a2 := by rw [hQ, I_frzs]
    have hpl : a0.length = P.length := by rw [hP, I_length]
    have hsl : a1.length = P.length := by rw [hS, I_length, hcl.sl]
    rw [hpl] at i1
    obtain ⟨p, hpp⟩ : ∃ p, p = pthC P i := ⟨_, rfl⟩
    rw [hP, unI_I, ← hpp] at hpi
    have g3 : V.frzs a3 = a3 := by rw [hpi, I_frzs]
    have hal : a3.length = p.length := by rw [hpi, I_length]
    have ga : ∀ k, a3.getD k (.int .i64 0) = .int .i64 (p.getD k 0) := fun k => by rw [hpi, I_getD]
    have gs : ∀ k, a1.getD k (.int .i64 0) = .int .i64 (S.getD k 0) := fun k => by rw [hS, I_getD]
    have n24 := hcl.n24
    have hlen := pthC_len hcl (show -1 ≤ i by omega) i1
    rw [← hpp] at hlen
    have hpg := fun j hj => path_get hcl i0 i1 (j := j) hj
    have hc1 := fun j hj hs => cod1_int hcl i0 i1 (j := j) hj hs
    rw [← hpp] at hpg hc1
    have hf0 : f_cod a0 a1 a2 a3 = I (natL (cdN S p)) := by rw [f_cod, hpi, hS, unI_I, unI_I]
    have hfi : ∀ x, f_idx a3 x = idx p x := fun x => by rw [f_idx, hpi, unI_I]
    have hqi : ∀ x, q_lI a3 x := fun x => ⟨⟨p, hpi⟩, by rw [hal]; omega⟩
    generalize H_f_idx : f_idx = F_f_idx
    generalize H_q_lI : q_lI = F_q_lI
    refine fnOk_ofI (T := tab) (B := [(77, c_lxi_i F_f_idx F_q_lI)]) (Bi := []) [0, 1, 2, 4, 5, 6, 7, 8] Try.func92 rfl rfl (by kernel_rfl) (Nat.le_of_ble_eq_true rfl) mixed tabOk (by subst H_f_idx H_q_lI; exact (bookCons s_spec_l01Index bookNil)) (by subst H_f_idx H_q_lI; exact bookINil) (by kernel_rfl) ?_
    intro L lp rr hL hr hf hlp
    have Ei : ∀ x, F_f_idx a3 x = idx p x := by rw [← H_f_idx]; exact hfi
    have Qi : ∀ x, F_q_lI a3 x := by rw [← H_q_lI]; exact hqi
    conv => cbv
    refine hlp (List V × Int) _ _ _ [1, 2, 5, 6] (fun x => [(1, none, .val (.slc false 2 (.int .i64 0) a3)), (2, none, .val (.box 46 (.agg [.slc false 2 (.int .i64 0) a0, .slc false 2 (.int .i64 0) a1, .slc false 2 (.int .i64 0) a2]))), (5, none, .val (.slc true 2 (.int .i64 0) x.1)), (6, none, .val (.int .i64 x.2))])
      (fun x => 1 ≤ x.2 ∧ (x.2 ≤ p.length ∨ x.2 = 1) ∧ x.1 = I (natL (tab' (fun t => cod1 S p (t + 1)) (x.2 - 1).toNat))) (fun x => (p.length - x.2).toNat) (([], 1)) (by subst hL; rfl) ?_ ?_
    · exact ⟨by simp, .inr rfl, rfl⟩
    rintro ⟨os, j⟩ ⟨j0, j1, hO⟩ hfx ag hag
    simp only at j0 j1 hO
    conv => cbv
    simp only [stdEqs hL, imp_self, true_and, and_true, bif_or, bif_and, Bool.or_eq_true, Bool.or_eq_false_iff, Bool.and_eq_true, Bool.and_eq_false_iff, decide_eq_true_eq, decide_eq_false_iff_not, Bool.not_eq_true', Bool.not_eq_false', beq_iff_eq, beq_eq_false_iff_ne, ne_eq, toNat0, toNat1, ok_int, toI_int, I_frzs, I_length, I_getD, ok_ints, toL_slc, g0, g1, g2, g3, ga, gs, hal, hsl, Ei]
    refine ⟨fun h2 => ?_, fun h2 => ?_⟩
    · have hol : os.length = j.toNat - 1 := by rw [hO, I_length, natL_len, tab_len]; omega
      have hg := hpg j.toNat (by omega)
      have hnx : ∀ c : Nat, c = cod1 S p j.toNat → 0 ≤ j → (1 ≤ j + 1 ∧ (j + 1 ≤ p.length ∨ j + 1 = 1) ∧ os ++ [V.int .i64 (c : Int)] = I (natL (tab' (fun t => cod1 S p (t + 1)) (j + 1 - 1).toNat))) := fun c hc _ => by
        refine ⟨by omega, .inl (by omega), ?_⟩
        rw [hO, show (j + 1 - 1).toNat = (j - 1).toNat + 1 by omega, tab_succ, natL_append, ← I_append, show (j - 1).toNat + 1 = j.toNat by omega, hc]
        rfl
      rw [wrap_id (n := j + 1) (by omega) (by omega)]
      refine ⟨by omega, h2, hg.1, hg.2, fun h3 => ?_, fun h3 => ?_⟩
      · obtain ⟨c1, c2, c3⟩ := hc1 j.toNat (by omega) h3
        have e1 : IntKind.wrap .i64 (j - idx p (S.getD (p.getD j.toNat 0).toNat 0)) = (cod1 S p j.toNat : Nat) := by
          rw [wrap_id (by omega) (by omega), ← c3]; omega
        rw [e1]
        refine ⟨Qi _, rfl, by simp only [List.length_cons, List.length_nil]; omega, fun x hx => by (simp only [List.mem_singleton] at hx; subst hx; rfl), ?_⟩
        exact hag (_, j + 1) (hnx _ rfl (by omega)) (by simp only; omega)
      · refine ⟨rfl, by simp only [List.length_cons, List.length_nil]; omega, fun x hx => by (simp only [List.mem_singleton] at hx; subst hx; rfl), ?_⟩
        exact hag (_, j + 1) (hnx 0 (by rw [cod1, if_neg h3]) (by omega)) (by simp only; omega)
    · have he : (j - 1).toNat = p.length - 1 := by omega
      rw [hr, hf0, hO, he, cdN]
  · cases h
end Go.Ax
/-
  Branches as lists of natural numbers; their sequences; strict transforms. No conditions but those of the theorems.
-/
set_option linter.all false
namespace Go.Ax
open Go.Proofs

theorem gcdW_natJ {a b : Nat} (ha : 0 < a) (hb : 0 < b) : gcdW (a : Int) (b : Int) = ((Nat.gcd a b : Nat) : Int) := by
  rw [gcdW, absW_pos (by omega), absW_pos (by omega), gcdGo_eq _ _ _ (Nat.le_refl _) (by omega) (by omega), Int.toNat_natCast, Int.toNat_natCast]
theorem brGo_val : ∀ (l : List Nat) (p e : Nat), 1 ≤ p → p ≤ 2000 → 1 ≤ e → (brGo (p : Int) (e : Int) (natL l) = true ↔ Val p e l)
  | [], p, e, _, _, _ => by
    simp only [natL, List.map_nil, brGo, Val, beq_iff_eq]
    omega
  | t :: l, p, e, hp, hp2, he => by
    have hw : IntKind.wrap .i64 ((p : Int) + 1) = (p : Int) + 1 := wrap_id (by omega) (by omega)
    simp only [natL, List.map_cons, brGo, Val, hw]
    by_cases h : p < t ∧ t ≤ 2000
    · have hi : inRange (t : Int) ((p : Int) + 1) 2000 = true := by
        simp only [inRange, Bool.and_eq_true, decide_eq_true_eq]
        omega
      rw [hi, gcdW_natJ (by omega) (by omega)]
      have ih := brGo_val l t (Nat.gcd e t) (by omega) h.2 (Nat.gcd_pos_of_pos_left t (by omega))
      rw [natL] at ih
      by_cases hg : Nat.gcd e t = e
      · have hb : (((Nat.gcd e t : Nat) : Int) == (e : Int)) = true := by rw [hg]; simp
        rw [hb]
        simp [hg]
      · have hb : (((Nat.gcd e t : Nat) : Int) == (e : Int)) = false := by
          rw [beq_eq_false_iff_ne]
          omega
        rw [hb]
        simp only [Bool.not_true, cond_false, ih]
        exact ⟨fun h2 => ⟨h.1, h.2, hg, h2⟩, fun h2 => h2.2.2.2⟩
    · have hi : inRange (t : Int) ((p : Int) + 1) 2000 = false := by
        rw [← Bool.not_eq_true]
        simp only [inRange, Bool.and_eq_true, decide_eq_true_eq]
        omega
      rw [hi]
      simp only [Bool.not_false, cond_true, Bool.false_eq_true, false_iff]
      exact fun h2 => h ⟨h2.1, h2.2.1⟩
theorem isBr_nat {n : Nat} {l : List Nat} : isBr (natL (n :: l)) = true ↔ BrN n l := by
  have h0 : (((natL (n :: l)).length : Int) == 0) = false := by
    rw [beq_eq_false_iff_ne, natL_len]
    simp only [List.length_cons]
    omega
  have h1 : (natL (n :: l)).getD 0 0 = (n : Int) := rfl
  have h2 : (natL (n :: l)).drop 1 = natL l := rfl
  rw [← isBrS_eq, isBrS, h0, h1, h2]
  by_cases h : 1 ≤ n ∧ n ≤ 64
  · have hi : inRange (n : Int) 1 64 = true := by
      simp only [inRange, Bool.and_eq_true, decide_eq_true_eq]
      omega
    rw [hi]
    simp only [cond_false, Bool.not_true]
    rw [brGo_val l n n h.1 (by omega) h.1]
    exact ⟨fun h3 => ⟨h.1, h.2, h3⟩, fun h3 => h3.val⟩
  · have hi : inRange (n : Int) 1 64 = false := by
      rw [← Bool.not_eq_true]
      simp only [inRange, Bool.and_eq_true, decide_eq_true_eq]
      omega
    rw [hi]
    simp only [cond_false, Bool.not_false, cond_true, Bool.false_eq_true, false_iff]
    exact fun h3 => h ⟨h3.lo, h3.hi⟩
theorem nat_br {n : Nat} {l : List Nat} (h : BrN n l) : Br (natL (n :: l)) := br_of (isBr_nat.2 h)
theorem dvGo_step : ∀ (l : List Int) (d : Int) (i : Nat), i + 1 < l.length → (dvGo d l).getD (i + 1) 0 = gcdW ((dvGo d l).getD i 0) (l.getD (i + 1) 0)
  | [], d, i, h => by simp at h
  | [x], d, i, h => by simp at h
  | x :: y :: l, d, 0, h => rfl
  | x :: y :: l, d, i + 1, h => by
    have := dvGo_step (y :: l) (gcdW d x) i (by simpa using h)
    simpa [dvGo] using this
theorem exI_nat (a b : Nat) : exI (a : Int) (b : Int) = natL (ex a b) := by
  rw [exI, Int.toNat_natCast, Int.toNat_natCast]; rfl
theorem seq_chN {n : Nat} {l0 : List Nat} : ∀ (l pre : List Nat) (p e : Nat), n :: l0 = pre ++ l → pre ≠ [] → 0 < e → (dv (natL (n :: l0))).getD (pre.length - 1) 0 = (e : Int) → (if pre.length = 1 then 0 else pre.getD (pre.length - 1) 0) = p → Val p e l →
    (List.range' (pre.length - 1) l.length).flatMap (runI (natL (n :: l0))) = natL (chN p e l)
  | [], pre, p, e, _, _, _, _, _, _ => rfl
  | t :: l, pre, p, e, hx, hne, he, hd, hp, hv => by
    obtain ⟨h1, h2, h3, h4⟩ := hv
    have hpl : 0 < pre.length := List.length_pos_iff.2 hne
    have hlen : (n :: l0).length = pre.length + (l.length + 1) := by rw [hx, List.length_append]; rfl
    have hgt : (n :: l0).getD pre.length 0 = t := by
      rw [hx, List.getD_eq_getElem?_getD, List.getElem?_append_right (Nat.le_refl _), Nat.sub_self]; rfl
    have hgp : pre.length ≠ 1 → (n :: l0).getD (pre.length - 1) 0 = p := fun h5 => by
      rw [if_neg h5] at hp
      rw [hx, List.getD_eq_getElem?_getD, List.getElem?_append_left (by omega), ← List.getD_eq_getElem?_getD, hp]
    have hnl : (natL (n :: l0)).length = pre.length + (l.length + 1) := by rw [natL_len, hlen]
    have hk : kkI (natL (n :: l0)) (pre.length - 1) = ((t - p : Nat) : Int) := by
      have e1 : (natL (n :: l0)).getD (pre.length - 1 + 1) 0 = (t : Int) := by
        rw [show pre.length - 1 + 1 = pre.length by omega]
        have := natL_getD (n :: l0) pre.length 0
        rw [hgt] at this
        exact this
      rw [kkI, e1]
      by_cases h5 : pre.length = 1
      · rw [if_pos (by omega)]
        rw [if_pos h5] at hp
        omega
      · rw [if_neg (by omega)]
        have := natL_getD (n :: l0) (pre.length - 1) 0
        rw [hgp h5] at this
        have e2 : (natL (n :: l0)).getD (pre.length - 1) 0 = (p : Int) := this
        rw [e2]
        omega
    have hrun : runI (natL (n :: l0)) (pre.length - 1) = natL (ex (t - p) e) := by rw [runI, hk, hd, exI_nat]
    have hd2 : (dv (natL (n :: l0))).getD ((pre ++ [t]).length - 1) 0 = ((Nat.gcd e t : Nat) : Int) := by
      rw [List.length_append, List.length_singleton, show pre.length + 1 - 1 = (pre.length - 1) + 1 by omega, dv, dvGo_step _ _ _ (by omega), ← dv, hd]
      have := natL_getD (n :: l0) pre.length 0
      rw [hgt] at this
      have e2 : (natL (n :: l0)).getD (pre.length - 1 + 1) 0 = (t : Int) := by rw [show pre.length - 1 + 1 = pre.length by omega]; exact this
      rw [e2, gcdW_natJ he (by omega)]
    have ih := seq_chN l (pre ++ [t]) t (Nat.gcd e t) (by rw [hx]; simp) (by simp) (Nat.gcd_pos_of_pos_left t he) hd2 (by
      rw [if_neg (by rw [List.length_append, List.length_singleton]; omega), List.length_append, List.length_singleton, Nat.add_sub_cancel, List.getD_eq_getElem?_getD, List.getElem?_append_right (Nat.le_refl _), Nat.sub_self]; rfl) h4
    rw [List.length_append, List.length_singleton, show pre.length + 1 - 1 = pre.length - 1 + 1 by omega] at ih
    rw [List.length_cons, List.range'_succ, List.flatMap_cons, hrun, ih, chN, natL_append]
theorem seq_nat {n : Nat} {l : List Nat} (h : BrN n l) : seqI (natL (n :: l)) = natL (chN 0 n l) := by
  have h1 := h.lo
  have hd : (dv (natL (n :: l))).getD 0 0 = (n : Int) := by
    have := (nat_br h).d0
    rw [this]; rfl
  have := seq_chN l [n] 0 n rfl (by simp) (by omega) hd rfl (h.val.weak (by omega))
  rw [seqI, seqP, natL_len, List.length_cons, Nat.add_sub_cancel, List.range_eq_range']
  exact this
def strI (xs : List Int) : List Int := natL (match intL xs with
  | [] => []
  | n :: l => strN n l)
end Go.Ax
