/-
  Copies of graphs; vertices. No conditions but those of the contracts.
-/
import Derived.Test.YtpcjjklkiejeaaaFo
set_option linter.all false
namespace Go.Ax
open Go.Proofs

theorem IsIIs.mk2 {xss : List (List Int)} (h : xss.length ≤ 2147483647) (h2 : ∀ xs ∈ xss, xs.length ≤ 2147483647) : IsIIs (II false xss) := ⟨xss, rfl, h, h2⟩
set_option maxRecDepth 100000 in
theorem s_impl_copyLists : Sat Try.prog 62 (c_m_m f_cpSS IsIIs) := by
  intro args ps r h hp
  unfold c_m_m at h
  split at h
  · rename_i a0
    simp only [Option.some.injEq, Prod.mk.injEq] at h
    obtain ⟨rfl, rfl⟩ := h
    obtain ⟨xss, hes, hl1, hl2⟩ : IsIIs a0 := (alls_cons.1 hp).1
    have hel : a0.length = xss.length := by rw [hes, II_length]
    have hf0 : f_cpSS a0 = II true xss := by rw [f_cpSS, hes, unII_II]
    have g0 : V.frzs a0 = a0 := by rw [hes, II_frzs]
    have ges : ∀ k, a0.getD k (.slc false 2 (.int .i64 0) []) = .slc false 2 (.int .i64 0) (I (xss.getD k [])) := fun k => by rw [hes, II_getD]
    obtain ⟨n, hn⟩ : ∃ n : Int, n = xss.length := ⟨_, rfl⟩
    generalize H_same : same = F_same
    generalize H_IsIs : IsIs = F_IsIs
    refine fnOk_ofI (T := tab) (B := [(56, c_laws_toInt64S F_same F_IsIs)]) (Bi := []) [0, 2, 3, 5, 9, 10, 11] Try.func62 rfl rfl (by kernel_rfl) (Nat.le_of_ble_eq_true rfl) mixed tabOk (by subst H_same H_IsIs; exact (bookCons s_clone bookNil)) (by subst H_same H_IsIs; exact bookINil) (by kernel_rfl) ?_
    intro L lp rr hL hr hf hlp
    have Es : ∀ xs : List Int, F_same (I xs) = I xs := fun xs => by rw [← H_same, same]
    conv => cbv
    simp only [stdEqs hL, imp_self, true_and, and_true, bif_or, bif_and, Bool.or_eq_true, Bool.or_eq_false_iff, Bool.and_eq_true, Bool.and_eq_false_iff, decide_eq_true_eq, decide_eq_false_iff_not, Bool.not_eq_true', Bool.not_eq_false', beq_iff_eq, beq_eq_false_iff_ne, ne_eq, toNat0, toNat1, ok_int, toI_int, I_frzs, I_length, I_getD, ok_ints, toL_slc, g0, hel, ← hn]
    refine ⟨by omega, by omega, by omega, ?_⟩
    refine hlp (List V × Int) _ _ _ [3, 9, 10, 11] (fun x => [(3, none, .val (.slc true 22 (.slc true 2 (.int .i64 0) []) x.1)), (9, none, .val (.slc false 22 (.slc false 2 (.int .i64 0) []) a0)), (10, none, .val (.int .i64 n)), (11, none, .val (.int .i64 x.2))])
      (fun x => 0 ≤ x.2 ∧ x.2 ≤ n ∧ x.1 = II true (xss.take x.2.toNat)) (fun x => (n - x.2).toNat) (([], 0)) (by subst hL; rw [hn, ← hel]; rfl) ?_ ?_
    · exact ⟨by simp, by simp only; omega, rfl⟩
    rintro ⟨os, i⟩ ⟨i0, i1, hI⟩ hfx ag hag
    simp only at i0 i1 hI
    have hol : os.length = i.toNat := by rw [hI, II_length, List.length_take]; omega
    conv => cbv
    simp only [stdEqs hL, imp_self, true_and, and_true, bif_or, bif_and, Bool.or_eq_true, Bool.or_eq_false_iff, Bool.and_eq_true, Bool.and_eq_false_iff, decide_eq_true_eq, decide_eq_false_iff_not, Bool.not_eq_true', Bool.not_eq_false', beq_iff_eq, beq_eq_false_iff_ne, ne_eq, toNat0, toNat1, ok_int, toI_int, I_frzs, I_length, I_getD, ok_ints, toL_slc, hel, ges, Es]
    refine ⟨fun h2 => ?_, fun h2 => ?_⟩
    · have hin : i.toNat < xss.length := by omega
      have hm := mem_getD hin
      rw [wrap_id (n := i + 1) (by omega) (by omega)]
      refine ⟨i0, by omega, by rw [← H_IsIs]; exact ⟨⟨_, rfl⟩, by rw [I_length]; exact hl2 _ hm⟩, by simp only [List.length_cons, List.length_nil]; omega, solid1 (by simp [V.solid]), ?_⟩
      refine hag (_, i + 1) ⟨by simp only; omega, by simp only; omega, ?_⟩ (by simp only; omega)
      simp only [toNat_succ i0]
      rw [hI, take_succ_tot _ _ hin, II_append]
      rfl
    · rw [hr, hf0, hI, List.take_of_length_le (by omega)]
  · cases h
set_option maxRecDepth 100000 in
theorem s_spec_l01Own2 : Sat Try.prog 58 (c_m_m f_cpSS IsIIs) := by
  intro args ps r h hp
  unfold c_m_m at h
  split at h
  · rename_i a0
    simp only [Option.some.injEq, Prod.mk.injEq] at h
    obtain ⟨rfl, rfl⟩ := h
    obtain ⟨xss, hes, hl1, hl2⟩ : IsIIs a0 := (alls_cons.1 hp).1
    have hel : a0.length = xss.length := by rw [hes, II_length]
    have hf0 : f_cpSS a0 = II true xss := by rw [f_cpSS, hes, unII_II]
    have g0 : V.frzs a0 = a0 := by rw [hes, II_frzs]
    have ges : ∀ k, a0.getD k (.slc false 2 (.int .i64 0) []) = .slc false 2 (.int .i64 0) (I (xss.getD k [])) := fun k => by rw [hes, II_getD]
    obtain ⟨n, hn⟩ : ∃ n : Int, n = xss.length := ⟨_, rfl⟩
    generalize H_same : same = F_same
    generalize H_IsIs : IsIs = F_IsIs
    refine fnOk_ofI (T := tab) (B := [(44, c_laws_toInt64S F_same F_IsIs)]) (Bi := []) [0, 2, 3, 4] Try.func58 rfl rfl (by kernel_rfl) (Nat.le_of_ble_eq_true rfl) mixed tabOk (by subst H_same H_IsIs; exact (bookCons s_spec_l01Own bookNil)) (by subst H_same H_IsIs; exact bookINil) (by kernel_rfl) ?_
    intro L lp rr hL hr hf hlp
    have Es : ∀ xs : List Int, F_same (I xs) = I xs := fun xs => by rw [← H_same, same]
    conv => cbv
    refine hlp (List V × Int) _ _ _ [0, 3, 4] (fun x => [(0, none, .val (.slc false 22 (.slc false 2 (.int .i64 0) []) a0)), (3, none, .val (.slc true 22 (.slc true 2 (.int .i64 0) []) x.1)), (4, none, .val (.int .i64 x.2))])
      (fun x => 0 ≤ x.2 ∧ x.2 ≤ n ∧ x.1 = II true (xss.take x.2.toNat)) (fun x => (n - x.2).toNat) (([], 0)) (by subst hL; rfl) ?_ ?_
    · exact ⟨by simp, by simp only; omega, rfl⟩
    rintro ⟨os, i⟩ ⟨i0, i1, hI⟩ hfx ag hag
    simp only at i0 i1 hI
    have hol : os.length = i.toNat := by rw [hI, II_length, List.length_take]; omega
    conv => cbv
    simp only [stdEqs hL, imp_self, true_and, and_true, bif_or, bif_and, Bool.or_eq_true, Bool.or_eq_false_iff, Bool.and_eq_true, Bool.and_eq_false_iff, decide_eq_true_eq, decide_eq_false_iff_not, Bool.not_eq_true', Bool.not_eq_false', beq_iff_eq, beq_eq_false_iff_ne, ne_eq, toNat0, toNat1, ok_int, toI_int, I_frzs, I_length, I_getD, ok_ints, toL_slc, hel, ges, Es, ← hn]
    refine ⟨fun h2 => ?_, fun h2 => ?_⟩
    · have hin : i.toNat < xss.length := by omega
      have hm := mem_getD hin
      rw [wrap_id (n := i + 1) (by omega) (by omega)]
      refine ⟨i0, by omega, by rw [← H_IsIs]; exact ⟨⟨_, rfl⟩, by rw [I_length]; exact hl2 _ hm⟩, by simp only [List.length_cons, List.length_nil]; omega, solid1 (by simp [V.solid]), ?_⟩
      refine hag (_, i + 1) ⟨by simp only; omega, by simp only; omega, ?_⟩ (by simp only; omega)
      simp only [toNat_succ i0]
      rw [hI, take_succ_tot _ _ hin, II_append]
      rfl
    · rw [hr, hf0, hI, List.take_of_length_le (by omega)]
  · cases h
set_option maxRecDepth 100000 in
theorem s_impl_copyGraph : Sat Try.prog 49 (c_G_G f_cpG q_cpG) := by
  intro args ps r h hp
  unfold c_G_G at h
  split at h
  · rename_i a0 a1
    simp only [Option.some.injEq, Prod.mk.injEq] at h
    obtain ⟨rfl, rfl⟩ := h
    obtain ⟨h0, h1⟩ : q_cpG a0 a1 := (alls_cons.1 hp).1
    have g0 := h0.frz
    have g1 := frzs_II h1.isII
    have hf0 : f_cpG a0 a1 = (a0, II true (unII a1)) := rfl
    generalize H_same : same = F_same
    generalize H_IsIs : IsIs = F_IsIs
    generalize H_f_cpSS : f_cpSS = F_f_cpSS
    generalize H_IsIIs : IsIIs = F_IsIIs
    refine fnOk_ofI (T := tab) (B := [(56, c_laws_toInt64S F_same F_IsIs), (62, c_m_m F_f_cpSS F_IsIIs)]) (Bi := []) [2000001005, 2000001008, 0, 1, 2] Try.func49 rfl rfl (by kernel_rfl) (Nat.le_of_ble_eq_true rfl) mixed tabOk (by subst H_same H_IsIs H_f_cpSS H_IsIIs; exact (bookCons s_clone (bookCons s_impl_copyLists bookNil))) (by subst H_same H_IsIs H_f_cpSS H_IsIIs; exact bookINil) (by kernel_rfl) ?_
    intro L lp rr hL hr hf hlp
    conv => cbv
    simp only [stdEqs hL, g0, g1]
    subst H_same H_IsIs H_f_cpSS H_IsIIs
    rw [hr, hf0]
    exact ⟨h0, h1, rfl⟩
  · cases h
set_option maxRecDepth 100000 in
theorem s_spec_l11Own : Sat Try.prog 40 (c_G_G f_cpG q_cpG) := by
  intro args ps r h hp
  unfold c_G_G at h
  split at h
  · rename_i a0 a1
    simp only [Option.some.injEq, Prod.mk.injEq] at h
    obtain ⟨rfl, rfl⟩ := h
    obtain ⟨h0, h1⟩ : q_cpG a0 a1 := (alls_cons.1 hp).1
    have g0 := h0.frz
    have g1 := frzs_II h1.isII
    have hf0 : f_cpG a0 a1 = (a0, II true (unII a1)) := rfl
    generalize H_same : same = F_same
    generalize H_IsIs : IsIs = F_IsIs
    generalize H_f_cpSS : f_cpSS = F_f_cpSS
    generalize H_IsIIs : IsIIs = F_IsIIs
    refine fnOk_ofI (T := tab) (B := [(44, c_laws_toInt64S F_same F_IsIs), (58, c_m_m F_f_cpSS F_IsIIs)]) (Bi := []) [2000001005, 2000001008, 0, 1, 2] Try.func40 rfl rfl (by kernel_rfl) (Nat.le_of_ble_eq_true rfl) mixed tabOk (by subst H_same H_IsIs H_f_cpSS H_IsIIs; exact (bookCons s_spec_l01Own (bookCons s_spec_l01Own2 bookNil))) (by subst H_same H_IsIs H_f_cpSS H_IsIIs; exact bookINil) (by kernel_rfl) ?_
    intro L lp rr hL hr hf hlp
    conv => cbv
    simp only [stdEqs hL, g0, g1]
    subst H_same H_IsIs H_f_cpSS H_IsIIs
    rw [hr, hf0]
    exact ⟨h0, h1, rfl⟩
  · cases h
end Go.Ax
