import Derived.Test.YtlbmgfiepmhjhaaB15q
/-
  Excesses, valences and Euler numbers of clusters, both sides. No conditions but those of the contracts.
-/
set_option linter.all false
namespace Go.Ax
open Go.Proofs

theorem proxs_nodup {P S Q : List Int} (h : ClP P S Q) {k : Nat} (hk : k < P.length) : (proxs P S k).Nodup := by
  obtain ⟨l1, l2, l3, l4, l5, l6⟩ := h.low hk
  rw [proxs]
  by_cases h0 : k = 0
  · rw [if_pos h0]; exact List.nodup_nil
  · rw [if_neg h0]
    by_cases h1 : 0 ≤ S.getD k 0
    · rw [if_pos h1]
      have hne : S.getD k 0 ≠ P.getD k 0 := by
        have h5 := l5 (by omega)
        obtain ⟨_, h3⟩ := (placeB_s h0).1 (h.place k hk)
        obtain ⟨m1, m2, m3, m4, m5, m6⟩ := h.low (i := (P.getD k 0).toNat) (by omega)
        by_cases hz : (P.getD k 0).toNat = 0
        · have := m6 hz
          omega
        · have := m4 (by omega)
          omega
      simp only [List.cons_append, List.nil_append, List.nodup_cons, List.mem_singleton, List.not_mem_nil, not_false_eq_true, List.nodup_nil, and_true]
      exact hne
    · rw [if_neg h1]; simp
def exA (pm : List (List Int)) (w : List Int) : Nat → Nat → Int
  | 0, a => w.getD a 0
  | j + 1, a => if (a : Int) ∈ pm.getD j [] then W (exA pm w j a - w.getD j 0) else exA pm w j a
def exB (pm : List (List Int)) (w : List Int) (j y : Nat) (a : Nat) : Int := if (a : Int) ∈ (pm.getD j []).take y then W (exA pm w j a - w.getD j 0) else exA pm w j a
def c_ml_l (f : List V → List V → List V) (q : List V → List V → Prop) : Contract := fun
  | [.slc false 22 (.slc false 2 (.int .i64 0) []) a0, .slc false 2 (.int .i64 0) a1] => some ([q a0 a1], .slc true 2 (.int .i64 0) (f a0 a1))
  | _ => none
def f_exs (a b : List V) : List V := I (tab' (exA (unII a) (unI b) a.length) b.length)
def q_exs (a b : List V) : Prop := ∃ P S Q, ClP P S Q ∧ a = II false (cpx P S P.length P.length) ∧ b = I Q
set_option maxHeartbeats 1000000 in
set_option maxRecDepth 100000 in
theorem s_impl_excessesOf : Sat Try.prog 109 (c_ml_l f_exs q_exs) := by
  intro args ps r h hp
  unfold c_ml_l at h
  split at h
  · rename_i a0 a1
    simp only [Option.some.injEq, Prod.mk.injEq] at h
    obtain ⟨rfl, rfl⟩ := h
    obtain ⟨P, S, Q, hcl, ha0, ha1⟩ : q_exs a0 a1 := (alls_cons.1 hp).1
    obtain ⟨pm, hpm⟩ : ∃ pm, pm = cpx P S P.length P.length := ⟨_, rfl⟩
    rw [← hpm] at ha0
    have hpml : pm.length = P.length := by rw [hpm, cpx, tab_len]
    have g0 : V.frzs a0 = a0 := by rw [ha0, II_frzs]
    have g1 : V.frzs a1 = a1 := by rw [ha1, I_frzs]
    have hl0 : a0.length = P.length := by rw [ha0, II_length, hpml]
    have hl1 : a1.length = P.length := by rw [ha1, I_length, hcl.ql]
    have gpm : ∀ k, a0.getD k (.slc false 2 (.int .i64 0) []) = .slc false 2 (.int .i64 0) (I (pm.getD k [])) := fun k => by rw [ha0, II_getD]
    have gq : ∀ k, a1.getD k (.int .i64 0) = .int .i64 (Q.getD k 0) := fun k => by rw [ha1, I_getD]
    have hf0 : f_exs a0 a1 = I (tab' (exA pm Q P.length) P.length) := by rw [f_exs, hl0, hl1, ha0, ha1, unII_II, unI_I]
    obtain ⟨n, hn⟩ : ∃ n : Int, n = P.length := ⟨_, rfl⟩
    have n1 := hcl.n1
    have n24 := hcl.n24
    generalize H_same : same = F_same
    generalize H_IsIs : IsIs = F_IsIs
    refine fnOk_ofI (T := tab) (B := [(83, c_laws_toInt64S F_same F_IsIs)]) (Bi := []) [0, 1, 4, 5, 6, 7, 9, 12, 13, 14, 19, 20, 21] Try.func109 rfl rfl (by kernel_rfl) (Nat.le_of_ble_eq_true rfl) mixed tabOk (by subst H_same H_IsIs; exact (bookCons s_clone bookNil)) (by subst H_same H_IsIs; exact bookINil) (by kernel_rfl) ?_
    intro L lp rr hL hr hf hlp
    have Es : F_same a1 = a1 := by rw [← H_same, same]
    conv => cbv
    simp only [stdEqs hL, imp_self, true_and, and_true, bif_or, bif_and, Bool.or_eq_true, Bool.or_eq_false_iff, Bool.and_eq_true, Bool.and_eq_false_iff, decide_eq_true_eq, decide_eq_false_iff_not, Bool.not_eq_true', Bool.not_eq_false', beq_iff_eq, beq_eq_false_iff_ne, ne_eq, toNat0, toNat1, ok_int, toI_int, I_frzs, I_length, I_getD, ok_ints, toL_slc, g0, g1, hl0, hl1, ← hn, Es]
    refine ⟨by rw [← H_IsIs]; exact ⟨⟨_, ha1⟩, by omega⟩, ?_⟩
    refine hlp (List V × Int) _ _ _ [1, 5, 12, 13, 14] (fun x => [(1, none, .val (.slc false 2 (.int .i64 0) a1)), (5, none, .val (.slc true 2 (.int .i64 0) x.1)), (12, none, .val (.slc false 22 (.slc false 2 (.int .i64 0) []) a0)), (13, none, .val (.int .i64 n)), (14, none, .val (.int .i64 x.2))])
      (fun x => 0 ≤ x.2 ∧ x.2 ≤ n ∧ x.1 = I (tab' (exA pm Q x.2.toNat) P.length)) (fun x => (n - x.2).toNat) ((a1, 0)) (by subst hL; rw [hn, ← hl0]; rfl) ?_ ?_
    · refine ⟨by simp, by simp only; omega, ?_⟩
      simp only
      rw [ha1]
      congr 1
      apply List.ext_getElem?
      intro j
      by_cases hj : j < P.length
      · rw [tab_get? _ _ _ hj, List.getElem?_eq_getElem (by have := hcl.ql; omega)]
        simp [exA, List.getD_eq_getElem?_getD, List.getElem?_eq_getElem (show j < Q.length by have := hcl.ql; omega)]
      · rw [List.getElem?_eq_none (by have := hcl.ql; omega), List.getElem?_eq_none (by rw [tab_len]; omega)]
    rintro ⟨ls, j⟩ ⟨j0, j1, hJ⟩ hfx ag hag
    simp only at j0 j1 hJ
    conv => cbv
    simp only [stdEqs hL, imp_self, true_and, and_true, bif_or, bif_and, Bool.or_eq_true, Bool.or_eq_false_iff, Bool.and_eq_true, Bool.and_eq_false_iff, decide_eq_true_eq, decide_eq_false_iff_not, Bool.not_eq_true', Bool.not_eq_false', beq_iff_eq, beq_eq_false_iff_ne, ne_eq, toNat0, toNat1, ok_int, toI_int, I_frzs, I_length, I_getD, ok_ints, toL_slc, hl0, hl1, gpm]
    refine ⟨fun h2 => ?_, fun h2 => ?_⟩
    · obtain ⟨jt, hjt⟩ : ∃ jt, jt = j.toNat := ⟨_, rfl⟩
      have hjn : jt < P.length := by omega
      rw [← hjt] at hJ
      obtain ⟨px, hpx⟩ : ∃ px, px = pm.getD jt [] := ⟨_, rfl⟩
      have hpp : px = proxs P S jt := by rw [hpx, hpm, cpx, tab_get _ _ _ _ hjn, if_pos hjn]
      have hpl2 : px.length ≤ 2 := by rw [hpp]; exact proxs_len _ _ _
      obtain ⟨m, hm⟩ : ∃ m : Int, m = px.length := ⟨_, rfl⟩
      obtain ⟨vx, hvx⟩ : ∃ vx, vx = I px := ⟨_, rfl⟩
      have hvxl : vx.length = px.length := by rw [hvx, I_length]
      have gvx : ∀ k, vx.getD k (.int .i64 0) = .int .i64 (px.getD k 0) := fun k => by rw [hvx, I_getD]
      simp only [← hjt, ← hpx, ← hm, ← hvx]
      refine ⟨j0, by omega, ?_⟩
      refine hlp (List V × Int) _ _ _ [1, 5, 6, 12, 13, 14, 19, 20, 21] (fun x => [(1, none, .val (.slc false 2 (.int .i64 0) a1)), (5, none, .val (.slc true 2 (.int .i64 0) x.1)), (6, none, .val (.int .i64 j)), (12, none, .val (.slc false 22 (.slc false 2 (.int .i64 0) []) a0)), (13, none, .val (.int .i64 n)), (14, none, .val (.int .i64 j)), (19, none, .val (.slc false 2 (.int .i64 0) vx)), (20, none, .val (.int .i64 m)), (21, none, .val (.int .i64 x.2))])
        (fun x => 0 ≤ x.2 ∧ x.2 ≤ m ∧ x.1 = I (tab' (exB pm Q jt x.2.toNat) P.length)) (fun x => (m - x.2).toNat) ((ls, 0)) (by subst hL; rfl) ?_ ?_
      · refine ⟨by simp, by simp only; omega, ?_⟩
        simp only
        rw [hJ]
        congr 1
      rintro ⟨rs, y⟩ ⟨y0, y1, hY⟩ hfx2 ag2 hag2
      simp only at y0 y1 hY
      have hrl : rs.length = P.length := by rw [hY, I_length, tab_len]
      have grs : ∀ k, rs.getD k (.int .i64 0) = .int .i64 ((tab' (exB pm Q jt y.toNat) P.length).getD k 0) := fun k => by rw [hY, I_getD]
      conv => cbv
      simp only [stdEqs hL, imp_self, true_and, and_true, bif_or, bif_and, Bool.or_eq_true, Bool.or_eq_false_iff, Bool.and_eq_true, Bool.and_eq_false_iff, decide_eq_true_eq, decide_eq_false_iff_not, Bool.not_eq_true', Bool.not_eq_false', beq_iff_eq, beq_eq_false_iff_ne, ne_eq, toNat0, toNat1, ok_int, toI_int, I_frzs, I_length, I_getD, ok_ints, toL_slc, hl0, hl1, hrl, grs, gq, ← hjt, hvxl, gvx]
      refine ⟨fun h3 => ?_, fun h3 => ?_⟩
      · have hyl : y.toNat < px.length := by omega
        obtain ⟨tt, htt⟩ : ∃ tt, tt = px.getD y.toNat 0 := ⟨_, rfl⟩
        have hin := proxs_in hcl hjn (x := tt) (by rw [← hpp, htt, List.getD_eq_getElem?_getD, List.getElem?_eq_getElem hyl]; exact List.getElem_mem _)
        obtain ⟨t, ht⟩ : ∃ t, t = tt.toNat := ⟨_, rfl⟩
        have htk : px.take (y.toNat + 1) = px.take y.toNat ++ [tt] := by
          rw [List.take_succ, htt, List.getD_eq_getElem?_getD, List.getElem?_eq_getElem hyl]; rfl
        have hnd : (px.take y.toNat ++ [tt]).Nodup := by
          rw [← htk, hpp]
          exact (proxs_nodup hcl hjn).sublist (List.take_sublist _ _)
        have hnot : tt ∉ px.take y.toNat := fun hm' => (List.nodup_append.1 hnd).2.2 tt hm' tt (by simp) rfl
        have htn : t < P.length := by omega
        have hct : (t : Int) = tt := by omega
        simp only [← htt, ← ht]
        have hgv : (tab' (exB pm Q jt y.toNat) P.length).getD t 0 = exA pm Q jt t := by
          rw [tab_get _ _ _ _ htn, exB, ← hpx, hct, if_neg hnot]
        rw [wrap_id (n := y + 1) (by omega) (by omega), hgv]
        refine ⟨y0, by omega, hin.1, by omega, htn, j0, by omega, hin.1, by omega, htn, ?_⟩
        refine hag2 (_, y + 1) ⟨by simp only; omega, by simp only; omega, ?_⟩ (by simp only; omega)
        simp only [toNat_succ y0]
        rw [hY, I_set, tab_setG _ _ htn]
        congr 1
        refine tab_congr fun a ha => ?_
        rw [exB, exB, ← hpx, htk]
        by_cases h5 : a = t
        · rw [if_pos h5, h5, hct, if_pos (by simp)]
        · rw [if_neg h5]
          refine ifc ?_
          simp only [List.mem_append, List.mem_singleton]
          constructor
          · exact .inl
          · rintro (h | h)
            · exact h
            · omega
      · rw [wrap_id (n := j + 1) (by omega) (by omega)]
        refine hag (rs, j + 1) ⟨by simp only; omega, by simp only; omega, ?_⟩ (by simp only; omega)
        simp only [toNat_succ j0]
        rw [hY, ← hjt]
        congr 1
        refine tab_congr fun a ha => ?_
        rw [exB, ← hpx, List.take_of_length_le (by omega), exA, hpx]
    · rw [hr, hf0, hJ, show j.toNat = P.length by omega]
  · cases h
def c_K_l (f : List V → List V → List V → List V) (q : List V → List V → List V → Prop) : Contract := fun
  | [.agg [.slc false 2 (.int .i64 0) a0, .slc false 2 (.int .i64 0) a1, .slc false 2 (.int .i64 0) a2]] => some ([q a0 a1 a2], .slc true 2 (.int .i64 0) (f a0 a1 a2))
  | _ => none
def exL (P S Q : List Int) (a : Nat) : Int := exA (cpx P S P.length P.length) Q P.length a
def f_exc1 (a b c : List V) : List V := I (tab' (exL (unI a) (unI b) (unI c)) a.length)
set_option maxHeartbeats 1000000 in
set_option maxRecDepth 100000 in
theorem s_impl_excesses : Sat Try.prog 95 (c_K_l f_exc1 q_Kv) := by
  intro args ps r h hp
  unfold c_K_l at h
  split at h
  · rename_i a0 a1 a2
    simp only [Option.some.injEq, Prod.mk.injEq] at h
    obtain ⟨rfl, rfl⟩ := h
    have hqv : q_Kv a0 a1 a2 := (alls_cons.1 hp).1
    obtain ⟨⟨⟨P, hP⟩, ⟨S, hS⟩, ⟨Q, hQ⟩⟩, hcl⟩ := id hqv
    rw [hP, hS, hQ, unI_I, unI_I, unI_I] at hcl
    have g0 : V.frzs a0 = a0 := by rw [hP, I_frzs]
    have g1 : V.frzs a1 = a1 := by rw [hS, I_frzs]
    have g2 : V.frzs a2 = a2 := by rw [hQ, I_frzs]
    have hpl : a0.length = P.length := by rw [hP, I_length]
    have hsl : a1.length = P.length := by rw [hS, I_length, hcl.sl]
    have hql : a2.length = P.length := by rw [hQ, I_length, hcl.ql]
    have gp : ∀ k, a0.getD k (.int .i64 0) = .int .i64 (P.getD k 0) := fun k => by rw [hP, I_getD]
    have gs : ∀ k, a1.getD k (.int .i64 0) = .int .i64 (S.getD k 0) := fun k => by rw [hS, I_getD]
    have gq : ∀ k, a2.getD k (.int .i64 0) = .int .i64 (Q.getD k 0) := fun k => by rw [hQ, I_getD]
    obtain ⟨n, hn⟩ : ∃ n : Int, n = P.length := ⟨_, rfl⟩
    have n1 := hcl.n1
    have n24 := hcl.n24
    have low := fun t ht => hcl.low (i := t) ht
    have hf0 : f_exc1 a0 a1 a2 = I (tab' (exL P S Q) P.length) := by rw [f_exc1, hpl, hP, hS, hQ, unI_I, unI_I, unI_I]
    generalize H_f_cpx : f_cpx = F_f_cpx
    generalize H_q_Kv : q_Kv = F_q_Kv
    generalize H_f_exs : f_exs = F_f_exs
    generalize H_q_exs : q_exs = F_q_exs
    refine fnOk_ofI (T := tab) (B := [(110, c_K_m F_f_cpx F_q_Kv), (109, c_ml_l F_f_exs F_q_exs)]) (Bi := []) [0, 1, 2] Try.func95 rfl rfl (by kernel_rfl) (Nat.le_of_ble_eq_true rfl) mixed tabOk (by subst H_f_cpx H_q_Kv H_f_exs H_q_exs; exact (bookCons s_impl_clusterProximates (bookCons s_impl_excessesOf bookNil))) (by subst H_f_cpx H_q_Kv H_f_exs H_q_exs; exact bookINil) (by kernel_rfl) ?_
    intro L lp rr hL hr hf hlp
    have Ep : F_f_cpx a0 a1 a2 = II true (cpx P S P.length P.length) := by rw [← H_f_cpx, f_cpx, hpl, hP, hS, unI_I, unI_I]
    have Ex : F_f_exs (II false (cpx P S P.length P.length)) a2 = I (tab' (exL P S Q) P.length) := by rw [← H_f_exs, f_exs, II_length, cpx, tab_len, hql, hQ, unII_II, unI_I]; rfl
    conv => cbv
    simp only [stdEqs hL, imp_self, true_and, and_true, bif_or, bif_and, Bool.or_eq_true, Bool.or_eq_false_iff, Bool.and_eq_true, Bool.and_eq_false_iff, decide_eq_true_eq, decide_eq_false_iff_not, Bool.not_eq_true', Bool.not_eq_false', beq_iff_eq, beq_eq_false_iff_ne, ne_eq, toNat0, toNat1, ok_int, toI_int, I_frzs, I_length, I_getD, ok_ints, toL_slc, g0, g1, g2, Ep, II_frzs, Ex]
    refine ⟨by rw [← H_q_Kv]; exact hqv, by rw [← H_q_exs]; exact ⟨P, S, Q, hcl, rfl, hQ⟩, by simp, ?_⟩
    rw [hr, hf0]
  · cases h
def c_Kl_l (f : List V → List V → List V → List V → List V) (q : List V → List V → List V → List V → Prop) : Contract := fun
  | [.agg [.slc false 2 (.int .i64 0) a0, .slc false 2 (.int .i64 0) a1, .slc false 2 (.int .i64 0) a2], .slc false 2 (.int .i64 0) a3] => some ([q a0 a1 a2 a3], .slc true 2 (.int .i64 0) (f a0 a1 a2 a3))
  | _ => none
def f_exc2 (a b _ d : List V) : List V := I (tab' (exL (unI a) (unI b) (unI d)) a.length)
def q_Kvl (a b c d : List V) : Prop := q_Kv a b c ∧ d = c
set_option maxHeartbeats 1000000 in
set_option maxRecDepth 100000 in
theorem s_spec_l07Excess : Sat Try.prog 89 (c_Kl_l f_exc2 q_Kvl) := by
  intro args ps r h hp
  unfold c_Kl_l at h
  split at h
  · rename_i a0 a1 a2 a3
    simp only [Option.some.injEq, Prod.mk.injEq] at h
    obtain ⟨rfl, rfl⟩ := h
    obtain ⟨hqv, h3⟩ : q_Kvl a0 a1 a2 a3 := (alls_cons.1 hp).1
    subst h3
    obtain ⟨⟨⟨P, hP⟩, ⟨S, hS⟩, ⟨Q, hQ⟩⟩, hcl⟩ := id hqv
    rw [hP, hS, hQ, unI_I, unI_I, unI_I] at hcl
    have g0 : V.frzs a0 = a0 := by rw [hP, I_frzs]
    have g1 : V.frzs a1 = a1 := by rw [hS, I_frzs]
    have g2 : V.frzs a3 = a3 := by rw [hQ, I_frzs]
    have hpl : a0.length = P.length := by rw [hP, I_length]
    have hsl : a1.length = P.length := by rw [hS, I_length, hcl.sl]
    have hql : a3.length = P.length := by rw [hQ, I_length, hcl.ql]
    have gp : ∀ k, a0.getD k (.int .i64 0) = .int .i64 (P.getD k 0) := fun k => by rw [hP, I_getD]
    have gs : ∀ k, a1.getD k (.int .i64 0) = .int .i64 (S.getD k 0) := fun k => by rw [hS, I_getD]
    have gq : ∀ k, a3.getD k (.int .i64 0) = .int .i64 (Q.getD k 0) := fun k => by rw [hQ, I_getD]
    obtain ⟨n, hn⟩ : ∃ n : Int, n = P.length := ⟨_, rfl⟩
    have n1 := hcl.n1
    have n24 := hcl.n24
    have low := fun t ht => hcl.low (i := t) ht
    obtain ⟨pm, hpm⟩ : ∃ pm, pm = cpx P S P.length P.length := ⟨_, rfl⟩
    have hf0 : f_exc2 a0 a1 a3 a3 = I (tab' (exA pm Q P.length) P.length) := by rw [f_exc2, hpl, hP, hS, hQ, unI_I, unI_I, unI_I, hpm]; rfl
    have hmem : ∀ j a : Nat, j < P.length → ((a : Int) ∈ pm.getD j [] ↔ P.getD j 0 = a ∨ S.getD j 0 = a) := fun j a hj => by
      rw [hpm, cpx, tab_get _ _ _ _ hj, if_pos hj]
      exact mem_proxs hcl hj
    generalize H_same : same = F_same
    generalize H_IsIs : IsIs = F_IsIs
    refine fnOk_ofI (T := tab) (B := [(78, c_laws_toInt64S F_same F_IsIs)]) (Bi := []) [0, 1, 2, 4, 5, 6] Try.func89 rfl rfl (by kernel_rfl) (Nat.le_of_ble_eq_true rfl) mixed tabOk (by subst H_same H_IsIs; exact (bookCons s_spec_l01Own bookNil)) (by subst H_same H_IsIs; exact bookINil) (by kernel_rfl) ?_
    intro L lp rr hL hr hf hlp
    have Es : F_same a3 = a3 := by rw [← H_same, same]
    conv => cbv
    simp only [stdEqs hL, imp_self, true_and, and_true, bif_or, bif_and, Bool.or_eq_true, Bool.or_eq_false_iff, Bool.and_eq_true, Bool.and_eq_false_iff, decide_eq_true_eq, decide_eq_false_iff_not, Bool.not_eq_true', Bool.not_eq_false', beq_iff_eq, beq_eq_false_iff_ne, ne_eq, toNat0, toNat1, ok_int, toI_int, I_frzs, I_length, I_getD, ok_ints, toL_slc, g0, g1, g2, Es]
    refine ⟨by rw [← H_IsIs]; exact ⟨⟨_, hQ⟩, by omega⟩, ?_⟩
    refine hlp (List V × Int) _ _ _ [1, 2, 5, 6] (fun x => [(1, none, .val (.slc false 2 (.int .i64 0) a3)), (2, none, .val (.box 46 (.agg [.slc false 2 (.int .i64 0) a0, .slc false 2 (.int .i64 0) a1, .slc false 2 (.int .i64 0) a3]))), (5, none, .val (.slc true 2 (.int .i64 0) x.1)), (6, none, .val (.int .i64 x.2))])
      (fun x => 1 ≤ x.2 ∧ x.2 ≤ n ∧ x.1 = I (tab' (exA pm Q x.2.toNat) P.length)) (fun x => (n - x.2).toNat) ((a3, 1)) (by subst hL; rfl) ?_ ?_
    · refine ⟨by simp, by simp only; omega, ?_⟩
      simp only
      rw [hQ]
      congr 1
      obtain ⟨l1, l2, l3, l4, l5, l6⟩ := low 0 (by omega)
      apply List.ext_getElem?
      intro j
      by_cases hj : j < P.length
      · rw [tab_get? _ _ _ hj, List.getElem?_eq_getElem (by have := hcl.ql; omega), show (1 : Int).toNat = 0 + 1 from rfl, exA, if_neg (by rw [hmem 0 j (by omega)]; have := l6 rfl; omega)]
        simp [exA, List.getD_eq_getElem?_getD, List.getElem?_eq_getElem (show j < Q.length by have := hcl.ql; omega)]
      · rw [List.getElem?_eq_none (by have := hcl.ql; omega), List.getElem?_eq_none (by rw [tab_len]; omega)]
    rintro ⟨ls, j⟩ ⟨j0, j1, hJ⟩ hfx ag hag
    simp only at j0 j1 hJ
    have hll : ls.length = P.length := by rw [hJ, I_length, tab_len]
    have gls : ∀ k, ls.getD k (.int .i64 0) = .int .i64 ((tab' (exA pm Q j.toNat) P.length).getD k 0) := fun k => by rw [hJ, I_getD]
    conv => cbv
    simp only [stdEqs hL, imp_self, true_and, and_true, bif_or, bif_and, Bool.or_eq_true, Bool.or_eq_false_iff, Bool.and_eq_true, Bool.and_eq_false_iff, decide_eq_true_eq, decide_eq_false_iff_not, Bool.not_eq_true', Bool.not_eq_false', beq_iff_eq, beq_eq_false_iff_ne, ne_eq, toNat0, toNat1, ok_int, toI_int, I_frzs, I_length, I_getD, ok_ints, toL_slc, g0, g1, g2, hpl, hsl, hql, ← hn, gp, gs, gq, hll, gls]
    refine ⟨fun h2 => ?_, fun h2 => ?_⟩
    · obtain ⟨jt, hjt⟩ : ∃ jt, jt = j.toNat := ⟨_, rfl⟩
      have hjn : jt < P.length := by omega
      rw [← hjt] at hJ
      simp only [← hjt]
      obtain ⟨l1, l2, l3, l4, l5, l6⟩ := low jt hjn
      have h5 := l5 (by omega)
      have h4 := l4 (by omega)
      have hm1 := fun a : Nat => hmem jt a hjn
      obtain ⟨pp, hpp⟩ : ∃ pp, pp = P.getD jt 0 := ⟨_, rfl⟩
      obtain ⟨ss, hss⟩ : ∃ ss, ss = S.getD jt 0 := ⟨_, rfl⟩
      have hne : 0 ≤ ss → ss ≠ pp := fun h0 => by
        have := proxs_nodup hcl hjn
        rw [proxs, if_neg (by omega), ← hss, ← hpp, if_pos h0] at this
        simp only [List.cons_append, List.nil_append, List.nodup_cons, List.mem_singleton, List.not_mem_nil, not_false_eq_true, List.nodup_nil, and_true] at this
        exact this
      simp only [← hpp, ← hss] at l1 l2 l3 h4 h5 hm1 ⊢
      obtain ⟨p, hp9⟩ : ∃ p, p = pp.toNat := ⟨_, rfl⟩
      obtain ⟨s, hs9⟩ : ∃ s, s = ss.toNat := ⟨_, rfl⟩
      have hpn : p < P.length := by omega
      have hpc : (p : Int) = pp := by omega
      simp only [← hp9, ← hs9]
      have hgv : (tab' (exA pm Q jt) P.length).getD p 0 = exA pm Q jt p := tab_get _ _ _ _ hpn
      rw [hgv]
      obtain ⟨l2', hl2'⟩ : ∃ l2', l2' = ls.set p (.int .i64 (IntKind.wrap .i64 (exA pm Q jt p - Q.getD jt 0))) := ⟨_, rfl⟩
      have hl2e : l2' = I (tab' (fun a => if a = p then W (exA pm Q jt p - Q.getD jt 0) else exA pm Q jt a) P.length) := by rw [hl2', hJ, I_set, tab_setG _ _ hpn]
      have hl2l : l2'.length = P.length := by rw [hl2e, I_length, tab_len]
      have gl2 : ∀ k, l2'.getD k (.int .i64 0) = .int .i64 ((tab' (fun a => if a = p then W (exA pm Q jt p - Q.getD jt 0) else exA pm Q jt a) P.length).getD k 0) := fun k => by rw [hl2e, I_getD]
      rw [← hl2']
      simp only [gl2, hl2l, ok_int, toI_int]
      have hwj : IntKind.wrap .i64 (j + 1) = j + 1 := wrap_id (by omega) (by omega)
      rw [hwj]
      have j0' : 0 ≤ j := by omega
      have hpn2 : pp < n := by omega
      refine ⟨j0', h2, j0', h2, h5, hpn2, hpn, j0', h2, h5, hpn2, hpn, j0', h2, fun h6 => ?_, fun h6 => ?_⟩
      · have hsn : s < P.length := by omega
        have hsc : (s : Int) = ss := by omega
        have hsp : s ≠ p := by have := hne h6; omega
        have hgs : (tab' (fun a => if a = p then W (exA pm Q jt p - Q.getD jt 0) else exA pm Q jt a) P.length).getD s 0 = exA pm Q jt s := by rw [tab_get _ _ _ _ hsn, if_neg hsp]
        rw [hgs]
        refine ⟨j0', h2, j0', h2, h6, by omega, hsn, trivial, j0', h2, h6, by omega, hsn, trivial, ?_⟩
        refine hag (_, j + 1) ⟨by simp only; omega, by simp only; omega, ?_⟩ (by simp only; omega)
        simp only [toNat_succ j0']
        rw [← hjt, hl2e, I_set, tab_setG _ _ hsn]
        congr 1
        refine tab_congr fun a ha => ?_
        rw [exA]
        by_cases h8 : a = s
        · rw [if_pos h8, if_pos ((hm1 a).2 (.inr (by omega))), h8]
        · rw [if_neg h8]
          by_cases h7 : a = p
          · rw [if_pos h7, if_pos ((hm1 a).2 (.inl (by omega))), h7]
          · rw [if_neg h7, if_neg (fun h => by rcases (hm1 a).1 h with h | h <;> omega)]
      · refine hag (l2', j + 1) ⟨by simp only; omega, by simp only; omega, ?_⟩ (by simp only; omega)
        simp only [toNat_succ j0']
        rw [← hjt, hl2e]
        congr 1
        refine tab_congr fun a ha => ?_
        rw [exA]
        by_cases h7 : a = p
        · rw [if_pos h7, if_pos ((hm1 a).2 (.inl (by omega))), h7]
        · rw [if_neg h7, if_neg (fun h => by rcases (hm1 a).1 h with h | h <;> omega)]
    · rw [hr, hf0, hJ, show j.toNat = P.length by omega]
  · cases h
end Go.Ax
