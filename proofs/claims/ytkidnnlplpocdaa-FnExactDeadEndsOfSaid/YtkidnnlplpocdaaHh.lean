/-
  EulerNumbers: both sides, the law. No conditions but those of the contracts.
-/
import Derived.Test.YtkidnnlplpocdaaHg
set_option linter.all false
namespace Go.Ax
open Go.Proofs

def vlK (P S : List Int) (i : Nat) : Int := ((near (esC (gM P S) P.length P.length) i).length : Int)
theorem vlK_tab (P S : List Int) : valG P.length (esC (gM P S) P.length P.length) = tab' (vlK P S) P.length := rfl
def euK (P S Q : List Int) (i : Nat) : Int := W (W (2 - vlK P S i) - exL P S Q i)
def f_vlK (a b _ : List V) : List V := I (tab' (vlK (unI a) (unI b)) a.length)
def f_eu (a b c : List V) : List V := I (tab' (euK (unI a) (unI b) (unI c)) a.length)
set_option maxRecDepth 100000 in
theorem s_spec_l12Valences : Sat Try.prog 78 (c_K_l f_vlK q_Kv) := by
  intro args ps r h hp
  unfold c_K_l at h
  split at h
  · rename_i a0 a1 a2
    simp only [Option.some.injEq, Prod.mk.injEq] at h
    obtain ⟨rfl, rfl⟩ := h
    have hqv : q_Kv a0 a1 a2 := (alls_cons.1 hp).1
    obtain ⟨⟨⟨P, hP⟩, ⟨S, hS⟩, ⟨Q, hQ⟩⟩, hcl⟩ := id hqv
    rw [hP, hS, hQ, unI_I, unI_I, unI_I] at hcl
    have g0 : V.frzs a0 = a0 := by rw [hP, I_frzs]
    have g1 : V.frzs a1 = a1 := by rw [hS, I_frzs]
    have g2 : V.frzs a2 = a2 := by rw [hQ, I_frzs]
    have hpl : a0.length = P.length := by rw [hP, I_length]
    have hsl : a1.length = P.length := by rw [hS, I_length, hcl.sl]
    have hql : a2.length = P.length := by rw [hQ, I_length, hcl.ql]
    have gp : ∀ k, a0.getD k (.int .i64 0) = .int .i64 (P.getD k 0) := fun k => by rw [hP, I_getD]
    have gs : ∀ k, a1.getD k (.int .i64 0) = .int .i64 (S.getD k 0) := fun k => by rw [hS, I_getD]
    have gq : ∀ k, a2.getD k (.int .i64 0) = .int .i64 (Q.getD k 0) := fun k => by rw [hQ, I_getD]
    obtain ⟨n, hn⟩ : ∃ n : Int, n = P.length := ⟨_, rfl⟩
    have n1 := hcl.n1
    have n24 := hcl.n24
    have low := fun t ht => hcl.low (i := t) ht
    have hf0 : f_vlK a0 a1 a2 = I (tab' (vlK P S) P.length) := by rw [f_vlK, hpl, hP, hS, unI_I, unI_I]
    have hgr : f_gr a0 a1 a2 = (I (gwC (gM P S) P.length), II true (esC (gM P S) P.length P.length)) := by rw [f_gr, hpl, hP, hS, unI_I, unI_I]
    obtain ⟨ws, hws⟩ : ∃ ws, ws = I (gwC (gM P S) P.length) := ⟨_, rfl⟩
    obtain ⟨es, hes⟩ : ∃ es, es = II true (esC (gM P S) P.length P.length) := ⟨_, rfl⟩
    rw [← hws, ← hes] at hgr
    have hwl : ws.length = P.length := by rw [hws, I_length, gwC, tab_len]
    have gw : V.frzs ws = ws := by rw [hws, I_frzs]
    generalize H_f_gr : f_gr = F_f_gr
    generalize H_q_Kv : q_Kv = F_q_Kv
    generalize H_f_near : f_near = F_f_near
    generalize H_q_near : q_near = F_q_near
    refine fnOk_ofI (T := tab) (B := [(72, c_K_G F_f_gr F_q_Kv), (142, c_Gi_l F_f_near F_q_near)]) (Bi := []) [0, 1, 2, 3, 4, 5] Try.func78 rfl rfl (by kernel_rfl) (Nat.le_of_ble_eq_true rfl) mixed tabOk (by subst H_f_gr H_q_Kv H_f_near H_q_near; exact (bookCons s_spec_l12Graph (bookCons s_spec_l11Near bookNil))) (by subst H_f_gr H_q_Kv H_f_near H_q_near; exact bookINil) (by kernel_rfl) ?_
    intro L lp rr hL hr hf hlp
    have Eg : F_f_gr a0 a1 a2 = (ws, es) := by rw [← H_f_gr, hgr]
    have En : ∀ v, F_f_near ws (V.frzs es) v = I (near (esC (gM P S) P.length P.length) v) := fun v => by rw [← H_f_near, f_near, hes, II_frzs, unII_II]
    have Qn : ∀ v, F_q_near ws (V.frzs es) v := fun v => by
      rw [← H_q_near]
      refine ⟨⟨_, hws⟩, esC (gM P S) P.length P.length, by rw [hes, II_frzs], by have := (esC_grN (gM P S) n1 n24).el; omega, fun e he => (esC_in (Nat.le_refl _) he).1⟩
    conv => cbv
    simp only [stdEqs hL, imp_self, true_and, and_true, bif_or, bif_and, Bool.or_eq_true, Bool.or_eq_false_iff, Bool.and_eq_true, Bool.and_eq_false_iff, decide_eq_true_eq, decide_eq_false_iff_not, Bool.not_eq_true', Bool.not_eq_false', beq_iff_eq, beq_eq_false_iff_ne, ne_eq, toNat0, toNat1, ok_int, toI_int, I_frzs, I_length, I_getD, ok_ints, toL_slc, g0, g1, g2, Eg]
    refine ⟨by rw [← H_q_Kv]; exact hqv, ?_⟩
    refine hlp (List V × Int) _ _ _ [3, 4, 5] (fun x => [(3, none, .val (.box 48 (.agg [.slc true 2 (.int .i64 0) ws, .slc true 27 (.slc true 2 (.int .i64 0) []) es]))), (4, none, .val (.slc true 2 (.int .i64 0) x.1)), (5, none, .val (.int .i64 x.2))])
      (fun x => 0 ≤ x.2 ∧ x.2 ≤ n ∧ x.1 = I (tab' (vlK P S) x.2.toNat)) (fun x => (n - x.2).toNat) (([], 0)) (by subst hL; rfl) ?_ ?_
    · exact ⟨by simp, by simp only; omega, rfl⟩
    rintro ⟨os, i⟩ ⟨i0, i1, hI⟩ hfx ag hag
    simp only at i0 i1 hI
    have hol : os.length ≤ 40 := by rw [hI, I_length, tab_len]; omega
    conv => cbv
    simp only [stdEqs hL, imp_self, true_and, and_true, bif_or, bif_and, Bool.or_eq_true, Bool.or_eq_false_iff, Bool.and_eq_true, Bool.and_eq_false_iff, decide_eq_true_eq, decide_eq_false_iff_not, Bool.not_eq_true', Bool.not_eq_false', beq_iff_eq, beq_eq_false_iff_ne, ne_eq, toNat0, toNat1, ok_int, toI_int, I_frzs, I_length, I_getD, ok_ints, toL_slc, hwl, gw, ← hn, En]
    refine ⟨fun h2 => ?_, fun h2 => ?_⟩
    · rw [wrap_id (n := i + 1) (by omega) (by omega)]
      refine ⟨Qn i, I_noFzs _, ?_⟩
      (repeat' first | (exact solid_one _) | (exact solid1 rfl) | (exact noown_one _) | (apply And.intro) | (intro _)) <;> (try first | exact True.intro | omega | rfl | (simp only [List.length_cons, List.length_nil, I_length]; omega))
      refine hag (_, i + 1) ⟨by simp only; omega, by simp only; omega, ?_⟩ (by simp only; omega)
      simp only [toNat_succ i0]
      rw [hI, tab_succ, vlK, show ((i.toNat : Nat) : Int) = i by omega]
      simp [I]
    · rw [hr, hf0, hI, show i.toNat = P.length by omega]
  · cases h
set_option maxRecDepth 100000 in
theorem s_impl_eulerNumbers : Sat Try.prog 77 (c_K_l f_eu q_Kv) := by
  intro args ps r h hp
  unfold c_K_l at h
  split at h
  · rename_i a0 a1 a2
    simp only [Option.some.injEq, Prod.mk.injEq] at h
    obtain ⟨rfl, rfl⟩ := h
    have hqv : q_Kv a0 a1 a2 := (alls_cons.1 hp).1
    obtain ⟨⟨⟨P, hP⟩, ⟨S, hS⟩, ⟨Q, hQ⟩⟩, hcl⟩ := id hqv
    rw [hP, hS, hQ, unI_I, unI_I, unI_I] at hcl
    have g0 : V.frzs a0 = a0 := by rw [hP, I_frzs]
    have g1 : V.frzs a1 = a1 := by rw [hS, I_frzs]
    have g2 : V.frzs a2 = a2 := by rw [hQ, I_frzs]
    have hpl : a0.length = P.length := by rw [hP, I_length]
    have hsl : a1.length = P.length := by rw [hS, I_length, hcl.sl]
    have hql : a2.length = P.length := by rw [hQ, I_length, hcl.ql]
    have gp : ∀ k, a0.getD k (.int .i64 0) = .int .i64 (P.getD k 0) := fun k => by rw [hP, I_getD]
    have gs : ∀ k, a1.getD k (.int .i64 0) = .int .i64 (S.getD k 0) := fun k => by rw [hS, I_getD]
    have gq : ∀ k, a2.getD k (.int .i64 0) = .int .i64 (Q.getD k 0) := fun k => by rw [hQ, I_getD]
    obtain ⟨n, hn⟩ : ∃ n : Int, n = P.length := ⟨_, rfl⟩
    have n1 := hcl.n1
    have n24 := hcl.n24
    have low := fun t ht => hcl.low (i := t) ht
    have hf0 : f_eu a0 a1 a2 = I (tab' (euK P S Q) P.length) := by rw [f_eu, hpl, hP, hS, hQ, unI_I, unI_I, unI_I]
    have hgr : f_gr a0 a1 a2 = (I (gwC (gM P S) P.length), II true (esC (gM P S) P.length P.length)) := by rw [f_gr, hpl, hP, hS, unI_I, unI_I]
    obtain ⟨ws, hws⟩ : ∃ ws, ws = I (gwC (gM P S) P.length) := ⟨_, rfl⟩
    obtain ⟨es, hes⟩ : ∃ es, es = II true (esC (gM P S) P.length P.length) := ⟨_, rfl⟩
    rw [← hws, ← hes] at hgr
    have hwl : ws.length = P.length := by rw [hws, I_length, gwC, tab_len]
    have gw : V.frzs ws = ws := by rw [hws, I_frzs]
    obtain ⟨vx, hvx⟩ : ∃ vx, vx = I (tab' (exL P S Q) P.length) := ⟨_, rfl⟩
    have hvxl : vx.length = P.length := by rw [hvx, I_length, tab_len]
    have gvx : ∀ k, vx.getD k (.int .i64 0) = .int .i64 ((tab' (exL P S Q) P.length).getD k 0) := fun k => by rw [hvx, I_getD]
    obtain ⟨vv, hvv⟩ : ∃ vv, vv = I (tab' (vlK P S) P.length) := ⟨_, rfl⟩
    have hvvl : vv.length = P.length := by rw [hvv, I_length, tab_len]
    have gvv : ∀ k, vv.getD k (.int .i64 0) = .int .i64 ((tab' (vlK P S) P.length).getD k 0) := fun k => by rw [hvv, I_getD]
    generalize H_f_exc1 : f_exc1 = F_f_exc1
    generalize H_q_Kv : q_Kv = F_q_Kv
    generalize H_f_gr : f_gr = F_f_gr
    generalize H_f_val : f_val = F_f_val
    generalize H_q_GrN : q_GrN = F_q_GrN
    refine fnOk_ofI (T := tab) (B := [(140, c_K_l F_f_exc1 F_q_Kv), (74, c_K_G F_f_gr F_q_Kv), (141, c_G_l F_f_val F_q_GrN)]) (Bi := []) [0, 1, 2, 3, 4, 5, 6, 12, 13, 14] Try.func77 rfl rfl (by kernel_rfl) (Nat.le_of_ble_eq_true rfl) mixed tabOk (by subst H_f_exc1 H_q_Kv H_f_gr H_f_val H_q_GrN; exact (bookCons s_impl_excesses (bookCons s_impl_graphOf (bookCons s_impl_valences bookNil)))) (by subst H_f_exc1 H_q_Kv H_f_gr H_f_val H_q_GrN; exact bookINil) (by kernel_rfl) ?_
    intro L lp rr hL hr hf hlp
    have Eg : F_f_gr a0 a1 a2 = (ws, es) := by rw [← H_f_gr, hgr]
    have Ex : F_f_exc1 a0 a1 a2 = vx := by rw [← H_f_exc1, f_exc1, hpl, hP, hS, hQ, unI_I, unI_I, unI_I, hvx]
    have Ev : F_f_val ws (V.frzs es) = vv := by rw [← H_f_val, f_val, hwl, hes, II_frzs, unII_II, hvv, vlK_tab]
    have Qn : F_q_GrN ws (V.frzs es) := by
      rw [← H_q_GrN]
      refine ⟨_, _, hws, by rw [hes, II_frzs], ?_⟩
      rw [gwC, tab_len]
      exact esC_grN _ n1 n24
    conv => cbv
    simp only [stdEqs hL, imp_self, true_and, and_true, bif_or, bif_and, Bool.or_eq_true, Bool.or_eq_false_iff, Bool.and_eq_true, Bool.and_eq_false_iff, decide_eq_true_eq, decide_eq_false_iff_not, Bool.not_eq_true', Bool.not_eq_false', beq_iff_eq, beq_eq_false_iff_ne, ne_eq, toNat0, toNat1, ok_int, toI_int, I_frzs, I_length, I_getD, ok_ints, toL_slc, g0, g1, g2, Eg, Ex, gw, Ev, hvvl, ← hn]
    refine ⟨by rw [← H_q_Kv]; exact hqv, by rw [← H_q_Kv]; exact hqv, Qn, by rw [hvv]; exact I_noFzs _, ?_⟩
    refine hlp (List V × Int) _ _ _ [3, 4, 12, 13, 14] (fun x => [(3, none, .val (.slc true 2 (.int .i64 0) x.1)), (4, none, .val (.slc true 2 (.int .i64 0) vx)), (12, none, .val (.slc true 2 (.int .i64 0) vv)), (13, none, .val (.int .i64 n)), (14, none, .val (.int .i64 x.2))])
      (fun x => 0 ≤ x.2 ∧ x.2 ≤ n ∧ x.1 = I (tab' (euK P S Q) x.2.toNat)) (fun x => (n - x.2).toNat) (([], 0)) (by subst hL; rw [hn, ← hvvl]; rfl) ?_ ?_
    · exact ⟨by simp, by simp only; omega, rfl⟩
    rintro ⟨os, i⟩ ⟨i0, i1, hI⟩ hfx ag hag
    simp only at i0 i1 hI
    have hol : os.length ≤ 40 := by rw [hI, I_length, tab_len]; omega
    conv => cbv
    simp only [stdEqs hL, imp_self, true_and, and_true, bif_or, bif_and, Bool.or_eq_true, Bool.or_eq_false_iff, Bool.and_eq_true, Bool.and_eq_false_iff, decide_eq_true_eq, decide_eq_false_iff_not, Bool.not_eq_true', Bool.not_eq_false', beq_iff_eq, beq_eq_false_iff_ne, ne_eq, toNat0, toNat1, ok_int, toI_int, I_frzs, I_length, I_getD, ok_ints, toL_slc, hvvl, gvv, hvxl, gvx]
    refine ⟨fun h2 => ?_, fun h2 => ?_⟩
    · have hin : i.toNat < P.length := by omega
      simp only [tab_get _ _ _ _ hin]
      rw [wrap_id (n := i + 1) (by omega) (by omega)]
      (repeat' first | (exact solid_one _) | (exact solid1 rfl) | (exact noown_one _) | (apply And.intro) | (intro _)) <;> (try first | exact True.intro | omega | rfl | (simp only [List.length_cons, List.length_nil, I_length]; omega))
      refine hag (_, i + 1) ⟨by simp only; omega, by simp only; omega, ?_⟩ (by simp only; omega)
      simp only [toNat_succ i0]
      rw [hI, tab_succ, euK]
      simp [I]
    · rw [hr, hf0, hI, show i.toNat = P.length by omega]
  · cases h
def eu1 (P S Q : List Int) (k i : Nat) : Int := if i < k then euK P S Q i else vlK P S i
set_option maxRecDepth 100000 in
theorem s_spec_l12Euler : Sat Try.prog 76 (c_K_l f_eu q_Kv) := by
  intro args ps r h hp
  unfold c_K_l at h
  split at h
  · rename_i a0 a1 a2
    simp only [Option.some.injEq, Prod.mk.injEq] at h
    obtain ⟨rfl, rfl⟩ := h
    have hqv : q_Kv a0 a1 a2 := (alls_cons.1 hp).1
    obtain ⟨⟨⟨P, hP⟩, ⟨S, hS⟩, ⟨Q, hQ⟩⟩, hcl⟩ := id hqv
    rw [hP, hS, hQ, unI_I, unI_I, unI_I] at hcl
    have g0 : V.frzs a0 = a0 := by rw [hP, I_frzs]
    have g1 : V.frzs a1 = a1 := by rw [hS, I_frzs]
    have g2 : V.frzs a2 = a2 := by rw [hQ, I_frzs]
    have hpl : a0.length = P.length := by rw [hP, I_length]
    have hsl : a1.length = P.length := by rw [hS, I_length, hcl.sl]
    have hql : a2.length = P.length := by rw [hQ, I_length, hcl.ql]
    have gp : ∀ k, a0.getD k (.int .i64 0) = .int .i64 (P.getD k 0) := fun k => by rw [hP, I_getD]
    have gs : ∀ k, a1.getD k (.int .i64 0) = .int .i64 (S.getD k 0) := fun k => by rw [hS, I_getD]
    have gq : ∀ k, a2.getD k (.int .i64 0) = .int .i64 (Q.getD k 0) := fun k => by rw [hQ, I_getD]
    obtain ⟨n, hn⟩ : ∃ n : Int, n = P.length := ⟨_, rfl⟩
    have n1 := hcl.n1
    have n24 := hcl.n24
    have low := fun t ht => hcl.low (i := t) ht
    have hf0 : f_eu a0 a1 a2 = I (tab' (euK P S Q) P.length) := by rw [f_eu, hpl, hP, hS, hQ, unI_I, unI_I, unI_I]
    obtain ⟨vx, hvx⟩ : ∃ vx, vx = I (tab' (exL P S Q) P.length) := ⟨_, rfl⟩
    have hvxl : vx.length = P.length := by rw [hvx, I_length, tab_len]
    have gvx : ∀ k, vx.getD k (.int .i64 0) = .int .i64 ((tab' (exL P S Q) P.length).getD k 0) := fun k => by rw [hvx, I_getD]
    obtain ⟨vv, hvv⟩ : ∃ vv, vv = I (tab' (eu1 P S Q 0) P.length) := ⟨_, rfl⟩
    generalize H_f_vlK : f_vlK = F_f_vlK
    generalize H_q_Kv : q_Kv = F_q_Kv
    generalize H_f_exc2 : f_exc2 = F_f_exc2
    generalize H_q_Kvl : q_Kvl = F_q_Kvl
    refine fnOk_ofI (T := tab) (B := [(78, c_K_l F_f_vlK F_q_Kv), (79, c_Kl_l F_f_exc2 F_q_Kvl)]) (Bi := []) [0, 1, 2, 3, 4, 5] Try.func76 rfl rfl (by kernel_rfl) (Nat.le_of_ble_eq_true rfl) mixed tabOk (by subst H_f_vlK H_q_Kv H_f_exc2 H_q_Kvl; exact (bookCons s_spec_l12Valences (bookCons s_spec_l07Excess bookNil))) (by subst H_f_vlK H_q_Kv H_f_exc2 H_q_Kvl; exact bookINil) (by kernel_rfl) ?_
    intro L lp rr hL hr hf hlp
    have Ex : F_f_exc2 a0 a1 a2 a2 = vx := by rw [← H_f_exc2, f_exc2, hpl, hP, hS, hQ, unI_I, unI_I, unI_I, hvx]
    have Ev : F_f_vlK a0 a1 a2 = vv := by
      rw [← H_f_vlK, f_vlK, hpl, hP, hS, unI_I, unI_I, hvv]
      congr 1
    conv => cbv
    simp only [stdEqs hL, imp_self, true_and, and_true, bif_or, bif_and, Bool.or_eq_true, Bool.or_eq_false_iff, Bool.and_eq_true, Bool.and_eq_false_iff, decide_eq_true_eq, decide_eq_false_iff_not, Bool.not_eq_true', Bool.not_eq_false', beq_iff_eq, beq_eq_false_iff_ne, ne_eq, toNat0, toNat1, ok_int, toI_int, I_frzs, I_length, I_getD, ok_ints, toL_slc, g0, g1, g2, Ex, Ev]
    refine ⟨by rw [← H_q_Kv]; exact hqv, by rw [← H_q_Kvl]; exact ⟨hqv, rfl⟩, ?_⟩
    refine hlp (List V × Int) _ _ _ [3, 4, 5] (fun x => [(3, none, .val (.slc true 2 (.int .i64 0) x.1)), (4, none, .val (.slc true 2 (.int .i64 0) vx)), (5, none, .val (.int .i64 x.2))])
      (fun x => 0 ≤ x.2 ∧ x.2 ≤ n ∧ x.1 = I (tab' (eu1 P S Q x.2.toNat) P.length)) (fun x => (n - x.2).toNat) ((vv, 0)) (by subst hL; rfl) ?_ ?_
    · exact ⟨by simp, by simp only; omega, hvv⟩
    rintro ⟨os, i⟩ ⟨i0, i1, hI⟩ hfx ag hag
    simp only at i0 i1 hI
    have hol : os.length = P.length := by rw [hI, I_length, tab_len]
    have gos : ∀ k, os.getD k (.int .i64 0) = .int .i64 ((tab' (eu1 P S Q i.toNat) P.length).getD k 0) := fun k => by rw [hI, I_getD]
    conv => cbv
    simp only [stdEqs hL, imp_self, true_and, and_true, bif_or, bif_and, Bool.or_eq_true, Bool.or_eq_false_iff, Bool.and_eq_true, Bool.and_eq_false_iff, decide_eq_true_eq, decide_eq_false_iff_not, Bool.not_eq_true', Bool.not_eq_false', beq_iff_eq, beq_eq_false_iff_ne, ne_eq, toNat0, toNat1, ok_int, toI_int, I_frzs, I_length, I_getD, ok_ints, toL_slc, hol, gos, hvxl, gvx]
    refine ⟨fun h2 => ?_, fun h2 => ?_⟩
    · obtain ⟨it, hit⟩ : ∃ it, it = i.toNat := ⟨_, rfl⟩
      have hin : it < P.length := by omega
      rw [← hit] at hI
      have hv : (tab' (eu1 P S Q it) P.length).getD it 0 = vlK P S it := by rw [tab_get _ _ _ _ hin, eu1, if_neg (Nat.lt_irrefl _)]
      simp only [← hit, hv, tab_get _ _ _ _ hin]
      rw [wrap_id (n := i + 1) (by omega) (by omega)]
      (repeat' first | (exact solid_one _) | (exact solid1 rfl) | (exact noown_one _) | (apply And.intro) | (intro _)) <;> (try first | exact True.intro | omega | rfl | (simp only [List.length_cons, List.length_nil, I_length]; omega))
      refine hag (_, i + 1) ⟨by simp only; omega, by simp only; omega, ?_⟩ (by simp only; omega)
      simp only [toNat_succ i0]
      rw [← hit, hI, I_set, tab_setG _ _ hin]
      congr 1
      refine tab_congr fun a ha => ?_
      rw [eu1, eu1]
      by_cases h5 : a = it
      · rw [if_pos h5, if_pos (by omega), h5, euK]
      · rw [if_neg h5]
        by_cases h6 : a < it
        · rw [if_pos h6, if_pos (by omega)]
        · rw [if_neg h6, if_neg (by omega)]
    · rw [hr, hf0, hI, show i.toNat = P.length by omega]
      congr 2
      exact tab_congr fun a ha => by rw [eu1, if_pos ha]
  · cases h
def c_K_li (f : List V → List V → List V → List V × Int) (q : List V → List V → List V → Prop) : Contract := fun
  | [.agg [.slc false 2 (.int .i64 0) a0, .slc false 2 (.int .i64 0) a1, .slc false 2 (.int .i64 0) a2]] => some ([q a0 a1 a2], .tup [.slc true 2 (.int .i64 0) ((f a0 a1 a2).1), .int .i64 ((f a0 a1 a2).2)])
  | _ => none
noncomputable def f_eun (a b c : List V) : List V × Int := bif isCl (unI a) (unI b) (unI c) then (f_eu a b c, 0) else ([], 1)
set_option maxRecDepth 100000 in
theorem s_impl_EulerNumbers : Sat Try.prog 37 (c_K_li f_eun q_K) := by
  intro args ps r h hp
  unfold c_K_li at h
  split at h
  · rename_i a0 a1 a2
    simp only [Option.some.injEq, Prod.mk.injEq] at h
    obtain ⟨rfl, rfl⟩ := h
    have hq : q_K a0 a1 a2 := (alls_cons.1 hp).1
    have g0 := hq.1.frz
    have g1 := hq.2.1.frz
    have g2 := hq.2.2.frz
    generalize H_f_isCl : f_isCl = F_f_isCl
    generalize H_q_K : q_K = F_q_K
    generalize H_f_eu : f_eu = F_f_eu
    generalize H_q_Kv : q_Kv = F_q_Kv
    refine fnOk_ofI (T := tab) (B := [(73, c_K_b F_f_isCl F_q_K), (77, c_K_l F_f_eu F_q_Kv)]) (Bi := []) [0, 1, 2, 3] Try.func37 rfl rfl (by kernel_rfl) (Nat.le_of_ble_eq_true rfl) mixed tabOk (by subst H_f_isCl H_q_K H_f_eu H_q_Kv; exact (bookCons s_impl_IsCluster (bookCons s_impl_eulerNumbers bookNil))) (by subst H_f_isCl H_q_K H_f_eu H_q_Kv; exact bookINil) (by kernel_rfl) ?_
    intro L lp rr hL hr hf hlp
    conv => cbv
    simp only [stdEqs hL, imp_self, true_and, and_true, bif_or, bif_and, Bool.or_eq_true, Bool.or_eq_false_iff, Bool.and_eq_true, Bool.and_eq_false_iff, decide_eq_true_eq, decide_eq_false_iff_not, Bool.not_eq_true', Bool.not_eq_false', beq_iff_eq, beq_eq_false_iff_ne, ne_eq, toNat0, toNat1, ok_int, toI_int, I_frzs, I_length, I_getD, ok_ints, toL_slc, g0, g1, g2]
    subst H_f_isCl H_q_K H_f_eu H_q_Kv
    refine ⟨hq, fun h => ?_, fun h => ⟨q_Kv_of hq h, ?_⟩⟩
    · rw [f_isCl] at h
      rw [hr, f_eun, h]; rfl
    · rw [f_isCl] at h
      rw [hr, f_eun, h]; rfl
  · cases h
set_option maxRecDepth 100000 in
theorem s_spec_EulerNumbers : Sat Try.prog 36 (c_K_li f_eun q_K) := by
  intro args ps r h hp
  unfold c_K_li at h
  split at h
  · rename_i a0 a1 a2
    simp only [Option.some.injEq, Prod.mk.injEq] at h
    obtain ⟨rfl, rfl⟩ := h
    have hq : q_K a0 a1 a2 := (alls_cons.1 hp).1
    have g0 := hq.1.frz
    have g1 := hq.2.1.frz
    have g2 := hq.2.2.frz
    generalize H_f_isCl : f_isCl = F_f_isCl
    generalize H_q_K : q_K = F_q_K
    generalize H_f_eu : f_eu = F_f_eu
    generalize H_q_Kv : q_Kv = F_q_Kv
    refine fnOk_ofI (T := tab) (B := [(71, c_K_b F_f_isCl F_q_K), (76, c_K_l F_f_eu F_q_Kv)]) (Bi := []) [0, 1, 2, 3] Try.func36 rfl rfl (by kernel_rfl) (Nat.le_of_ble_eq_true rfl) mixed tabOk (by subst H_f_isCl H_q_K H_f_eu H_q_Kv; exact (bookCons s_spec_l07Is (bookCons s_spec_l12Euler bookNil))) (by subst H_f_isCl H_q_K H_f_eu H_q_Kv; exact bookINil) (by kernel_rfl) ?_
    intro L lp rr hL hr hf hlp
    conv => cbv
    simp only [stdEqs hL, imp_self, true_and, and_true, bif_or, bif_and, Bool.or_eq_true, Bool.or_eq_false_iff, Bool.and_eq_true, Bool.and_eq_false_iff, decide_eq_true_eq, decide_eq_false_iff_not, Bool.not_eq_true', Bool.not_eq_false', beq_iff_eq, beq_eq_false_iff_ne, ne_eq, toNat0, toNat1, ok_int, toI_int, I_frzs, I_length, I_getD, ok_ints, toL_slc, g0, g1, g2]
    subst H_f_isCl H_q_K H_f_eu H_q_Kv
    refine ⟨hq, fun h => ?_, fun h => ⟨q_Kv_of hq h, ?_⟩⟩
    · rw [f_isCl] at h
      rw [hr, f_eun, h]; rfl
    · rw [f_isCl] at h
      rw [hr, f_eun, h]; rfl
  · cases h
set_option maxRecDepth 100000 in
theorem s_laws_FnExactEulerNumbers : Sat Try.prog 6 (c_lawk_K yesk_K q_lawk_K) := by
  intro args ps r h hp
  unfold c_lawk_K at h
  split at h
  · rename_i a0 a1 a2
    simp only [Option.some.injEq, Prod.mk.injEq] at h
    obtain ⟨rfl, rfl⟩ := h
    have hq : q_K a0 a1 a2 := (alls_cons.1 hp).1
    obtain ⟨hq0, hq1, hq2⟩ := id hq
    have g0 := hq0.frz
    have g1 := hq1.frz
    have g2 := hq2.frz
    generalize H_f_szK : f_szK = F_f_szK
    generalize H_q_szK : q_szK = F_q_szK
    generalize H_f_cpK : f_cpK = F_f_cpK
    generalize H_q_cpK : q_cpK = F_q_cpK
    generalize H_f_eun : f_eun = F_f_eun
    generalize H_q_K : q_K = F_q_K
    generalize H_f_eqK : f_eqK = F_f_eqK
    generalize H_q_eqK : q_eqK = F_q_eqK
    generalize H_f0_eqI : f0_eqI = F_f0_eqI
    generalize H_q_eqI : q_eqI = F_q_eqI
    generalize H_f0_held : f0_held = F_f0_held
    generalize H_q_mark : q_mark = F_q_mark
    generalize H_f0_mark : f0_mark = F_f0_mark
    generalize H_f1_mark : f1_mark = F_f1_mark
    generalize H_f0_markK : f0_markK = F_f0_markK
    generalize H_f1_markK : f1_markK = F_f1_markK
    generalize H_f2_markK : f2_markK = F_f2_markK
    generalize H_f3_markK : f3_markK = F_f3_markK
    generalize H_q_markK : q_markK = F_q_markK
    refine fnOk_ofI (T := tab) (B := [(29, c_Ki_i F_f_szK F_q_szK), (31, c_K_K F_f_cpK F_q_cpK), (36, c_K_li F_f_eun F_q_K), (37, c_K_li F_f_eun F_q_K), (26, c_KK_b F_f_eqK F_q_eqK), (19, c_laws_eqInt64S F_f0_eqI F_q_eqI), (23, c_heldInt64S F_f0_held F_q_mark)]) (Bi := [(22, 0, false, ic_markInt64S F_f0_mark F_f1_mark F_q_mark), (27, 0, false, ic_markK F_f0_markK F_f1_markK F_f2_markK F_f3_markK F_q_markK)]) [0, 1, 2, 3, 4, 5, 6, 7, 8, 9, 10, 11, 12, 13] Try.func6 rfl rfl (by kernel_rfl) (Nat.le_of_ble_eq_true rfl) mixed tabOk (by subst H_f_szK H_q_szK H_f_cpK H_q_cpK H_f_eun H_q_K H_f_eqK H_q_eqK H_f0_eqI H_q_eqI H_f0_held H_q_mark H_f0_mark H_f1_mark H_f0_markK H_f1_markK H_f2_markK H_f3_markK H_q_markK; exact (bookCons s_laws_szCluster (bookCons s_laws_toCluster (bookCons s_spec_EulerNumbers (bookCons s_impl_EulerNumbers (bookCons s_laws_eqCluster (bookCons s_laws_eqInt64S (bookCons s_laws_heldInt64S bookNil)))))))) (by subst H_f_szK H_q_szK H_f_cpK H_q_cpK H_f_eun H_q_K H_f_eqK H_q_eqK H_f0_eqI H_q_eqI H_f0_held H_q_mark H_f0_mark H_f1_mark H_f0_markK H_f1_markK H_f2_markK H_f3_markK H_q_markK; exact (bookICons s_laws_markInt64S (bookICons s_laws_markCluster bookINil))) (by kernel_rfl) ?_
    intro L lp rr hL hr hf hlp
    have hlen := hf.1
    conv => cbv
    simp only [stdEqs hL, g0, g1, g2]
    subst H_f_szK H_q_szK H_f_cpK H_q_cpK H_f_eun H_q_K H_f_eqK H_q_eqK H_f0_eqI H_q_eqI H_f0_held H_q_mark H_f0_mark H_f1_mark H_f0_markK H_f1_markK H_f2_markK H_f3_markK H_q_markK
    refine ⟨trivial, fun h => by rw [hr]; rfl, fun h => ?_⟩
    obtain ⟨hc, hb0, hb1, hb2⟩ := szK_ok hq0 hq1 hq2 hlen.1.1 hlen.2.1.1 hlen.2.2.1.1 h
    obtain ⟨P, hP⟩ := hq0
    obtain ⟨S, hS⟩ := hq1
    obtain ⟨Q, hQ⟩ := hq2
    rw [hP, I_length] at hb0
    rw [hS, I_length] at hb1
    rw [hQ, I_length] at hb2
    have e0 : f_cpK a0 a1 a2 = (I P, I S, I Q) := by rw [f_cpK, hP, hS, hQ]
    have kg := cluster_keys P S Q (by omega)
    have hqg : q_K (I P) (I S) (I Q) := ⟨⟨_, rfl⟩, ⟨_, rfl⟩, ⟨_, rfl⟩⟩
    have hqx := hqg

    obtain ⟨zs, code, ez, hzl⟩ : ∃ (zs : List Int) (code : Int), f_eun (I P) (I S) (I Q) = (I zs, code) ∧ zs.length ≤ 24 := by
      rw [f_eun, unI_I, unI_I, unI_I]
      cases hh : isCl P S Q with
      | false => exact ⟨[], 1, rfl, by simp⟩
      | true => exact ⟨_, _, rfl, by rw [tab_len, I_length]; exact (isCl_iff.1 hh).n24⟩
    have ck := ints_keys zs (by omega)
    have hn1 : ∀ n : Nat, decide ((1 : Int) + n < 0) = false := fun n => by simp; omega
    have hn2 : ∀ n m : Nat, decide ((1 : Int) + n + m < 0) = false := fun n m => by simp; omega
    have hn3 : ∀ n m r : Nat, decide ((1 : Int) + n + m + r < 0) = false := fun n m r => by simp; omega
    simp only [e0, hc, kg, hqg, ez, ck, hn1, hn2, hn3, hr, yesk_K, I_frzs]
    simp
  · cases h
end Go.Ax
