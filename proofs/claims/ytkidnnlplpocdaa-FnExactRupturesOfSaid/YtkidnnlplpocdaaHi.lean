/-
  RupturesOf, DeadEndsOf: both sides, the laws. No conditions but those of the contracts.
-/
import Derived.Test.YtkidnnlplpocdaaHh
set_option linter.all false
namespace Go.Ax
open Go.Proofs

def gRup (v e : Int) : Bool := decide (3 ≤ W (v + e))
def gDea (v e : Int) : Bool := decide (v = 1) && decide (e = 0)
def c_ii_b9 (f : Int → Int → Bool) (q : Int → Int → Prop) : Contract := fun
  | [.int .i64 a0, .int .i64 a1] => some ([q a0 a1], .bool (f a0 a1))
  | _ => none
def alw2 (_ _ : Int) : Prop := True
set_option maxRecDepth 100000 in
theorem s_rup1 : Sat Try.prog 82 (c_ii_b9 gRup alw2) := by
  intro args ps r h hp
  unfold c_ii_b9 at h
  split at h
  · rename_i v e
    simp only [Option.some.injEq, Prod.mk.injEq] at h
    obtain ⟨rfl, rfl⟩ := h
    have hf0 : gRup v e = decide (3 ≤ W (v + e)) := rfl
    refine fnOk_ofI (T := tab) (B := []) (Bi := []) [0, 1, 4] Try.func82 rfl rfl (by kernel_rfl) (Nat.le_of_ble_eq_true rfl) mixed tabOk (by exact bookNil) (by exact bookINil) (by kernel_rfl) ?_
    intro L lp rr hL hr hf hlp
    conv => cbv
    simp only [stdEqs hL]
    rw [hr, hf0]
    try rfl
  · cases h
set_option maxRecDepth 100000 in
theorem s_dea1 : Sat Try.prog 81 (c_ii_b9 gDea alw2) := by
  intro args ps r h hp
  unfold c_ii_b9 at h
  split at h
  · rename_i v e
    simp only [Option.some.injEq, Prod.mk.injEq] at h
    obtain ⟨rfl, rfl⟩ := h
    have hf0 : gDea v e = (decide (v = 1) && decide (e = 0)) := rfl
    refine fnOk_ofI (T := tab) (B := []) (Bi := []) [0, 1, 4] Try.func81 rfl rfl (by kernel_rfl) (Nat.le_of_ble_eq_true rfl) mixed tabOk (by exact bookNil) (by exact bookINil) (by kernel_rfl) ?_
    intro L lp rr hL hr hf hlp
    conv => cbv
    simp only [stdEqs hL]
    rw [hr, hf0]
    refine ⟨id, id, ?_⟩
    show V.bool (bif decide (v = 1) then decide (e = 0) else false) = _
    cases decide (v = 1) <;> rfl
  · cases h
/-- the points that have a property -/
def ptsK (g : Int → Int → Bool) (P S Q : List Int) (k : Nat) : List Int := ((List.range k).filter fun i => g (vlK P S i) (exL P S Q i)).map fun i : Nat => (i : Int)
theorem ptsK_succ (g : Int → Int → Bool) (P S Q : List Int) (k : Nat) : ptsK g P S Q (k + 1) = ptsK g P S Q k ++ if g (vlK P S k) (exL P S Q k) = true then [(k : Int)] else [] := by
  rw [ptsK, ptsK, List.range_succ, List.filter_append, List.map_append]
  congr 1
  by_cases h : g (vlK P S k) (exL P S Q k) = true
  · rw [if_pos h]; simp [h]
  · rw [if_neg h]; simp [h]
theorem ptsK_len (g : Int → Int → Bool) (P S Q : List Int) (k : Nat) : (ptsK g P S Q k).length ≤ k := by
  rw [ptsK, List.length_map]
  exact Nat.le_trans (List.length_filter_le _ _) (by simp)
noncomputable def f_pts (g : Int → Int → Bool) (a b c : List V) : List V × Int := bif isCl (unI a) (unI b) (unI c) then (I (ptsK g (unI a) (unI b) (unI c) a.length), 0) else ([], 1)
noncomputable def f_rup (a b c : List V) : List V × Int := f_pts gRup a b c
noncomputable def f_dea (a b c : List V) : List V × Int := f_pts gDea a b c
def c_Kf_li (f : List V → List V → List V → List V × Int) (q : List V → List V → List V → Nat → List V → Prop) : Contract := fun
  | [.agg [.slc false 2 (.int .i64 0) a0, .slc false 2 (.int .i64 0) a1, .slc false 2 (.int .i64 0) a2], .fn k cs] => some ([q a0 a1 a2 k cs], .tup [.slc true 2 (.int .i64 0) (f a0 a1 a2).1, .int .i64 (f a0 a1 a2).2])
  | _ => none
def q_pwR (a b c : List V) (k : Nat) (cs : List V) : Prop := q_K a b c ∧ k = 82 ∧ cs = []
def q_pwD (a b c : List V) (k : Nat) (cs : List V) : Prop := q_K a b c ∧ k = 81 ∧ cs = []
set_option maxRecDepth 100000 in
theorem s_pwR : Sat Try.prog 80 (c_Kf_li f_rup q_pwR) := by
  intro args ps r h hp
  unfold c_Kf_li at h
  split at h
  · rename_i a0 a1 a2 k cs
    simp only [Option.some.injEq, Prod.mk.injEq] at h
    obtain ⟨rfl, rfl⟩ := h
    obtain ⟨hq, hk, hcs⟩ : q_pwR a0 a1 a2 k cs := (alls_cons.1 hp).1
    subst hk hcs
    obtain ⟨⟨P, hP⟩, ⟨S, hS⟩, ⟨Q, hQ⟩⟩ := id hq
    have g0 := hq.1.frz
    have g1 := hq.2.1.frz
    have g2 := hq.2.2.frz
    have hc0 : f_isCl a0 a1 a2 = isCl P S Q := by rw [f_isCl, hP, hS, hQ, unI_I, unI_I, unI_I]
    have hpl : a0.length = P.length := by rw [hP, I_length]
    have hf1 : isCl P S Q = false → f_rup a0 a1 a2 = ([], 1) := fun h => by rw [f_rup, f_pts, hP, hS, hQ, unI_I, unI_I, unI_I, h]; rfl
    have hf2 : isCl P S Q = true → f_rup a0 a1 a2 = (I (ptsK gRup P S Q P.length), 0) := fun h => by rw [f_rup, f_pts, hpl, hP, hS, hQ, unI_I, unI_I, unI_I, h]; rfl
    have hgr : f_gr a0 a1 a2 = (I (gwC (gM P S) P.length), II true (esC (gM P S) P.length P.length)) := by rw [f_gr, hpl, hP, hS, unI_I, unI_I]
    obtain ⟨ws, hws⟩ : ∃ ws, ws = I (gwC (gM P S) P.length) := ⟨_, rfl⟩
    obtain ⟨es, hes⟩ : ∃ es, es = II true (esC (gM P S) P.length P.length) := ⟨_, rfl⟩
    rw [← hws, ← hes] at hgr
    have hwl : ws.length = P.length := by rw [hws, I_length, gwC, tab_len]
    have gw : V.frzs ws = ws := by rw [hws, I_frzs]
    obtain ⟨vx, hvx⟩ : ∃ vx, vx = I (tab' (exL P S Q) P.length) := ⟨_, rfl⟩
    have hvxl : vx.length = P.length := by rw [hvx, I_length, tab_len]
    have gvx : ∀ k, vx.getD k (.int .i64 0) = .int .i64 ((tab' (exL P S Q) P.length).getD k 0) := fun k => by rw [hvx, I_getD]
    obtain ⟨vv, hvv⟩ : ∃ vv, vv = I (tab' (vlK P S) P.length) := ⟨_, rfl⟩
    have hvvl : vv.length = P.length := by rw [hvv, I_length, tab_len]
    have gvv : ∀ k, vv.getD k (.int .i64 0) = .int .i64 ((tab' (vlK P S) P.length).getD k 0) := fun k => by rw [hvv, I_getD]
    obtain ⟨n, hn⟩ : ∃ n : Int, n = P.length := ⟨_, rfl⟩
    generalize H_f_isCl : f_isCl = F_f_isCl
    generalize H_q_K : q_K = F_q_K
    generalize H_f_exc1 : f_exc1 = F_f_exc1
    generalize H_q_Kv : q_Kv = F_q_Kv
    generalize H_f_gr : f_gr = F_f_gr
    generalize H_f_val : f_val = F_f_val
    generalize H_q_GrN : q_GrN = F_q_GrN
    generalize H_gRup : gRup = F_gRup
    generalize H_alw2 : alw2 = F_alw2
    refine fnOk_ofI (T := tab) (B := [(73, c_K_b F_f_isCl F_q_K), (140, c_K_l F_f_exc1 F_q_Kv), (74, c_K_G F_f_gr F_q_Kv), (141, c_G_l F_f_val F_q_GrN), (82, c_ii_b9 F_gRup F_alw2)]) (Bi := []) [0, 1, 2, 4, 5, 6, 7, 8, 9, 18, 19, 20] Try.func80 rfl rfl (by kernel_rfl) (Nat.le_of_ble_eq_true rfl) mixed tabOk (by subst H_f_isCl H_q_K H_f_exc1 H_q_Kv H_f_gr H_f_val H_q_GrN H_gRup H_alw2; exact (bookCons s_impl_IsCluster (bookCons s_impl_excesses (bookCons s_impl_graphOf (bookCons s_impl_valences (bookCons s_rup1 bookNil)))))) (by subst H_f_isCl H_q_K H_f_exc1 H_q_Kv H_f_gr H_f_val H_q_GrN H_gRup H_alw2; exact bookINil) (by kernel_rfl) ?_
    intro L lp rr hL hr hf hlp
    have Ec : F_f_isCl a0 a1 a2 = isCl P S Q := by rw [← H_f_isCl, hc0]
    have Eg : F_f_gr a0 a1 a2 = (ws, es) := by rw [← H_f_gr, hgr]
    have Ex : F_f_exc1 a0 a1 a2 = vx := by rw [← H_f_exc1, f_exc1, hpl, hP, hS, hQ, unI_I, unI_I, unI_I, hvx]
    have Ev : F_f_val ws (V.frzs es) = vv := by rw [← H_f_val, f_val, hwl, hes, II_frzs, unII_II, hvv, vlK_tab]
    have Qn : ClP P S Q → F_q_GrN ws (V.frzs es) := fun hcl => by
      rw [← H_q_GrN]
      refine ⟨_, _, hws, by rw [hes, II_frzs], ?_⟩
      rw [gwC, tab_len]
      exact esC_grN _ hcl.n1 hcl.n24
    conv => cbv
    simp only [stdEqs hL, imp_self, true_and, and_true, bif_or, bif_and, Bool.or_eq_true, Bool.or_eq_false_iff, Bool.and_eq_true, Bool.and_eq_false_iff, decide_eq_true_eq, decide_eq_false_iff_not, Bool.not_eq_true', Bool.not_eq_false', beq_iff_eq, beq_eq_false_iff_ne, ne_eq, toNat0, toNat1, ok_int, toI_int, I_frzs, I_length, I_getD, ok_ints, toL_slc, g0, g1, g2, Eg, Ex, gw, Ev, Ec, hvvl, ← hn]
    refine ⟨by rw [← H_q_K]; exact hq, fun h => ?_, fun h => ?_⟩
    · rw [hr, hf1 h]
    have hcl := isCl_iff.1 h
    have n24 := hcl.n24
    have hqv : q_Kv a0 a1 a2 := ⟨hq, by rw [hP, hS, hQ, unI_I, unI_I, unI_I]; exact hcl⟩
    refine ⟨by rw [← H_q_Kv]; exact hqv, by rw [← H_q_Kv]; exact hqv, Qn hcl, by rw [hvv]; exact I_noFzs _, ?_⟩
    refine hlp (List V × Int) _ _ _ [1, 6, 7, 18, 19, 20] (fun x => [(1, none, .val (.fn 82 [])), (6, none, .val (.slc true 2 (.int .i64 0) x.1)), (7, none, .val (.slc true 2 (.int .i64 0) vx)), (18, none, .val (.slc true 2 (.int .i64 0) vv)), (19, none, .val (.int .i64 n)), (20, none, .val (.int .i64 x.2))])
      (fun x => 0 ≤ x.2 ∧ x.2 ≤ n ∧ x.1 = I (ptsK gRup P S Q x.2.toNat)) (fun x => (n - x.2).toNat) (([], 0)) (by subst hL; rw [hn, ← hvvl]; rfl) ?_ ?_
    · exact ⟨by simp, by simp only; omega, rfl⟩
    rintro ⟨os, i⟩ ⟨i0, i1, hI⟩ hfx ag hag
    simp only at i0 i1 hI
    have hol : os.length ≤ 24 := by rw [hI, I_length]; have := ptsK_len gRup P S Q i.toNat; omega
    conv => cbv
    simp only [stdEqs hL, imp_self, true_and, and_true, bif_or, bif_and, Bool.or_eq_true, Bool.or_eq_false_iff, Bool.and_eq_true, Bool.and_eq_false_iff, decide_eq_true_eq, decide_eq_false_iff_not, Bool.not_eq_true', Bool.not_eq_false', beq_iff_eq, beq_eq_false_iff_ne, ne_eq, toNat0, toNat1, ok_int, toI_int, I_frzs, I_length, I_getD, ok_ints, toL_slc, hvvl, gvv, hvxl, gvx]
    refine ⟨fun h2 => ?_, fun h2 => ?_⟩
    · have hin : i.toNat < P.length := by omega
      simp only [tab_get _ _ _ _ hin]
      rw [wrap_id (n := i + 1) (by omega) (by omega)]
      have Gg : ∀ x y, F_gRup x y = gRup x y := fun x y => by rw [← H_gRup]
      have hii : ((i.toNat : Nat) : Int) = i := by omega
      have hdec : (n - (i + 1)).toNat < (n - i).toNat := by omega
      simp only [Gg]
      refine ⟨i0, by omega, hin, i0, by omega, hin, by rw [← H_alw2]; exact trivial, fun h3 => ⟨rfl, by simp only [List.length_cons, List.length_nil]; omega, solid_one _, ?_⟩, fun h3 => ?_⟩
      · refine hag (_, i + 1) ⟨by simp only; omega, by simp only; omega, ?_⟩ hdec
        simp only [toNat_succ i0]
        rw [hI, ptsK_succ, if_pos h3, hii]
        simp [I]
      · refine hag (os, i + 1) ⟨by simp only; omega, by simp only; omega, ?_⟩ hdec
        simp only [toNat_succ i0]
        rw [hI, ptsK_succ, if_neg (by rw [h3]; simp), List.append_nil]
    · rw [hr, hf2 h, hI, show i.toNat = P.length by omega]
  · cases h
set_option maxRecDepth 100000 in
theorem s_pwD : Sat Try.prog 80 (c_Kf_li f_dea q_pwD) := by
  intro args ps r h hp
  unfold c_Kf_li at h
  split at h
  · rename_i a0 a1 a2 k cs
    simp only [Option.some.injEq, Prod.mk.injEq] at h
    obtain ⟨rfl, rfl⟩ := h
    obtain ⟨hq, hk, hcs⟩ : q_pwD a0 a1 a2 k cs := (alls_cons.1 hp).1
    subst hk hcs
    obtain ⟨⟨P, hP⟩, ⟨S, hS⟩, ⟨Q, hQ⟩⟩ := id hq
    have g0 := hq.1.frz
    have g1 := hq.2.1.frz
    have g2 := hq.2.2.frz
    have hc0 : f_isCl a0 a1 a2 = isCl P S Q := by rw [f_isCl, hP, hS, hQ, unI_I, unI_I, unI_I]
    have hpl : a0.length = P.length := by rw [hP, I_length]
    have hf1 : isCl P S Q = false → f_dea a0 a1 a2 = ([], 1) := fun h => by rw [f_dea, f_pts, hP, hS, hQ, unI_I, unI_I, unI_I, h]; rfl
    have hf2 : isCl P S Q = true → f_dea a0 a1 a2 = (I (ptsK gDea P S Q P.length), 0) := fun h => by rw [f_dea, f_pts, hpl, hP, hS, hQ, unI_I, unI_I, unI_I, h]; rfl
    have hgr : f_gr a0 a1 a2 = (I (gwC (gM P S) P.length), II true (esC (gM P S) P.length P.length)) := by rw [f_gr, hpl, hP, hS, unI_I, unI_I]
    obtain ⟨ws, hws⟩ : ∃ ws, ws = I (gwC (gM P S) P.length) := ⟨_, rfl⟩
    obtain ⟨es, hes⟩ : ∃ es, es = II true (esC (gM P S) P.length P.length) := ⟨_, rfl⟩
    rw [← hws, ← hes] at hgr
    have hwl : ws.length = P.length := by rw [hws, I_length, gwC, tab_len]
    have gw : V.frzs ws = ws := by rw [hws, I_frzs]
    obtain ⟨vx, hvx⟩ : ∃ vx, vx = I (tab' (exL P S Q) P.length) := ⟨_, rfl⟩
    have hvxl : vx.length = P.length := by rw [hvx, I_length, tab_len]
    have gvx : ∀ k, vx.getD k (.int .i64 0) = .int .i64 ((tab' (exL P S Q) P.length).getD k 0) := fun k => by rw [hvx, I_getD]
    obtain ⟨vv, hvv⟩ : ∃ vv, vv = I (tab' (vlK P S) P.length) := ⟨_, rfl⟩
    have hvvl : vv.length = P.length := by rw [hvv, I_length, tab_len]
    have gvv : ∀ k, vv.getD k (.int .i64 0) = .int .i64 ((tab' (vlK P S) P.length).getD k 0) := fun k => by rw [hvv, I_getD]
    obtain ⟨n, hn⟩ : ∃ n : Int, n = P.length := ⟨_, rfl⟩
    generalize H_f_isCl : f_isCl = F_f_isCl
    generalize H_q_K : q_K = F_q_K
    generalize H_f_exc1 : f_exc1 = F_f_exc1
    generalize H_q_Kv : q_Kv = F_q_Kv
    generalize H_f_gr : f_gr = F_f_gr
    generalize H_f_val : f_val = F_f_val
    generalize H_q_GrN : q_GrN = F_q_GrN
    generalize H_gDea : gDea = F_gDea
    generalize H_alw2 : alw2 = F_alw2
    refine fnOk_ofI (T := tab) (B := [(73, c_K_b F_f_isCl F_q_K), (140, c_K_l F_f_exc1 F_q_Kv), (74, c_K_G F_f_gr F_q_Kv), (141, c_G_l F_f_val F_q_GrN), (81, c_ii_b9 F_gDea F_alw2)]) (Bi := []) [0, 1, 2, 4, 5, 6, 7, 8, 9, 18, 19, 20] Try.func80 rfl rfl (by kernel_rfl) (Nat.le_of_ble_eq_true rfl) mixed tabOk (by subst H_f_isCl H_q_K H_f_exc1 H_q_Kv H_f_gr H_f_val H_q_GrN H_gDea H_alw2; exact (bookCons s_impl_IsCluster (bookCons s_impl_excesses (bookCons s_impl_graphOf (bookCons s_impl_valences (bookCons s_dea1 bookNil)))))) (by subst H_f_isCl H_q_K H_f_exc1 H_q_Kv H_f_gr H_f_val H_q_GrN H_gDea H_alw2; exact bookINil) (by kernel_rfl) ?_
    intro L lp rr hL hr hf hlp
    have Ec : F_f_isCl a0 a1 a2 = isCl P S Q := by rw [← H_f_isCl, hc0]
    have Eg : F_f_gr a0 a1 a2 = (ws, es) := by rw [← H_f_gr, hgr]
    have Ex : F_f_exc1 a0 a1 a2 = vx := by rw [← H_f_exc1, f_exc1, hpl, hP, hS, hQ, unI_I, unI_I, unI_I, hvx]
    have Ev : F_f_val ws (V.frzs es) = vv := by rw [← H_f_val, f_val, hwl, hes, II_frzs, unII_II, hvv, vlK_tab]
    have Qn : ClP P S Q → F_q_GrN ws (V.frzs es) := fun hcl => by
      rw [← H_q_GrN]
      refine ⟨_, _, hws, by rw [hes, II_frzs], ?_⟩
      rw [gwC, tab_len]
      exact esC_grN _ hcl.n1 hcl.n24
    conv => cbv
    simp only [stdEqs hL, imp_self, true_and, and_true, bif_or, bif_and, Bool.or_eq_true, Bool.or_eq_false_iff, Bool.and_eq_true, Bool.and_eq_false_iff, decide_eq_true_eq, decide_eq_false_iff_not, Bool.not_eq_true', Bool.not_eq_false', beq_iff_eq, beq_eq_false_iff_ne, ne_eq, toNat0, toNat1, ok_int, toI_int, I_frzs, I_length, I_getD, ok_ints, toL_slc, g0, g1, g2, Eg, Ex, gw, Ev, Ec, hvvl, ← hn]
    refine ⟨by rw [← H_q_K]; exact hq, fun h => ?_, fun h => ?_⟩
    · rw [hr, hf1 h]
    have hcl := isCl_iff.1 h
    have n24 := hcl.n24
    have hqv : q_Kv a0 a1 a2 := ⟨hq, by rw [hP, hS, hQ, unI_I, unI_I, unI_I]; exact hcl⟩
    refine ⟨by rw [← H_q_Kv]; exact hqv, by rw [← H_q_Kv]; exact hqv, Qn hcl, by rw [hvv]; exact I_noFzs _, ?_⟩
    refine hlp (List V × Int) _ _ _ [1, 6, 7, 18, 19, 20] (fun x => [(1, none, .val (.fn 81 [])), (6, none, .val (.slc true 2 (.int .i64 0) x.1)), (7, none, .val (.slc true 2 (.int .i64 0) vx)), (18, none, .val (.slc true 2 (.int .i64 0) vv)), (19, none, .val (.int .i64 n)), (20, none, .val (.int .i64 x.2))])
      (fun x => 0 ≤ x.2 ∧ x.2 ≤ n ∧ x.1 = I (ptsK gDea P S Q x.2.toNat)) (fun x => (n - x.2).toNat) (([], 0)) (by subst hL; rw [hn, ← hvvl]; rfl) ?_ ?_
    · exact ⟨by simp, by simp only; omega, rfl⟩
    rintro ⟨os, i⟩ ⟨i0, i1, hI⟩ hfx ag hag
    simp only at i0 i1 hI
    have hol : os.length ≤ 24 := by rw [hI, I_length]; have := ptsK_len gDea P S Q i.toNat; omega
    conv => cbv
    simp only [stdEqs hL, imp_self, true_and, and_true, bif_or, bif_and, Bool.or_eq_true, Bool.or_eq_false_iff, Bool.and_eq_true, Bool.and_eq_false_iff, decide_eq_true_eq, decide_eq_false_iff_not, Bool.not_eq_true', Bool.not_eq_false', beq_iff_eq, beq_eq_false_iff_ne, ne_eq, toNat0, toNat1, ok_int, toI_int, I_frzs, I_length, I_getD, ok_ints, toL_slc, hvvl, gvv, hvxl, gvx]
    refine ⟨fun h2 => ?_, fun h2 => ?_⟩
    · have hin : i.toNat < P.length := by omega
      simp only [tab_get _ _ _ _ hin]
      rw [wrap_id (n := i + 1) (by omega) (by omega)]
      have Gg : ∀ x y, F_gDea x y = gDea x y := fun x y => by rw [← H_gDea]
      have hii : ((i.toNat : Nat) : Int) = i := by omega
      have hdec : (n - (i + 1)).toNat < (n - i).toNat := by omega
      simp only [Gg]
      refine ⟨i0, by omega, hin, i0, by omega, hin, by rw [← H_alw2]; exact trivial, fun h3 => ⟨rfl, by simp only [List.length_cons, List.length_nil]; omega, solid_one _, ?_⟩, fun h3 => ?_⟩
      · refine hag (_, i + 1) ⟨by simp only; omega, by simp only; omega, ?_⟩ hdec
        simp only [toNat_succ i0]
        rw [hI, ptsK_succ, if_pos h3, hii]
        simp [I]
      · refine hag (os, i + 1) ⟨by simp only; omega, by simp only; omega, ?_⟩ hdec
        simp only [toNat_succ i0]
        rw [hI, ptsK_succ, if_neg (by rw [h3]; simp), List.append_nil]
    · rw [hr, hf2 h, hI, show i.toNat = P.length by omega]
  · cases h
set_option maxRecDepth 100000 in
theorem s_impl_RupturesOf : Sat Try.prog 41 (c_K_li f_rup q_K) := by
  intro args ps r h hp
  unfold c_K_li at h
  split at h
  · rename_i a0 a1 a2
    simp only [Option.some.injEq, Prod.mk.injEq] at h
    obtain ⟨rfl, rfl⟩ := h
    have hq : q_K a0 a1 a2 := (alls_cons.1 hp).1
    have g0 := hq.1.frz
    have g1 := hq.2.1.frz
    have g2 := hq.2.2.frz
    generalize H_f_rup : f_rup = F_f_rup
    generalize H_q_pwR : q_pwR = F_q_pwR
    refine fnOk_ofI (T := tab) (B := [(80, c_Kf_li F_f_rup F_q_pwR)]) (Bi := []) [0, 1, 2, 3] Try.func41 rfl rfl (by kernel_rfl) (Nat.le_of_ble_eq_true rfl) mixed tabOk (by subst H_f_rup H_q_pwR; exact (bookCons s_pwR bookNil)) (by subst H_f_rup H_q_pwR; exact bookINil) (by kernel_rfl) ?_
    intro L lp rr hL hr hf hlp
    have Qn : F_q_pwR a0 a1 a2 82 [] := by rw [← H_q_pwR]; exact ⟨hq, rfl, rfl⟩
    conv => cbv
    simp only [stdEqs hL, imp_self, true_and, and_true, bif_or, bif_and, Bool.or_eq_true, Bool.or_eq_false_iff, Bool.and_eq_true, Bool.and_eq_false_iff, decide_eq_true_eq, decide_eq_false_iff_not, Bool.not_eq_true', Bool.not_eq_false', beq_iff_eq, beq_eq_false_iff_ne, ne_eq, toNat0, toNat1, ok_int, toI_int, I_frzs, I_length, I_getD, ok_ints, toL_slc, g0, g1, g2]
    subst H_f_rup
    exact ⟨Qn, by rw [hr]⟩
  · cases h
set_option maxRecDepth 100000 in
theorem s_impl_DeadEndsOf : Sat Try.prog 39 (c_K_li f_dea q_K) := by
  intro args ps r h hp
  unfold c_K_li at h
  split at h
  · rename_i a0 a1 a2
    simp only [Option.some.injEq, Prod.mk.injEq] at h
    obtain ⟨rfl, rfl⟩ := h
    have hq : q_K a0 a1 a2 := (alls_cons.1 hp).1
    have g0 := hq.1.frz
    have g1 := hq.2.1.frz
    have g2 := hq.2.2.frz
    generalize H_f_dea : f_dea = F_f_dea
    generalize H_q_pwD : q_pwD = F_q_pwD
    refine fnOk_ofI (T := tab) (B := [(80, c_Kf_li F_f_dea F_q_pwD)]) (Bi := []) [0, 1, 2, 3] Try.func39 rfl rfl (by kernel_rfl) (Nat.le_of_ble_eq_true rfl) mixed tabOk (by subst H_f_dea H_q_pwD; exact (bookCons s_pwD bookNil)) (by subst H_f_dea H_q_pwD; exact bookINil) (by kernel_rfl) ?_
    intro L lp rr hL hr hf hlp
    have Qn : F_q_pwD a0 a1 a2 81 [] := by rw [← H_q_pwD]; exact ⟨hq, rfl, rfl⟩
    conv => cbv
    simp only [stdEqs hL, imp_self, true_and, and_true, bif_or, bif_and, Bool.or_eq_true, Bool.or_eq_false_iff, Bool.and_eq_true, Bool.and_eq_false_iff, decide_eq_true_eq, decide_eq_false_iff_not, Bool.not_eq_true', Bool.not_eq_false', beq_iff_eq, beq_eq_false_iff_ne, ne_eq, toNat0, toNat1, ok_int, toI_int, I_frzs, I_length, I_getD, ok_ints, toL_slc, g0, g1, g2]
    subst H_f_dea
    exact ⟨Qn, by rw [hr]⟩
  · cases h
/-! the other side -/
theorem exA_le {pm : List (List Int)} {w : List Int} (hw : ∀ j, -100000 ≤ w.getD j 0 ∧ w.getD j 0 ≤ 100000) : ∀ j : Nat, j ≤ 24 → ∀ a, -(100000 * ((j : Int) + 1)) ≤ exA pm w j a ∧ exA pm w j a ≤ 100000 * ((j : Int) + 1)
  | 0, _, a => by have := hw a; simp only [exA]; omega
  | j + 1, h, a => by
    have h1 := exA_le hw (pm := pm) j (by omega) a
    have h2 := hw j
    simp only [exA]
    split
    · rw [show W (exA pm w j a - w.getD j 0) = exA pm w j a - w.getD j 0 from wrap_id (by omega) (by omega)]
      omega
    · omega
theorem exL_le {P S Q : List Int} (h : ClP P S Q) (a : Nat) : -2500000 ≤ exL P S Q a ∧ exL P S Q a ≤ 2500000 := by
  have := exA_le (pm := cpx P S P.length P.length) (w := Q) (fun j => by
    by_cases hj : j < P.length
    · exact h.q j hj
    · rw [List.getD_eq_getElem?_getD, List.getElem?_eq_none (by have := h.ql; omega)]
      exact ⟨by decide, by decide⟩) P.length h.n24 a
  have h24 := h.n24
  rw [exL]
  omega
theorem vlK_le {P S Q : List Int} (h : ClP P S Q) (a : Nat) : 0 ≤ vlK P S a ∧ vlK P S a ≤ 800 := by
  have h1 := (esC_grN (gM P S) h.n1 h.n24).el
  have h2 := nearA_len (esC (gM P S) P.length P.length) a
  have h3 := nearB_len (esC (gM P S) P.length P.length) a
  rw [vlK, near, List.length_append]
  omega
theorem rup_eu {P S Q : List Int} (h : ClP P S Q) (a : Nat) : gRup (vlK P S a) (exL P S Q a) = decide (euK P S Q a ≤ -1) := by
  have h1 := exL_le h a
  have h2 := vlK_le h a
  rw [gRup, euK, show W (2 - vlK P S a) = 2 - vlK P S a from wrap_id (by omega) (by omega), show W (2 - vlK P S a - exL P S Q a) = 2 - vlK P S a - exL P S Q a from wrap_id (by omega) (by omega), show W (vlK P S a + exL P S Q a) = vlK P S a + exL P S Q a from wrap_id (by omega) (by omega)]
  exact decide_eq_decide.2 (by omega)
set_option maxRecDepth 100000 in
theorem s_spec_RupturesOf : Sat Try.prog 40 (c_K_li f_rup q_K) := by
  intro args ps r h hp
  unfold c_K_li at h
  split at h
  · rename_i a0 a1 a2
    simp only [Option.some.injEq, Prod.mk.injEq] at h
    obtain ⟨rfl, rfl⟩ := h
    have hq : q_K a0 a1 a2 := (alls_cons.1 hp).1
    obtain ⟨⟨P, hP⟩, ⟨S, hS⟩, ⟨Q, hQ⟩⟩ := id hq
    have g0 := hq.1.frz
    have g1 := hq.2.1.frz
    have g2 := hq.2.2.frz
    have hc0 : f_isCl a0 a1 a2 = isCl P S Q := by rw [f_isCl, hP, hS, hQ, unI_I, unI_I, unI_I]
    have hpl : a0.length = P.length := by rw [hP, I_length]
    have hf1 : isCl P S Q = false → f_rup a0 a1 a2 = ([], 1) := fun h => by rw [f_rup, f_pts, hP, hS, hQ, unI_I, unI_I, unI_I, h]; rfl
    have hf2 : isCl P S Q = true → f_rup a0 a1 a2 = (I (ptsK gRup P S Q P.length), 0) := fun h => by rw [f_rup, f_pts, hpl, hP, hS, hQ, unI_I, unI_I, unI_I, h]; rfl
    obtain ⟨ve, hve⟩ : ∃ ve, ve = I (tab' (euK P S Q) P.length) := ⟨_, rfl⟩
    have hvel : ve.length = P.length := by rw [hve, I_length, tab_len]
    have gve : ∀ k, ve.getD k (.int .i64 0) = .int .i64 ((tab' (euK P S Q) P.length).getD k 0) := fun k => by rw [hve, I_getD]
    obtain ⟨n, hn⟩ : ∃ n : Int, n = P.length := ⟨_, rfl⟩
    generalize H_f_isCl : f_isCl = F_f_isCl
    generalize H_q_K : q_K = F_q_K
    generalize H_f_eu : f_eu = F_f_eu
    generalize H_q_Kv : q_Kv = F_q_Kv
    refine fnOk_ofI (T := tab) (B := [(71, c_K_b F_f_isCl F_q_K), (76, c_K_l F_f_eu F_q_Kv)]) (Bi := []) [0, 1, 2, 3, 4, 5, 6] Try.func40 rfl rfl (by kernel_rfl) (Nat.le_of_ble_eq_true rfl) mixed tabOk (by subst H_f_isCl H_q_K H_f_eu H_q_Kv; exact (bookCons s_spec_l07Is (bookCons s_spec_l12Euler bookNil))) (by subst H_f_isCl H_q_K H_f_eu H_q_Kv; exact bookINil) (by kernel_rfl) ?_
    intro L lp rr hL hr hf hlp
    have Ec : F_f_isCl a0 a1 a2 = isCl P S Q := by rw [← H_f_isCl, hc0]
    have Ee : F_f_eu a0 a1 a2 = ve := by rw [← H_f_eu, f_eu, hpl, hP, hS, hQ, unI_I, unI_I, unI_I, hve]
    conv => cbv
    simp only [stdEqs hL, imp_self, true_and, and_true, bif_or, bif_and, Bool.or_eq_true, Bool.or_eq_false_iff, Bool.and_eq_true, Bool.and_eq_false_iff, decide_eq_true_eq, decide_eq_false_iff_not, Bool.not_eq_true', Bool.not_eq_false', beq_iff_eq, beq_eq_false_iff_ne, ne_eq, toNat0, toNat1, ok_int, toI_int, I_frzs, I_length, I_getD, ok_ints, toL_slc, g0, g1, g2, Ec, Ee]
    refine ⟨by rw [← H_q_K]; exact hq, fun h => ?_, fun h => ?_⟩
    · rw [hr, hf1 h]
    have hcl := isCl_iff.1 h
    have n24 := hcl.n24
    have hqv : q_Kv a0 a1 a2 := ⟨hq, by rw [hP, hS, hQ, unI_I, unI_I, unI_I]; exact hcl⟩
    refine ⟨by rw [← H_q_Kv]; exact hqv, ?_⟩
    refine hlp (List V × Int) _ _ _ [4, 5, 6] (fun x => [(4, none, .val (.slc true 2 (.int .i64 0) ve)), (5, none, .val (.slc true 2 (.int .i64 0) x.1)), (6, none, .val (.int .i64 x.2))])
      (fun x => 0 ≤ x.2 ∧ x.2 ≤ n ∧ x.1 = I (ptsK gRup P S Q x.2.toNat)) (fun x => (n - x.2).toNat) (([], 0)) (by subst hL; rfl) ?_ ?_
    · exact ⟨by simp, by simp only; omega, rfl⟩
    rintro ⟨os, i⟩ ⟨i0, i1, hI⟩ hfx ag hag
    simp only at i0 i1 hI
    have hol : os.length ≤ 24 := by rw [hI, I_length]; have := ptsK_len gRup P S Q i.toNat; omega
    conv => cbv
    simp only [stdEqs hL, imp_self, true_and, and_true, bif_or, bif_and, Bool.or_eq_true, Bool.or_eq_false_iff, Bool.and_eq_true, Bool.and_eq_false_iff, decide_eq_true_eq, decide_eq_false_iff_not, Bool.not_eq_true', Bool.not_eq_false', beq_iff_eq, beq_eq_false_iff_ne, ne_eq, toNat0, toNat1, ok_int, toI_int, I_frzs, I_length, I_getD, ok_ints, toL_slc, hvel, gve, ← hn]
    refine ⟨fun h2 => ?_, fun h2 => ?_⟩
    · have hin : i.toNat < P.length := by omega
      have hru := rup_eu hcl i.toNat
      have hii : ((i.toNat : Nat) : Int) = i := by omega
      have hdec : (n - (i + 1)).toNat < (n - i).toNat := by omega
      simp only [tab_get _ _ _ _ hin]
      rw [wrap_id (n := i + 1) (by omega) (by omega)]
      refine ⟨i0, by omega, hin, fun h3 => ⟨rfl, by simp only [List.length_cons, List.length_nil]; omega, solid_one _, ?_⟩, fun h3 => ?_⟩
      · refine hag (_, i + 1) ⟨by simp only; omega, by simp only; omega, ?_⟩ hdec
        simp only [toNat_succ i0]
        rw [hI, ptsK_succ, hru, decide_eq_true h3, if_pos rfl, hii]
        simp [I]
      · refine hag (os, i + 1) ⟨by simp only; omega, by simp only; omega, ?_⟩ hdec
        simp only [toNat_succ i0]
        rw [hI, ptsK_succ, hru, decide_eq_false h3, if_neg (by simp), List.append_nil]
    · rw [hr, hf2 h, hI, show i.toNat = P.length by omega]
  · cases h
set_option maxRecDepth 100000 in
theorem s_spec_DeadEndsOf : Sat Try.prog 38 (c_K_li f_dea q_K) := by
  intro args ps r h hp
  unfold c_K_li at h
  split at h
  · rename_i a0 a1 a2
    simp only [Option.some.injEq, Prod.mk.injEq] at h
    obtain ⟨rfl, rfl⟩ := h
    have hq : q_K a0 a1 a2 := (alls_cons.1 hp).1
    obtain ⟨⟨P, hP⟩, ⟨S, hS⟩, ⟨Q, hQ⟩⟩ := id hq
    have g0 := hq.1.frz
    have g1 := hq.2.1.frz
    have g2 := hq.2.2.frz
    have hc0 : f_isCl a0 a1 a2 = isCl P S Q := by rw [f_isCl, hP, hS, hQ, unI_I, unI_I, unI_I]
    have hpl : a0.length = P.length := by rw [hP, I_length]
    have hf1 : isCl P S Q = false → f_dea a0 a1 a2 = ([], 1) := fun h => by rw [f_dea, f_pts, hP, hS, hQ, unI_I, unI_I, unI_I, h]; rfl
    have hf2 : isCl P S Q = true → f_dea a0 a1 a2 = (I (ptsK gDea P S Q P.length), 0) := fun h => by rw [f_dea, f_pts, hpl, hP, hS, hQ, unI_I, unI_I, unI_I, h]; rfl
    obtain ⟨vx, hvx⟩ : ∃ vx, vx = I (tab' (exL P S Q) P.length) := ⟨_, rfl⟩
    have hvxl : vx.length = P.length := by rw [hvx, I_length, tab_len]
    have gvx : ∀ k, vx.getD k (.int .i64 0) = .int .i64 ((tab' (exL P S Q) P.length).getD k 0) := fun k => by rw [hvx, I_getD]
    obtain ⟨vv, hvv⟩ : ∃ vv, vv = I (tab' (vlK P S) P.length) := ⟨_, rfl⟩
    have hvvl : vv.length = P.length := by rw [hvv, I_length, tab_len]
    have gvv : ∀ k, vv.getD k (.int .i64 0) = .int .i64 ((tab' (vlK P S) P.length).getD k 0) := fun k => by rw [hvv, I_getD]
    obtain ⟨n, hn⟩ : ∃ n : Int, n = P.length := ⟨_, rfl⟩
    generalize H_f_isCl : f_isCl = F_f_isCl
    generalize H_q_K : q_K = F_q_K
    generalize H_f_vlK : f_vlK = F_f_vlK
    generalize H_q_Kv : q_Kv = F_q_Kv
    generalize H_f_exc2 : f_exc2 = F_f_exc2
    generalize H_q_Kvl : q_Kvl = F_q_Kvl
    refine fnOk_ofI (T := tab) (B := [(71, c_K_b F_f_isCl F_q_K), (78, c_K_l F_f_vlK F_q_Kv), (79, c_Kl_l F_f_exc2 F_q_Kvl)]) (Bi := []) [2000003012, 2000003016, 2000003017, 0, 1, 2, 3, 4, 5, 6, 7] Try.func38 rfl rfl (by kernel_rfl) (Nat.le_of_ble_eq_true rfl) mixed tabOk (by subst H_f_isCl H_q_K H_f_vlK H_q_Kv H_f_exc2 H_q_Kvl; exact (bookCons s_spec_l07Is (bookCons s_spec_l12Valences (bookCons s_spec_l07Excess bookNil)))) (by subst H_f_isCl H_q_K H_f_vlK H_q_Kv H_f_exc2 H_q_Kvl; exact bookINil) (by kernel_rfl) ?_
    intro L lp rr hL hr hf hlp
    have Ec : F_f_isCl a0 a1 a2 = isCl P S Q := by rw [← H_f_isCl, hc0]
    have Ex : F_f_exc2 a0 a1 a2 a2 = vx := by rw [← H_f_exc2, f_exc2, hpl, hP, hS, hQ, unI_I, unI_I, unI_I, hvx]
    have Ev : F_f_vlK a0 a1 a2 = vv := by rw [← H_f_vlK, f_vlK, hpl, hP, hS, unI_I, unI_I, hvv]
    conv => cbv
    simp only [stdEqs hL, imp_self, true_and, and_true, bif_or, bif_and, Bool.or_eq_true, Bool.or_eq_false_iff, Bool.and_eq_true, Bool.and_eq_false_iff, decide_eq_true_eq, decide_eq_false_iff_not, Bool.not_eq_true', Bool.not_eq_false', beq_iff_eq, beq_eq_false_iff_ne, ne_eq, toNat0, toNat1, ok_int, toI_int, I_frzs, I_length, I_getD, ok_ints, toL_slc, g0, g1, g2, Ec, Ex, Ev]
    refine ⟨by rw [← H_q_K]; exact hq, fun h => ?_, fun h => ?_⟩
    · rw [hr, hf1 h]
    have hcl := isCl_iff.1 h
    have n24 := hcl.n24
    have hqv : q_Kv a0 a1 a2 := ⟨hq, by rw [hP, hS, hQ, unI_I, unI_I, unI_I]; exact hcl⟩
    refine ⟨by rw [← H_q_Kv]; exact hqv, by rw [← H_q_Kvl]; exact ⟨hqv, rfl⟩, ?_⟩
    refine hlp (List V × Int) _ _ _ [4, 5, 6, 7] (fun x => [(4, none, .val (.slc true 2 (.int .i64 0) vv)), (5, none, .val (.slc true 2 (.int .i64 0) vx)), (6, none, .val (.slc true 2 (.int .i64 0) x.1)), (7, none, .val (.int .i64 x.2))])
      (fun x => 0 ≤ x.2 ∧ x.2 ≤ n ∧ x.1 = I (ptsK gDea P S Q x.2.toNat)) (fun x => (n - x.2).toNat) (([], 0)) (by subst hL; rfl) ?_ ?_
    · exact ⟨by simp, by simp only; omega, rfl⟩
    rintro ⟨os, i⟩ ⟨i0, i1, hI⟩ hfx ag hag
    simp only at i0 i1 hI
    have hol : os.length ≤ 24 := by rw [hI, I_length]; have := ptsK_len gDea P S Q i.toNat; omega
    conv => cbv
    simp only [stdEqs hL, imp_self, true_and, and_true, bif_or, bif_and, Bool.or_eq_true, Bool.or_eq_false_iff, Bool.and_eq_true, Bool.and_eq_false_iff, decide_eq_true_eq, decide_eq_false_iff_not, Bool.not_eq_true', Bool.not_eq_false', beq_iff_eq, beq_eq_false_iff_ne, ne_eq, toNat0, toNat1, ok_int, toI_int, I_frzs, I_length, I_getD, ok_ints, toL_slc, hvvl, gvv, hvxl, gvx, ← hn]
    refine ⟨fun h2 => ?_, fun h2 => ?_⟩
    · have hin : i.toNat < P.length := by omega
      have hii : ((i.toNat : Nat) : Int) = i := by omega
      have hdec : (n - (i + 1)).toNat < (n - i).toNat := by omega
      simp only [tab_get _ _ _ _ hin]
      rw [wrap_id (n := i + 1) (by omega) (by omega)]
      refine ⟨i0, by omega, hin, fun _ => i0, fun _ => by omega, fun _ => hin, fun _ => trivial, fun ⟨h3, h4⟩ => ⟨rfl, by simp only [List.length_cons, List.length_nil]; omega, solid_one _, ?_⟩, fun h3 => ?_⟩
      · refine hag (_, i + 1) ⟨by simp only; omega, by simp only; omega, ?_⟩ hdec
        simp only [toNat_succ i0]
        rw [hI, ptsK_succ, if_pos (show gDea (vlK P S i.toNat) (exL P S Q i.toNat) = true by simp only [gDea, h3, h4]; rfl), hii]
        simp [I]
      · refine hag (os, i + 1) ⟨by simp only; omega, by simp only; omega, ?_⟩ hdec
        simp only [toNat_succ i0]
        rw [hI, ptsK_succ, if_neg (show ¬ gDea (vlK P S i.toNat) (exL P S Q i.toNat) = true by simp only [gDea, Bool.and_eq_true, decide_eq_true_eq]; omega), List.append_nil]
    · rw [hr, hf2 h, hI, show i.toNat = P.length by omega]
  · cases h
set_option maxRecDepth 100000 in
theorem s_laws_FnExactRupturesOf : Sat Try.prog 8 (c_lawk_K yesk_K q_lawk_K) := by
  intro args ps r h hp
  unfold c_lawk_K at h
  split at h
  · rename_i a0 a1 a2
    simp only [Option.some.injEq, Prod.mk.injEq] at h
    obtain ⟨rfl, rfl⟩ := h
    have hq : q_K a0 a1 a2 := (alls_cons.1 hp).1
    obtain ⟨hq0, hq1, hq2⟩ := id hq
    have g0 := hq0.frz
    have g1 := hq1.frz
    have g2 := hq2.frz
    generalize H_f_szK : f_szK = F_f_szK
    generalize H_q_szK : q_szK = F_q_szK
    generalize H_f_cpK : f_cpK = F_f_cpK
    generalize H_q_cpK : q_cpK = F_q_cpK
    generalize H_f_rup : f_rup = F_f_rup
    generalize H_q_K : q_K = F_q_K
    generalize H_f_eqK : f_eqK = F_f_eqK
    generalize H_q_eqK : q_eqK = F_q_eqK
    generalize H_f0_eqI : f0_eqI = F_f0_eqI
    generalize H_q_eqI : q_eqI = F_q_eqI
    generalize H_f0_held : f0_held = F_f0_held
    generalize H_q_mark : q_mark = F_q_mark
    generalize H_f0_mark : f0_mark = F_f0_mark
    generalize H_f1_mark : f1_mark = F_f1_mark
    generalize H_f0_markK : f0_markK = F_f0_markK
    generalize H_f1_markK : f1_markK = F_f1_markK
    generalize H_f2_markK : f2_markK = F_f2_markK
    generalize H_f3_markK : f3_markK = F_f3_markK
    generalize H_q_markK : q_markK = F_q_markK
    refine fnOk_ofI (T := tab) (B := [(29, c_Ki_i F_f_szK F_q_szK), (31, c_K_K F_f_cpK F_q_cpK), (40, c_K_li F_f_rup F_q_K), (41, c_K_li F_f_rup F_q_K), (26, c_KK_b F_f_eqK F_q_eqK), (19, c_laws_eqInt64S F_f0_eqI F_q_eqI), (23, c_heldInt64S F_f0_held F_q_mark)]) (Bi := [(22, 0, false, ic_markInt64S F_f0_mark F_f1_mark F_q_mark), (27, 0, false, ic_markK F_f0_markK F_f1_markK F_f2_markK F_f3_markK F_q_markK)]) [0, 1, 2, 3, 4, 5, 6, 7, 8, 9, 10, 11, 12, 13] Try.func8 rfl rfl (by kernel_rfl) (Nat.le_of_ble_eq_true rfl) mixed tabOk (by subst H_f_szK H_q_szK H_f_cpK H_q_cpK H_f_rup H_q_K H_f_eqK H_q_eqK H_f0_eqI H_q_eqI H_f0_held H_q_mark H_f0_mark H_f1_mark H_f0_markK H_f1_markK H_f2_markK H_f3_markK H_q_markK; exact (bookCons s_laws_szCluster (bookCons s_laws_toCluster (bookCons s_spec_RupturesOf (bookCons s_impl_RupturesOf (bookCons s_laws_eqCluster (bookCons s_laws_eqInt64S (bookCons s_laws_heldInt64S bookNil)))))))) (by subst H_f_szK H_q_szK H_f_cpK H_q_cpK H_f_rup H_q_K H_f_eqK H_q_eqK H_f0_eqI H_q_eqI H_f0_held H_q_mark H_f0_mark H_f1_mark H_f0_markK H_f1_markK H_f2_markK H_f3_markK H_q_markK; exact (bookICons s_laws_markInt64S (bookICons s_laws_markCluster bookINil))) (by kernel_rfl) ?_
    intro L lp rr hL hr hf hlp
    have hlen := hf.1
    conv => cbv
    simp only [stdEqs hL, g0, g1, g2]
    subst H_f_szK H_q_szK H_f_cpK H_q_cpK H_f_rup H_q_K H_f_eqK H_q_eqK H_f0_eqI H_q_eqI H_f0_held H_q_mark H_f0_mark H_f1_mark H_f0_markK H_f1_markK H_f2_markK H_f3_markK H_q_markK
    refine ⟨trivial, fun h => by rw [hr]; rfl, fun h => ?_⟩
    obtain ⟨hc, hb0, hb1, hb2⟩ := szK_ok hq0 hq1 hq2 hlen.1.1 hlen.2.1.1 hlen.2.2.1.1 h
    obtain ⟨P, hP⟩ := hq0
    obtain ⟨S, hS⟩ := hq1
    obtain ⟨Q, hQ⟩ := hq2
    rw [hP, I_length] at hb0
    rw [hS, I_length] at hb1
    rw [hQ, I_length] at hb2
    have e0 : f_cpK a0 a1 a2 = (I P, I S, I Q) := by rw [f_cpK, hP, hS, hQ]
    have kg := cluster_keys P S Q (by omega)
    have hqg : q_K (I P) (I S) (I Q) := ⟨⟨_, rfl⟩, ⟨_, rfl⟩, ⟨_, rfl⟩⟩
    have hqx := hqg

    obtain ⟨zs, code, ez, hzl⟩ : ∃ (zs : List Int) (code : Int), f_rup (I P) (I S) (I Q) = (I zs, code) ∧ zs.length ≤ 24 := by
      rw [f_rup, f_pts, unI_I, unI_I, unI_I]
      cases hh : isCl P S Q with
      | false => exact ⟨[], 1, rfl, by simp⟩
      | true => exact ⟨_, _, rfl, Nat.le_trans (ptsK_len _ _ _ _ _) (by rw [I_length]; exact (isCl_iff.1 hh).n24)⟩
    have ck := ints_keys zs (by omega)
    have hn1 : ∀ n : Nat, decide ((1 : Int) + n < 0) = false := fun n => by simp; omega
    have hn2 : ∀ n m : Nat, decide ((1 : Int) + n + m < 0) = false := fun n m => by simp; omega
    have hn3 : ∀ n m r : Nat, decide ((1 : Int) + n + m + r < 0) = false := fun n m r => by simp; omega
    simp only [e0, hc, kg, hqg, ez, ck, hn1, hn2, hn3, hr, yesk_K, I_frzs]
    simp
  · cases h
set_option maxRecDepth 100000 in
theorem s_laws_FnExactDeadEndsOf : Sat Try.prog 7 (c_lawk_K yesk_K q_lawk_K) := by
  intro args ps r h hp
  unfold c_lawk_K at h
  split at h
  · rename_i a0 a1 a2
    simp only [Option.some.injEq, Prod.mk.injEq] at h
    obtain ⟨rfl, rfl⟩ := h
    have hq : q_K a0 a1 a2 := (alls_cons.1 hp).1
    obtain ⟨hq0, hq1, hq2⟩ := id hq
    have g0 := hq0.frz
    have g1 := hq1.frz
    have g2 := hq2.frz
    generalize H_f_szK : f_szK = F_f_szK
    generalize H_q_szK : q_szK = F_q_szK
    generalize H_f_cpK : f_cpK = F_f_cpK
    generalize H_q_cpK : q_cpK = F_q_cpK
    generalize H_f_dea : f_dea = F_f_dea
    generalize H_q_K : q_K = F_q_K
    generalize H_f_eqK : f_eqK = F_f_eqK
    generalize H_q_eqK : q_eqK = F_q_eqK
    generalize H_f0_eqI : f0_eqI = F_f0_eqI
    generalize H_q_eqI : q_eqI = F_q_eqI
    generalize H_f0_held : f0_held = F_f0_held
    generalize H_q_mark : q_mark = F_q_mark
    generalize H_f0_mark : f0_mark = F_f0_mark
    generalize H_f1_mark : f1_mark = F_f1_mark
    generalize H_f0_markK : f0_markK = F_f0_markK
    generalize H_f1_markK : f1_markK = F_f1_markK
    generalize H_f2_markK : f2_markK = F_f2_markK
    generalize H_f3_markK : f3_markK = F_f3_markK
    generalize H_q_markK : q_markK = F_q_markK
    refine fnOk_ofI (T := tab) (B := [(29, c_Ki_i F_f_szK F_q_szK), (31, c_K_K F_f_cpK F_q_cpK), (38, c_K_li F_f_dea F_q_K), (39, c_K_li F_f_dea F_q_K), (26, c_KK_b F_f_eqK F_q_eqK), (19, c_laws_eqInt64S F_f0_eqI F_q_eqI), (23, c_heldInt64S F_f0_held F_q_mark)]) (Bi := [(22, 0, false, ic_markInt64S F_f0_mark F_f1_mark F_q_mark), (27, 0, false, ic_markK F_f0_markK F_f1_markK F_f2_markK F_f3_markK F_q_markK)]) [0, 1, 2, 3, 4, 5, 6, 7, 8, 9, 10, 11, 12, 13] Try.func7 rfl rfl (by kernel_rfl) (Nat.le_of_ble_eq_true rfl) mixed tabOk (by subst H_f_szK H_q_szK H_f_cpK H_q_cpK H_f_dea H_q_K H_f_eqK H_q_eqK H_f0_eqI H_q_eqI H_f0_held H_q_mark H_f0_mark H_f1_mark H_f0_markK H_f1_markK H_f2_markK H_f3_markK H_q_markK; exact (bookCons s_laws_szCluster (bookCons s_laws_toCluster (bookCons s_spec_DeadEndsOf (bookCons s_impl_DeadEndsOf (bookCons s_laws_eqCluster (bookCons s_laws_eqInt64S (bookCons s_laws_heldInt64S bookNil)))))))) (by subst H_f_szK H_q_szK H_f_cpK H_q_cpK H_f_dea H_q_K H_f_eqK H_q_eqK H_f0_eqI H_q_eqI H_f0_held H_q_mark H_f0_mark H_f1_mark H_f0_markK H_f1_markK H_f2_markK H_f3_markK H_q_markK; exact (bookICons s_laws_markInt64S (bookICons s_laws_markCluster bookINil))) (by kernel_rfl) ?_
    intro L lp rr hL hr hf hlp
    have hlen := hf.1
    conv => cbv
    simp only [stdEqs hL, g0, g1, g2]
    subst H_f_szK H_q_szK H_f_cpK H_q_cpK H_f_dea H_q_K H_f_eqK H_q_eqK H_f0_eqI H_q_eqI H_f0_held H_q_mark H_f0_mark H_f1_mark H_f0_markK H_f1_markK H_f2_markK H_f3_markK H_q_markK
    refine ⟨trivial, fun h => by rw [hr]; rfl, fun h => ?_⟩
    obtain ⟨hc, hb0, hb1, hb2⟩ := szK_ok hq0 hq1 hq2 hlen.1.1 hlen.2.1.1 hlen.2.2.1.1 h
    obtain ⟨P, hP⟩ := hq0
    obtain ⟨S, hS⟩ := hq1
    obtain ⟨Q, hQ⟩ := hq2
    rw [hP, I_length] at hb0
    rw [hS, I_length] at hb1
    rw [hQ, I_length] at hb2
    have e0 : f_cpK a0 a1 a2 = (I P, I S, I Q) := by rw [f_cpK, hP, hS, hQ]
    have kg := cluster_keys P S Q (by omega)
    have hqg : q_K (I P) (I S) (I Q) := ⟨⟨_, rfl⟩, ⟨_, rfl⟩, ⟨_, rfl⟩⟩
    have hqx := hqg

    obtain ⟨zs, code, ez, hzl⟩ : ∃ (zs : List Int) (code : Int), f_dea (I P) (I S) (I Q) = (I zs, code) ∧ zs.length ≤ 24 := by
      rw [f_dea, f_pts, unI_I, unI_I, unI_I]
      cases hh : isCl P S Q with
      | false => exact ⟨[], 1, rfl, by simp⟩
      | true => exact ⟨_, _, rfl, Nat.le_trans (ptsK_len _ _ _ _ _) (by rw [I_length]; exact (isCl_iff.1 hh).n24)⟩
    have ck := ints_keys zs (by omega)
    have hn1 : ∀ n : Nat, decide ((1 : Int) + n < 0) = false := fun n => by simp; omega
    have hn2 : ∀ n m : Nat, decide ((1 : Int) + n + m < 0) = false := fun n m => by simp; omega
    have hn3 : ∀ n m r : Nat, decide ((1 : Int) + n + m + r < 0) = false := fun n m r => by simp; omega
    simp only [e0, hc, kg, hqg, ez, ck, hn1, hn2, hn3, hr, yesk_K, I_frzs]
    simp
  · cases h
end Go.Ax
