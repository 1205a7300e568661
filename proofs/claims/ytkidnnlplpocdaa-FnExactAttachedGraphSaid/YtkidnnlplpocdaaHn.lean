/-
  Vertices blown up: spec; BlowUpVertex: the law. No conditions but those of the contracts.
-/
import Derived.Test.YtkidnnlplpocdaaHm
import Derived.Test.YtkidnnlplpocdaaHf
set_option linter.all false
namespace Go.Ax
open Go.Proofs

def c_Gi_H (f : List V → List V → Int → List V × List V) (q : List V → List V → Int → Prop) : Contract := fun
  | [.agg [.slc false 2 (.int .i64 0) a0, .slc false 27 (.slc false 2 (.int .i64 0) []) a1], .int .i64 a2] => some ([q a0 a1 a2], .agg [.slc true 2 (.int .i64 0) ((f a0 a1 a2).1), .slc true 27 (.slc false 2 (.int .i64 0) []) ((f a0 a1 a2).2)])
  | _ => none
def c_Gi_Xi (f : List V → List V → Int → List V × List V × Int) (q : List V → List V → Int → Prop) : Contract := fun
  | [.agg [.slc false 2 (.int .i64 0) a0, .slc false 27 (.slc false 2 (.int .i64 0) []) a1], .int .i64 a2] => some ([q a0 a1 a2], .tup [.agg [.slc false 2 (.int .i64 0) ((f a0 a1 a2).1), .slc false 27 (.slc false 2 (.int .i64 0) []) ((f a0 a1 a2).2.1)], .int .i64 ((f a0 a1 a2).2.2)])
  | _ => none
def f_bvs (a b : List V) (v : Int) : List V × List V := (I (buW (unI a) v.toNat), II false (buE a.length (unII b) v.toNat))
set_option maxRecDepth 100000 in
theorem s_spec_l11BlowVertex : Sat Try.prog 89 (c_Gi_H f_bvs q_buv) := by
  intro args ps r h hp
  unfold c_Gi_H at h
  split at h
  · rename_i a0 a1 v
    simp only [Option.some.injEq, Prod.mk.injEq] at h
    obtain ⟨rfl, rfl⟩ := h
    obtain ⟨⟨ws, hws⟩, ⟨es, hes, hl1, hl2⟩, hwl1, hel1, v0, v1⟩ : q_buv a0 a1 v := (alls_cons.1 hp).1
    have g0 : V.frzs a0 = a0 := by rw [hws, I_frzs]
    have g1 : V.frzs a1 = a1 := by rw [hes, II_frzs]
    have hwl : a0.length = ws.length := by rw [hws, I_length]
    have hel : a1.length = es.length := by rw [hes, II_length]
    have gws : ∀ k, a0.getD k (.int .i64 0) = .int .i64 (ws.getD k 0) := fun k => by rw [hws, I_getD]
    have hc0 : f_cpG a0 a1 = (a0, II true es) := by rw [f_cpG, hes, unII_II]
    have hf0 : f_bvs a0 a1 v = (I (buW ws v.toNat), II false (buE ws.length es v.toNat)) := by rw [f_bvs, hwl, hws, hes, unI_I, unII_II]
    obtain ⟨n, hn⟩ : ∃ n : Int, n = ws.length := ⟨_, rfl⟩
    obtain ⟨ve, hve⟩ : ∃ ve, ve = II true es := ⟨_, rfl⟩
    have hvel : ve.length = es.length := by rw [hve, II_length]
    generalize H_f_cpG : f_cpG = F_f_cpG
    generalize H_q_cpG : q_cpG = F_q_cpG
    generalize H_f_srtF : f_srtF = F_f_srtF
    generalize H_q_srtE : q_srtE = F_q_srtE
    refine fnOk_ofI (T := tab) (B := [(146, c_G_G F_f_cpG F_q_cpG)]) (Bi := [(147, 0, true, ic_srtF F_f_srtF F_q_srtE)]) [0, 1, 2, 4, 5, 6] Try.func89 rfl rfl (by kernel_rfl) (Nat.le_of_ble_eq_true rfl) mixed tabOk (by subst H_f_cpG H_q_cpG H_f_srtF H_q_srtE; exact (bookCons s_spec_l11Own bookNil)) (by subst H_f_cpG H_q_cpG H_f_srtF H_q_srtE; exact (bookMCons s_spec_l11Sorted bookINil)) (by kernel_rfl) ?_
    intro L lp rr hL hr hf hlp
    have Ec : F_f_cpG a0 a1 = (a0, ve) := by rw [← H_f_cpG, hc0, hve]
    conv => cbv
    simp only [stdEqs hL, imp_self, true_and, and_true, bif_or, bif_and, Bool.or_eq_true, Bool.or_eq_false_iff, Bool.and_eq_true, Bool.and_eq_false_iff, decide_eq_true_eq, decide_eq_false_iff_not, Bool.not_eq_true', Bool.not_eq_false', beq_iff_eq, beq_eq_false_iff_ne, ne_eq, toNat0, toNat1, ok_int, toI_int, I_frzs, I_length, I_getD, ok_ints, toL_slc, g0, g1, hwl, gws, Ec, ← hn]
    have hvn : v.toNat < ws.length := by omega
    have hee : ve ++ [V.slc true 2 (V.int .i64 0) [V.int .i64 v, V.int .i64 n]] = II true (es ++ [[((v.toNat : Nat) : Int), (ws.length : Int)]]) := by
      rw [hve, II_append, show ((v.toNat : Nat) : Int) = v by omega, ← hn]
      rfl
    have hse : F_f_srtF (II true (es ++ [[((v.toNat : Nat) : Int), (ws.length : Int)]])) = II false (buE ws.length es v.toNat) := by rw [← H_f_srtF, f_srtF, unII_II, buE]
    rw [hee, hse]
    refine ⟨by rw [← H_q_cpG]; exact ⟨⟨⟨_, hws⟩, by omega⟩, _, hes, hl1, hl2⟩, v0, by omega, hvn, v0, by omega, hvn, rfl, by rw [List.length_set]; simp only [List.length_cons, List.length_nil]; omega, solid_one _, by simp only [List.length_cons, List.length_nil]; omega, solid1 (by simp [V.solid, V.solids]), ?_, ?_⟩
    · rw [← H_q_srtE]
      refine ⟨_, rfl, ?_, ?_⟩
      · rw [List.length_append]; simp
      · rw [List.length_append]; simp only [List.length_cons, List.length_nil]; omega
    · have hw : a0.set v.toNat (V.int .i64 (IntKind.wrap .i64 (ws.getD v.toNat 0 - 1))) ++ [V.int .i64 (-1)] = I (buW ws v.toNat) := by
        rw [hws, I_set, buW]
        simp [I]
      rw [hr, hf0, hw]
  · cases h
def f_full (a _ l : List V) : Bool := ((unI l).any fun v => decide ((unI a).getD v.toNat 0 = -1000)) || decide (a.length = 40)
def q_full (a b l : List V) : Prop := IsI a ∧ IsII false b ∧ a.length ≤ 1000 ∧ ∃ ls, l = I ls ∧ ls.length ≤ 1000 ∧ ∀ i, i < ls.length → 0 ≤ ls.getD i 0 ∧ ls.getD i 0 < a.length
def c_Gl_b8 (f : List V → List V → List V → Bool) (q : List V → List V → List V → Prop) : Contract := fun
  | [.agg [.slc false 2 (.int .i64 0) a0, .slc false 27 (.slc false 2 (.int .i64 0) []) a1], .slc false 2 (.int .i64 0) a2] => some ([q a0 a1 a2], .bool (f a0 a1 a2))
  | _ => none
set_option maxRecDepth 100000 in
theorem s_spec_l11Full : Sat Try.prog 118 (c_Gl_b8 f_full q_full) := by
  intro args ps r h hp
  unfold c_Gl_b8 at h
  split at h
  · rename_i a0 a1 a2
    simp only [Option.some.injEq, Prod.mk.injEq] at h
    obtain ⟨rfl, rfl⟩ := h
    obtain ⟨⟨ws, hws⟩, hq1, hwl1, ls, hls, hll1, hlin⟩ : q_full a0 a1 a2 := (alls_cons.1 hp).1
    have g0 : V.frzs a0 = a0 := by rw [hws, I_frzs]
    have g1 := frzs_II hq1
    have g2 : V.frzs a2 = a2 := by rw [hls, I_frzs]
    have hwl : a0.length = ws.length := by rw [hws, I_length]
    have hll : a2.length = ls.length := by rw [hls, I_length]
    have gws : ∀ k, a0.getD k (.int .i64 0) = .int .i64 (ws.getD k 0) := fun k => by rw [hws, I_getD]
    have gls : ∀ k, a2.getD k (.int .i64 0) = .int .i64 (ls.getD k 0) := fun k => by rw [hls, I_getD]
    have hf0 : f_full a0 a1 a2 = ((ls.any fun v => decide (ws.getD v.toNat 0 = -1000)) || decide (ws.length = 40)) := by rw [f_full, hwl, hws, hls, unI_I, unI_I]
    rw [hwl] at hlin
    obtain ⟨n, hn⟩ : ∃ n : Int, n = ls.length := ⟨_, rfl⟩
    obtain ⟨m, hm⟩ : ∃ m : Int, m = ws.length := ⟨_, rfl⟩
    refine fnOk_ofI (T := tab) (B := []) (Bi := []) [0, 1, 2, 4, 5] Try.func118 rfl rfl (by kernel_rfl) (Nat.le_of_ble_eq_true rfl) mixed tabOk (by exact bookNil) (by exact bookINil) (by kernel_rfl) ?_
    intro L lp rr hL hr hf hlp
    conv => cbv
    refine hlp (Int) _ _ _ [1, 2, 5] (fun x => [(1, none, .val (.slc false 2 (.int .i64 0) a2)), (2, none, .val (.box 48 (.agg [.slc false 2 (.int .i64 0) a0, .slc false 27 (.slc false 2 (.int .i64 0) []) a1]))), (5, none, .val (.int .i64 x))])
      (fun x => 0 ≤ x ∧ x ≤ n ∧ ∀ t, t < x.toNat → ¬ ws.getD (ls.getD t 0).toNat 0 = -1000) (fun x => (n - x).toNat) (0) (by subst hL; rfl) ?_ ?_
    · exact ⟨by omega, by omega, fun t ht => by simp at ht⟩
    intro i ⟨i0, i1, hI⟩ hfx ag hag
    conv => cbv
    simp only [stdEqs hL, imp_self, true_and, and_true, bif_or, bif_and, Bool.or_eq_true, Bool.or_eq_false_iff, Bool.and_eq_true, Bool.and_eq_false_iff, decide_eq_true_eq, decide_eq_false_iff_not, Bool.not_eq_true', Bool.not_eq_false', beq_iff_eq, beq_eq_false_iff_ne, ne_eq, toNat0, toNat1, ok_int, toI_int, I_frzs, I_length, I_getD, ok_ints, toL_slc, g0, g1, g2, hwl, hll, gws, gls, ← hn, ← hm]
    refine ⟨fun h2 => ?_, fun h2 => ?_⟩
    · have hin : i.toNat < ls.length := by omega
      obtain ⟨hb1, hb2⟩ := hlin _ hin
      refine ⟨i0, h2, hb1, by omega, fun h3 => ?_, fun h3 => ?_⟩
      · have ha : (ls.any fun v => decide (ws.getD v.toNat 0 = -1000)) = true := by
          rw [List.any_eq_true]
          refine ⟨ls.getD i.toNat 0, ?_, decide_eq_true h3⟩
          rw [List.getD_eq_getElem?_getD, List.getElem?_eq_getElem hin]
          exact List.getElem_mem _
        rw [hr, hf0, ha]; rfl
      · rw [wrap_id (n := i + 1) (by omega) (by omega)]
        refine hag (i + 1) ⟨by omega, by omega, fun t ht => ?_⟩ (by omega)
        rw [toNat_succ i0] at ht
        by_cases e : t = i.toNat
        · rw [e]; exact h3
        · exact hI t (by omega)
    · have ha : (ls.any fun v => decide (ws.getD v.toNat 0 = -1000)) = false := by
        rw [List.any_eq_false]
        intro x hx
        obtain ⟨t, ht, rfl⟩ := List.mem_iff_getElem.1 hx
        have h3 := hI t (by omega)
        rw [List.getD_eq_getElem?_getD (l := ls), List.getElem?_eq_getElem ht] at h3
        simpa using h3
      have e : (m == 40) = decide (ws.length = 40) := by
        rw [Bool.eq_iff_iff]; simp only [beq_iff_eq, decide_eq_true_eq]; omega
      rw [hr, hf0, ha, Bool.false_or, e]
  · cases h
theorem full_one {a b : List V} {v : Int} : f_full a b (I [v]) = (decide ((unI a).getD v.toNat 0 = -1000) || decide (a.length = 40)) := by rw [f_full, unI_I]; simp
theorem buv_eq {a b : List V} {v : Int} : f_buv a b v = bif f_full a b (I [v]) then ([], [], 3) else (I (buW (unI a) v.toNat), II true (buE a.length (unII b) v.toNat), 0) := by
  rw [full_one, f_buv, Bool.or_comm]
def f_BUs (a b : List V) (v : Int) : List V × List V × Int := bif isGr (unI a) (unII b) then (bif f_isV a b v then (bif f_full a b (I [v]) then ([], [], 3) else (I (buW (unI a) v.toNat), II false (buE a.length (unII b) v.toNat), 0)) else ([], [], 2)) else ([], [], 1)
set_option maxRecDepth 100000 in
theorem s_spec_BlowUpVertex : Sat Try.prog 56 (c_Gi_Xi f_BUs q_Gi9) := by
  intro args ps r h hp
  unfold c_Gi_Xi at h
  split at h
  · rename_i a0 a1 v
    simp only [Option.some.injEq, Prod.mk.injEq] at h
    obtain ⟨rfl, rfl⟩ := h
    have hq : q_G a0 a1 := (alls_cons.1 hp).1
    have g0 := hq.1.frz
    have g1 := frzs_II hq.2
    have hf0 : f_BUs a0 a1 v = bif f_isGr a0 a1 then (bif f_isV a0 a1 v then (bif f_full a0 a1 (I [v]) then ([], [], 3) else (I (buW (unI a0) v.toNat), II false (buE a0.length (unII a1) v.toNat), 0)) else ([], [], 2)) else ([], [], 1) := rfl
    have hqf : f_isGr a0 a1 = true → f_isV a0 a1 v = true → q_full a0 a1 (I [v]) := fun h h2 => by
      obtain ⟨k1, k2, k3, k4, k5, k6⟩ := q_buv_of hq h h2
      refine ⟨k1, hq.2, k3, [v], rfl, by simp, fun i hi => ?_⟩
      have : i = 0 := by simp at hi; omega
      subst this
      exact ⟨k5, k6⟩
    generalize H_f_isGr : f_isGr = F_f_isGr
    generalize H_q_G : q_G = F_q_G
    generalize H_f_isV : f_isV = F_f_isV
    generalize H_q_isV : q_isV = F_q_isV
    generalize H_f_full : f_full = F_f_full
    generalize H_q_full : q_full = F_q_full
    generalize H_f_bvs : f_bvs = F_f_bvs
    generalize H_q_buv : q_buv = F_q_buv
    refine fnOk_ofF (T := tab) (B := [(83, c_G_b F_f_isGr F_q_G), (106, c_Gi_b F_f_isV F_q_isV), (118, c_Gl_b8 F_f_full F_q_full), (89, c_Gi_H F_f_bvs F_q_buv)]) (Bi := []) [0, 1, 2, 4, 5] Try.func56 rfl rfl (by kernel_rfl) (Nat.le_of_ble_eq_true rfl) mixed tabOk (by subst H_f_isGr H_q_G H_f_isV H_q_isV H_f_full H_q_full H_f_bvs H_q_buv; exact (bookCons s_spec_l11Is (bookCons s_spec_l11Vertex (bookCons s_spec_l11Full (bookCons s_spec_l11BlowVertex bookNil))))) (by subst H_f_isGr H_q_G H_f_isV H_q_isV H_f_full H_q_full H_f_bvs H_q_buv; exact bookINil) (by kernel_rfl) ?_
    intro L lp rr hL hr hf hlp
    conv => cbv
    simp only [stdEqs hL, imp_self, true_and, and_true, bif_or, bif_and, Bool.or_eq_true, Bool.or_eq_false_iff, Bool.and_eq_true, Bool.and_eq_false_iff, decide_eq_true_eq, decide_eq_false_iff_not, Bool.not_eq_true', Bool.not_eq_false', beq_iff_eq, beq_eq_false_iff_ne, ne_eq, toNat0, toNat1, ok_int, toI_int, I_frzs, I_length, I_getD, ok_ints, toL_slc, g0, g1]
    subst H_f_isGr H_q_G H_f_isV H_q_isV H_f_full H_q_full H_f_bvs H_q_buv
    have hI1 : [V.int .i64 v] = I [v] := rfl
    rw [hI1, I_frzs]
    refine ⟨hq, fun h => ?_, fun h => ⟨q_isV_of hq h v, fun h2 => ?_, fun h2 => ⟨hqf h h2, fun h3 => ?_, fun h3 => ⟨q_buv_of hq h h2, ?_⟩⟩⟩⟩
    · rw [hr, hf0, h]; rfl
    · rw [hr, hf0, h, h2]; rfl
    · rw [hr, hf0, h, h2, h3]; rfl
    · rw [hr, hf0, h, h2, h3]
      simp only [f_bvs, I_frzs, II_frzs]
      rfl
  · cases h
end Go.Ax
