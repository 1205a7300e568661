/-
  Vertices blown up: impl. No conditions but those of the contracts.
-/
import Derived.Test.YtkidnnlplpocdaaHk
import Derived.Test.YtkidnnlplpocdaaSp
import Derived.Test.YtkidnnlplpocdaaFp
set_option linter.all false
namespace Go.Ax
open Go.Proofs

def c_Gi_Gi (f : List V → List V → Int → List V × List V × Int) (q : List V → List V → Int → Prop) : Contract := fun
  | [.agg [.slc false 2 (.int .i64 0) a0, .slc false 27 (.slc false 2 (.int .i64 0) []) a1], .int .i64 a2] => some ([q a0 a1 a2], .tup [.agg [.slc true 2 (.int .i64 0) ((f a0 a1 a2).1), .slc true 27 (.slc true 2 (.int .i64 0) []) ((f a0 a1 a2).2.1)], .int .i64 ((f a0 a1 a2).2.2)])
  | _ => none
def buW (ws : List Int) (v : Nat) : List Int := ws.set v (W (ws.getD v 0 - 1)) ++ [-1]
def buE (n : Nat) (es : List (List Int)) (v : Nat) : List (List Int) := srtE (es ++ [[(v : Int), (n : Int)]])
def f_buv (a b : List V) (v : Int) : List V × List V × Int := bif decide (a.length = 40) || decide ((unI a).getD v.toNat 0 = -1000) then ([], [], 3) else (I (buW (unI a) v.toNat), II true (buE a.length (unII b) v.toNat), 0)
def q_buv (a b : List V) (v : Int) : Prop := IsI a ∧ IsIIs b ∧ a.length ≤ 1000 ∧ b.length ≤ 1000 ∧ 0 ≤ v ∧ v < a.length
set_option maxRecDepth 100000 in
theorem s_impl_blowUpVertex : Sat Try.prog 91 (c_Gi_Gi f_buv q_buv) := by
  intro args ps r h hp
  unfold c_Gi_Gi at h
  split at h
  · rename_i a0 a1 v
    simp only [Option.some.injEq, Prod.mk.injEq] at h
    obtain ⟨rfl, rfl⟩ := h
    obtain ⟨⟨ws, hws⟩, ⟨es, hes, hl1, hl2⟩, hwl1, hel1, v0, v1⟩ : q_buv a0 a1 v := (alls_cons.1 hp).1
    have g0 : V.frzs a0 = a0 := by rw [hws, I_frzs]
    have g1 : V.frzs a1 = a1 := by rw [hes, II_frzs]
    have hwl : a0.length = ws.length := by rw [hws, I_length]
    have hel : a1.length = es.length := by rw [hes, II_length]
    have gws : ∀ k, a0.getD k (.int .i64 0) = .int .i64 (ws.getD k 0) := fun k => by rw [hws, I_getD]
    have hc0 : f_cpG a0 a1 = (a0, II true es) := by rw [f_cpG, hes, unII_II]
    have hf1 : (ws.length = 40 ∨ ws.getD v.toNat 0 = -1000) → f_buv a0 a1 v = ([], [], 3) := fun h => by
      rw [f_buv, hwl, hws, unI_I]
      rcases h with h | h
      · rw [decide_eq_true h]; rfl
      · rw [decide_eq_true h, Bool.or_true]; rfl
    have hf2 : ¬ ws.length = 40 → ¬ ws.getD v.toNat 0 = -1000 → f_buv a0 a1 v = (I (buW ws v.toNat), II true (buE ws.length es v.toNat), 0) := fun h h2 => by
      rw [f_buv, hwl, hws, hes, unI_I, unII_II, decide_eq_false h, decide_eq_false h2]; rfl
    obtain ⟨n, hn⟩ : ∃ n : Int, n = ws.length := ⟨_, rfl⟩
    obtain ⟨ve, hve⟩ : ∃ ve, ve = II true es := ⟨_, rfl⟩
    have hvel : ve.length = es.length := by rw [hve, II_length]
    generalize H_f_cpG : f_cpG = F_f_cpG
    generalize H_q_cpG : q_cpG = F_q_cpG
    generalize H_f_srtE : f_srtE = F_f_srtE
    generalize H_q_srtE : q_srtE = F_q_srtE
    refine fnOk_ofI (T := tab) (B := [(148, c_G_G F_f_cpG F_q_cpG)]) (Bi := [(149, 0, true, ic_srtE F_f_srtE F_q_srtE)]) [0, 1, 2, 4, 5, 6] Try.func91 rfl rfl (by kernel_rfl) (Nat.le_of_ble_eq_true rfl) mixed tabOk (by subst H_f_cpG H_q_cpG H_f_srtE H_q_srtE; exact (bookCons s_impl_copyGraph bookNil)) (by subst H_f_cpG H_q_cpG H_f_srtE H_q_srtE; exact (bookMCons s_impl_sortedEdges bookINil)) (by kernel_rfl) ?_
    intro L lp rr hL hr hf hlp
    have Ec : F_f_cpG a0 a1 = (a0, ve) := by rw [← H_f_cpG, hc0, hve]
    conv => cbv
    simp only [stdEqs hL, imp_self, true_and, and_true, bif_or, bif_and, Bool.or_eq_true, Bool.or_eq_false_iff, Bool.and_eq_true, Bool.and_eq_false_iff, decide_eq_true_eq, decide_eq_false_iff_not, Bool.not_eq_true', Bool.not_eq_false', beq_iff_eq, beq_eq_false_iff_ne, ne_eq, toNat0, toNat1, ok_int, toI_int, I_frzs, I_length, I_getD, ok_ints, toL_slc, g0, g1, hwl, gws, Ec, ← hn]
    refine ⟨fun _ => v0, fun _ => by omega, fun _ => trivial, fun h => ?_, fun h => ?_⟩
    · rw [hr, hf1 (h.imp (fun h => by omega) id)]
    obtain ⟨h1, h2⟩ := h
    have hvn : v.toNat < ws.length := by omega
    refine ⟨by rw [← H_q_cpG]; exact ⟨⟨⟨_, hws⟩, by omega⟩, _, hes, hl1, hl2⟩, v0, by omega, hvn, v0, by omega, hvn, by simp only [List.length_cons, List.length_nil]; omega, ?_⟩
    have hee : ve ++ [V.slc true 2 (V.int .i64 0) [V.int .i64 v, V.int .i64 n]] = II true (es ++ [[((v.toNat : Nat) : Int), (ws.length : Int)]]) := by
      rw [hve, II_append, show ((v.toNat : Nat) : Int) = v by omega, ← hn]
      rfl
    have hse : F_f_srtE (II true (es ++ [[((v.toNat : Nat) : Int), (ws.length : Int)]])) = II true (buE ws.length es v.toNat) := by rw [← H_f_srtE, f_srtE, unII_II, buE]
    rw [hee, hse]
    refine ⟨solid1 (by simp [V.solid, V.solids]), ?_, rfl, by rw [List.length_set]; simp only [List.length_cons, List.length_nil]; omega, solid_one _, ?_⟩
    · rw [← H_q_srtE]
      refine ⟨_, rfl, ?_, ?_⟩
      · rw [List.length_append]; simp
      · rw [List.length_append]; simp only [List.length_cons, List.length_nil]; omega
    · have hw : a0.set v.toNat (V.int .i64 (IntKind.wrap .i64 (ws.getD v.toNat 0 - 1))) ++ [V.int .i64 (-1)] = I (buW ws v.toNat) := by
        rw [hws, I_set, buW]
        simp [I]
      rw [hr, hf2 (by omega) h2, hw]
  · cases h
def c_Gi_b (f : List V → List V → Int → Bool) (q : List V → List V → Int → Prop) : Contract := fun
  | [.agg [.slc false 2 (.int .i64 0) a0, .slc false 27 (.slc false 2 (.int .i64 0) []) a1], .int .i64 a2] => some ([q a0 a1 a2], .bool (f a0 a1 a2))
  | _ => none
def f_isV (a _ : List V) (v : Int) : Bool := decide (0 ≤ v) && decide (v ≤ (a.length : Int) - 1)
def q_isV (a b : List V) (_ : Int) : Prop := IsI a ∧ IsII false b ∧ a.length ≤ 1000
set_option maxRecDepth 100000 in
theorem s_impl_isVertex : Sat Try.prog 109 (c_Gi_b f_isV q_isV) := by
  intro args ps r h hp
  unfold c_Gi_b at h
  split at h
  · rename_i a0 a1 v
    simp only [Option.some.injEq, Prod.mk.injEq] at h
    obtain ⟨rfl, rfl⟩ := h
    obtain ⟨h0, h1, h2⟩ : q_isV a0 a1 v := (alls_cons.1 hp).1
    have g0 := h0.frz
    have g1 := frzs_II h1
    generalize H_inRange : inRange = F_inRange
    refine fnOk_ofI (T := tab) (B := [(99, c_impl_inRange F_inRange)]) (Bi := []) [0, 1, 2, 4] Try.func109 rfl rfl (by kernel_rfl) (Nat.le_of_ble_eq_true rfl) mixed tabOk (by subst H_inRange; exact (bookCons s_impl_inRange bookNil)) (by subst H_inRange; exact bookINil) (by kernel_rfl) ?_
    intro L lp rr hL hr hf hlp
    have Er : ∀ x y z, F_inRange x y z = inRange x y z := fun x y z => by rw [← H_inRange]
    conv => cbv
    simp only [stdEqs hL, g0, g1, Er]
    rw [wrap_id (by omega) (by omega), hr]
    rfl
  · cases h
set_option maxRecDepth 100000 in
theorem s_spec_l11Vertex : Sat Try.prog 106 (c_Gi_b f_isV q_isV) := by
  intro args ps r h hp
  unfold c_Gi_b at h
  split at h
  · rename_i a0 a1 v
    simp only [Option.some.injEq, Prod.mk.injEq] at h
    obtain ⟨rfl, rfl⟩ := h
    obtain ⟨h0, h1, h2⟩ : q_isV a0 a1 v := (alls_cons.1 hp).1
    have g0 := h0.frz
    have g1 := frzs_II h1
    generalize H_inRange : inRange = F_inRange
    refine fnOk_ofI (T := tab) (B := [(88, c_impl_inRange F_inRange)]) (Bi := []) [0, 1, 2, 4] Try.func106 rfl rfl (by kernel_rfl) (Nat.le_of_ble_eq_true rfl) mixed tabOk (by subst H_inRange; exact (bookCons s_spec_l01In bookNil)) (by subst H_inRange; exact bookINil) (by kernel_rfl) ?_
    intro L lp rr hL hr hf hlp
    have Er : ∀ x y z, F_inRange x y z = inRange x y z := fun x y z => by rw [← H_inRange]
    conv => cbv
    simp only [stdEqs hL, g0, g1, Er]
    rw [wrap_id (by omega) (by omega), hr]
    rfl
  · cases h
def f_BU (a b : List V) (v : Int) : List V × List V × Int := bif isGr (unI a) (unII b) then (bif f_isV a b v then f_buv a b v else ([], [], 2)) else ([], [], 1)
def q_Gi9 (a b : List V) (_ : Int) : Prop := q_G a b
theorem q_buv_of {a b : List V} {v : Int} (hq : q_G a b) (h : f_isGr a b = true) (h2 : f_isV a b v = true) : q_buv a b v := by
  obtain ⟨⟨ws, hws⟩, es, hes⟩ := hq
  rw [f_isGr, hws, hes, unI_I, unII_II] at h
  have g := gr_of h
  have hwl : a.length = ws.length := by rw [hws, I_length]
  have hel : b.length = es.length := by rw [hes, II_length]
  have n2 := g.n2
  have n3 := g.el
  simp only [f_isV, Bool.and_eq_true, decide_eq_true_eq] at h2
  exact ⟨⟨ws, hws⟩, ⟨es, hes, by omega, fun e he => by rw [(g.ed e he).1]; decide⟩, by omega, by omega, h2.1, by omega⟩
theorem q_isV_of {a b : List V} (hq : q_G a b) (h : f_isGr a b = true) (v : Int) : q_isV a b v := by
  obtain ⟨⟨ws, hws⟩, es, hes⟩ := hq
  rw [f_isGr, hws, hes, unI_I, unII_II] at h
  exact ⟨⟨ws, hws⟩, ⟨es, hes⟩, by rw [hws, I_length]; have := (gr_of h).n2; omega⟩
set_option maxRecDepth 100000 in
theorem s_impl_BlowUpVertex : Sat Try.prog 57 (c_Gi_Gi f_BU q_Gi9) := by
  intro args ps r h hp
  unfold c_Gi_Gi at h
  split at h
  · rename_i a0 a1 v
    simp only [Option.some.injEq, Prod.mk.injEq] at h
    obtain ⟨rfl, rfl⟩ := h
    have hq : q_G a0 a1 := (alls_cons.1 hp).1
    have g0 := hq.1.frz
    have g1 := frzs_II hq.2
    have hf0 : f_BU a0 a1 v = bif f_isGr a0 a1 then (bif f_isV a0 a1 v then f_buv a0 a1 v else ([], [], 2)) else ([], [], 1) := rfl
    generalize H_f_isGr : f_isGr = F_f_isGr
    generalize H_q_G : q_G = F_q_G
    generalize H_f_isV : f_isV = F_f_isV
    generalize H_q_isV : q_isV = F_q_isV
    generalize H_f_buv : f_buv = F_f_buv
    generalize H_q_buv : q_buv = F_q_buv
    refine fnOk_ofI (T := tab) (B := [(108, c_G_b F_f_isGr F_q_G), (109, c_Gi_b F_f_isV F_q_isV), (91, c_Gi_Gi F_f_buv F_q_buv)]) (Bi := []) [0, 1, 2, 4, 5] Try.func57 rfl rfl (by kernel_rfl) (Nat.le_of_ble_eq_true rfl) mixed tabOk (by subst H_f_isGr H_q_G H_f_isV H_q_isV H_f_buv H_q_buv; exact (bookCons s_impl_IsGraph (bookCons s_impl_isVertex (bookCons s_impl_blowUpVertex bookNil)))) (by subst H_f_isGr H_q_G H_f_isV H_q_isV H_f_buv H_q_buv; exact bookINil) (by kernel_rfl) ?_
    intro L lp rr hL hr hf hlp
    conv => cbv
    simp only [stdEqs hL, imp_self, true_and, and_true, bif_or, bif_and, Bool.or_eq_true, Bool.or_eq_false_iff, Bool.and_eq_true, Bool.and_eq_false_iff, decide_eq_true_eq, decide_eq_false_iff_not, Bool.not_eq_true', Bool.not_eq_false', beq_iff_eq, beq_eq_false_iff_ne, ne_eq, toNat0, toNat1, ok_int, toI_int, I_frzs, I_length, I_getD, ok_ints, toL_slc, g0, g1]
    subst H_f_isGr H_q_G H_f_isV H_q_isV H_f_buv H_q_buv
    refine ⟨hq, fun h => ?_, fun h => ⟨q_isV_of hq h v, fun h2 => ?_, fun h2 => ⟨q_buv_of hq h h2, ?_⟩⟩⟩
    · rw [hr, hf0, h]; rfl
    · rw [hr, hf0, h, h2]; rfl
    · rw [hr, hf0, h, h2]; rfl
  · cases h
end Go.Ax
