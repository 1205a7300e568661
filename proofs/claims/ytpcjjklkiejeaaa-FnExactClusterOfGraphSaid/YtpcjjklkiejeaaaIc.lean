/-
  ContractionOf, IsSmoothGraph: both sides, the laws. No conditions but those of the contracts.
-/
import Derived.Test.YtpcjjklkiejeaaaIa
import Derived.Test.YtpcjjklkiejeaaaIb
import Derived.Test.YtpcjjklkiejeaaaIq
set_option linter.all false
namespace Go.Ax
open Go.Proofs

theorem q_ctr_of {a b : List V} (hq : q_G a b) (h : f_isGr a b = true) : q_ctr a b := by
  obtain ⟨⟨ws, hws⟩, es, hes⟩ := hq
  rw [f_isGr, hws, hes, unI_I, unII_II] at h
  have g := gr_of h
  exact ⟨ws, es, hws, hes, g.toN, Sep_of g.n1 g.ed g.acyc⟩
def f_coi (a b : List V) : List V × Int := bif f_isGr a b then ((f_ctr a b).1, (f_ctr a b).2.2.2.2.2) else ([], 1)
set_option maxRecDepth 100000 in
theorem s_impl_ContractionOf : Sat Try.prog 9 (c_G_li f_coi q_G) := by
  intro args ps r h hp
  unfold c_G_li at h
  split at h
  · rename_i a0 a1
    simp only [Option.some.injEq, Prod.mk.injEq] at h
    obtain ⟨rfl, rfl⟩ := h
    have hq : q_G a0 a1 := (alls_cons.1 hp).1
    have g0 := hq.1.frz
    have g1 := frzs_II hq.2
    generalize H_f_isGr : f_isGr = F_f_isGr
    generalize H_q_G : q_G = F_q_G
    generalize H_f_ctr : f_ctr = F_f_ctr
    generalize H_q_ctr : q_ctr = F_q_ctr
    refine fnOk_ofI (T := tab) (B := [(28, c_G_b F_f_isGr F_q_G), (29, c_G_Ni F_f_ctr F_q_ctr)]) (Bi := []) [0, 1, 2, 3, 4, 5] Try.func9 rfl rfl (by kernel_rfl) (Nat.le_of_ble_eq_true rfl) mixed tabOk (by subst H_f_isGr H_q_G H_f_ctr H_q_ctr; exact (bookCons s_impl_IsGraph (bookCons s_impl_contract bookNil))) (by subst H_f_isGr H_q_G H_f_ctr H_q_ctr; exact bookINil) (by kernel_rfl) ?_
    intro L lp rr hL hr hf hlp
    conv => cbv
    simp only [stdEqs hL, imp_self, true_and, and_true, bif_or, bif_and, Bool.or_eq_true, Bool.or_eq_false_iff, Bool.and_eq_true, Bool.and_eq_false_iff, decide_eq_true_eq, decide_eq_false_iff_not, Bool.not_eq_true', Bool.not_eq_false', beq_iff_eq, beq_eq_false_iff_ne, ne_eq, toNat0, toNat1, ok_int, toI_int, I_frzs, I_length, I_getD, ok_ints, toL_slc, g0, g1]
    subst H_f_isGr H_q_G H_f_ctr H_q_ctr
    exact ⟨hq, fun h => by rw [hr, f_coi, h]; rfl, fun h => ⟨q_ctr_of hq h, by rw [hr, f_coi, h]; rfl⟩⟩
  · cases h
def f_cos (a b : List V) : List V × Int := bif f_isGr a b then (bif (f_ctrs a b).2.2.2.2.2 then ((f_ctrs a b).1, 0) else ([], 3)) else ([], 1)
def c_G_Li (f : List V → List V → List V × Int) (q : List V → List V → Prop) : Contract := fun
  | [.agg [.slc false 2 (.int .i64 0) a0, .slc false 22 (.slc false 2 (.int .i64 0) []) a1]] => some ([q a0 a1], .tup [.slc false 2 (.int .i64 0) ((f a0 a1).1), .int .i64 ((f a0 a1).2)])
  | _ => none
set_option maxRecDepth 100000 in
theorem s_spec_ContractionOf : Sat Try.prog 7 (c_G_Li f_cos q_G) := by
  intro args ps r h hp
  unfold c_G_Li at h
  split at h
  · rename_i a0 a1
    simp only [Option.some.injEq, Prod.mk.injEq] at h
    obtain ⟨rfl, rfl⟩ := h
    have hq : q_G a0 a1 := (alls_cons.1 hp).1
    have g0 := hq.1.frz
    have g1 := frzs_II hq.2
    generalize H_f_isGr : f_isGr = F_f_isGr
    generalize H_q_G : q_G = F_q_G
    generalize H_f_ctrs : f_ctrs = F_f_ctrs
    generalize H_q_ctr : q_ctr = F_q_ctr
    refine fnOk_ofF (T := tab) (B := [(24, c_G_b F_f_isGr F_q_G), (25, c_G_Ctn F_f_ctrs F_q_ctr)]) (Bi := []) [0, 1, 2, 3, 4, 8] Try.func7 rfl rfl (by kernel_rfl) (Nat.le_of_ble_eq_true rfl) mixed tabOk (by subst H_f_isGr H_q_G H_f_ctrs H_q_ctr; exact (bookCons s_spec_l11Is (bookCons s_spec_l12Contraction bookNil))) (by subst H_f_isGr H_q_G H_f_ctrs H_q_ctr; exact bookINil) (by kernel_rfl) ?_
    intro L lp rr hL hr hf hlp
    conv => cbv
    simp only [stdEqs hL, imp_self, true_and, and_true, bif_or, bif_and, Bool.or_eq_true, Bool.or_eq_false_iff, Bool.and_eq_true, Bool.and_eq_false_iff, decide_eq_true_eq, decide_eq_false_iff_not, Bool.not_eq_true', Bool.not_eq_false', beq_iff_eq, beq_eq_false_iff_ne, ne_eq, toNat0, toNat1, ok_int, toI_int, I_frzs, I_length, I_getD, ok_ints, toL_slc, g0, g1]
    subst H_f_isGr H_q_G H_f_ctrs H_q_ctr
    have hz : V.frzs (f_ctrs a0 a1).1 = (f_ctrs a0 a1).1 := by
      rw [f_ctrs]
      split
      · exact I_frzs _
      · rfl
    obtain ⟨z1, z2, z3, z4, z5, ok, he⟩ : ∃ z1 z2 z3 z4 z5 ok, f_ctrs a0 a1 = (z1, z2, z3, z4, z5, ok) := ⟨_, _, _, _, _, _, rfl⟩
    have hf0 : f_cos a0 a1 = bif f_isGr a0 a1 then (bif ok then (z1, 0) else ([], 3)) else ([], 1) := by rw [f_cos, he]
    simp only [he] at hz
    simp only [he, hz]
    exact ⟨hq, fun h => by rw [hr, hf0, h]; rfl, fun h => ⟨q_ctr_of hq h, fun h2 => by rw [hr, hf0, h, h2]; rfl, fun h2 => by rw [hr, hf0, h, h2]; rfl⟩⟩
  · cases h
def f_conn (a b : List V) : Bool := decide ((b.length : Int) = (a.length : Int) - 1)
def q_conn (a b : List V) : Prop := IsI a ∧ IsII false b ∧ a.length ≤ 1000 ∧ b.length ≤ 1000
set_option maxRecDepth 100000 in
theorem s_impl_isConnected : Sat Try.prog 34 (c_G_b f_conn q_conn) := by
  intro args ps r h hp
  unfold c_G_b at h
  split at h
  · rename_i a0 a1
    simp only [Option.some.injEq, Prod.mk.injEq] at h
    obtain ⟨rfl, rfl⟩ := h
    obtain ⟨h0, h1, h2, h3⟩ : q_conn a0 a1 := (alls_cons.1 hp).1
    have g0 := h0.frz
    have g1 := frzs_II h1
    refine fnOk_ofI (T := tab) (B := []) (Bi := []) [0, 1, 2] Try.func34 rfl rfl (by kernel_rfl) (Nat.le_of_ble_eq_true rfl) mixed tabOk (by exact bookNil) (by exact bookINil) (by kernel_rfl) ?_
    intro L lp rr hL hr hf hlp
    conv => cbv
    simp only [stdEqs hL, imp_self, true_and, and_true, bif_or, bif_and, Bool.or_eq_true, Bool.or_eq_false_iff, Bool.and_eq_true, Bool.and_eq_false_iff, decide_eq_true_eq, decide_eq_false_iff_not, Bool.not_eq_true', Bool.not_eq_false', beq_iff_eq, beq_eq_false_iff_ne, ne_eq, toNat0, toNat1, ok_int, toI_int, I_frzs, I_length, I_getD, ok_ints, toL_slc, g0, g1]
    rw [wrap_id (n := (a0.length : Int) - 1) (by omega) (by omega), hr, f_conn]
    have e : ((a1.length : Int) == (a0.length : Int) - 1) = decide ((a1.length : Int) = (a0.length : Int) - 1) := by rw [Bool.eq_iff_iff]; simp
    rw [e]
  · cases h
def smo (ws : List Int) : Bool := decide (ws.length = 1) && decide (ws.getD 0 0 = -1)
def f_smo (_ _ w _ _ : List V) : Bool := smo (unI w)
def q_smo (u r w e m : List V) : Prop := IsI u ∧ IsII false r ∧ IsI w ∧ IsII false e ∧ IsI m
def c_N_b (f : List V → List V → List V → List V → List V → Bool) (q : List V → List V → List V → List V → List V → Prop) : Contract := fun
  | [.agg [.slc false 2 (.int .i64 0) a0, .slc false 22 (.slc false 2 (.int .i64 0) []) a1, .agg [.slc false 2 (.int .i64 0) a2, .slc false 22 (.slc false 2 (.int .i64 0) []) a3], .slc false 2 (.int .i64 0) a4]] => some ([q a0 a1 a2 a3 a4], .bool (f a0 a1 a2 a3 a4))
  | _ => none
set_option maxRecDepth 100000 in
theorem s_impl_smooth : Sat Try.prog 35 (c_N_b f_smo q_smo) := by
  intro args ps r h hp
  unfold c_N_b at h
  split at h
  · rename_i a0 a1 a2 a3 a4
    simp only [Option.some.injEq, Prod.mk.injEq] at h
    obtain ⟨rfl, rfl⟩ := h
    obtain ⟨h0, h1, ⟨ws, hws⟩, h3, h4⟩ : q_smo a0 a1 a2 a3 a4 := (alls_cons.1 hp).1
    have g0 := h0.frz
    have g1 := frzs_II h1
    have g2 : V.frzs a2 = a2 := by rw [hws, I_frzs]
    have g3 := frzs_II h3
    have g4 := h4.frz
    have hwl : a2.length = ws.length := by rw [hws, I_length]
    have gws : ∀ k, a2.getD k (.int .i64 0) = .int .i64 (ws.getD k 0) := fun k => by rw [hws, I_getD]
    refine fnOk_ofI (T := tab) (B := []) (Bi := []) [0, 1, 2] Try.func35 rfl rfl (by kernel_rfl) (Nat.le_of_ble_eq_true rfl) mixed tabOk (by exact bookNil) (by exact bookINil) (by kernel_rfl) ?_
    intro L lp rr hL hr hf hlp
    conv => cbv
    simp only [stdEqs hL, imp_self, true_and, and_true, bif_or, bif_and, Bool.or_eq_true, Bool.or_eq_false_iff, Bool.and_eq_true, Bool.and_eq_false_iff, decide_eq_true_eq, decide_eq_false_iff_not, Bool.not_eq_true', Bool.not_eq_false', beq_iff_eq, beq_eq_false_iff_ne, ne_eq, toNat0, toNat1, ok_int, toI_int, I_frzs, I_length, I_getD, ok_ints, toL_slc, g0, g1, g2, g3, g4, hwl, gws]
    have e1 : ((ws.length : Int) == 1) = decide (ws.length = 1) := by
      rw [Bool.eq_iff_iff, beq_iff_eq, decide_eq_true_eq]; omega
    have e2 : (ws.getD 0 0 == -1) = decide (ws.getD 0 0 = -1) := by rw [Bool.eq_iff_iff]; simp
    refine ⟨fun _ => by omega, fun h => by omega, fun _ => trivial, ?_⟩
    rw [hr, f_smo, hws, unI_I, smo, e1, e2]
  · cases h
def f_ism (a b : List V) : Bool × Int := bif f_isGr a b then (match ctI (unI a) (unII b) with
  | some x => (smo x.1 && f_conn a b, 0)
  | none => (false, 3)) else (false, 1)
def c_G_bi (f : List V → List V → Bool × Int) (q : List V → List V → Prop) : Contract := fun
  | [.agg [.slc false 2 (.int .i64 0) a0, .slc false 22 (.slc false 2 (.int .i64 0) []) a1]] => some ([q a0 a1], .tup [.bool ((f a0 a1).1), .int .i64 ((f a0 a1).2)])
  | _ => none
set_option maxRecDepth 100000 in
theorem s_impl_IsSmoothGraph : Sat Try.prog 16 (c_G_bi f_ism q_G) := by
  intro args ps r h hp
  unfold c_G_bi at h
  split at h
  · rename_i a0 a1
    simp only [Option.some.injEq, Prod.mk.injEq] at h
    obtain ⟨rfl, rfl⟩ := h
    have hq : q_G a0 a1 := (alls_cons.1 hp).1
    have g0 := hq.1.frz
    have g1 := frzs_II hq.2
    generalize H_f_isGr : f_isGr = F_f_isGr
    generalize H_q_G : q_G = F_q_G
    generalize H_f_ctr : f_ctr = F_f_ctr
    generalize H_q_ctr : q_ctr = F_q_ctr
    generalize H_f_conn : f_conn = F_f_conn
    generalize H_q_conn : q_conn = F_q_conn
    generalize H_f_smo : f_smo = F_f_smo
    generalize H_q_smo : q_smo = F_q_smo
    refine fnOk_ofI (T := tab) (B := [(28, c_G_b F_f_isGr F_q_G), (29, c_G_Ni F_f_ctr F_q_ctr), (34, c_G_b F_f_conn F_q_conn), (35, c_N_b F_f_smo F_q_smo)]) (Bi := []) [0, 1, 2, 3, 4, 5] Try.func16 rfl rfl (by kernel_rfl) (Nat.le_of_ble_eq_true rfl) mixed tabOk (by subst H_f_isGr H_q_G H_f_ctr H_q_ctr H_f_conn H_q_conn H_f_smo H_q_smo; exact (bookCons s_impl_IsGraph (bookCons s_impl_contract (bookCons s_impl_isConnected (bookCons s_impl_smooth bookNil))))) (by subst H_f_isGr H_q_G H_f_ctr H_q_ctr H_f_conn H_q_conn H_f_smo H_q_smo; exact bookINil) (by kernel_rfl) ?_
    intro L lp rr hL hr hf hlp
    conv => cbv
    simp only [stdEqs hL, imp_self, true_and, and_true, bif_or, bif_and, Bool.or_eq_true, Bool.or_eq_false_iff, Bool.and_eq_true, Bool.and_eq_false_iff, decide_eq_true_eq, decide_eq_false_iff_not, Bool.not_eq_true', Bool.not_eq_false', beq_iff_eq, beq_eq_false_iff_ne, ne_eq, toNat0, toNat1, ok_int, toI_int, I_frzs, I_length, I_getD, ok_ints, toL_slc, g0, g1]
    obtain ⟨⟨ws, hws⟩, es, hes⟩ := id hq
    subst H_f_isGr H_q_G H_f_ctr H_q_ctr H_f_conn H_q_conn H_f_smo H_q_smo
    refine ⟨hq, fun h => by rw [hr, f_ism, h]; rfl, fun h => ⟨q_ctr_of hq h, ?_⟩⟩
    have hg : isGr ws es = true := by rw [f_isGr, hws, hes, unI_I, unII_II] at h; exact h
    have gr := gr_of hg
    have n2 := gr.n2
    have n3 := gr.el
    have hqc : q_conn a0 a1 := ⟨⟨_, hws⟩, ⟨_, hes⟩, by rw [hws, I_length]; omega, by rw [hes, II_length]; omega⟩
    have hm0 : f_ism a0 a1 = match ctI ws es with
      | some x => (smo x.1 && f_conn a0 a1, 0)
      | none => (false, 3) := by rw [f_ism, h, hws, hes, unI_I, unII_II]; rfl
    cases hc : ctI ws es with
    | none =>
      have hz : f_ctr a0 a1 = ([], [], [], [], [], 3) := by rw [f_ctr, hws, hes, unI_I, unII_II, hc]
      rw [hc] at hm0
      simp only [hz]
      exact ⟨fun _ => by rw [hr, hm0], fun h3 => absurd h3 (by decide)⟩
    | some x =>
      have hz : f_ctr a0 a1 = (I x.2.2.2.1, II true x.2.2.2.2, I x.1, II true x.2.1, I x.2.2.1, 0) := by rw [f_ctr, hws, hes, unI_I, unII_II, hc]
      rw [hc] at hm0
      simp only [hz, I_frzs, II_frzs]
      refine ⟨fun h3 => absurd trivial h3, fun _ => ⟨hqc, fun _ => ⟨⟨_, rfl⟩, ⟨_, rfl⟩, ⟨_, rfl⟩, ⟨_, rfl⟩, ⟨_, rfl⟩⟩, ?_⟩⟩
      rw [hr, hm0, f_smo, unI_I, Bool.and_comm]
  · cases h
set_option maxRecDepth 100000 in
theorem s_spec_IsSmoothGraph : Sat Try.prog 15 (c_G_bi f_ism q_G) := by
  intro args ps r h hp
  unfold c_G_bi at h
  split at h
  · rename_i a0 a1
    simp only [Option.some.injEq, Prod.mk.injEq] at h
    obtain ⟨rfl, rfl⟩ := h
    have hq : q_G a0 a1 := (alls_cons.1 hp).1
    have g0 := hq.1.frz
    have g1 := frzs_II hq.2
    generalize H_f_isGr : f_isGr = F_f_isGr
    generalize H_q_G : q_G = F_q_G
    generalize H_f_ctrs : f_ctrs = F_f_ctrs
    generalize H_q_ctr : q_ctr = F_q_ctr
    generalize H_f_lab2 : f_lab2 = F_f_lab2
    generalize H_q_Gr : q_Gr = F_q_Gr
    generalize H_f_has : f_has = F_f_has
    generalize H_q_lI : q_lI = F_q_lI
    refine fnOk_ofI (T := tab) (B := [(24, c_G_b F_f_isGr F_q_G), (25, c_G_Ctn F_f_ctrs F_q_ctr), (33, c_G_l F_f_lab2 F_q_Gr), (32, c_lxi_b F_f_has F_q_lI)]) (Bi := []) [2000006635, 0, 1, 2, 3, 6, 8] Try.func15 rfl rfl (by kernel_rfl) (Nat.le_of_ble_eq_true rfl) mixed tabOk (by subst H_f_isGr H_q_G H_f_ctrs H_q_ctr H_f_lab2 H_q_Gr H_f_has H_q_lI; exact (bookCons s_spec_l11Is (bookCons s_spec_l12Contraction (bookCons s_spec_l11Labels (bookCons s_spec_l01Has bookNil))))) (by subst H_f_isGr H_q_G H_f_ctrs H_q_ctr H_f_lab2 H_q_Gr H_f_has H_q_lI; exact bookINil) (by kernel_rfl) ?_
    intro L lp rr hL hr hf hlp
    conv => cbv
    simp only [stdEqs hL, imp_self, true_and, and_true, bif_or, bif_and, Bool.or_eq_true, Bool.or_eq_false_iff, Bool.and_eq_true, Bool.and_eq_false_iff, decide_eq_true_eq, decide_eq_false_iff_not, Bool.not_eq_true', Bool.not_eq_false', beq_iff_eq, beq_eq_false_iff_ne, ne_eq, toNat0, toNat1, ok_int, toI_int, I_frzs, I_length, I_getD, ok_ints, toL_slc, g0, g1]
    obtain ⟨⟨ws, hws⟩, es, hes⟩ := id hq
    subst H_f_isGr H_q_G H_f_ctrs H_q_ctr H_f_lab2 H_q_Gr H_f_has H_q_lI
    refine ⟨hq, fun h => by rw [hr, f_ism, h]; rfl, fun h => ⟨q_ctr_of hq h, ?_⟩⟩
    have hg : isGr ws es = true := by rw [f_isGr, hws, hes, unI_I, unII_II] at h; exact h
    have gr := gr_of hg
    have n1 := gr.n1
    have n2 := gr.n2
    have n3 := gr.el
    have hm0 : f_ism a0 a1 = match ctI ws es with
      | some x => (smo x.1 && f_conn a0 a1, 0)
      | none => (false, 3) := by rw [f_ism, h, hws, hes, unI_I, unII_II]; rfl
    have hlb : f_lab2 a0 a1 = I (labs ws.length es) := by rw [f_lab2, hws, hes, unII_II, I_length]
    have hll : (labs ws.length es).length = ws.length := by rw [labs, rn_len, (comp_iff n1 gr.ed).1.len]
    have hcn : f_conn a0 a1 = !(labs ws.length es).contains 1 := by
      rw [one_lab n1 gr.ed gr.acyc, Bool.not_not, f_conn, hws, hes, I_length, II_length]
    cases hc : ctI ws es with
    | none =>
      have hz : f_ctrs a0 a1 = ([], [], [], [], [], false) := by rw [f_ctrs, hws, hes, unI_I, unII_II, hc]
      rw [hc] at hm0
      simp only [hz]
      exact ⟨fun _ => by rw [hr, hm0], fun h3 => by cases h3⟩
    | some x =>
      have hz : f_ctrs a0 a1 = (I x.2.2.2.1, II false x.2.2.2.2, I x.1, II false x.2.1, I x.2.2.1, true) := by rw [f_ctrs, hws, hes, unI_I, unII_II, hc]
      rw [hc] at hm0
      simp only [hz, I_length, I_getD, toI_int, hlb, I_frzs]
      have e1 : ((x.1.length : Int) == 1) = decide (x.1.length = 1) := by
        rw [Bool.eq_iff_iff, beq_iff_eq, decide_eq_true_eq]; omega
      have e2 : (x.1.getD 0 0 == -1) = decide (x.1.getD 0 0 = -1) := by rw [Bool.eq_iff_iff]; simp
      refine ⟨fun h3 => (by cases h3), fun _ => ⟨fun _ => by omega, fun h => by omega, fun _ => rfl, fun _ => ⟨ws, es, hws, hes, gr⟩, fun _ => ⟨⟨_, rfl⟩, by rw [I_length]; omega⟩, ?_⟩⟩
      have hs : smo x.1 = (decide (x.1.length = 1) && decide (x.1.getD 0 0 = -1)) := rfl
      simp only at hm0
      rw [hr, hm0, f_has, unI_I, hcn, hs, e1, e2]
  · cases h
set_option maxRecDepth 100000 in
theorem s_laws_FnExactContractionOf : Sat Try.prog 3 (c_lawg_G yesg_G q_lawg_G) := by
  intro args ps r h hp
  unfold c_lawg_G at h
  split at h
  · rename_i a0 a1
    simp only [Option.some.injEq, Prod.mk.injEq] at h
    obtain ⟨rfl, rfl⟩ := h
    have hq : q_G a0 a1 := (alls_cons.1 hp).1
    obtain ⟨hq0, hq1⟩ := id hq
    have g0 := hq0.frz
    have g1 := frzs_II hq1
    generalize H_f_szG : f_szG = F_f_szG
    generalize H_q_szG : q_szG = F_q_szG
    generalize H_f_cpG : f_cpG = F_f_cpG
    generalize H_q_cpG : q_cpG = F_q_cpG
    generalize H_f_cos : f_cos = F_f_cos
    generalize H_q_G : q_G = F_q_G
    generalize H_f_coi : f_coi = F_f_coi
    generalize H_f_eqG : f_eqG = F_f_eqG
    generalize H_q_eqG : q_eqG = F_q_eqG
    generalize H_f0_eqI : f0_eqI = F_f0_eqI
    generalize H_q_eqI : q_eqI = F_q_eqI
    generalize H_f0_held : f0_held = F_f0_held
    generalize H_q_mark : q_mark = F_q_mark
    generalize H_f0_mark : f0_mark = F_f0_mark
    generalize H_f1_mark : f1_mark = F_f1_mark
    generalize H_f0_markG : f0_markG = F_f0_markG
    generalize H_f1_markG : f1_markG = F_f1_markG
    generalize H_f2_markG : f2_markG = F_f2_markG
    generalize H_q_markG : q_markG = F_q_markG
    refine fnOk_ofI (T := tab) (B := [(6, c_Gi_i F_f_szG F_q_szG), (8, c_G_G F_f_cpG F_q_cpG), (7, c_G_Li F_f_cos F_q_G), (9, c_G_li F_f_coi F_q_G), (11, c_GG_b F_f_eqG F_q_eqG), (10, c_laws_eqInt64S F_f0_eqI F_q_eqI), (14, c_heldInt64S F_f0_held F_q_mark)]) (Bi := [(13, 0, false, ic_markInt64S F_f0_mark F_f1_mark F_q_mark), (12, 0, false, ic_markG F_f0_markG F_f1_markG F_f2_markG F_q_markG)]) [2000005621, 0, 1, 2, 3, 4, 5, 6, 7, 8, 9, 10, 11, 12, 13] Try.func3 rfl rfl (by kernel_rfl) (Nat.le_of_ble_eq_true rfl) mixed tabOk (by subst H_f_szG H_q_szG H_f_cpG H_q_cpG H_f_cos H_q_G H_f_coi H_f_eqG H_q_eqG H_f0_eqI H_q_eqI H_f0_held H_q_mark H_f0_mark H_f1_mark H_f0_markG H_f1_markG H_f2_markG H_q_markG; exact (bookCons s_laws_szGraph (bookCons s_laws_toGraph (bookCons s_spec_ContractionOf (bookCons s_impl_ContractionOf (bookCons s_laws_eqGraph (bookCons s_laws_eqInt64S (bookCons s_laws_heldInt64S bookNil)))))))) (by subst H_f_szG H_q_szG H_f_cpG H_q_cpG H_f_cos H_q_G H_f_coi H_f_eqG H_q_eqG H_f0_eqI H_q_eqI H_f0_held H_q_mark H_f0_mark H_f1_mark H_f0_markG H_f1_markG H_f2_markG H_q_markG; exact (bookICons s_laws_markInt64S (bookICons s_laws_markGraph bookINil))) (by kernel_rfl) ?_
    intro L lp rr hL hr hf hlp
    have hlen := hf.1
    conv => cbv
    simp only [stdEqs hL, g0, g1]
    subst H_f_szG H_q_szG H_f_cpG H_q_cpG H_f_cos H_q_G H_f_coi H_f_eqG H_q_eqG H_f0_eqI H_q_eqI H_f0_held H_q_mark H_f0_mark H_f1_mark H_f0_markG H_f1_markG H_f2_markG H_q_markG
    refine ⟨hq1, fun h => by rw [hr]; rfl, fun h => ?_⟩
    obtain ⟨hc, hb0, hb1⟩ := szG_ok hq1 hlen.1.1 hlen.2.1.1 hlen.2.1.2 hq0 h
    obtain ⟨ws, hws⟩ := hq0
    obtain ⟨es, hes⟩ := hq1
    rw [hws, I_length] at hb0
    rw [hes, unII_II] at hb1
    have e0 : f_cpG a0 a1 = (I ws, II true es) := by rw [f_cpG, hes, hws, unII_II]
    have kg := graph_keys ws es
    have mg := markG_keys ws es (by omega)
    have hqg : q_G (I ws) (II false es) := ⟨⟨_, rfl⟩, ⟨_, rfl⟩⟩
    have hqx := hqg

    obtain ⟨zs, code, ez, ez2, hzl⟩ : ∃ (zs : List Int) (code : Int), f_coi (I ws) (II false es) = (I zs, code) ∧ f_cos (I ws) (II false es) = (I zs, code) ∧ zs.length ≤ 40 := by
      rw [f_coi, f_cos, f_isGr, unI_I, unII_II]
      cases hh : isGr ws es with
      | false => exact ⟨[], 1, rfl, rfl, by simp⟩
      | true =>
        have g := gr_of hh
        rw [f_ctr, f_ctrs, unI_I, unII_II]
        cases hc : ctI ws es with
        | none => exact ⟨[], 3, rfl, rfl, by simp⟩
        | some x =>
          obtain ⟨_, h2, _⟩ := ct_ok g.toN (Sep_of g.n1 g.ed g.acyc) hc
          have h3 := h2.perm.length_eq
          rw [iota_len, List.length_append] at h3
          have := g.n2
          exact ⟨x.2.2.2.1, 0, rfl, rfl, by omega⟩
    have ck := ints_keys zs (by omega)
    have hn1 : ∀ n : Nat, decide ((1 : Int) + n < 0) = false := fun n => by simp; omega
    have hn2 : ∀ n m : Nat, decide ((1 : Int) + n + m < 0) = false := fun n m => by simp; omega
    simp only [e0, hc, II_frzs, kg, mg, hqg, ez, ez2, ck, hn1, hn2, hr, yesg_G, I_frzs]
    simp
  · cases h
set_option maxRecDepth 100000 in
theorem s_laws_FnExactIsSmoothGraph : Sat Try.prog 4 (c_lawg_G yesg_G q_lawg_G) := by
  intro args ps r h hp
  unfold c_lawg_G at h
  split at h
  · rename_i a0 a1
    simp only [Option.some.injEq, Prod.mk.injEq] at h
    obtain ⟨rfl, rfl⟩ := h
    have hq : q_G a0 a1 := (alls_cons.1 hp).1
    obtain ⟨hq0, hq1⟩ := id hq
    have g0 := hq0.frz
    have g1 := frzs_II hq1
    generalize H_f_szG : f_szG = F_f_szG
    generalize H_q_szG : q_szG = F_q_szG
    generalize H_f_cpG : f_cpG = F_f_cpG
    generalize H_q_cpG : q_cpG = F_q_cpG
    generalize H_f_ism : f_ism = F_f_ism
    generalize H_q_G : q_G = F_q_G
    generalize H_f_eqG : f_eqG = F_f_eqG
    generalize H_q_eqG : q_eqG = F_q_eqG
    refine fnOk_ofI (T := tab) (B := [(6, c_Gi_i F_f_szG F_q_szG), (8, c_G_G F_f_cpG F_q_cpG), (15, c_G_bi F_f_ism F_q_G), (16, c_G_bi F_f_ism F_q_G), (11, c_GG_b F_f_eqG F_q_eqG)]) (Bi := []) [0, 1, 2, 3, 4, 5, 6, 7, 8] Try.func4 rfl rfl (by kernel_rfl) (Nat.le_of_ble_eq_true rfl) mixed tabOk (by subst H_f_szG H_q_szG H_f_cpG H_q_cpG H_f_ism H_q_G H_f_eqG H_q_eqG; exact (bookCons s_laws_szGraph (bookCons s_laws_toGraph (bookCons s_spec_IsSmoothGraph (bookCons s_impl_IsSmoothGraph (bookCons s_laws_eqGraph bookNil)))))) (by subst H_f_szG H_q_szG H_f_cpG H_q_cpG H_f_ism H_q_G H_f_eqG H_q_eqG; exact bookINil) (by kernel_rfl) ?_
    intro L lp rr hL hr hf hlp
    have hlen := hf.1
    conv => cbv
    simp only [stdEqs hL, g0, g1]
    subst H_f_szG H_q_szG H_f_cpG H_q_cpG H_f_ism H_q_G H_f_eqG H_q_eqG
    refine ⟨hq1, fun h => by rw [hr]; rfl, fun h => ?_⟩
    obtain ⟨hc, hb0, hb1⟩ := szG_ok hq1 hlen.1.1 hlen.2.1.1 hlen.2.1.2 hq0 h
    obtain ⟨ws, hws⟩ := hq0
    obtain ⟨es, hes⟩ := hq1
    rw [hws, I_length] at hb0
    rw [hes, unII_II] at hb1
    have e0 : f_cpG a0 a1 = (I ws, II true es) := by rw [f_cpG, hes, hws, unII_II]
    have kg := graph_keys ws es
    have mg := markG_keys ws es (by omega)
    have hqg : q_G (I ws) (II false es) := ⟨⟨_, rfl⟩, ⟨_, rfl⟩⟩
    have hqx := hqg
    simp only [e0, hc, kg, mg, hqg, hqx, I_frzs, hr, yesg_G, beq_self_eq_true]
    simp
  · cases h
end Go.Ax
