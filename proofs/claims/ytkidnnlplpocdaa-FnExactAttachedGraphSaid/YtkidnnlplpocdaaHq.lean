/-
  AttachedGraph: both sides, the law. No conditions but those of the contracts.
-/
import Derived.Test.YtkidnnlplpocdaaHo
set_option linter.all false
namespace Go.Ax
open Go.Proofs

def f_isP (a _ _ : List V) (i : Int) : Bool := decide (0 ≤ i) && decide (i ≤ (a.length : Int) - 1)
def q_isP (a b c : List V) (_ : Int) : Prop := q_K a b c ∧ a.length ≤ 1000
set_option maxRecDepth 100000 in
theorem s_impl_isPoint : Sat Try.prog 90 (c_Ki_b f_isP q_isP) := by
  intro args ps r h hp
  unfold c_Ki_b at h
  split at h
  · rename_i a0 a1 a2 i
    simp only [Option.some.injEq, Prod.mk.injEq] at h
    obtain ⟨rfl, rfl⟩ := h
    obtain ⟨h0, h2⟩ : q_isP a0 a1 a2 i := (alls_cons.1 hp).1
    have g0 := h0.1.frz
    have g1 := h0.2.1.frz
    have g2 := h0.2.2.frz
    generalize H_inRange : inRange = F_inRange
    refine fnOk_ofI (T := tab) (B := [(99, c_impl_inRange F_inRange)]) (Bi := []) [0, 1, 2, 4] Try.func90 rfl rfl (by kernel_rfl) (Nat.le_of_ble_eq_true rfl) mixed tabOk (by subst H_inRange; exact (bookCons s_impl_inRange bookNil)) (by subst H_inRange; exact bookINil) (by kernel_rfl) ?_
    intro L lp rr hL hr hf hlp
    have Er : ∀ x y z, F_inRange x y z = inRange x y z := fun x y z => by rw [← H_inRange]
    conv => cbv
    simp only [stdEqs hL, g0, g1, g2, Er]
    rw [wrap_id (by omega) (by omega), hr]
    rfl
  · cases h
def c_Ki_Gi (f : List V → List V → List V → Int → List V × List V × Int) (q : List V → List V → List V → Int → Prop) : Contract := fun
  | [.agg [.slc false 2 (.int .i64 0) a0, .slc false 2 (.int .i64 0) a1, .slc false 2 (.int .i64 0) a2], .int .i64 a3] => some ([q a0 a1 a2 a3], .tup [.agg [.slc true 2 (.int .i64 0) ((f a0 a1 a2 a3).1), .slc true 27 (.slc true 2 (.int .i64 0) []) ((f a0 a1 a2 a3).2.1)], .int .i64 ((f a0 a1 a2 a3).2.2)])
  | _ => none
def c_Ki_Xi (f : List V → List V → List V → Int → List V × List V × Int) (q : List V → List V → List V → Int → Prop) : Contract := fun
  | [.agg [.slc false 2 (.int .i64 0) a0, .slc false 2 (.int .i64 0) a1, .slc false 2 (.int .i64 0) a2], .int .i64 a3] => some ([q a0 a1 a2 a3], .tup [.agg [.slc false 2 (.int .i64 0) ((f a0 a1 a2 a3).1), .slc false 27 (.slc false 2 (.int .i64 0) []) ((f a0 a1 a2 a3).2.1)], .int .i64 ((f a0 a1 a2 a3).2.2)])
  | _ => none
noncomputable def f_AG (a b c : List V) (i : Int) : List V × List V × Int := bif isCl (unI a) (unI b) (unI c) then (bif f_isP a b c i then (I (buW (gwC (gM (unI a) (unI b)) a.length) i.toNat), II true (buE a.length (esC (gM (unI a) (unI b)) a.length a.length) i.toNat), 0) else ([], [], 2)) else ([], [], 1)
noncomputable def f_AGs (a b c : List V) (i : Int) : List V × List V × Int := bif isCl (unI a) (unI b) (unI c) then (bif f_isP a b c i then (I (buW (gwC (gM (unI a) (unI b)) a.length) i.toNat), II false (buE a.length (esC (gM (unI a) (unI b)) a.length a.length) i.toNat), 0) else ([], [], 2)) else ([], [], 1)
theorem mt_le {p : Nat → Nat → Int} (hp : ∀ a b, -1 ≤ p a b ∧ p a b ≤ 1) (i k : Nat) : ∀ j : Nat, j ≤ 24 → -(j : Int) ≤ mt p i k j ∧ mt p i k j ≤ (j : Int)
  | 0, _ => by simp [mt]
  | j + 1, h => by
    have h1 := mt_le hp i k j (by omega)
    have h2 := hp j i
    have h3 := hp j k
    have h4 : -1 ≤ p j i * p j k ∧ p j i * p j k ≤ 1 := by
      have e1 : p j i = -1 ∨ p j i = 0 ∨ p j i = 1 := by omega
      rcases e1 with e | e | e <;> rw [e] <;> omega
    simp only [mt]
    rw [show W (p j i * p j k) = p j i * p j k from wrap_id (by omega) (by omega)] 
    rw [show W (mt p i k j - p j i * p j k) = mt p i k j - p j i * p j k from wrap_id (by omega) (by omega)]
    omega
theorem gM_le {P S Q : List Int} (h : ClP P S Q) (i k : Nat) : -24 ≤ gM P S i k ∧ gM P S i k ≤ 24 := by
  have := mt_le (p := prm P S) (fun a b => by rw [prm]; split; · decide
                                              · split <;> decide) i k P.length h.n24
  have h24 := h.n24
  rw [gM, exc]
  omega
def q_Ki9 (a b c : List V) (_ : Int) : Prop := q_K a b c
theorem gr_buv {a b c : List V} {i : Int} (hq : q_K a b c) (h : isCl (unI a) (unI b) (unI c) = true) (h2 : f_isP a b c i = true) : q_buv (f_gr a b c).1 (V.frzs (f_gr a b c).2) i := by
  obtain ⟨⟨P, hP⟩, ⟨S, hS⟩, ⟨Q, hQ⟩⟩ := hq
  rw [hP, hS, hQ, unI_I, unI_I, unI_I] at h
  have hc := isCl_iff.1 h
  have hpl : a.length = P.length := by rw [hP, I_length]
  have hg := esC_grN (gM P S) hc.n1 hc.n24
  have hel := hg.el
  have n24 := hc.n24
  rw [f_isP, Bool.and_eq_true, decide_eq_true_eq, decide_eq_true_eq, hpl] at h2
  have e : f_gr a b c = (I (gwC (gM P S) P.length), II true (esC (gM P S) P.length P.length)) := by rw [f_gr, hpl, hP, hS, unI_I, unI_I]
  rw [e, II_frzs]
  refine ⟨⟨_, rfl⟩, ⟨_, rfl, by omega, fun x hx => by rw [(esC_in (Nat.le_refl _) hx).1]; decide⟩, ?_, ?_, h2.1, ?_⟩
  · rw [I_length, gwC, tab_len]; omega
  · rw [II_length]; omega
  · rw [I_length, gwC, tab_len]; omega
theorem gr_val {a b c : List V} {i : Int} (hq : q_K a b c) (h : isCl (unI a) (unI b) (unI c) = true) (h2 : f_isP a b c i = true) :
    f_buv (f_gr a b c).1 (V.frzs (f_gr a b c).2) i = (I (buW (gwC (gM (unI a) (unI b)) a.length) i.toNat), II true (buE a.length (esC (gM (unI a) (unI b)) a.length a.length) i.toNat), 0) ∧
    f_bvs (f_gr a b c).1 (V.frzs (f_gr a b c).2) i = (I (buW (gwC (gM (unI a) (unI b)) a.length) i.toNat), II false (buE a.length (esC (gM (unI a) (unI b)) a.length a.length) i.toNat)) := by
  obtain ⟨⟨P, hP⟩, ⟨S, hS⟩, ⟨Q, hQ⟩⟩ := hq
  rw [hP, hS, hQ, unI_I, unI_I, unI_I] at h
  have hc := isCl_iff.1 h
  have hpl : a.length = P.length := by rw [hP, I_length]
  have n24 := hc.n24
  rw [f_isP, Bool.and_eq_true, decide_eq_true_eq, decide_eq_true_eq, hpl] at h2
  have e : f_gr a b c = (I (gwC (gM P S) P.length), II true (esC (gM P S) P.length P.length)) := by rw [f_gr, hpl, hP, hS, unI_I, unI_I]
  have hl : (I (gwC (gM P S) P.length)).length = P.length := by rw [I_length, gwC, tab_len]
  rw [e, II_frzs, f_buv, f_bvs, hl, hpl, hP, hS]
  simp only [unI_I, unII_II]
  have hw : (gwC (gM P S) P.length).getD i.toNat 0 = gM P S i.toNat i.toNat := by rw [gwC, tab_get _ _ _ _ (by omega)]
  have hm := gM_le hc i.toNat i.toNat
  rw [hw, decide_eq_false (show ¬ P.length = 40 by omega), decide_eq_false (show ¬ gM P S i.toNat i.toNat = -1000 by omega)]
  constructor <;> first | rfl | trivial
set_option maxRecDepth 100000 in
theorem s_impl_AttachedGraph : Sat Try.prog 48 (c_Ki_Gi f_AG q_Ki9) := by
  intro args ps r h hp
  unfold c_Ki_Gi at h
  split at h
  · rename_i a0 a1 a2 i
    simp only [Option.some.injEq, Prod.mk.injEq] at h
    obtain ⟨rfl, rfl⟩ := h
    have hq : q_K a0 a1 a2 := (alls_cons.1 hp).1
    have g0 := hq.1.frz
    have g1 := hq.2.1.frz
    have g2 := hq.2.2.frz
    have hgi : ∃ xs, (f_gr a0 a1 a2).1 = I xs := ⟨_, rfl⟩
    have g3 : V.frzs (f_gr a0 a1 a2).1 = (f_gr a0 a1 a2).1 := by obtain ⟨xs, h⟩ := hgi; rw [h, I_frzs]
    have hlen : f_isCl a0 a1 a2 = true → a0.length ≤ 1000 := fun h => by
      obtain ⟨P, hP⟩ := hq.1
      have := (isCl_iff.1 h).n24
      rw [hP, unI_I] at this
      rw [hP, I_length]; omega
    generalize H_f_isCl : f_isCl = F_f_isCl
    generalize H_q_K : q_K = F_q_K
    generalize H_f_isP : f_isP = F_f_isP
    generalize H_q_isP : q_isP = F_q_isP
    generalize H_f_gr : f_gr = F_f_gr
    generalize H_q_Kv : q_Kv = F_q_Kv
    generalize H_f_buv : f_buv = F_f_buv
    generalize H_q_buv : q_buv = F_q_buv
    refine fnOk_ofI (T := tab) (B := [(73, c_K_b F_f_isCl F_q_K), (90, c_Ki_b F_f_isP F_q_isP), (74, c_K_G F_f_gr F_q_Kv), (91, c_Gi_Gi F_f_buv F_q_buv)]) (Bi := []) [0, 1, 2, 4, 5] Try.func48 rfl rfl (by kernel_rfl) (Nat.le_of_ble_eq_true rfl) mixed tabOk (by subst H_f_isCl H_q_K H_f_isP H_q_isP H_f_gr H_q_Kv H_f_buv H_q_buv; exact (bookCons s_impl_IsCluster (bookCons s_impl_isPoint (bookCons s_impl_graphOf (bookCons s_impl_blowUpVertex bookNil))))) (by subst H_f_isCl H_q_K H_f_isP H_q_isP H_f_gr H_q_Kv H_f_buv H_q_buv; exact bookINil) (by kernel_rfl) ?_
    intro L lp rr hL hr hf hlp
    conv => cbv
    simp only [stdEqs hL, imp_self, true_and, and_true, bif_or, bif_and, Bool.or_eq_true, Bool.or_eq_false_iff, Bool.and_eq_true, Bool.and_eq_false_iff, decide_eq_true_eq, decide_eq_false_iff_not, Bool.not_eq_true', Bool.not_eq_false', beq_iff_eq, beq_eq_false_iff_ne, ne_eq, toNat0, toNat1, ok_int, toI_int, I_frzs, I_length, I_getD, ok_ints, toL_slc, g0, g1, g2]
    subst H_f_isCl H_q_K H_f_isP H_q_isP H_f_gr H_q_Kv H_f_buv H_q_buv
    rw [g3]
    refine ⟨hq, fun h => ?_, fun h => ⟨⟨hq, hlen h⟩, fun h2 => ?_, fun h2 => ?_⟩⟩
    · rw [f_isCl] at h
      rw [hr, f_AG, h]; rfl
    · rw [f_isCl] at h
      rw [hr, f_AG, h, h2]; rfl
    · have hqv := q_Kv_of hq h
      rw [f_isCl] at h
      have hv := (gr_val hq h h2).1
      refine ⟨hqv, gr_buv hq h h2, ?_, ?_, ?_⟩
      · rw [hv]; exact I_noFzs _
      · rw [hv]; exact II_noFzs _
      · rw [hv, hr, f_AG, h, h2]; rfl
  · cases h
set_option maxRecDepth 100000 in
theorem s_spec_AttachedGraph : Sat Try.prog 47 (c_Ki_Xi f_AGs q_Ki9) := by
  intro args ps r h hp
  unfold c_Ki_Xi at h
  split at h
  · rename_i a0 a1 a2 i
    simp only [Option.some.injEq, Prod.mk.injEq] at h
    obtain ⟨rfl, rfl⟩ := h
    have hq : q_K a0 a1 a2 := (alls_cons.1 hp).1
    have g0 := hq.1.frz
    have g1 := hq.2.1.frz
    have g2 := hq.2.2.frz
    have hgi : ∃ xs, (f_gr a0 a1 a2).1 = I xs := ⟨_, rfl⟩
    have g3 : V.frzs (f_gr a0 a1 a2).1 = (f_gr a0 a1 a2).1 := by obtain ⟨xs, h⟩ := hgi; rw [h, I_frzs]
    generalize H_f_isCl : f_isCl = F_f_isCl
    generalize H_q_K : q_K = F_q_K
    generalize H_inRange : inRange = F_inRange
    generalize H_f_gr : f_gr = F_f_gr
    generalize H_q_Kv : q_Kv = F_q_Kv
    generalize H_f_bvs : f_bvs = F_f_bvs
    generalize H_q_buv : q_buv = F_q_buv
    refine fnOk_ofF (T := tab) (B := [(71, c_K_b F_f_isCl F_q_K), (88, c_impl_inRange F_inRange), (72, c_K_G F_f_gr F_q_Kv), (89, c_Gi_H F_f_bvs F_q_buv)]) (Bi := []) [2000005619, 0, 1, 2, 4, 5] Try.func47 rfl rfl (by kernel_rfl) (Nat.le_of_ble_eq_true rfl) mixed tabOk (by subst H_f_isCl H_q_K H_inRange H_f_gr H_q_Kv H_f_bvs H_q_buv; exact (bookCons s_spec_l07Is (bookCons s_spec_l01In (bookCons s_spec_l12Graph (bookCons s_spec_l11BlowVertex bookNil))))) (by subst H_f_isCl H_q_K H_inRange H_f_gr H_q_Kv H_f_bvs H_q_buv; exact bookINil) (by kernel_rfl) ?_
    intro L lp rr hL hr hf hlp
    conv => cbv
    simp only [stdEqs hL, imp_self, true_and, and_true, bif_or, bif_and, Bool.or_eq_true, Bool.or_eq_false_iff, Bool.and_eq_true, Bool.and_eq_false_iff, decide_eq_true_eq, decide_eq_false_iff_not, Bool.not_eq_true', Bool.not_eq_false', beq_iff_eq, beq_eq_false_iff_ne, ne_eq, toNat0, toNat1, ok_int, toI_int, I_frzs, I_length, I_getD, ok_ints, toL_slc, g0, g1, g2]
    subst H_f_isCl H_q_K H_inRange H_f_gr H_q_Kv H_f_bvs H_q_buv
    rw [g3, g3]
    refine ⟨hq, fun h => ?_, fun h => ?_⟩
    · rw [f_isCl] at h
      rw [hr, f_AGs, h]; rfl
    · have hqv := q_Kv_of hq h
      rw [f_isCl] at h
      have hcl := isCl_iff.1 h
      have hql : a2.length = a0.length := by
        obtain ⟨⟨P, hP⟩, _, ⟨Q, hQ⟩⟩ := hq
        have := hcl.ql
        rw [hP, hQ, unI_I, unI_I] at this
        rw [hP, hQ, I_length, I_length, this]
      have hl : a0.length ≤ 24 := by
        obtain ⟨⟨P, hP⟩, _, _⟩ := hq
        have := hcl.n24
        rw [hP, unI_I] at this
        rw [hP, I_length]; exact this
      have hin : inRange i 0 (IntKind.wrap .i64 ((a2.length : Int) - 1)) = f_isP a0 a1 a2 i := by
        rw [wrap_id (by omega) (by omega), hql]; rfl
      rw [hin]
      refine ⟨fun h2 => ?_, fun h2 => ?_⟩
      · rw [hr, f_AGs, h, h2]; rfl
      · have hv := (gr_val hq h h2).2
        have hff : V.frzs (V.frzs (f_gr a0 a1 a2).2) = V.frzs (f_gr a0 a1 a2).2 := by
          rw [f_gr, II_frzs, II_frzs]
        rw [hff]
        refine ⟨hqv, gr_buv hq h h2, ?_⟩
        rw [hv, hr, f_AGs, h, h2]
        simp only [I_frzs, II_frzs]
        rfl
  · cases h
def c_lawk_Ki (f : List V → List V → List V → Int → Bool) (q : List V → List V → List V → Int → Prop) : Contract := fun
  | [.agg [.slc false 2 (.int .i64 0) a0, .slc false 2 (.int .i64 0) a1, .slc false 2 (.int .i64 0) a2], .int .i64 a3] => some ([q a0 a1 a2 a3], .bool (f a0 a1 a2 a3))
  | _ => none
def q_lawk_Ki : List V → List V → List V → Int → Prop := fun x y z _ => q_K x y z
def yesk_Ki : List V → List V → List V → Int → Bool := fun _ _ _ _ => true
set_option maxRecDepth 100000 in
theorem s_laws_FnExactAttachedGraph : Sat Try.prog 10 (c_lawk_Ki yesk_Ki q_lawk_Ki) := by
  intro args ps r h hp
  unfold c_lawk_Ki at h
  split at h
  · rename_i a0 a1 a2 a3
    simp only [Option.some.injEq, Prod.mk.injEq] at h
    obtain ⟨rfl, rfl⟩ := h
    have hq : q_K a0 a1 a2 := (alls_cons.1 hp).1
    obtain ⟨hq0, hq1, hq2⟩ := id hq
    have g0 := hq0.frz
    have g1 := hq1.frz
    have g2 := hq2.frz
    generalize H_f_szK : f_szK = F_f_szK
    generalize H_q_szK : q_szK = F_q_szK
    generalize H_f_cpK : f_cpK = F_f_cpK
    generalize H_q_cpK : q_cpK = F_q_cpK
    generalize H_f_AGs : f_AGs = F_f_AGs
    generalize H_q_Ki9 : q_Ki9 = F_q_Ki9
    generalize H_f_AG : f_AG = F_f_AG
    generalize H_f_eqK : f_eqK = F_f_eqK
    generalize H_q_eqK : q_eqK = F_q_eqK
    generalize H_f_eqG : f_eqG = F_f_eqG
    generalize H_q_eqG : q_eqG = F_q_eqG
    generalize H_f0_heldG : f0_heldG = F_f0_heldG
    generalize H_q_heldG : q_heldG = F_q_heldG
    generalize H_f0_markG : f0_markG = F_f0_markG
    generalize H_f1_markG : f1_markG = F_f1_markG
    generalize H_f2_markG : f2_markG = F_f2_markG
    generalize H_q_markG : q_markG = F_q_markG
    generalize H_f0_markK : f0_markK = F_f0_markK
    generalize H_f1_markK : f1_markK = F_f1_markK
    generalize H_f2_markK : f2_markK = F_f2_markK
    generalize H_f3_markK : f3_markK = F_f3_markK
    generalize H_q_markK : q_markK = F_q_markK
    refine fnOk_ofI (T := tab) (B := [(29, c_Ki_i F_f_szK F_q_szK), (31, c_K_K F_f_cpK F_q_cpK), (47, c_Ki_Xi F_f_AGs F_q_Ki9), (48, c_Ki_Gi F_f_AG F_q_Ki9), (26, c_KK_b F_f_eqK F_q_eqK), (33, c_GG_b F_f_eqG F_q_eqG), (35, c_Gi_i F_f0_heldG F_q_heldG)]) (Bi := [(34, 0, false, ic_markG F_f0_markG F_f1_markG F_f2_markG F_q_markG), (27, 0, false, ic_markK F_f0_markK F_f1_markK F_f2_markK F_f3_markK F_q_markK)]) [2000005623, 0, 1, 2, 4, 5, 6, 7, 8, 9, 10, 11, 12, 13, 14, 15] Try.func10 rfl rfl (by kernel_rfl) (Nat.le_of_ble_eq_true rfl) mixed tabOk (by subst H_f_szK H_q_szK H_f_cpK H_q_cpK H_f_AGs H_q_Ki9 H_f_AG H_f_eqK H_q_eqK H_f_eqG H_q_eqG H_f0_heldG H_q_heldG H_f0_markG H_f1_markG H_f2_markG H_q_markG H_f0_markK H_f1_markK H_f2_markK H_f3_markK H_q_markK; exact (bookCons s_laws_szCluster (bookCons s_laws_toCluster (bookCons s_spec_AttachedGraph (bookCons s_impl_AttachedGraph (bookCons s_laws_eqCluster (bookCons s_laws_eqGraph (bookCons s_laws_heldGraph bookNil)))))))) (by subst H_f_szK H_q_szK H_f_cpK H_q_cpK H_f_AGs H_q_Ki9 H_f_AG H_f_eqK H_q_eqK H_f_eqG H_q_eqG H_f0_heldG H_q_heldG H_f0_markG H_f1_markG H_f2_markG H_q_markG H_f0_markK H_f1_markK H_f2_markK H_f3_markK H_q_markK; exact (bookICons s_laws_markGraph (bookICons s_laws_markCluster bookINil))) (by kernel_rfl) ?_
    intro L lp rr hL hr hf hlp
    have hlen := hf.1
    conv => cbv
    simp only [stdEqs hL, g0, g1, g2]
    subst H_f_szK H_q_szK H_f_cpK H_q_cpK H_f_AGs H_q_Ki9 H_f_AG H_f_eqK H_q_eqK H_f_eqG H_q_eqG H_f0_heldG H_q_heldG H_f0_markG H_f1_markG H_f2_markG H_q_markG H_f0_markK H_f1_markK H_f2_markK H_f3_markK H_q_markK
    refine ⟨trivial, fun h => by rw [hr]; rfl, fun h => ?_⟩
    obtain ⟨hc, hb0, hb1, hb2⟩ := szK_ok hq0 hq1 hq2 hlen.1.1 hlen.2.1.1 hlen.2.2.1.1 h
    obtain ⟨P, hP⟩ := hq0
    obtain ⟨S, hS⟩ := hq1
    obtain ⟨Q, hQ⟩ := hq2
    rw [hP, I_length] at hb0
    rw [hS, I_length] at hb1
    rw [hQ, I_length] at hb2
    have e0 : f_cpK a0 a1 a2 = (I P, I S, I Q) := by rw [f_cpK, hP, hS, hQ]
    have kg := cluster_keys P S Q (by omega)
    have hqg : q_K (I P) (I S) (I Q) := ⟨⟨_, rfl⟩, ⟨_, rfl⟩, ⟨_, rfl⟩⟩
    have hqx : q_Ki9 (I P) (I S) (I Q) a3 := hqg

    obtain ⟨zs, fs, code, ez, ez2, hzl⟩ : ∃ (zs : List Int) (fs : List (List Int)) (code : Int), f_AG (I P) (I S) (I Q) a3 = (I zs, II true fs, code) ∧ f_AGs (I P) (I S) (I Q) a3 = (I zs, II false fs, code) ∧ zs.length + tot fs ≤ 3000 := by
      rw [f_AG, f_AGs, unI_I, unI_I, unI_I, I_length]
      cases hh : isCl P S Q with
      | false => exact ⟨[], [], 1, rfl, rfl, by simp [tot]⟩
      | true =>
        cases h2 : f_isP (I P) (I S) (I Q) a3 with
        | false => exact ⟨[], [], 2, rfl, rfl, by simp [tot]⟩
        | true =>
          have hc := isCl_iff.1 hh
          have hg := esC_grN (gM P S) hc.n1 hc.n24
          have hel := hg.el
          have n24 := hc.n24
          refine ⟨_, _, 0, rfl, rfl, ?_⟩
          rw [buE_len2 (fun e he => (esC_in (Nat.le_refl _) he).1), buW, List.length_append, List.length_set, gwC, tab_len]
          simp only [List.length_cons, List.length_nil]
          omega
    have ck := graph_keys zs fs
    have ck2 := markG_keys zs fs (by omega)
    have ck3 := graph_keys2 zs fs (by omega)
    have hn1 : ∀ n : Nat, decide ((1 : Int) + n < 0) = false := fun n => by simp; omega
    have hn2 : ∀ n m : Nat, decide ((1 : Int) + n + m < 0) = false := fun n m => by simp; omega
    have hn3 : ∀ n m r : Nat, decide ((1 : Int) + n + m + r < 0) = false := fun n m r => by simp; omega
    simp only [e0, hc, II_frzs, kg, hqg, hqx, ez, ez2, ck, ck2, ck3, hn1, hn2, hn3, hr, yesk_Ki, I_frzs]
    simp
  · cases h
end Go.Ax
