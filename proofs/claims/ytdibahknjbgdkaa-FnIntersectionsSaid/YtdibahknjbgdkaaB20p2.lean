import Derived.Test.YtdibahknjbgdkaaB19p2
import Derived.Test.YtdibahknjbgdkaaAxP4p2
/-
  Draws of the law of intersections; generators. No conditions but those of the contracts.
-/
set_option linter.all false
namespace Go.Ax
open Go.Proofs

set_option maxHeartbeats 1000000 in
set_option maxRecDepth 100000 in
theorem s_spec_DrawIntersectionWith : Sat Try.prog 11 (c_u_AAi f_pr IsU) := by
  intro args ps r h hp
  unfold c_u_AAi at h
  split at h
  · rename_i a0
    simp only [Option.some.injEq, Prod.mk.injEq] at h
    obtain ⟨rfl, rfl⟩ := h
    have hq : IsU a0 := (alls_cons.1 hp).1
    have hfr : V.frzs a0 = a0 := by
      obtain ⟨xs, hxs, _⟩ := hq
      rw [hxs, U8_frzs2]
    have h1 : V.frzs (f_pr a0).1 = (f_pr a0).1 := by rw [f_pr, I_frzs]
    have h2 : V.frzs (f_pr a0).2.1 = (f_pr a0).2.1 := by rw [f_pr, I_frzs]
    generalize H_f_pr : f_pr = F_f_pr
    generalize H_IsU : IsU = F_IsU
    refine fnOk_ofF (T := tab) (B := [(36, c_u_AAi F_f_pr F_IsU)]) (Bi := []) [2000002802, 2000002803, 2000002815, 2000002998, 3000002002, 0, 2, 3, 4, 5, 6, 7] Try.func11 rfl rfl (by kernel_rfl) (Nat.le_of_ble_eq_true rfl) mixed tabOk (by subst H_f_pr H_IsU; exact (bookCons s_spec_l10Pair bookNil)) (by subst H_f_pr H_IsU; exact bookINil) (by kernel_rfl) ?_
    intro L lp rr hL hr hf hlp
    conv => cbv
    subst H_f_pr H_IsU
    simp only [stdEqs hL, imp_self, true_and, and_true, bif_or, bif_and, Bool.or_eq_true, Bool.or_eq_false_iff, Bool.and_eq_true, Bool.and_eq_false_iff, decide_eq_true_eq, decide_eq_false_iff_not, Bool.not_eq_true', Bool.not_eq_false', beq_iff_eq, beq_eq_false_iff_ne, ne_eq, toNat0, toNat1, ok_int, toI_int, I_frzs, I_length, I_getD, ok_ints, toL_slc, true_and, hfr, h1, h2]
    exact ⟨hq, hr.symm⟩
  · cases h
def c_u_AA (f : List V → List V × List V) (q : List V → Prop) : Contract := fun
  | [.slc false 5 (.int .u8 0) a0] => some ([q a0], .tup [.agg [.slc false 2 (.int .i64 0) ((f a0).1)], .agg [.slc false 2 (.int .i64 0) ((f a0).2)]])
  | _ => none
def f_dgc (a : List V) : List V × List V := (I (twF a 0 (f0_from a)).1, I (twF a 0 (f0_from a)).2.1)
set_option maxHeartbeats 1000000 in
set_option maxRecDepth 100000 in
theorem s_spec_DrawGreatestCommon : Sat Try.prog 18 (c_u_AA f_dgc IsU) := by
  intro args ps r h hp
  unfold c_u_AA at h
  split at h
  · rename_i a0
    simp only [Option.some.injEq, Prod.mk.injEq] at h
    obtain ⟨rfl, rfl⟩ := h
    have hq : IsU a0 := (alls_cons.1 hp).1
    have hfr : V.frzs a0 = a0 := by
      obtain ⟨xs, hxs, _⟩ := hq
      rw [hxs, U8_frzs2]
    generalize H_f0_from : f0_from = F_f0_from
    generalize H_IsU : IsU = F_IsU
    generalize H_f_tw : f_tw = F_f_tw
    generalize H_q_src : q_src = F_q_src
    refine fnOk_ofF (T := tab) (B := [(27, c_from F_f0_from F_IsU)]) (Bi := [(47, 1000, false, ic_tw F_f_tw F_q_src)]) [2000002802, 2000002803, 2000002813, 2000002998, 0, 2, 3, 4, 5] Try.func18 rfl rfl (by kernel_rfl) (Nat.le_of_ble_eq_true rfl) mixed tabOk (by subst H_f0_from H_IsU H_f_tw H_q_src; exact (bookCons s_spec_l01From bookNil)) (by subst H_f0_from H_IsU H_f_tw H_q_src; exact (bookICons s_spec_l10Two bookINil)) (by kernel_rfl) ?_
    intro L lp rr hL hr hf hlp
    conv => cbv
    subst H_f_tw H_IsU H_f0_from H_q_src
    have e1 : f_tw a0 0 (f0_from a0) = (I (twF a0 0 (f0_from a0)).1, I (twF a0 0 (f0_from a0)).2.1, (twF a0 0 (f0_from a0)).2.2) := rfl
    simp only [stdEqs hL, imp_self, true_and, and_true, bif_or, bif_and, Bool.or_eq_true, Bool.or_eq_false_iff, Bool.and_eq_true, Bool.and_eq_false_iff, decide_eq_true_eq, decide_eq_false_iff_not, Bool.not_eq_true', Bool.not_eq_false', beq_iff_eq, beq_eq_false_iff_ne, ne_eq, toNat0, toNat1, ok_int, toI_int, I_frzs, I_length, I_getD, ok_ints, toL_slc, true_and, hfr, e1, I_frzs]
    exact ⟨hq, ⟨hq, Int.le_refl _, Int.natCast_nonneg _⟩, hr.symm⟩
  · cases h
def c_u_Ai (f : List V → List V × Int) (q : List V → Prop) : Contract := fun
  | [.slc false 5 (.int .u8 0) a0] => some ([q a0], .tup [.agg [.slc false 2 (.int .i64 0) ((f a0).1)], .int .i64 ((f a0).2)])
  | _ => none
def dsF (es : List V) (h : Int) : List Int × Int := ((spF es 0 h).1, W (1 + (cnF es (spF es 0 h).2 (W (((spF es 0 h).1.length : Int) - 2))).1))
def f_dsr (a : List V) : List V × Int := (I (dsF a (f0_from a)).1, (dsF a (f0_from a)).2)
set_option maxHeartbeats 1000000 in
set_option maxRecDepth 100000 in
theorem s_spec_DrawSemirootOf : Sat Try.prog 21 (c_u_Ai f_dsr IsU) := by
  intro args ps r h hp
  unfold c_u_Ai at h
  split at h
  · rename_i a0
    simp only [Option.some.injEq, Prod.mk.injEq] at h
    obtain ⟨rfl, rfl⟩ := h
    have hq : IsU a0 := (alls_cons.1 hp).1
    have hfr : V.frzs a0 = a0 := by
      obtain ⟨xs, hxs, _⟩ := hq
      rw [hxs, U8_frzs2]
    generalize H_f0_from : f0_from = F_f0_from
    generalize H_IsU : IsU = F_IsU
    generalize H_f_sp : f_sp = F_f_sp
    generalize H_q_src : q_src = F_q_src
    generalize H_f_cn : f_cn = F_f_cn
    generalize H_q_nx : q_nx = F_q_nx
    refine fnOk_ofF (T := tab) (B := [(27, c_from F_f0_from F_IsU)]) (Bi := [(26, 1000, false, ic_sp F_f_sp F_q_src), (49, 1000, false, ic_cn F_f_cn F_q_nx)]) [2000003802, 2000003804, 2000003810, 2000003816, 2000003817, 2000003995, 2000003998, 0, 2, 3, 4, 5] Try.func21 rfl rfl (by kernel_rfl) (Nat.le_of_ble_eq_true rfl) mixed tabOk (by subst H_f0_from H_IsU H_f_sp H_q_src H_f_cn H_q_nx; exact (bookCons s_spec_l01From bookNil)) (by subst H_f0_from H_IsU H_f_sp H_q_src H_f_cn H_q_nx; exact (bookICons s_spec_l03Spoil (bookICons s_spec_l01Count bookINil))) (by kernel_rfl) ?_
    intro L lp rr hL hr hf hlp
    conv => cbv
    subst H_f_sp H_IsU H_f0_from H_q_src H_f_cn H_q_nx
    have e1 : f_sp a0 0 (f0_from a0) = (I (spF a0 0 (f0_from a0)).1, (spF a0 0 (f0_from a0)).2) := rfl
    simp only [stdEqs hL, imp_self, true_and, and_true, bif_or, bif_and, Bool.or_eq_true, Bool.or_eq_false_iff, Bool.and_eq_true, Bool.and_eq_false_iff, decide_eq_true_eq, decide_eq_false_iff_not, Bool.not_eq_true', Bool.not_eq_false', beq_iff_eq, beq_eq_false_iff_ne, ne_eq, toNat0, toNat1, ok_int, toI_int, I_frzs, I_length, I_getD, ok_ints, toL_slc, true_and, hfr, e1, I_frzs]
    have s0 : q_src a0 0 (f0_from a0) := ⟨hq, Int.le_refl _, Int.natCast_nonneg _⟩
    exact ⟨hq, s0, (spF_src s0).1, hr.symm⟩
  · cases h
def c_B_li (f : List V → List V × Int) (q : List V → Prop) : Contract := fun
  | [.agg [.slc false 2 (.int .i64 0) a0]] => some ([q a0], .tup [.slc true 2 (.int .i64 0) ((f a0).1), .int .i64 ((f a0).2)])
  | _ => none
def f_gnr (a : List V) : List V × Int := bif isBr (unI a) then (I (gens (unI a)), 0) else ([], 1)
set_option maxHeartbeats 1000000 in
set_option maxRecDepth 100000 in
theorem s_impl_GeneratorsOf : Sat Try.prog 25 (c_B_li f_gnr IsIs) := by
  intro args ps r h hp
  unfold c_B_li at h
  split at h
  · rename_i a0
    simp only [Option.some.injEq, Prod.mk.injEq] at h
    obtain ⟨rfl, rfl⟩ := h
    have hq : IsIs a0 := (alls_cons.1 hp).1
    obtain ⟨xs, hxs⟩ := hq.1
    have g1 : V.frzs a0 = a0 := by rw [hxs, I_frzs]
    generalize H_f0_isBr : f0_isBr = F_f0_isBr
    generalize H_IsIs : IsIs = F_IsIs
    generalize H_f_gens : f_gens = F_f_gens
    generalize H_IsBr : IsBr = F_IsBr
    refine fnOk_ofI (T := tab) (B := [(28, c_b_bool F_f0_isBr F_IsIs), (31, c_B_l F_f_gens F_IsBr)]) (Bi := []) [0, 1, 2, 3] Try.func25 rfl rfl (by kernel_rfl) (Nat.le_of_ble_eq_true rfl) mixed tabOk (by subst H_f0_isBr H_IsIs H_f_gens H_IsBr; exact (bookCons s_impl_IsBranch (bookCons s_impl_generators bookNil))) (by subst H_f0_isBr H_IsIs H_f_gens H_IsBr; exact bookINil) (by kernel_rfl) ?_
    intro L lp rr hL hr hf hlp
    conv => cbv
    subst H_IsIs H_f0_isBr H_IsBr H_f_gens
    have e1 : f0_isBr a0 = isBr xs := by rw [hxs, f0_isBr, unI_I]
    have e2 : f_gnr a0 = bif isBr xs then (I (gens xs), 0) else ([], 1) := by rw [f_gnr, hxs, unI_I]
    have e3 : f_gens a0 = I (gens xs) := by rw [f_gens, hxs, unI_I]
    simp only [stdEqs hL, imp_self, true_and, and_true, bif_or, bif_and, Bool.or_eq_true, Bool.or_eq_false_iff, Bool.and_eq_true, Bool.and_eq_false_iff, decide_eq_true_eq, decide_eq_false_iff_not, Bool.not_eq_true', Bool.not_eq_false', beq_iff_eq, beq_eq_false_iff_ne, ne_eq, toNat0, toNat1, ok_int, toI_int, I_frzs, I_length, I_getD, ok_ints, toL_slc, true_and, g1, e1, e3]
    refine ⟨hq, fun h => ?_, fun h => ⟨⟨xs, hxs, br_of h⟩, ?_⟩⟩
    · rw [hr, e2, h]; rfl
    · rw [hr, e2, h]; rfl
  · cases h
end Go.Ax
/-
  A body cut in two: what stands behind the cut may be kept as a name. No conditions.
-/
set_option linter.all false
namespace Go.Ax

def cutC : Nat → Code → Code × Code
  | 0, c => (.skip, c)
  | n + 1, .seq a b => (.seq a (cutC n b).1, (cutC n b).2)
  | _ + 1, c => (.skip, c)
theorem thenS_thenS (f g : Sta → Prop) (Q : PostS) : thenS f (thenS g Q) = thenS f Q := by
  funext e S
  cases e <;> rfl
theorem wpS_cut (L : Alg) (T : Tab) (lp : LoopA) (B : Book) (Bi : IBook) (nt : Nat) (ks : List Nat) (Q : PostS) : ∀ (n : Nat) (c : Code) (S : Sta), wpS L T lp B Bi nt ks c Q S = wpS L T lp B Bi nt ks (cutC n c).1 (thenS (wpS L T lp B Bi nt ks (cutC n c).2 Q) Q) S
  | 0, c, S => rfl
  | n + 1, c, S => by
    cases c with
    | seq a b =>
      show wpS L T lp B Bi nt ks a (thenS (wpS L T lp B Bi nt ks b Q) Q) S = wpS L T lp B Bi nt ks a (thenS (wpS L T lp B Bi nt ks (cutC n b).1 (thenS (wpS L T lp B Bi nt ks (cutC n b).2 Q) Q)) (thenS (wpS L T lp B Bi nt ks (cutC n b).2 Q) Q)) S
      rw [thenS_thenS, show wpS L T lp B Bi nt ks b Q = wpS L T lp B Bi nt ks (cutC n b).1 (thenS (wpS L T lp B Bi nt ks (cutC n b).2 Q) Q) from funext fun S => wpS_cut L T lp B Bi nt ks Q n b S]
    | _ => rfl
theorem wpS_cut_of (L : Alg) (T : Tab) (lp : LoopA) (B : Book) (Bi : IBook) (nt : Nat) (ks : List Nat) (Q : PostS) (n : Nat) (c : Code) (S : Sta)
    (h : ∀ K : Sta → Prop, K = wpS L T lp B Bi nt ks (cutC n c).2 Q → wpS L T lp B Bi nt ks (cutC n c).1 (thenS K Q) S) : wpS L T lp B Bi nt ks c Q S := by
  rw [wpS_cut L T lp B Bi nt ks Q n c S]
  exact h _ rfl
end Go.Ax
