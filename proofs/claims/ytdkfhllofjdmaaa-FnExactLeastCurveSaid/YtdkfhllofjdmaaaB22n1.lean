import Derived.Test.YtdkfhllofjdmaaaB21n1
/-
  LeastCurve, both sides. No conditions but those of the contracts.
-/
set_option linter.all false
namespace Go.Ax
open Go.Proofs
set_option maxHeartbeats 2000000

def lcR (bs ms : List (List Int)) : List (List Int) × List (List Int) := leastC bs ms bs.length bs.length [] (partB bs (iota bs.length), partM ms (iota bs.length))
def f_lcv (a b : List V) : List V × List V := (BB true (lcR (unBB a) (unII b)).1, II true (lcR (unBB a) (unII b)).2)
noncomputable def f_lc (a b : List V) : List V × List V × Int := bif f_isCv a b then ((f_lcv a b).1, (f_lcv a b).2, 0) else ([], [], 1)
def c_C_Cik (f : List V → List V → List V × List V × Int) (q : List V → List V → Prop) : Contract := fun
  | [.agg [.slc false 61 (.agg [.slc false 2 (.int .i64 0) []]) a0, .slc false 27 (.slc false 2 (.int .i64 0) []) a1]] => some ([q a0 a1], .tup [.agg [.slc true 61 (.agg [.slc true 2 (.int .i64 0) []]) ((f a0 a1).1), .slc true 27 (.slc true 2 (.int .i64 0) []) ((f a0 a1).2.1)], .int .i64 ((f a0 a1).2.2)])
  | _ => none
set_option maxHeartbeats 1000000 in
set_option maxRecDepth 100000 in
theorem s_spec_LeastCurve : Sat Try.prog 14 (c_C_Cik f_lc q_C) := by
  intro args ps r h hp
  unfold c_C_Cik at h
  split at h
  · rename_i a0 a1
    simp only [Option.some.injEq, Prod.mk.injEq] at h
    obtain ⟨rfl, rfl⟩ := h
    have hq : q_C a0 a1 := (alls_cons.1 hp).1
    have g0 := frzs_BB hq.1.isBB
    have g1 := frzs_II hq.2.isII
    obtain ⟨⟨bs, hbs, hb1, hb2⟩, ⟨ms, hms, hm1, hm2⟩⟩ := id hq
    have hbl : a0.length = bs.length := by rw [hbs, BB_length]
    have hcv : f_isCv a0 a1 = true → CvP bs ms := fun h => by rw [f_isCv, hbs, hms, unBB_BB, unII_II] at h; exact isCv_iff.1 h
    obtain ⟨n, hn⟩ : ∃ n : Int, n = bs.length := ⟨_, rfl⟩
    have hfl : f_lcv a0 a1 = (BB true (lcR bs ms).1, II true (lcR bs ms).2) := by rw [f_lcv, hbs, hms, unBB_BB, unII_II]
    obtain ⟨vi, hvi⟩ : ∃ vi, vi = I (iota bs.length) := ⟨_, rfl⟩
    have gvi : V.frzs vi = vi := by rw [hvi, I_frzs]
    have hpt : f_part a0 a1 vi = (BB true (partB bs (iota bs.length)), II true (partM ms (iota bs.length))) := by rw [f_part, hbs, hms, hvi, unBB_BB, unII_II, unI_I]
    obtain ⟨ob, hob⟩ : ∃ ob, ob = BB true (partB bs (iota bs.length)) := ⟨_, rfl⟩
    obtain ⟨om, hom⟩ : ∃ om, om = II true (partM ms (iota bs.length)) := ⟨_, rfl⟩
    have hls : f_lst a0 a1 ob om [] = f_lcv a0 a1 := by
      rw [hfl, f_lst, hbl, hbs, hms, hob, hom, unBB_BB, unII_II, unBB_BB, unII_II]
      rfl
    generalize H_f_isCv : f_isCv = F_f_isCv
    generalize H_q_C : q_C = F_q_C
    generalize H_f_part : f_part = F_f_part
    generalize H_q_part : q_part = F_q_part
    generalize H_f_lst : f_lst = F_f_lst
    generalize H_q_lst0 : q_lst0 = F_q_lst0
    refine fnOk_ofI (T := tab) (B := [(19, c_C_b F_f_isCv F_q_C), (34, c_Cl_C F_f_part F_q_part)]) (Bi := [(33, 1, true, ic_lst F_f_lst F_q_lst0)]) [2000008025, 2000008727, 2000008996, 0, 1, 2, 3, 4, 5] Try.func14 rfl rfl (by kernel_rfl) (Nat.le_of_ble_eq_true rfl) mixed tabOk (by subst H_f_isCv H_q_C H_f_part H_q_part H_f_lst H_q_lst0; exact (bookCons s_spec_l09Is (bookCons s_spec_l09Part bookNil))) (by subst H_f_isCv H_q_C H_f_part H_q_part H_f_lst H_q_lst0; exact (bookMCons s_lst0 bookINil)) (by kernel_rfl) ?_
    intro L lp rr hL hr hf hlp
    have Ep : F_f_part a0 a1 vi = (ob, om) := by rw [← H_f_part, hpt, hob, hom]
    have El : F_f_lst a0 a1 ob om [] = f_lcv a0 a1 := by rw [← H_f_lst, hls]
    conv => cbv
    simp only [stdEqs hL, imp_self, true_and, and_true, bif_or, bif_and, Bool.or_eq_true, Bool.or_eq_false_iff, Bool.and_eq_true, Bool.and_eq_false_iff, decide_eq_true_eq, decide_eq_false_iff_not, Bool.not_eq_true', Bool.not_eq_false', beq_iff_eq, beq_eq_false_iff_ne, ne_eq, toNat0, toNat1, ok_int, toI_int, I_frzs, I_length, I_getD, ok_ints, toL_slc, g0, g1, hbl, ← hn]
    refine ⟨by rw [← H_q_C]; exact hq, fun h => ?_, fun h => ?_⟩
    · rw [hr, f_lc, H_f_isCv, h]; rfl
    have h' : f_isCv a0 a1 = true := by rw [H_f_isCv]; exact h
    have hv := hcv h'
    have n6 := hv.n6
    refine hlp (List V × Int) _ _ _ [1, 2, 4, 5] (fun x => [(1, none, .val (.box 32 (.agg [.slc false 61 (.agg [.slc false 2 (.int .i64 0) []]) a0, .slc false 27 (.slc false 2 (.int .i64 0) []) a1]))), (2, none, .val (.box 32 (.agg [.slc true 61 (.agg [.slc true 2 (.int .i64 0) []]) [], .slc true 27 (.slc true 2 (.int .i64 0) []) []]))), (4, none, .val (.slc true 2 (.int .i64 0) x.1)), (5, none, .val (.int .i64 x.2))])
      (fun x => 0 ≤ x.2 ∧ x.2 ≤ n ∧ x.1 = I (iota x.2.toNat)) (fun x => (n - x.2).toNat) (([], 0)) (by subst hL; rfl) ?_ ?_
    · exact ⟨by simp, by simp only; omega, rfl⟩
    rintro ⟨os, i⟩ ⟨i0, i1, hO⟩ hfx ag hag
    simp only at i0 i1 hO
    have hol : os.length = i.toNat := by rw [hO, I_length, iota_len]
    have hfin : ¬ i < n → os = vi := fun h2 => by rw [hO, hvi, show i.toNat = bs.length by omega]
    conv => cbv
    simp only [stdEqs hL, imp_self, true_and, and_true, bif_or, bif_and, Bool.or_eq_true, Bool.or_eq_false_iff, Bool.and_eq_true, Bool.and_eq_false_iff, decide_eq_true_eq, decide_eq_false_iff_not, Bool.not_eq_true', Bool.not_eq_false', beq_iff_eq, beq_eq_false_iff_ne, ne_eq, toNat0, toNat1, ok_int, toI_int, I_frzs, I_length, I_getD, ok_ints, toL_slc, g0, g1, hbl, hol, ← hn]
    rw [wrap_id (n := i + 1) (by omega) (by omega)]
    refine ⟨fun h2 => ⟨rfl, by first | omega | (simp only [List.length_cons, List.length_nil]; omega), solid_one _, ?_⟩, fun h2 => ?_⟩
    · refine hag (_, i + 1) ⟨by simp only; omega, by simp only; omega, ?_⟩ (by simp only; omega)
      simp only [toNat_succ i0]
      rw [hO, show iota (i.toNat + 1) = iota i.toNat ++ [((i.toNat : Nat) : Int)] from tab_succ _ _, ← I_append, show ((i.toNat : Nat) : Int) = i by omega]
      rfl
    · have hfv : V.frzs [] = [] := rfl
      rw [hfin h2, gvi, Ep, hfv, El, hfl]
      have hqc : q_cv a0 a1 := ⟨hq, by rw [hbs, hms, unBB_BB, unII_II]; exact hv⟩
      refine ⟨?_, by rw [hob]; exact BB_noFzs _, by rw [hom]; exact II_noFzs _, ?_, BB_noFzs _, II_noFzs _, ?_⟩
      · rw [← H_q_part]
        refine ⟨hqc, _, hvi, fun k hk => ?_, by rw [iota_len]; omega⟩
        rw [iota_len] at hk
        rw [hbl, iota_get _ _ hk]
        omega
      · rw [← H_q_lst0]
        exact ⟨rfl, hqc, ⟨_, _, hob, hom, kc_part hv (.refl _)⟩, [], rfl, by simp, fun x hx => by cases hx⟩
      · rw [hr, f_lc, h', hfl]; rfl
  · cases h
theorem cmpL_iff {a b : List Int} : cmpL a b < 0 ↔ lexLt a b = true := by
  have h := cmpL_lt a b
  constructor
  · intro h1
    rw [decide_eq_false (by omega)] at h
    cases h2 : lexLt a b with
    | true => rfl
    | false => rw [h2] at h; cases h
  · intro h1
    rw [h1] at h
    have : ¬ 0 ≤ cmpL a b := by simpa using h
    omega
theorem leastU_key {bs ms : List (List Int)} {n : Nat} {p : List Int} {R : List (List Int) × List (List Int)} (h : LeastU bs ms n p R) (hv : CvP bs ms) (hn : n = bs.length) : KcP R.1 R.2 := by
  obtain ⟨⟨q, hq, rfl⟩, _⟩ := h
  rw [hn] at hq
  exact kc_part hv (ord_perm hq)
set_option maxHeartbeats 1000000 in
set_option maxRecDepth 100000 in
theorem s_impl_leastCurve : Sat Try.prog 35 (c_C_Ck f_lcv q_cv) := by
  intro args ps r h hp
  unfold c_C_Ck at h
  split at h
  · rename_i a0 a1
    simp only [Option.some.injEq, Prod.mk.injEq] at h
    obtain ⟨rfl, rfl⟩ := h
    have hqc : q_cv a0 a1 := (alls_cons.1 hp).1
    have g0 := frzs_BB hqc.1.1.isBB
    have g1 := frzs_II hqc.1.2.isII
    obtain ⟨⟨⟨bs, hbs, hb1, hb2⟩, ⟨ms, hms, hm1, hm2⟩⟩, hv⟩ := id hqc
    rw [hbs, hms, unBB_BB, unII_II] at hv
    have hbl : a0.length = bs.length := by rw [hbs, BB_length]
    obtain ⟨n, hn⟩ : ∃ n : Int, n = bs.length := ⟨_, rfl⟩
    have hfl : f_lcv a0 a1 = (BB true (lcR bs ms).1, II true (lcR bs ms).2) := by rw [f_lcv, hbs, hms, unBB_BB, unII_II]
    have hcp : f_cpC1 a0 a1 = (BB true bs, II true ms) := by rw [f_cpC1, hbs, hms, unBB_BB, unII_II]
    have hqcp : q_cpC1 a0 a1 := ⟨bs, ms, hbs, hms, kc_of hv⟩
    have hrn : ∀ p : List Int, f_rnm a0 a1 (I p) = (BB true (partB bs (ordP p)), II true (partM ms (ordP p))) := fun p => by rw [f_rnm, f_part, hbs, hms, unI_I, unI_I, unBB_BB, unII_II]
    have n1 := hv.n1
    have n6 := hv.n6
    obtain ⟨is0, his0⟩ : ∃ is0, is0 = I (iota bs.length) := ⟨_, rfl⟩
    obtain ⟨cb, hcb⟩ : ∃ cb, cb = BB true bs := ⟨_, rfl⟩
    obtain ⟨cm, hcm⟩ : ∃ cm, cm = II true ms := ⟨_, rfl⟩
    generalize H_f_cpC1 : f_cpC1 = F_f_cpC1
    generalize H_q_cpC1 : q_cpC1 = F_q_cpC1
    generalize H_f_key : f_key = F_f_key
    generalize H_q_key : q_key = F_q_key
    generalize H_f_fp0 : f_fp0 = F_f_fp0
    generalize H_q_fp0 : q_fp0 = F_q_fp0
    generalize H_f_rnm : f_rnm = F_f_rnm
    generalize H_q_rnm : q_rnm = F_q_rnm
    generalize H_f_cmpL : f_cmpL = F_f_cmpL
    generalize H_q_II : q_II = F_q_II
    generalize H_f_np0 : f_np0 = F_f_np0
    generalize H_f_np1 : f_np1 = F_f_np1
    generalize H_q_np : q_np = F_q_np
    refine fnOk_ofI (T := tab) (B := [(60, c_C_Ck F_f_cpC1 F_q_cpC1), (24, c_C_lk F_f_key F_q_key), (25, c_i_lp F_f_fp0 F_q_fp0), (27, c_Cl_C F_f_rnm F_q_rnm), (61, c_ll_i F_f_cmpL F_q_II)]) (Bi := [(28, 0, false, ic_np F_f_np0 F_f_np1 F_q_np)]) [0, 1, 2, 3, 4, 5] Try.func35 rfl rfl (by kernel_rfl) (Nat.le_of_ble_eq_true rfl) mixed tabOk (by subst H_f_cpC1 H_q_cpC1 H_f_key H_q_key H_f_fp0 H_q_fp0 H_f_rnm H_q_rnm H_f_cmpL H_q_II H_f_np0 H_f_np1 H_q_np; exact (bookCons s_impl_copyCurve (bookCons s_impl_keyOf (bookCons s_firstPerm (bookCons s_impl_renumbered (bookCons s_slicesCompare bookNil)))))) (by subst H_f_cpC1 H_q_cpC1 H_f_key H_q_key H_f_fp0 H_q_fp0 H_f_rnm H_q_rnm H_f_cmpL H_q_II H_f_np0 H_f_np1 H_q_np; exact (bookICons s_next bookINil)) (by kernel_rfl) ?_
    intro L lp rr hL hr hf hlp
    have Ef : F_f_fp0 n = is0 := by rw [← H_f_fp0, f_fp0, hn, Int.toNat_natCast, his0]
    have Ec : F_f_cpC1 a0 a1 = (cb, cm) := by rw [← H_f_cpC1, hcp, hcb, hcm]
    have Er : ∀ p : List Int, F_f_rnm a0 a1 (I p) = (BB true (partB bs (ordP p)), II true (partM ms (ordP p))) := fun p => by rw [← H_f_rnm, hrn]
    have Ekr : ∀ u v : List (List Int), F_f_key (BB false u) (II false v) = I (keyC u v) := fun u v => by rw [← H_f_key, f_key, unBB_BB, unII_II]
    have Ee : ∀ u v : List Int, F_f_cmpL (I u) (I v) = cmpL u v := fun u v => by rw [← H_f_cmpL, f_cmpL, unI_I, unI_I]
    have E0 : ∀ p : List Int, F_f_np0 (I p) = npB p := fun p => by rw [← H_f_np0, f_np0, unI_I]
    have E1 : ∀ p : List Int, F_f_np1 (I p) = I (npL p) := fun p => by rw [← H_f_np1, f_np1, unI_I]
    conv => cbv
    simp only [stdEqs hL, imp_self, true_and, and_true, bif_or, bif_and, Bool.or_eq_true, Bool.or_eq_false_iff, Bool.and_eq_true, Bool.and_eq_false_iff, decide_eq_true_eq, decide_eq_false_iff_not, Bool.not_eq_true', Bool.not_eq_false', beq_iff_eq, beq_eq_false_iff_ne, ne_eq, toNat0, toNat1, ok_int, toI_int, I_frzs, I_length, I_getD, ok_ints, toL_slc, g0, g1, hbl, ← hn, Ef, Ec]
    refine ⟨by rw [← H_q_fp0]; exact ⟨by omega, by omega⟩, by rw [← H_q_cpC1]; exact hqcp, ?_⟩
    refine hlp ((List V × List V) × List V) _ _ _ [1, 2, 3, 4] (fun x => [(1, none, .val (.box 32 (.agg [.slc false 61 (.agg [.slc false 2 (.int .i64 0) []]) a0, .slc false 27 (.slc false 2 (.int .i64 0) []) a1]))), (2, none, .val (.box 32 (.agg [.slc true 61 (.agg [.slc true 2 (.int .i64 0) []]) [], .slc true 27 (.slc true 2 (.int .i64 0) []) []]))), (3, none, .val (.slc true 2 (.int .i64 0) x.2)), (4, none, .val (.box 32 (.agg [.slc true 61 (.agg [.slc true 2 (.int .i64 0) []]) x.1.1, .slc true 27 (.slc true 2 (.int .i64 0) []) x.1.2])))])
      (fun x => ∃ (p : List Int) (R : List (List Int) × List (List Int)), x.2 = I p ∧ x.1.1 = BB true R.1 ∧ x.1.2 = II true R.2 ∧ p.Perm (iota bs.length) ∧ LeastU bs ms bs.length p R) (fun x => toCome bs.length (unI x.2)) (((cb, cm), is0)) (by subst hL; rfl) ?_ ?_
    · exact ⟨iota bs.length, (bs, ms), his0, hcb, hcm, .refl _, LeastU.start rfl hv.tab⟩
    rintro ⟨⟨fs, gs⟩, os⟩ ⟨p, R, hO, hF, hG, hpp, hU⟩ hfx ag hag
    simp only at hO hF hG
    have hpl : p.length = bs.length := by rw [hpp.length_eq, iota_len]
    obtain ⟨os', hos'⟩ : ∃ os', os' = I (npL p) := ⟨_, rfl⟩
    have gO' : V.frzs os' = os' := by rw [hos', I_frzs]
    have E0' : F_f_np0 os = npB p := by rw [hO, E0]
    have E1' : F_f_np1 os = os' := by rw [hO, E1, hos']
    obtain ⟨fs', hfs'⟩ : ∃ fs', fs' = BB true (partB bs (ordP (npL p))) := ⟨_, rfl⟩
    obtain ⟨gs', hgs'⟩ : ∃ gs', gs' = II true (partM ms (ordP (npL p))) := ⟨_, rfl⟩
    have Er' : F_f_rnm a0 a1 os' = (fs', gs') := by rw [hos', Er, hfs', hgs']
    obtain ⟨k1, hk1⟩ : ∃ k1, k1 = I (kP bs ms (ordP (npL p))) := ⟨_, rfl⟩
    obtain ⟨k2, hk2⟩ : ∃ k2, k2 = I (keyC R.1 R.2) := ⟨_, rfl⟩
    have gk1 : V.frzs k1 = k1 := by rw [hk1, I_frzs]
    have gk2 : V.frzs k2 = k2 := by rw [hk2, I_frzs]
    have K1 : F_f_key (V.frzs fs') (V.frzs gs') = k1 := by rw [hfs', hgs', BB_frzs, II_frzs, Ekr, hk1]; rfl
    have K2 : F_f_key (V.frzs fs) (V.frzs gs) = k2 := by rw [hF, hG, BB_frzs, II_frzs, Ekr, hk2]
    have Ee' : F_f_cmpL k1 k2 = cmpL (kP bs ms (ordP (npL p))) (keyC R.1 R.2) := by rw [hk1, hk2, Ee]
    conv => cbv
    simp only [stdEqs hL, imp_self, true_and, and_true, bif_or, bif_and, Bool.or_eq_true, Bool.or_eq_false_iff, Bool.and_eq_true, Bool.and_eq_false_iff, decide_eq_true_eq, decide_eq_false_iff_not, Bool.not_eq_true', Bool.not_eq_false', beq_iff_eq, beq_eq_false_iff_ne, ne_eq, toNat0, toNat1, ok_int, toI_int, I_frzs, I_length, I_getD, ok_ints, toL_slc, g0, g1, E0', E1', gO', Er', K1, K2, gk1, gk2, Ee']
    have kR := leastU_key hU hv rfl
    refine ⟨by rw [← H_q_np]; exact ⟨p, hO, by omega, by omega⟩, fun hb => ?_, fun hb => ?_⟩
    · have hpp' := np_perm hpp hb
      obtain ⟨pm, pl⟩ := iota_pm hpp'
      have hU' := hU.next hpp hb
      have hdec : toCome bs.length (unI os') < toCome bs.length (unI os) := by rw [hos', hO, unI_I, unI_I]; exact toCome_lt hpp hb
      refine ⟨?_, by rw [hfs']; exact BB_noFzs _, by rw [hgs']; exact II_noFzs _, ?_, by rw [hk1]; exact I_noFzs _, ?_, by rw [hk2]; exact I_noFzs _, ?_, fun h => ?_, fun h => ?_⟩
      · rw [← H_q_rnm]
        exact ⟨hqc, npL p, hos', pm, by rw [hbl]; exact pl⟩
      · rw [← H_q_key]
        exact ⟨_, _, by rw [hfs', BB_frzs], by rw [hgs', II_frzs], kc_part hv (ord_perm hpp')⟩
      · rw [← H_q_key]
        exact ⟨_, _, by rw [hF, BB_frzs], by rw [hG, II_frzs], kR⟩
      · rw [← H_q_II]
        exact ⟨⟨_, hk1⟩, ⟨_, hk2⟩⟩
      · rw [if_pos (cmpL_iff.1 h)] at hU'
        exact hag ((fs', gs'), os') ⟨npL p, _, hos', hfs', hgs', hpp', hU'⟩ hdec
      · rw [if_neg (fun e => h (cmpL_iff.2 e))] at hU'
        exact hag ((fs, gs), os') ⟨npL p, _, hos', hF, hG, hpp', hU'⟩ hdec
    · have hL := hU.least hpp hb
      have he : R = lcR bs ms := hL.unique leastC_least
      rw [hr, hfl, hF, hG, he]
  · cases h
set_option maxHeartbeats 1000000 in
set_option maxRecDepth 100000 in
theorem s_impl_LeastCurve : Sat Try.prog 15 (c_C_Cik f_lc q_C) := by
  intro args ps r h hp
  unfold c_C_Cik at h
  split at h
  · rename_i a0 a1
    simp only [Option.some.injEq, Prod.mk.injEq] at h
    obtain ⟨rfl, rfl⟩ := h
    have hq : q_C a0 a1 := (alls_cons.1 hp).1
    have g0 := frzs_BB hq.1.isBB
    have g1 := frzs_II hq.2.isII
    have hf0 : f_lc a0 a1 = bif f_isCv a0 a1 then ((f_lcv a0 a1).1, (f_lcv a0 a1).2, 0) else ([], [], 1) := rfl
    have hno : V.noFzs (f_lcv a0 a1).1 = true ∧ V.noFzs (f_lcv a0 a1).2 = true := ⟨BB_noFzs _, II_noFzs _⟩
    generalize H_f_isCv : f_isCv = F_f_isCv
    generalize H_q_C : q_C = F_q_C
    generalize H_f_lcv : f_lcv = F_f_lcv
    generalize H_q_cv : q_cv = F_q_cv
    refine fnOk_ofI (T := tab) (B := [(23, c_C_b F_f_isCv F_q_C), (35, c_C_Ck F_f_lcv F_q_cv)]) (Bi := []) [0, 1, 2, 3] Try.func15 rfl rfl (by kernel_rfl) (Nat.le_of_ble_eq_true rfl) mixed tabOk (by subst H_f_isCv H_q_C H_f_lcv H_q_cv; exact (bookCons s_impl_IsCurve (bookCons s_impl_leastCurve bookNil))) (by subst H_f_isCv H_q_C H_f_lcv H_q_cv; exact bookINil) (by kernel_rfl) ?_
    intro L lp rr hL hr hf hlp
    conv => cbv
    simp only [stdEqs hL, imp_self, true_and, and_true, bif_or, bif_and, Bool.or_eq_true, Bool.or_eq_false_iff, Bool.and_eq_true, Bool.and_eq_false_iff, decide_eq_true_eq, decide_eq_false_iff_not, Bool.not_eq_true', Bool.not_eq_false', beq_iff_eq, beq_eq_false_iff_ne, ne_eq, toNat0, toNat1, ok_int, toI_int, I_frzs, I_length, I_getD, ok_ints, toL_slc, g0, g1]
    subst H_f_isCv H_q_C H_f_lcv H_q_cv
    refine ⟨hq, fun h => ?_, fun h => ⟨q_cv_of hq h, ?_⟩⟩
    · rw [hr, hf0, h]; rfl
    · rw [hr, hf0, h]; rfl
  · cases h
end Go.Ax
/-
  The law of LeastCurve. No conditions but those of the contracts.
-/
set_option linter.all false
namespace Go.Ax
open Go.Proofs
set_option maxHeartbeats 1000000

set_option maxHeartbeats 1000000 in
set_option maxRecDepth 100000 in
theorem s_laws_FnExactLeastCurve : Sat Try.prog 4 (c_law_D yesC q_law_D) := by
  intro args ps r h hp
  unfold c_law_D at h
  split at h
  · rename_i a0 a1
    simp only [Option.some.injEq, Prod.mk.injEq] at h
    obtain ⟨rfl, rfl⟩ := h
    have hq : q_C' a0 a1 := (alls_cons.1 hp).1
    have g0 := frzs_BB hq.1
    have g1 := frzs_II hq.2
    generalize H_f_szC : f_szC = F_f_szC
    generalize H_q_szC : q_szC = F_q_szC
    generalize H_f_cpC : f_cpC = F_f_cpC
    generalize H_q_cpC : q_cpC = F_q_cpC
    generalize H_f_lc : f_lc = F_f_lc
    generalize H_q_C : q_C = F_q_C
    generalize H_f0_eqC : f0_eqC = F_f0_eqC
    generalize H_q_eqC : q_eqC = F_q_eqC
    generalize H_f0_heldC : f0_heldC = F_f0_heldC
    generalize H_q_heldC : q_heldC = F_q_heldC
    generalize H_f0_markC : f0_markC = F_f0_markC
    generalize H_f1_markC : f1_markC = F_f1_markC
    generalize H_f2_markC : f2_markC = F_f2_markC
    generalize H_q_markC : q_markC = F_q_markC
    refine fnOk_ofI (T := tab) (B := [(5, c_Di_i F_f_szC F_q_szC), (7, c_D_C F_f_cpC F_q_cpC), (14, c_C_Cik F_f_lc F_q_C), (15, c_C_Cik F_f_lc F_q_C), (10, c_cc_bool F_f0_eqC F_q_eqC), (16, c_heldC F_f0_heldC F_q_heldC)]) (Bi := [(11, 0, false, ic_markC F_f0_markC F_f1_markC F_f2_markC F_q_markC)]) [0, 1, 2, 3, 4, 5, 6, 7, 8, 9, 10, 11, 12, 13] Try.func4 rfl rfl (by kernel_rfl) (Nat.le_of_ble_eq_true rfl) mixed tabOk (by subst H_f_szC H_q_szC H_f_cpC H_q_cpC H_f_lc H_q_C H_f0_eqC H_q_eqC H_f0_heldC H_q_heldC H_f0_markC H_f1_markC H_f2_markC H_q_markC; exact (bookCons s_laws_szCurve (bookCons s_laws_toCurve (bookCons s_spec_LeastCurve (bookCons s_impl_LeastCurve (bookCons s_laws_eqCurve (bookCons s_laws_heldCurve bookNil))))))) (by subst H_f_szC H_q_szC H_f_cpC H_q_cpC H_f_lc H_q_C H_f0_eqC H_q_eqC H_f0_heldC H_q_heldC H_f0_markC H_f1_markC H_f2_markC H_q_markC; exact (bookICons s_laws_markCurve bookINil)) (by kernel_rfl) ?_
    intro L lp rr hL hr hf hlp
    have hlen := hf.1
    conv => cbv
    simp only [stdEqs hL, g0, g1]
    subst H_f_szC H_q_szC H_f_cpC H_q_cpC H_f_lc H_q_C H_f0_eqC H_q_eqC H_f0_heldC H_q_heldC H_f0_markC H_f1_markC H_f2_markC H_q_markC
    refine ⟨hq, fun h => by rw [hr]; rfl, fun h => ?_⟩
    obtain ⟨hc, ht1, ht2, _, _⟩ := szC_ok (by omega) (by omega) hq hlen.1.1 hlen.1.2 hlen.2.1.1 hlen.2.1.2 h
    obtain ⟨⟨bs, hbs⟩, ⟨ms, hms⟩⟩ := hq
    have e0 : f_cpC a0 a1 = (BB true bs, II true ms) := by rw [f_cpC, hbs, hms, unBB_BB, unII_II]
    rw [hbs, unBB_BB] at ht1
    rw [hms, unII_II] at ht2
    have kg := curve_keys bs ms (by omega)
    have hqc : q_C (BB false bs) (II false ms) := by have := q_C_of hc; rwa [hbs, hms] at this
    have hqx := hqc

    obtain ⟨cs, ns, code, ez, hz1⟩ : ∃ (cs ns : List (List Int)) (code : Int), f_lc (BB false bs) (II false ms) = (BB true cs, II true ns, code) ∧ tot cs + tot ns ≤ 4611686018427387904 := by
      rw [f_lc, f_isCv, f_lcv, unBB_BB, unII_II]
      cases hh : isCv bs ms with
      | false => exact ⟨[], [], 1, rfl, by simp [tot]⟩
      | true =>
        have hcv := isCv_iff.1 hh
        obtain ⟨⟨q, hq, hR⟩, _⟩ := leastC_least (bs := bs) (ms := ms) (n := bs.length)
        refine ⟨_, _, 0, rfl, ?_⟩
        rw [show lcR bs ms = (partB bs q, partM ms q) from hR]
        obtain ⟨pm, pl⟩ := iota_pm hq
        have hin := pm.inr
        rw [pl] at hin
        exact part_tot hcv (fun k hk => hin k (by omega)) (by have := hcv.n6; omega)
    have ck := curve_keys cs ns hz1
    have hn1 : ∀ n : Nat, decide ((1 : Int) + n < 0) = false := fun n => by simp; omega
    have hn2 : ∀ n m : Nat, decide ((1 : Int) + n + m < 0) = false := fun n m => by simp; omega
    have hn3 : ∀ n m r : Nat, decide ((1 : Int) + n + m + r < 0) = false := fun n m r => by simp; omega
    simp only [e0, hc, BB_frzs, II_frzs, kg, hqc, hqx, ez, ck, hn1, hn2, hn3, hr, yesC, I_frzs]
    simp
  · cases h
end Go.Ax
