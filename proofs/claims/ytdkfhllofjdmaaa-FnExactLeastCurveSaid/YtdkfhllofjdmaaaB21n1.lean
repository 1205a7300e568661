import Derived.Test.YtdkfhllofjdmaaaB20n1
/-
  LeastCurve, the reference's side. No conditions but those of the contracts.
-/
set_option linter.all false
namespace Go.Ax
open Go.Proofs
set_option maxHeartbeats 2000000

set_option maxHeartbeats 1000000 in
set_option maxRecDepth 100000 in
theorem s_spec_l10Flat : Sat Try.prog 58 (c_C_lk f_key q_key) := by
  intro args ps r h hp
  unfold c_C_lk at h
  split at h
  · rename_i a0 a1
    simp only [Option.some.injEq, Prod.mk.injEq] at h
    obtain ⟨rfl, rfl⟩ := h
    obtain ⟨bs, ms, hbs, hms, hk⟩ : q_key a0 a1 := (alls_cons.1 hp).1
    have g0 : V.frzs a0 = a0 := by rw [hbs, BB_frzs]
    have g1 : V.frzs a1 = a1 := by rw [hms, II_frzs]
    have hbl : a0.length = bs.length := by rw [hbs, BB_length]
    have hml : a1.length = ms.length := by rw [hms, II_length]
    have gb : ∀ k, a0.getD k (.agg [.slc false 2 (.int .i64 0) []]) = .agg [.slc false 2 (.int .i64 0) (I (bs.getD k []))] := fun k => by rw [hbs, BB_getD]
    have gm : ∀ k, a1.getD k (.slc false 2 (.int .i64 0) []) = .slc false 2 (.int .i64 0) (I (ms.getD k [])) := fun k => by rw [hms, II_getD]
    have hf0 : f_key a0 a1 = I (keyT bs bs.length ++ rowT ms ms.length) := by rw [f_key, hbs, hms, unBB_BB, unII_II, key_full]
    obtain ⟨n, hn⟩ : ∃ n : Int, n = bs.length := ⟨_, rfl⟩
    obtain ⟨m, hm⟩ : ∃ m : Int, m = ms.length := ⟨_, rfl⟩
    have b6 := hk.b6
    have m6 := hk.m6
    refine fnOk_ofI (T := tab) (B := []) (Bi := []) [0, 1, 2, 3, 4, 5] Try.func58 rfl rfl (by kernel_rfl) (Nat.le_of_ble_eq_true rfl) mixed tabOk (by exact bookNil) (by exact bookINil) (by kernel_rfl) ?_
    intro L lp rr hL hr hf hlp
    conv => cbv
    refine hlp (List V × Int) _ _ _ [1, 3, 4] (fun x => [(1, none, .val (.box 32 (.agg [.slc false 61 (.agg [.slc false 2 (.int .i64 0) []]) a0, .slc false 27 (.slc false 2 (.int .i64 0) []) a1]))), (3, none, .val (.slc true 2 (.int .i64 0) x.1)), (4, none, .val (.int .i64 x.2))])
      (fun x => 0 ≤ x.2 ∧ x.2 ≤ n ∧ x.1 = I (keyT bs x.2.toNat)) (fun x => (n - x.2).toNat) (([], 0)) (by subst hL; rfl) ?_ ?_
    · exact ⟨by simp, by simp only; omega, rfl⟩
    rintro ⟨os, i⟩ ⟨i0, i1, hO⟩ hfx ag hag
    simp only at i0 i1 hO
    conv => cbv
    simp only [stdEqs hL, imp_self, true_and, and_true, bif_or, bif_and, Bool.or_eq_true, Bool.or_eq_false_iff, Bool.and_eq_true, Bool.and_eq_false_iff, decide_eq_true_eq, decide_eq_false_iff_not, Bool.not_eq_true', Bool.not_eq_false', beq_iff_eq, beq_eq_false_iff_ne, ne_eq, toNat0, toNat1, ok_int, toI_int, I_frzs, I_length, I_getD, ok_ints, toL_slc, hbl, hml, gb, toL_bran, fld_bran]
    refine ⟨fun h2 => ?_, fun h2 => ?_⟩
    · have hin : i.toNat < bs.length := by omega
      have l1 := keyT_len hk.bl i.toNat (by omega)
      have l2 := hk.bl i.toNat hin
      have l3 : os.length ≤ 6006 := by rw [hO, I_length]; omega
      have hb := ok_bran false false (bs.getD i.toNat [])
      rw [wrap_id (n := i + 1) (by omega) (by omega)]
      have hL1 : ∀ x : Int, ((os ++ [V.int .i64 x]).length : Int) = os.length + 1 := fun x => by rw [List.length_append]; rfl
      refine ⟨i0, h2, hb, rfl, by first | omega | (simp only [List.length_cons, List.length_nil]; omega), solid_one _, i0, h2, hb, I_owneds _, by rw [hL1]; omega, I_solid _, ?_⟩
      refine hag (_, i + 1) ⟨by simp only; omega, by simp only; omega, ?_⟩ (by simp only; omega)
      simp only [toNat_succ i0]
      rw [hO, keyT_succ hin, ← I_append, ← I_append]
      rfl
    · refine hlp (List V × Int) _ _ _ [1, 3, 5] (fun y => [(1, none, .val (.box 32 (.agg [.slc false 61 (.agg [.slc false 2 (.int .i64 0) []]) a0, .slc false 27 (.slc false 2 (.int .i64 0) []) a1]))), (3, none, .val (.slc true 2 (.int .i64 0) y.1)), (5, none, .val (.int .i64 y.2))])
        (fun y => 0 ≤ y.2 ∧ y.2 ≤ m ∧ y.1 = I (keyT bs bs.length ++ rowT ms y.2.toNat)) (fun y => (m - y.2).toNat) ((os, 0)) (by subst hL; rfl) ?_ ?_
      · refine ⟨by simp, by simp only; omega, ?_⟩
        simp only
        rw [hO, show i.toNat = bs.length by omega]
        simp [rowT]
      rintro ⟨ks, j⟩ ⟨j0, j1, hK⟩ hfx2 ag2 hag2
      simp only at j0 j1 hK
      have l1 := keyT_len hk.bl bs.length (Nat.le_refl _)
      conv => cbv
      simp only [stdEqs hL, imp_self, true_and, and_true, bif_or, bif_and, Bool.or_eq_true, Bool.or_eq_false_iff, Bool.and_eq_true, Bool.and_eq_false_iff, decide_eq_true_eq, decide_eq_false_iff_not, Bool.not_eq_true', Bool.not_eq_false', beq_iff_eq, beq_eq_false_iff_ne, ne_eq, toNat0, toNat1, ok_int, toI_int, I_frzs, I_length, I_getD, ok_ints, toL_slc, hbl, hml, gm]
      refine ⟨fun h3 => ?_, fun h3 => ?_⟩
      · have hjm : j.toNat < ms.length := by omega
        have l4 := rowT_len hk.ml j.toNat (by omega)
        have l5 := hk.ml j.toNat hjm
        have l6 : ks.length ≤ 6100 := by rw [hK, I_length, List.length_append]; omega
        rw [wrap_id (n := j + 1) (by omega) (by omega)]
        refine ⟨j0, by omega, I_owneds _, by omega, I_solid _, ?_⟩
        refine hag2 (_, j + 1) ⟨by simp only; omega, by simp only; omega, ?_⟩ (by simp only; omega)
        simp only [toNat_succ j0]
        rw [hK, rowT_succ hjm, ← I_append, ← List.append_assoc, ← I_append, ← I_append]
      · rw [hr, hf0, hK, show j.toNat = ms.length by omega]
  · cases h
theorem kc_in {bs ms : List (List Int)} (h : CvP bs ms) {q : List Int} (hin : ∀ x ∈ q, 0 ≤ x ∧ x < bs.length) (hq : q.length ≤ 6) : KcP (partB bs q) (partM ms q) where
  b6 := by rw [partB_len]; exact hq
  m6 := by rw [partM_len]; exact hq
  bl := fun i hi => by
    rw [partB_len] at hi
    rw [partB_get hi]
    have h1 := hin (q.getD i 0) (by
      rw [List.getD_eq_getElem?_getD, List.getElem?_eq_getElem hi]
      exact List.getElem_mem _)
    have := (br_of (h.br (q.getD i 0).toNat (by omega))).len
    omega
  ml := fun i hi => by
    have h1 : ((partM ms q).getD i []).length = q.length := by
      refine partM_row (ms := ms) (l := q) ?_
      rw [List.getD_eq_getElem?_getD, List.getElem?_eq_getElem hi]
      exact List.getElem_mem _
    rw [h1]; exact hq
theorem kc_leastC {bs ms : List (List Int)} (h : CvP bs ms) : ∀ (m : Nat) (p : List Int) (B : List (List Int) × List (List Int)), p.length + m = bs.length → (∀ x ∈ p, 0 ≤ x ∧ x < bs.length) → KcP B.1 B.2 → KcP (leastC bs ms bs.length m p B).1 (leastC bs ms bs.length m p B).2
  | 0, p, B, hl, hin, hB => by
    rw [leastC]
    split
    · exact kc_in h hin (by have := h.n6; omega)
    · exact hB
  | m + 1, p, B, hl, hin, hB => by
    have key : ∀ k, k ≤ bs.length → KcP (leastL bs ms bs.length m p B k).1 (leastL bs ms bs.length m p B k).2 := by
      intro k
      induction k with
      | zero => exact fun _ => hB
      | succ k ih =>
        intro hk
        rw [leastL_succ]
        split
        · exact ih (by omega)
        · refine kc_leastC h m _ _ (by rw [List.length_append]; simp; omega) (fun x hx => ?_) (ih (by omega))
          rcases List.mem_append.1 hx with hx | hx
          · exact hin x hx
          · simp only [List.mem_singleton] at hx
            omega
    exact key bs.length (Nat.le_refl _)
theorem kc_leastL {bs ms : List (List Int)} (h : CvP bs ms) {m : Nat} {p : List Int} {B : List (List Int) × List (List Int)} (hl : p.length + (m + 1) = bs.length) (hin : ∀ x ∈ p, 0 ≤ x ∧ x < bs.length) (hB : KcP B.1 B.2) : ∀ k, k ≤ bs.length → KcP (leastL bs ms bs.length m p B k).1 (leastL bs ms bs.length m p B k).2
  | 0, _ => hB
  | k + 1, hk => by
    rw [leastL_succ]
    split
    · exact kc_leastL h hl hin hB k (by omega)
    · refine kc_leastC h m _ _ (by rw [List.length_append]; simp; omega) (fun x hx => ?_) (kc_leastL h hl hin hB k (by omega))
      rcases List.mem_append.1 hx with hx | hx
      · exact hin x hx
      · simp only [List.mem_singleton] at hx
        omega
def f_lst (a b c d l : List V) : List V × List V := (BB true (leastC (unBB a) (unII b) a.length (a.length - l.length) (unI l) (unBB c, unII d)).1, II true (leastC (unBB a) (unII b) a.length (a.length - l.length) (unI l) (unBB c, unII d)).2)
def q_lst (m : Nat) (a b c d l : List V) : Prop := q_cv a b ∧ (∃ cs ks, c = BB true cs ∧ d = II true ks ∧ KcP cs ks) ∧ ∃ p, l = I p ∧ p.length + m = a.length ∧ ∀ x ∈ p, 0 ≤ x ∧ x < a.length
def ic_lst (f : List V → List V → List V → List V → List V → List V × List V) (q : List V → List V → List V → List V → List V → Prop) : IContract := fun
  | [.agg [.slc false 61 (.agg [.slc false 2 (.int .i64 0) []]) a0, .slc false 27 (.slc false 2 (.int .i64 0) []) a1], .agg [.slc true 61 (.agg [.slc true 2 (.int .i64 0) []]) a2, .slc true 27 (.slc true 2 (.int .i64 0) []) a3], .slc false 2 (.int .i64 0) a4] => some ([q a0 a1 a2 a3 a4], .agg [.slc true 61 (.agg [.slc true 2 (.int .i64 0) []]) ((f a0 a1 a2 a3 a4).1), .slc true 27 (.slc true 2 (.int .i64 0) []) ((f a0 a1 a2 a3 a4).2)], .hole 0)
  | _ => none
set_option maxHeartbeats 1000000 in
set_option maxRecDepth 100000 in
theorem s_lst_step (m : Nat) (qq : List V → List V → List V → List V → List V → Prop) (ih : SatM Try.prog 33 1 (ic_lst f_lst qq)) (hqq : ∀ m' a b c d l, m = m' + 1 → q_lst m' a b c d l → qq a b c d l) : SatM Try.prog 33 1 (ic_lst f_lst (q_lst m)) := by
  intro args ps r y h hp
  unfold ic_lst at h
  split at h
  · rename_i a0 a1 a2 a3 a4
    simp only [Option.some.injEq, Prod.mk.injEq] at h
    obtain ⟨rfl, rfl, rfl⟩ := h
    obtain ⟨hqa, ⟨cs, ks, hcs, hks, hkc⟩, p, hP, hpm, hin⟩ : q_lst m a0 a1 a2 a3 a4 := (alls_cons.1 hp).1
    obtain ⟨⟨⟨bs, hbs, hb1, hb2⟩, ⟨ms, hms, hm1, hm2⟩⟩, hv1⟩ := id hqa
    rw [hbs, hms, unBB_BB, unII_II] at hv1
    have g0 : V.frzs a0 = a0 := by rw [hbs, BB_frzs]
    have g1 : V.frzs a1 = a1 := by rw [hms, II_frzs]
    have g4 : V.frzs a4 = a4 := by rw [hP, I_frzs]
    have hbl : a0.length = bs.length := by rw [hbs, BB_length]
    have hpl : a4.length = p.length := by rw [hP, I_length]
    rw [hbl] at hpm hin
    have hf0 : f_lst a0 a1 a2 a3 a4 = (BB true (leastC bs ms bs.length m p (cs, ks)).1, II true (leastC bs ms bs.length m p (cs, ks)).2) := by
      rw [f_lst, hbl, hpl, hbs, hms, hcs, hks, hP, unBB_BB, unII_II, unBB_BB, unII_II, unI_I, show bs.length - p.length = m by omega]
    obtain ⟨n, hn⟩ : ∃ n : Int, n = bs.length := ⟨_, rfl⟩
    obtain ⟨pl, hpl2⟩ : ∃ pl : Int, pl = p.length := ⟨_, rfl⟩
    have n1 := hv1.n1
    have n6 := hv1.n6
    have hpt : f_part a0 a1 a4 = (BB true (partB bs p), II true (partM ms p)) := by rw [f_part, hbs, hms, hP, unBB_BB, unII_II, unI_I]
    obtain ⟨ob, hob⟩ : ∃ ob, ob = BB true (partB bs p) := ⟨_, rfl⟩
    obtain ⟨om, hom⟩ : ∃ om, om = II true (partM ms p) := ⟨_, rfl⟩
    obtain ⟨k1, hk1⟩ : ∃ k1, k1 = I (kP bs ms p) := ⟨_, rfl⟩
    obtain ⟨k2, hk2⟩ : ∃ k2, k2 = I (keyC cs ks) := ⟨_, rfl⟩
    have gk1 : V.frzs k1 = k1 := by rw [hk1, I_frzs]
    have gk2 : V.frzs k2 = k2 := by rw [hk2, I_frzs]
    generalize H_f_has : f_has = F_f_has
    generalize H_q_lI : q_lI = F_q_lI
    generalize H_same : same = F_same
    generalize H_IsIs : IsIs = F_IsIs
    generalize H_f_part : f_part = F_f_part
    generalize H_q_part : q_part = F_q_part
    generalize H_f_key : f_key = F_f_key
    generalize H_q_key : q_key = F_q_key
    generalize H_f_lexLt : f_lexLt = F_f_lexLt
    generalize H_q_II : q_II = F_q_II
    generalize H_f_lst : f_lst = F_f_lst
    generalize H_qq : qq = F_qq
    refine fnMv_of (T := tab) (B := [(43, c_lxi_b F_f_has F_q_lI), (45, c_laws_toInt64S F_same F_IsIs), (34, c_Cl_C F_f_part F_q_part), (58, c_C_lk F_f_key F_q_key), (57, c_ll_b F_f_lexLt F_q_II)]) (Bi := [(33, 1, true, ic_lst F_f_lst F_qq)]) 1 [2000010039, 2000010041, 2000010743, 2000010996, 0, 1, 2, 3, 4, 6, 7, 8] Try.func33 rfl rfl (by kernel_rfl) (Nat.le_of_ble_eq_true rfl) mixed tabOk (by subst H_f_has H_q_lI H_same H_IsIs H_f_part H_q_part H_f_key H_q_key H_f_lexLt H_q_II H_f_lst H_qq; exact (bookCons s_spec_l01Has (bookCons s_spec_l01Own (bookCons s_spec_l09Part (bookCons s_spec_l10Flat (bookCons s_spec_l01Less bookNil)))))) (by subst H_f_has H_q_lI H_same H_IsIs H_f_part H_q_part H_f_key H_q_key H_f_lexLt H_q_II H_f_lst H_qq; exact (bookMCons ih bookINil)) (by kernel_rfl) (Nat.le_of_ble_eq_true rfl) ?_
    intro L lp rr hL hr hf hlp
    have Ep : F_f_part a0 a1 a4 = (ob, om) := by rw [← H_f_part, hpt, hob, hom]
    have E1 : F_f_key (V.frzs ob) (V.frzs om) = k1 := by rw [← H_f_key, f_key, hob, hom, BB_frzs, II_frzs, unBB_BB, unII_II, hk1]; rfl
    have E2 : F_f_key (V.frzs a2) (V.frzs a3) = k2 := by rw [← H_f_key, f_key, hcs, hks, BB_frzs, II_frzs, unBB_BB, unII_II, hk2]
    have El : F_f_lexLt k1 k2 = lexLt (kP bs ms p) (keyC cs ks) := by rw [← H_f_lexLt, f_lexLt, hk1, hk2, unI_I, unI_I]
    conv => cbv
    simp only [stdEqs hL, imp_self, true_and, and_true, bif_or, bif_and, Bool.or_eq_true, Bool.or_eq_false_iff, Bool.and_eq_true, Bool.and_eq_false_iff, decide_eq_true_eq, decide_eq_false_iff_not, Bool.not_eq_true', Bool.not_eq_false', beq_iff_eq, beq_eq_false_iff_ne, ne_eq, toNat0, toNat1, ok_int, toI_int, I_frzs, I_length, I_getD, ok_ints, toL_slc, g0, g1, g4, hbl, hpl, ← hn, ← hpl2, Ep, E1, E2, gk1, gk2, El]
    have hkp := kc_in hv1 hin (by omega)
    refine ⟨fun h => ⟨?_, ?_, by rw [hk1]; exact I_noFzs _, ?_, by rw [hk2]; exact I_noFzs _, ?_, fun h2 => ?_, fun h2 => ?_⟩, fun h => ?_⟩
    · rw [← H_q_part]
      refine ⟨hqa, p, hP, fun k hk => ?_, by omega⟩
      rw [hbl]
      refine hin _ ?_
      rw [List.getD_eq_getElem?_getD, List.getElem?_eq_getElem hk]
      exact List.getElem_mem _
    · rw [← H_q_key]
      exact ⟨_, _, by rw [hob, BB_frzs], by rw [hom, II_frzs], hkp⟩
    · rw [← H_q_key]
      exact ⟨_, _, by rw [hcs, BB_frzs], by rw [hks, II_frzs], hkc⟩
    · rw [← H_q_II]
      exact ⟨⟨_, hk1⟩, ⟨_, hk2⟩⟩
    · rw [hr, ← H_f_lst, hf0, show m = 0 by omega, leastC, if_pos h2, hob, hom]
    · rw [hr, ← H_f_lst, hf0, show m = 0 by omega, leastC, if_neg (by rw [h2]; simp), hcs, hks]
    obtain ⟨m', rfl⟩ : ∃ m', m = m' + 1 := ⟨m - 1, by omega⟩
    have Eh : ∀ x, F_f_has a4 x = p.contains x := fun x => by rw [← H_f_has, f_has, hP, unI_I]
    have Qh : ∀ x, F_q_lI a4 x := fun x => by rw [← H_q_lI]; exact ⟨⟨p, hP⟩, by rw [hpl]; omega⟩
    have Eo : F_same a4 = a4 := by rw [← H_same]; rfl
    have Qo : F_IsIs a4 := by rw [← H_IsIs]; exact ⟨⟨p, hP⟩, by rw [hpl]; omega⟩
    refine hlp ((List V × List V) × Int) _ _ _ [2, 3, 4, 6, 8] (fun x => [(2, none, .val (.slc false 2 (.int .i64 0) a4)), (3, none, .val (.box 32 (.agg [.slc false 61 (.agg [.slc false 2 (.int .i64 0) []]) a0, .slc false 27 (.slc false 2 (.int .i64 0) []) a1]))), (4, none, .val (.box 32 (.agg [.slc true 61 (.agg [.slc true 2 (.int .i64 0) []]) x.1.1, .slc true 27 (.slc true 2 (.int .i64 0) []) x.1.2]))), (6, none, .val (.box 32 (.agg [.slc true 61 (.agg [.slc true 2 (.int .i64 0) []]) [], .slc true 27 (.slc true 2 (.int .i64 0) []) []]))), (8, none, .val (.int .i64 x.2))])
      (fun x => 0 ≤ x.2 ∧ x.2 ≤ n ∧ x.1.1 = BB true (leastL bs ms bs.length m' p (cs, ks) x.2.toNat).1 ∧ x.1.2 = II true (leastL bs ms bs.length m' p (cs, ks) x.2.toNat).2) (fun x => (n - x.2).toNat) (((a2, a3), 0)) (by subst hL; rfl) ?_ ?_
    · exact ⟨by simp, by simp only; omega, hcs, hks⟩
    rintro ⟨⟨fs, gs⟩, y⟩ ⟨y0, y1, hF, hG⟩ hfx ag hag
    simp only at y0 y1 hF hG
    conv => cbv
    simp only [stdEqs hL, imp_self, true_and, and_true, bif_or, bif_and, Bool.or_eq_true, Bool.or_eq_false_iff, Bool.and_eq_true, Bool.and_eq_false_iff, decide_eq_true_eq, decide_eq_false_iff_not, Bool.not_eq_true', Bool.not_eq_false', beq_iff_eq, beq_eq_false_iff_ne, ne_eq, toNat0, toNat1, ok_int, toI_int, I_frzs, I_length, I_getD, ok_ints, toL_slc, g0, g1, g4, hbl, hpl, Eh]
    have hgo := fun B : List (List Int) × List (List Int) => kc_leastL hv1 (m := m') (p := p) (B := B) (by omega) hin
    have hLs := leastL_succ bs ms bs.length m' p (cs, ks) y.toNat
    rw [show ((y.toNat : Nat) : Int) = y by omega] at hLs
    refine ⟨fun h2 => ⟨Qh y, fun h3 => ?_, fun h3 => ?_⟩, fun h2 => ?_⟩
    · have hkL := hgo (cs, ks) hkc y.toNat (by omega)
      obtain ⟨L, hLd⟩ : ∃ L, L = leastL bs ms bs.length m' p (cs, ks) y.toNat := ⟨_, rfl⟩
      rw [← hLd] at hF hG hkL hLs
      rw [if_neg (by rw [h3]; simp)] at hLs
      have hap : V.frzs (F_same a4 ++ [V.int .i64 y]) = I (p ++ [y]) := by rw [Eo, hP, show I p ++ [V.int .i64 y] = I (p ++ [y]) by rw [← I_append]; rfl, I_frzs]
      rw [hap]
      have hq : q_lst m' a0 a1 fs gs (I (p ++ [y])) := ⟨hqa, ⟨_, _, hF, hG, hkL⟩, _, rfl, by rw [List.length_append, hbl]; simp only [List.length_cons, List.length_nil]; omega, fun x hx => by
        rw [hbl]
        rcases List.mem_append.1 hx with hx | hx
        · exact hin x hx
        · simp only [List.mem_singleton] at hx
          omega⟩
      have hfr : F_f_lst a0 a1 fs gs (I (p ++ [y])) = (BB true (leastL bs ms bs.length m' p (cs, ks) (y.toNat + 1)).1, II true (leastL bs ms bs.length m' p (cs, ks) (y.toNat + 1)).2) := by
        rw [← H_f_lst, f_lst, hbl, I_length, List.length_append, hbs, hms, hF, hG, unBB_BB, unII_II, unBB_BB, unII_II, unI_I, hLs]
        simp only [List.length_cons, List.length_nil]
        rw [show bs.length - (p.length + 1) = m' by omega]
      rw [hfr, wrap_id (n := y + 1) (by omega) (by omega)]
      refine ⟨Qo, rfl, by rw [Eo, hpl]; simp only [List.length_cons, List.length_nil]; omega, solid_one _, by rw [← H_qq]; exact hqq m' _ _ _ _ _ rfl hq, BB_noFzs _, II_noFzs _, ?_⟩
      refine hag ((_, _), y + 1) ⟨by simp only; omega, by simp only; omega, ?_, ?_⟩ (by simp only; omega)
      · simp only [toNat_succ y0]
        rfl
      · simp only [toNat_succ y0]
        rfl
    · rw [wrap_id (n := y + 1) (by omega) (by omega)]
      rw [if_pos h3] at hLs
      refine hag ((fs, gs), y + 1) ⟨by simp only; omega, by simp only; omega, ?_, ?_⟩ (by simp only; omega)
      · simp only [toNat_succ y0]
        rw [hLs, hF]
      · simp only [toNat_succ y0]
        rw [hLs, hG]
    · rw [hr, ← H_f_lst, hf0, hF, hG, show y.toNat = bs.length by omega]
      rfl
  · cases h
def q_none5' (_ _ _ _ _ : List V) : Prop := False
theorem s_lst_none : SatM Try.prog 33 1 (ic_lst f_lst q_none5') := by
  intro args ps r y h hp
  unfold ic_lst at h
  split at h
  · simp only [Option.some.injEq, Prod.mk.injEq] at h
    obtain ⟨rfl, rfl, rfl⟩ := h
    exact ((alls_cons.1 hp).1 : False).elim
  · cases h
theorem s_spec_l10Least : ∀ m : Nat, SatM Try.prog 33 1 (ic_lst f_lst (q_lst m))
  | 0 => s_lst_step 0 q_none5' s_lst_none fun m' _ _ _ _ _ h => by omega
  | m + 1 => s_lst_step (m + 1) (q_lst m) (s_spec_l10Least m) fun m' _ _ _ _ _ h hq => by
    have : m' = m := by omega
    rw [this] at hq
    exact hq
def q_lst0 (a b c d l : List V) : Prop := l = [] ∧ q_lst a.length a b c d l
theorem s_lst0 : SatM Try.prog 33 1 (ic_lst f_lst q_lst0) := by
  intro args ps r y h hp
  unfold ic_lst at h
  split at h
  · rename_i a0 a1 a2 a3 a4
    simp only [Option.some.injEq, Prod.mk.injEq] at h
    obtain ⟨rfl, rfl, rfl⟩ := h
    obtain ⟨_, hq⟩ : q_lst0 a0 a1 a2 a3 a4 := (alls_cons.1 hp).1
    exact s_spec_l10Least a0.length _ _ _ _ rfl (alls_cons.2 ⟨hq, fun q hq => by cases hq⟩)
  · cases h
end Go.Ax
