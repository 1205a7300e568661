/-
  Numbers of curves: multiplicity, intersection numbers. No conditions but those of the contracts.
-/
import Derived.Test.YtaojegdbjofciaaFy
import Derived.Test.YtaojegdbjofciaaFz
set_option linter.all false
namespace Go.Ax
open Go.Proofs

theorem TabP.range {ms : List (List Int)} {n : Nat} (h : TabP ms n) {i k : Nat} (hi : i < n) (hk : k < n) : 0 ≤ mm ms i k ∧ mm ms i k ≤ 200 := by
  have hE := (h.row i hi).2 k hk
  by_cases he : i = k
  · have := hE.1 he; omega
  · have := hE.2 he; omega
/-- curves -/
def q_cv (a b : List V) : Prop := q_C a b ∧ CvP (unBB a) (unII b)
theorem q_cv_of {a b : List V} (h : q_C a b) (hc : f_isCv a b = true) : q_cv a b := ⟨h, isCv_iff.1 hc⟩
/-! multiplicity -/
def multN (bs : List (List Int)) : Nat → Int
  | 0 => 0
  | n + 1 => multN bs n + (bs.getD n []).getD 0 0
theorem multN_in {bs : List (List Int)} (h : ∀ i, i < bs.length → Br (bs.getD i [])) : ∀ n, n ≤ bs.length → 0 ≤ multN bs n ∧ multN bs n ≤ 64 * n
  | 0, _ => by simp [multN]
  | n + 1, hn => by
    have h1 := multN_in h n (by omega)
    have h2 := (h n (by omega)).first
    have h3 := (h n (by omega)).low 0 (h n (by omega)).pos
    simp only [multN]; omega
def c_C_i (f : List V → List V → Int) (q : List V → List V → Prop) : Contract := fun
  | [.agg [.slc false 28 (.agg [.slc false 2 (.int .i64 0) []]) a0, .slc false 22 (.slc false 2 (.int .i64 0) []) a1]] => some ([q a0 a1], .int .i64 (f a0 a1))
  | _ => none
def f_mult (a _ : List V) : Int := multN (unBB a) a.length
set_option maxRecDepth 100000 in
theorem s_impl_multiplicity : Sat Try.prog 71 (c_C_i f_mult q_cv) := by
  intro args ps r h hp
  unfold c_C_i at h
  split at h
  · rename_i a0 a1
    simp only [Option.some.injEq, Prod.mk.injEq] at h
    obtain ⟨rfl, rfl⟩ := h
    obtain ⟨⟨⟨bs, hbs, hb1, hb2⟩, ⟨ms, hms, hm1, hm2⟩⟩, hcv⟩ := (alls_cons.1 hp).1
    rw [hbs, hms, unBB_BB, unII_II] at hcv
    have g1 : V.frzs a0 = a0 := by rw [hbs, BB_frzs]
    have g2 : V.frzs a1 = a1 := by rw [hms, II_frzs]
    have hbl : a0.length = bs.length := by rw [hbs, BB_length]
    have hml : a1.length = ms.length := by rw [hms, II_length]
    have gb : ∀ k, a0.getD k (.agg [.slc false 2 (.int .i64 0) []]) = .agg [.slc false 2 (.int .i64 0) (I (bs.getD k []))] := fun k => by rw [hbs, BB_getD]
    have gm : ∀ k, a1.getD k (.slc false 2 (.int .i64 0) []) = .slc false 2 (.int .i64 0) (I (ms.getD k [])) := fun k => by rw [hms, II_getD]
    have hm0 : ∀ x y : Nat, (ms.getD x []).getD y 0 = mm ms x y := fun _ _ => rfl
    obtain ⟨n, hn⟩ : ∃ n : Int, n = bs.length := ⟨_, rfl⟩
    have n1 := hcv.n1
    have n6 := hcv.n6
    have hmn : ms.length = bs.length := hcv.tab.len
    have hbr : ∀ i, i < bs.length → Br (bs.getD i []) := fun i hi => br_of (hcv.br i hi)
    have rl : ∀ k, k < bs.length → (ms.getD k []).length = bs.length := fun k hk => (hcv.tab.row k hk).1
    have mmr : ∀ i k, i < bs.length → k < bs.length → 0 ≤ mm ms i k ∧ mm ms i k ≤ 200 := fun i k hi hk => hcv.tab.range hi hk
    have mmo : ∀ i k, i < bs.length → k < bs.length → i ≠ k → 1 ≤ mm ms i k ∧ mm ms i k ≤ 200 := fun i k hi hk hne => ((hcv.tab.row i hi).2 k hk).2 hne
    have hf0 : f_mult a0 a1 = multN bs bs.length := by rw [f_mult, hbl, hbs, unBB_BB]
    refine fnOk_ofI (T := tab) (B := []) (Bi := []) [0, 1, 2, 3, 5, 7, 8, 9] Try.func71 rfl rfl (by kernel_rfl) (Nat.le_of_ble_eq_true rfl) mixed tabOk (by exact bookNil) (by exact bookINil) (by kernel_rfl) ?_
    intro L lp rr hL hr hf hlp
    conv => cbv
    refine hlp (Int × Int) _ _ _ [3, 7, 8, 9] (fun x => [(3, none, .val (.int .i64 x.1)), (7, none, .val (.slc false 28 (.agg [.slc false 2 (.int .i64 0) []]) a0)), (8, none, .val (.int .i64 n)), (9, none, .val (.int .i64 x.2))])
      (fun x => 0 ≤ x.2 ∧ x.2 ≤ n ∧ x.1 = multN bs x.2.toNat) (fun x => (n - x.2).toNat) ((0, 0)) (by subst hL; rw [hn, ← hbl]; rfl) ?_ ?_
    · exact ⟨by simp, by simp only; omega, rfl⟩
    rintro ⟨s, i⟩ ⟨i0, i1, hI⟩ hfx ag hag
    simp only at i0 i1 hI
    conv => cbv
    simp only [stdEqs hL, imp_self, true_and, and_true, bif_or, bif_and, Bool.or_eq_true, Bool.or_eq_false_iff, Bool.and_eq_true, Bool.and_eq_false_iff, decide_eq_true_eq, decide_eq_false_iff_not, Bool.not_eq_true', Bool.not_eq_false', beq_iff_eq, beq_eq_false_iff_ne, ne_eq, toNat0, toNat1, ok_int, toI_int, I_frzs, I_length, I_getD, ok_ints, toL_slc, hbl, gb, ok_bran, toL_bran, fld_bran]
    refine ⟨fun h2 => ?_, fun h2 => ?_⟩
    · have hb := hbr i.toNat (by omega)
      have hp := hb.pos
      have h64 := hb.first
      have hlow := hb.low 0 hp
      have hmu := multN_in hbr i.toNat (by omega)
      rw [wrap_id (n := s + (bs.getD i.toNat []).getD 0 0) (by omega) (by omega), wrap_id (n := i + 1) (by omega) (by omega)]
      (repeat' first | (exact solid_one _) | (exact solid1 rfl) | (exact noown_one _) | (apply And.intro) | (intro _)) <;> (try first | exact True.intro | omega | rfl | (simp only [List.length_cons, List.length_nil, I_length]; omega))
      refine hag (_, i + 1) ⟨by simp only; omega, by simp only; omega, ?_⟩ (by simp only; omega)
      simp only [toNat_succ i0]
      rw [multN, hI]
    · rw [hr, hf0, hI, show i.toNat = bs.length by omega]
  · cases h
def c_C_ii (f : List V → List V → Int × Int) (q : List V → List V → Prop) : Contract := fun
  | [.agg [.slc false 28 (.agg [.slc false 2 (.int .i64 0) []]) a0, .slc false 22 (.slc false 2 (.int .i64 0) []) a1]] => some ([q a0 a1], .tup [.int .i64 ((f a0 a1).1), .int .i64 ((f a0 a1).2)])
  | _ => none
noncomputable def f_cm (a b : List V) : Int × Int := bif f_isCv a b then (f_mult a b, 0) else (0, 1)
set_option maxRecDepth 100000 in
theorem s_impl_CurveMultiplicity : Sat Try.prog 34 (c_C_ii f_cm q_C) := by
  intro args ps r h hp
  unfold c_C_ii at h
  split at h
  · rename_i a0 a1
    simp only [Option.some.injEq, Prod.mk.injEq] at h
    obtain ⟨rfl, rfl⟩ := h
    have hq : q_C a0 a1 := (alls_cons.1 hp).1
    have g1 := frzs_BB hq.1.isBB
    have g2 := frzs_II hq.2.isII
    generalize H_f_isCv : f_isCv = F_f_isCv
    generalize H_q_C : q_C = F_q_C
    generalize H_f_mult : f_mult = F_f_mult
    generalize H_q_cv : q_cv = F_q_cv
    refine fnOk_ofI (T := tab) (B := [(31, c_C_b F_f_isCv F_q_C), (71, c_C_i F_f_mult F_q_cv)]) (Bi := []) [0, 1, 2, 3] Try.func34 rfl rfl (by kernel_rfl) (Nat.le_of_ble_eq_true rfl) mixed tabOk (by subst H_f_isCv H_q_C H_f_mult H_q_cv; exact (bookCons s_impl_IsCurve (bookCons s_impl_multiplicity bookNil))) (by subst H_f_isCv H_q_C H_f_mult H_q_cv; exact bookINil) (by kernel_rfl) ?_
    intro L lp rr hL hr hf hlp
    conv => cbv
    simp only [stdEqs hL, imp_self, true_and, and_true, bif_or, bif_and, Bool.or_eq_true, Bool.or_eq_false_iff, Bool.and_eq_true, Bool.and_eq_false_iff, decide_eq_true_eq, decide_eq_false_iff_not, Bool.not_eq_true', Bool.not_eq_false', beq_iff_eq, beq_eq_false_iff_ne, ne_eq, toNat0, toNat1, ok_int, toI_int, I_frzs, I_length, I_getD, ok_ints, toL_slc, g1, g2]
    subst H_f_isCv H_q_C H_f_mult H_q_cv
    refine ⟨hq, fun h => ?_, fun h => ⟨q_cv_of hq h, ?_⟩⟩
    · rw [hr, f_cm, h]; rfl
    · rw [hr, f_cm, h]; rfl
  · cases h
set_option maxRecDepth 100000 in
theorem s_spec_CurveMultiplicity : Sat Try.prog 33 (c_C_ii f_cm q_C) := by
  intro args ps r h hp
  unfold c_C_ii at h
  split at h
  · rename_i a0 a1
    simp only [Option.some.injEq, Prod.mk.injEq] at h
    obtain ⟨rfl, rfl⟩ := h
    have hq : q_C a0 a1 := (alls_cons.1 hp).1
    obtain ⟨⟨bs, hbs, hb1, hb2⟩, ⟨ms, hms, hm1, hm2⟩⟩ := id hq
    have g1 : V.frzs a0 = a0 := by rw [hbs, BB_frzs]
    have g2 : V.frzs a1 = a1 := by rw [hms, II_frzs]
    have hbl : a0.length = bs.length := by rw [hbs, BB_length]
    have gb : ∀ k, a0.getD k (.agg [.slc false 2 (.int .i64 0) []]) = .agg [.slc false 2 (.int .i64 0) (I (bs.getD k []))] := fun k => by rw [hbs, BB_getD]
    obtain ⟨n, hn⟩ : ∃ n : Int, n = bs.length := ⟨_, rfl⟩
    have hf0 : f_mult a0 a1 = multN bs bs.length := by rw [f_mult, hbl, hbs, unBB_BB]
    have hf1 : f_isCv a0 a1 = true → CvP bs ms := fun h => by rw [f_isCv, hbs, hms, unBB_BB, unII_II] at h; exact isCv_iff.1 h
    generalize H_f_isCv : f_isCv = F_f_isCv
    generalize H_q_C : q_C = F_q_C
    refine fnOk_ofI (T := tab) (B := [(62, c_C_b F_f_isCv F_q_C)]) (Bi := []) [0, 1, 2, 3, 4, 5] Try.func33 rfl rfl (by kernel_rfl) (Nat.le_of_ble_eq_true rfl) mixed tabOk (by subst H_f_isCv H_q_C; exact (bookCons s_spec_l09Is bookNil)) (by subst H_f_isCv H_q_C; exact bookINil) (by kernel_rfl) ?_
    intro L lp rr hL hr hf hlp
    conv => cbv
    simp only [stdEqs hL, imp_self, true_and, and_true, bif_or, bif_and, Bool.or_eq_true, Bool.or_eq_false_iff, Bool.and_eq_true, Bool.and_eq_false_iff, decide_eq_true_eq, decide_eq_false_iff_not, Bool.not_eq_true', Bool.not_eq_false', beq_iff_eq, beq_eq_false_iff_ne, ne_eq, toNat0, toNat1, ok_int, toI_int, I_frzs, I_length, I_getD, ok_ints, toL_slc, g1, g2]
    subst H_f_isCv H_q_C
    refine ⟨hq, fun h => ?_, fun h => ?_⟩
    · rw [hr, f_cm, h]; rfl
    have hbr : ∀ i, i < bs.length → Br (bs.getD i []) := fun i hi => br_of ((hf1 h).br i hi)
    have n6 := (hf1 h).n6
    refine hlp (Int × Int) _ _ _ [1, 4, 5] (fun x => [(1, none, .val (.box 47 (.agg [.slc false 28 (.agg [.slc false 2 (.int .i64 0) []]) a0, .slc false 22 (.slc false 2 (.int .i64 0) []) a1]))), (4, none, .val (.int .i64 x.1)), (5, none, .val (.int .i64 x.2))])
      (fun x => 0 ≤ x.2 ∧ x.2 ≤ n ∧ x.1 = multN bs x.2.toNat) (fun x => (n - x.2).toNat) ((0, 0)) (by subst hL; rfl) ?_ ?_
    · exact ⟨by simp, by simp only; omega, rfl⟩
    rintro ⟨s, i⟩ ⟨i0, i1, hI⟩ hfx ag hag
    simp only at i0 i1 hI
    conv => cbv
    simp only [stdEqs hL, imp_self, true_and, and_true, bif_or, bif_and, Bool.or_eq_true, Bool.or_eq_false_iff, Bool.and_eq_true, Bool.and_eq_false_iff, decide_eq_true_eq, decide_eq_false_iff_not, Bool.not_eq_true', Bool.not_eq_false', beq_iff_eq, beq_eq_false_iff_ne, ne_eq, toNat0, toNat1, ok_int, toI_int, I_frzs, I_length, I_getD, ok_ints, toL_slc, hbl, gb, ok_bran, toL_bran, fld_bran, ← hn]
    refine ⟨fun h2 => ?_, fun h2 => ?_⟩
    · have hb := hbr i.toNat (by omega)
      have hp := hb.pos
      have h64 := hb.first
      have hlow := hb.low 0 hp
      have hmu := multN_in hbr i.toNat (by omega)
      rw [wrap_id (n := s + (bs.getD i.toNat []).getD 0 0) (by omega) (by omega), wrap_id (n := i + 1) (by omega) (by omega)]
      (repeat' first | (exact solid_one _) | (exact solid1 rfl) | (exact noown_one _) | (apply And.intro) | (intro _)) <;> (try first | exact True.intro | omega | rfl | (simp only [List.length_cons, List.length_nil, I_length]; omega))
      refine hag (_, i + 1) ⟨by simp only; omega, by simp only; omega, ?_⟩ (by simp only; omega)
      simp only [toNat_succ i0]
      rw [multN, hI]
    · rw [hr, f_cm, h, cond_true, hf0, hI, show i.toNat = bs.length by omega]
  · cases h
set_option maxRecDepth 100000 in
theorem s_laws_FnExactCurveMultiplicity : Sat Try.prog 7 (c_law_D yesC q_law_D) := by
  intro args ps r h hp
  unfold c_law_D at h
  split at h
  · rename_i a0 a1
    simp only [Option.some.injEq, Prod.mk.injEq] at h
    obtain ⟨rfl, rfl⟩ := h
    have hq : q_C' a0 a1 := (alls_cons.1 hp).1
    have g0 := frzs_BB hq.1
    have g1 := frzs_II hq.2
    generalize H_f_szC : f_szC = F_f_szC
    generalize H_q_szC : q_szC = F_q_szC
    generalize H_f_cpC : f_cpC = F_f_cpC
    generalize H_q_cpC : q_cpC = F_q_cpC
    generalize H_f_cm : f_cm = F_f_cm
    generalize H_q_C : q_C = F_q_C
    generalize H_f0_eqC : f0_eqC = F_f0_eqC
    generalize H_q_eqC : q_eqC = F_q_eqC
    refine fnOk_ofI (T := tab) (B := [(28, c_Di_i F_f_szC F_q_szC), (30, c_D_C F_f_cpC F_q_cpC), (33, c_C_ii F_f_cm F_q_C), (34, c_C_ii F_f_cm F_q_C), (32, c_cc_bool F_f0_eqC F_q_eqC)]) (Bi := []) [0, 1, 2, 3, 4, 5, 6, 7, 8] Try.func7 rfl rfl (by kernel_rfl) (Nat.le_of_ble_eq_true rfl) mixed tabOk (by subst H_f_szC H_q_szC H_f_cpC H_q_cpC H_f_cm H_q_C H_f0_eqC H_q_eqC; exact (bookCons s_laws_szCurve (bookCons s_laws_toCurve (bookCons s_spec_CurveMultiplicity (bookCons s_impl_CurveMultiplicity (bookCons s_laws_eqCurve bookNil)))))) (by subst H_f_szC H_q_szC H_f_cpC H_q_cpC H_f_cm H_q_C H_f0_eqC H_q_eqC; exact bookINil) (by kernel_rfl) ?_
    intro L lp rr hL hr hf hlp
    have hlen := hf.1
    conv => cbv
    simp only [stdEqs hL, g0, g1]
    subst H_f_szC H_q_szC H_f_cpC H_q_cpC H_f_cm H_q_C H_f0_eqC H_q_eqC
    refine ⟨hq, fun h => by rw [hr]; rfl, fun h => ?_⟩
    obtain ⟨hc, ht1, ht2, _, _⟩ := szC_ok (by omega) (by omega) hq hlen.1.1 hlen.1.2 hlen.2.1.1 hlen.2.1.2 h
    obtain ⟨⟨bs, hbs⟩, ⟨ms, hms⟩⟩ := hq
    have e0 : f_cpC a0 a1 = (BB true bs, II true ms) := by rw [f_cpC, hbs, hms, unBB_BB, unII_II]
    rw [hbs, unBB_BB] at ht1
    rw [hms, unII_II] at ht2
    have kg := curve_keys bs ms (by omega)
    have hqc : q_C (BB false bs) (II false ms) := by have := q_C_of hc; rwa [hbs, hms] at this
    have hqx := hqc
    simp only [e0, hc, kg, hqc, hqx, hr, yesC, beq_self_eq_true]
    simp
  · cases h
/-! intersection numbers -/
def meetC (bs ms : List (List Int)) (i k : Nat) : Int := meet (bs.getD i []) (bs.getD k []) (mm ms i k).toNat
def c_Cii_i (f : List V → List V → Int → Int → Int) (q : List V → List V → Int → Int → Prop) : Contract := fun
  | [.agg [.slc false 28 (.agg [.slc false 2 (.int .i64 0) []]) a0, .slc false 22 (.slc false 2 (.int .i64 0) []) a1], .int .i64 a2, .int .i64 a3] => some ([q a0 a1 a2 a3], .int .i64 (f a0 a1 a2 a3))
  | _ => none
def f_mt (a b : List V) (i k : Int) : Int := meetC (unBB a) (unII b) i.toNat k.toNat
def q_mt (a b : List V) (i k : Int) : Prop := q_cv a b ∧ 0 ≤ i ∧ i < a.length ∧ 0 ≤ k ∧ k < a.length ∧ i ≠ k
set_option maxRecDepth 100000 in
theorem s_impl_meeting : Sat Try.prog 74 (c_Cii_i f_mt q_mt) := by
  intro args ps r h hp
  unfold c_Cii_i at h
  split at h
  · rename_i a0 a1 a2 a3
    simp only [Option.some.injEq, Prod.mk.injEq] at h
    obtain ⟨rfl, rfl⟩ := h
    obtain ⟨⟨⟨⟨bs, hbs, hb1, hb2⟩, ⟨ms, hms, hm1, hm2⟩⟩, hcv⟩, ⟨x0,x1,x2,x3,x4⟩⟩ := (alls_cons.1 hp).1
    rw [hbs, hms, unBB_BB, unII_II] at hcv
    have g1 : V.frzs a0 = a0 := by rw [hbs, BB_frzs]
    have g2 : V.frzs a1 = a1 := by rw [hms, II_frzs]
    have hbl : a0.length = bs.length := by rw [hbs, BB_length]
    have hml : a1.length = ms.length := by rw [hms, II_length]
    have gb : ∀ k, a0.getD k (.agg [.slc false 2 (.int .i64 0) []]) = .agg [.slc false 2 (.int .i64 0) (I (bs.getD k []))] := fun k => by rw [hbs, BB_getD]
    have gm : ∀ k, a1.getD k (.slc false 2 (.int .i64 0) []) = .slc false 2 (.int .i64 0) (I (ms.getD k [])) := fun k => by rw [hms, II_getD]
    have hm0 : ∀ x y : Nat, (ms.getD x []).getD y 0 = mm ms x y := fun _ _ => rfl
    obtain ⟨n, hn⟩ : ∃ n : Int, n = bs.length := ⟨_, rfl⟩
    have n1 := hcv.n1
    have n6 := hcv.n6
    have hmn : ms.length = bs.length := hcv.tab.len
    have hbr : ∀ i, i < bs.length → Br (bs.getD i []) := fun i hi => br_of (hcv.br i hi)
    have rl : ∀ k, k < bs.length → (ms.getD k []).length = bs.length := fun k hk => (hcv.tab.row k hk).1
    have mmr : ∀ i k, i < bs.length → k < bs.length → 0 ≤ mm ms i k ∧ mm ms i k ≤ 200 := fun i k hi hk => hcv.tab.range hi hk
    have mmo : ∀ i k, i < bs.length → k < bs.length → i ≠ k → 1 ≤ mm ms i k ∧ mm ms i k ≤ 200 := fun i k hi hk hne => ((hcv.tab.row i hi).2 k hk).2 hne
    rw [hbl] at x1 x3
    have hf0 : f_mt a0 a1 a2 a3 = meetC bs ms a2.toNat a3.toNat := by rw [f_mt, hbs, hms, unBB_BB, unII_II]
    have h1 := hbr a2.toNat (by omega)
    have h2 := hbr a3.toNat (by omega)
    have h3 := mmo a2.toNat a3.toNat (by omega) (by omega) (by omega)
    have h4 := rl a2.toNat (by omega)
    obtain ⟨u, hu⟩ : ∃ u, u = bs.getD a2.toNat [] := ⟨_, rfl⟩
    obtain ⟨v, hv⟩ : ∃ v, v = bs.getD a3.toNat [] := ⟨_, rfl⟩
    rw [← hu] at h1
    rw [← hv] at h2
    rw [meetC, ← hu, ← hv] at hf0
    obtain ⟨c, hc⟩ : ∃ c, c = mm ms a2.toNat a3.toNat := ⟨_, rfl⟩
    rw [← hc] at h3 hf0
    have hqm : q_meet (I u) (I v) c := ⟨⟨_, rfl, h1⟩, ⟨_, rfl, h2⟩, by omega, by omega⟩
    have hfm : f_meet (I u) (I v) c = meet u v c.toNat := by rw [f_meet, unI_I, unI_I]
    generalize H_f_meet : f_meet = F_f_meet
    generalize H_q_meet : q_meet = F_q_meet
    refine fnOk_ofI (T := tab) (B := [(59, c_BBi_i F_f_meet F_q_meet)]) (Bi := []) [0, 1, 2, 3, 6] Try.func74 rfl rfl (by kernel_rfl) (Nat.le_of_ble_eq_true rfl) mixed tabOk (by subst H_f_meet H_q_meet; exact (bookCons s_impl_intersection bookNil)) (by subst H_f_meet H_q_meet; exact bookINil) (by kernel_rfl) ?_
    intro L lp rr hL hr hf hlp
    conv => cbv
    simp only [stdEqs hL, imp_self, true_and, and_true, bif_or, bif_and, Bool.or_eq_true, Bool.or_eq_false_iff, Bool.and_eq_true, Bool.and_eq_false_iff, decide_eq_true_eq, decide_eq_false_iff_not, Bool.not_eq_true', Bool.not_eq_false', beq_iff_eq, beq_eq_false_iff_ne, ne_eq, toNat0, toNat1, ok_int, toI_int, I_frzs, I_length, I_getD, ok_ints, toL_slc, hbl, gb, ok_bran, toL_bran, fld_bran, ← hu, ← hv, gm, hml, h4, hm0, ← hc]
    subst H_f_meet H_q_meet
    rw [hr, hf0, hfm]
    (repeat' first | (exact solid_one _) | (exact solid1 rfl) | (exact noown_one _) | (apply And.intro) | (intro _)) <;> (try first | exact True.intro | omega | rfl | (simp only [List.length_cons, List.length_nil, I_length]; omega))
    all_goals first | exact hqm.1 | exact hqm.2.1 | skip
  · cases h
def dvd0 : Nat := 0
/-- the numbers of branches -/
def isOf (n : Nat) (i : Int) : Bool := inRange i 0 ((n : Int) - 1)
def c_Ci_b (f : List V → List V → Int → Bool) (q : List V → List V → Int → Prop) : Contract := fun
  | [.agg [.slc false 28 (.agg [.slc false 2 (.int .i64 0) []]) a0, .slc false 22 (.slc false 2 (.int .i64 0) []) a1], .int .i64 a2] => some ([q a0 a1 a2], .bool (f a0 a1 a2))
  | _ => none
def f_of (a _ : List V) (i : Int) : Bool := isOf a.length i
def q_of (a b : List V) (_ : Int) : Prop := q_cv a b
set_option maxRecDepth 100000 in
theorem s_impl_isOfCurve : Sat Try.prog 73 (c_Ci_b f_of q_of) := by
  intro args ps r h hp
  unfold c_Ci_b at h
  split at h
  · rename_i a0 a1 a2
    simp only [Option.some.injEq, Prod.mk.injEq] at h
    obtain ⟨rfl, rfl⟩ := h
    obtain ⟨⟨⟨bs, hbs, hb1, hb2⟩, ⟨ms, hms, hm1, hm2⟩⟩, hcv⟩ := (alls_cons.1 hp).1
    rw [hbs, hms, unBB_BB, unII_II] at hcv
    have g1 : V.frzs a0 = a0 := by rw [hbs, BB_frzs]
    have g2 : V.frzs a1 = a1 := by rw [hms, II_frzs]
    have hbl : a0.length = bs.length := by rw [hbs, BB_length]
    have hml : a1.length = ms.length := by rw [hms, II_length]
    have gb : ∀ k, a0.getD k (.agg [.slc false 2 (.int .i64 0) []]) = .agg [.slc false 2 (.int .i64 0) (I (bs.getD k []))] := fun k => by rw [hbs, BB_getD]
    have gm : ∀ k, a1.getD k (.slc false 2 (.int .i64 0) []) = .slc false 2 (.int .i64 0) (I (ms.getD k [])) := fun k => by rw [hms, II_getD]
    have hm0 : ∀ x y : Nat, (ms.getD x []).getD y 0 = mm ms x y := fun _ _ => rfl
    obtain ⟨n, hn⟩ : ∃ n : Int, n = bs.length := ⟨_, rfl⟩
    have n1 := hcv.n1
    have n6 := hcv.n6
    have hmn : ms.length = bs.length := hcv.tab.len
    have hbr : ∀ i, i < bs.length → Br (bs.getD i []) := fun i hi => br_of (hcv.br i hi)
    have rl : ∀ k, k < bs.length → (ms.getD k []).length = bs.length := fun k hk => (hcv.tab.row k hk).1
    have mmr : ∀ i k, i < bs.length → k < bs.length → 0 ≤ mm ms i k ∧ mm ms i k ≤ 200 := fun i k hi hk => hcv.tab.range hi hk
    have mmo : ∀ i k, i < bs.length → k < bs.length → i ≠ k → 1 ≤ mm ms i k ∧ mm ms i k ≤ 200 := fun i k hi hk hne => ((hcv.tab.row i hi).2 k hk).2 hne
    have hf0 : f_of a0 a1 a2 = inRange a2 0 (n - 1) := by rw [f_of, isOf, hbl, hn]
    generalize H_inRange : inRange = F_inRange
    refine fnOk_ofI (T := tab) (B := [(89, c_impl_inRange F_inRange)]) (Bi := []) [0, 1, 2, 4] Try.func73 rfl rfl (by kernel_rfl) (Nat.le_of_ble_eq_true rfl) mixed tabOk (by subst H_inRange; exact (bookCons s_impl_inRange bookNil)) (by subst H_inRange; exact bookINil) (by kernel_rfl) ?_
    intro L lp rr hL hr hf hlp
    conv => cbv
    simp only [stdEqs hL, imp_self, true_and, and_true, bif_or, bif_and, Bool.or_eq_true, Bool.or_eq_false_iff, Bool.and_eq_true, Bool.and_eq_false_iff, decide_eq_true_eq, decide_eq_false_iff_not, Bool.not_eq_true', Bool.not_eq_false', beq_iff_eq, beq_eq_false_iff_ne, ne_eq, toNat0, toNat1, ok_int, toI_int, I_frzs, I_length, I_getD, ok_ints, toL_slc, hbl, ← hn]
    subst H_inRange
    rw [wrap_id (n := n - 1) (by omega) (by omega), hr, hf0]
  · cases h
def c_Cii_ii (f : List V → List V → Int → Int → Int × Int) (q : List V → List V → Int → Int → Prop) : Contract := fun
  | [.agg [.slc false 28 (.agg [.slc false 2 (.int .i64 0) []]) a0, .slc false 22 (.slc false 2 (.int .i64 0) []) a1], .int .i64 a2, .int .i64 a3] => some ([q a0 a1 a2 a3], .tup [.int .i64 ((f a0 a1 a2 a3).1), .int .i64 ((f a0 a1 a2 a3).2)])
  | _ => none
noncomputable def f_in (a b : List V) (i k : Int) : Int × Int := bif f_isCv a b then (bif isOf a.length i && isOf a.length k && !(i == k) then (f_mt a b i k, 0) else (0, 2)) else (0, 1)
def q_Cii (a b : List V) (_ _ : Int) : Prop := q_C a b
theorem isOf_iff {n : Nat} {i : Int} : isOf n i = true ↔ 0 ≤ i ∧ i < n := by
  simp only [isOf, inRange, Bool.and_eq_true, decide_eq_true_eq]
  omega
set_option maxRecDepth 100000 in
theorem s_impl_IntersectionNumber : Sat Try.prog 36 (c_Cii_ii f_in q_Cii) := by
  intro args ps r h hp
  unfold c_Cii_ii at h
  split at h
  · rename_i a0 a1 a2 a3
    simp only [Option.some.injEq, Prod.mk.injEq] at h
    obtain ⟨rfl, rfl⟩ := h
    have hq : q_C a0 a1 := (alls_cons.1 hp).1
    have g1 := frzs_BB hq.1.isBB
    have g2 := frzs_II hq.2.isII
    generalize H_f_isCv : f_isCv = F_f_isCv
    generalize H_q_C : q_C = F_q_C
    generalize H_f_of : f_of = F_f_of
    generalize H_q_of : q_of = F_q_of
    generalize H_f_mt : f_mt = F_f_mt
    generalize H_q_mt : q_mt = F_q_mt
    refine fnOk_ofI (T := tab) (B := [(31, c_C_b F_f_isCv F_q_C), (73, c_Ci_b F_f_of F_q_of), (74, c_Cii_i F_f_mt F_q_mt)]) (Bi := []) [0, 1, 2, 3, 6, 7] Try.func36 rfl rfl (by kernel_rfl) (Nat.le_of_ble_eq_true rfl) mixed tabOk (by subst H_f_isCv H_q_C H_f_of H_q_of H_f_mt H_q_mt; exact (bookCons s_impl_IsCurve (bookCons s_impl_isOfCurve (bookCons s_impl_meeting bookNil)))) (by subst H_f_isCv H_q_C H_f_of H_q_of H_f_mt H_q_mt; exact bookINil) (by kernel_rfl) ?_
    intro L lp rr hL hr hf hlp
    conv => cbv
    simp only [stdEqs hL, imp_self, true_and, and_true, bif_or, bif_and, Bool.or_eq_true, Bool.or_eq_false_iff, Bool.and_eq_true, Bool.and_eq_false_iff, decide_eq_true_eq, decide_eq_false_iff_not, Bool.not_eq_true', Bool.not_eq_false', beq_iff_eq, beq_eq_false_iff_ne, ne_eq, toNat0, toNat1, ok_int, toI_int, I_frzs, I_length, I_getD, ok_ints, toL_slc, g1, g2]
    subst H_f_isCv H_q_C H_f_of H_q_of H_f_mt H_q_mt
    refine ⟨hq, fun h => ?_, fun h => ?_⟩
    · rw [hr, f_in, h]; rfl
    have hv := q_cv_of hq h
    refine ⟨hv, fun _ => hv, fun h2 => ?_, fun h2 => ?_⟩
    · have hz : (isOf a0.length a2 && isOf a0.length a3 && !(a2 == a3)) = false := by
        rcases h2 with (h2 | h2) | h2
        · rw [show isOf a0.length a2 = false from h2]; rfl
        · rw [show isOf a0.length a3 = false from h2, Bool.and_false]; rfl
        · rw [beq_iff_eq.2 h2, Bool.not_true, Bool.and_false]
      rw [hr, f_in, h, hz]; rfl
    · obtain ⟨⟨h3, h4⟩, h5⟩ := h2
      have h3 : isOf a0.length a2 = true := h3
      have h4 : isOf a0.length a3 = true := h4
      have h3' := isOf_iff.1 h3
      have h4' := isOf_iff.1 h4
      have hz : (isOf a0.length a2 && isOf a0.length a3 && !(a2 == a3)) = true := by
        rw [h3, h4, beq_eq_false_iff_ne.2 h5]; rfl
      refine ⟨⟨hv, h3'.1, h3'.2, h4'.1, h4'.2, h5⟩, ?_⟩
      rw [hr, f_in, h, hz]; rfl
  · cases h
set_option maxRecDepth 100000 in
theorem s_spec_IntersectionNumber : Sat Try.prog 35 (c_Cii_ii f_in q_Cii) := by
  intro args ps r h hp
  unfold c_Cii_ii at h
  split at h
  · rename_i a0 a1 a2 a3
    simp only [Option.some.injEq, Prod.mk.injEq] at h
    obtain ⟨rfl, rfl⟩ := h
    have hq : q_C a0 a1 := (alls_cons.1 hp).1
    have g1 := frzs_BB hq.1.isBB
    have g2 := frzs_II hq.2.isII
    obtain ⟨n, hn⟩ : ∃ n : Int, n = a0.length := ⟨_, rfl⟩
    have hnl : a0.length ≤ 2147483647 := by
      obtain ⟨bs, hbs, h1, _⟩ := hq.1
      rw [hbs, BB_length]; exact h1
    have hof : ∀ i, inRange i 0 (n - 1) = isOf a0.length i := fun i => by rw [isOf, hn]
    have w1 : IntKind.wrap .i64 (n - 1) = n - 1 := wrap_id (by omega) (by omega)
    generalize H_f_isCv : f_isCv = F_f_isCv
    generalize H_q_C : q_C = F_q_C
    generalize H_inRange : inRange = F_inRange
    generalize H_f_meet : f_meet = F_f_meet
    generalize H_q_meet : q_meet = F_q_meet
    refine fnOk_ofI (T := tab) (B := [(62, c_C_b F_f_isCv F_q_C), (72, c_impl_inRange F_inRange), (58, c_BBi_i F_f_meet F_q_meet)]) (Bi := []) [0, 1, 2, 3, 6, 7, 8] Try.func35 rfl rfl (by kernel_rfl) (Nat.le_of_ble_eq_true rfl) mixed tabOk (by subst H_f_isCv H_q_C H_inRange H_f_meet H_q_meet; exact (bookCons s_spec_l09Is (bookCons s_spec_l01In (bookCons s_spec_l09Meet bookNil)))) (by subst H_f_isCv H_q_C H_inRange H_f_meet H_q_meet; exact bookINil) (by kernel_rfl) ?_
    intro L lp rr hL hr hf hlp
    conv => cbv
    simp only [stdEqs hL, imp_self, true_and, and_true, bif_or, bif_and, Bool.or_eq_true, Bool.or_eq_false_iff, Bool.and_eq_true, Bool.and_eq_false_iff, decide_eq_true_eq, decide_eq_false_iff_not, Bool.not_eq_true', Bool.not_eq_false', beq_iff_eq, beq_eq_false_iff_ne, ne_eq, toNat0, toNat1, ok_int, toI_int, I_frzs, I_length, I_getD, ok_ints, toL_slc, g1, g2, ← hn, w1]
    subst H_f_isCv H_q_C H_inRange
    simp only [hof]
    refine ⟨hq, fun h => ?_, fun h => ⟨fun h2 => ?_, fun h2 => ?_⟩⟩
    · rw [hr, f_in, h]; rfl
    · have hz : (isOf a0.length a2 && isOf a0.length a3 && !(a2 == a3)) = false := by
        rcases h2 with (h2 | h2) | h2
        · rw [h2]; rfl
        · rw [h2, Bool.and_false]; rfl
        · rw [beq_iff_eq.2 h2, Bool.not_true, Bool.and_false]
      rw [hr, f_in, h, hz]; rfl
    · obtain ⟨⟨h3, h4⟩, h5⟩ := h2
      have h3' := isOf_iff.1 h3
      have h4' := isOf_iff.1 h4
      have hz : (isOf a0.length a2 && isOf a0.length a3 && !(a2 == a3)) = true := by
        rw [h3, h4, beq_eq_false_iff_ne.2 h5]; rfl
      have hp : Alls [q_cv a0 a1] := alls_cons.2 ⟨q_cv_of hq h, fun q hq => by cases hq⟩
      rw [hr, f_in, h, hz]
      obtain ⟨⟨⟨bs, hbs, hb1, hb2⟩, ⟨ms, hms, hm1, hm2⟩⟩, hcv⟩ := (alls_cons.1 hp).1
      rw [hbs, hms, unBB_BB, unII_II] at hcv
      have g1 : V.frzs a0 = a0 := by rw [hbs, BB_frzs]
      have g2 : V.frzs a1 = a1 := by rw [hms, II_frzs]
      have hbl : a0.length = bs.length := by rw [hbs, BB_length]
      have hml : a1.length = ms.length := by rw [hms, II_length]
      have gb : ∀ k, a0.getD k (.agg [.slc false 2 (.int .i64 0) []]) = .agg [.slc false 2 (.int .i64 0) (I (bs.getD k []))] := fun k => by rw [hbs, BB_getD]
      have gm : ∀ k, a1.getD k (.slc false 2 (.int .i64 0) []) = .slc false 2 (.int .i64 0) (I (ms.getD k [])) := fun k => by rw [hms, II_getD]
      have hm0 : ∀ x y : Nat, (ms.getD x []).getD y 0 = mm ms x y := fun _ _ => rfl
      obtain ⟨n, hn⟩ : ∃ n : Int, n = bs.length := ⟨_, rfl⟩
      have n1 := hcv.n1
      have n6 := hcv.n6
      have hmn : ms.length = bs.length := hcv.tab.len
      have hbr : ∀ i, i < bs.length → Br (bs.getD i []) := fun i hi => br_of (hcv.br i hi)
      have rl : ∀ k, k < bs.length → (ms.getD k []).length = bs.length := fun k hk => (hcv.tab.row k hk).1
      have mmr : ∀ i k, i < bs.length → k < bs.length → 0 ≤ mm ms i k ∧ mm ms i k ≤ 200 := fun i k hi hk => hcv.tab.range hi hk
      have mmo : ∀ i k, i < bs.length → k < bs.length → i ≠ k → 1 ≤ mm ms i k ∧ mm ms i k ≤ 200 := fun i k hi hk hne => ((hcv.tab.row i hi).2 k hk).2 hne
      rw [hbl] at h3' h4'
      have hf0 : f_mt a0 a1 a2 a3 = meetC bs ms a2.toNat a3.toNat := by rw [f_mt, hbs, hms, unBB_BB, unII_II]
      have h1 := hbr a2.toNat (by omega)
      have h2 := hbr a3.toNat (by omega)
      have h3 := mmo a2.toNat a3.toNat (by omega) (by omega) (by omega)
      have h4 := rl a2.toNat (by omega)
      obtain ⟨u, hu⟩ : ∃ u, u = bs.getD a2.toNat [] := ⟨_, rfl⟩
      obtain ⟨v, hv⟩ : ∃ v, v = bs.getD a3.toNat [] := ⟨_, rfl⟩
      rw [← hu] at h1
      rw [← hv] at h2
      rw [meetC, ← hu, ← hv] at hf0
      obtain ⟨c, hc⟩ : ∃ c, c = mm ms a2.toNat a3.toNat := ⟨_, rfl⟩
      rw [← hc] at h3 hf0
      have hqm : q_meet (I u) (I v) c := ⟨⟨_, rfl, h1⟩, ⟨_, rfl, h2⟩, by omega, by omega⟩
      have hfm : f_meet (I u) (I v) c = meet u v c.toNat := by rw [f_meet, unI_I, unI_I]
      simp only [stdEqs hL, imp_self, true_and, and_true, bif_or, bif_and, Bool.or_eq_true, Bool.or_eq_false_iff, Bool.and_eq_true, Bool.and_eq_false_iff, decide_eq_true_eq, decide_eq_false_iff_not, Bool.not_eq_true', Bool.not_eq_false', beq_iff_eq, beq_eq_false_iff_ne, ne_eq, toNat0, toNat1, ok_int, toI_int, I_frzs, I_length, I_getD, ok_ints, toL_slc, hbl, gb, ok_bran, toL_bran, fld_bran, ← hu, ← hv, gm, hml, h4, hm0, ← hc]
      subst H_f_meet H_q_meet
      rw [hf0, hfm]
      (repeat' first | (exact solid_one _) | (exact solid1 rfl) | (exact noown_one _) | (apply And.intro) | (intro _)) <;> (try first | exact True.intro | omega | rfl | (simp only [List.length_cons, List.length_nil, I_length]; omega))
      all_goals first | exact hqm.1 | exact hqm.2.1 | skip
  · cases h
def c_law_Dii (f : List V → List V → Int → Int → Bool) (q : List V → List V → Int → Int → Prop) : Contract := fun
  | [.agg [.slc false 24 (.agg [.slc false 2 (.int .i64 0) []]) a0, .slc false 22 (.slc false 2 (.int .i64 0) []) a1], .int .i64 a2, .int .i64 a3] => some ([q a0 a1 a2 a3], .bool (f a0 a1 a2 a3))
  | _ => none
def q_law_Dii : List V → List V → Int → Int → Prop := fun x y _ _ => q_C' x y
def yesCii (_ _ : List V) (_ _ : Int) : Bool := true
set_option maxRecDepth 100000 in
theorem s_laws_FnExactIntersectionNumber : Sat Try.prog 8 (c_law_Dii yesCii q_law_Dii) := by
  intro args ps r h hp
  unfold c_law_Dii at h
  split at h
  · rename_i a0 a1 a2 a3
    simp only [Option.some.injEq, Prod.mk.injEq] at h
    obtain ⟨rfl, rfl⟩ := h
    have hq : q_C' a0 a1 := (alls_cons.1 hp).1
    have g0 := frzs_BB hq.1
    have g1 := frzs_II hq.2
    generalize H_f_szC : f_szC = F_f_szC
    generalize H_q_szC : q_szC = F_q_szC
    generalize H_f_cpC : f_cpC = F_f_cpC
    generalize H_q_cpC : q_cpC = F_q_cpC
    generalize H_f_in : f_in = F_f_in
    generalize H_q_Cii : q_Cii = F_q_Cii
    generalize H_f0_eqC : f0_eqC = F_f0_eqC
    generalize H_q_eqC : q_eqC = F_q_eqC
    refine fnOk_ofI (T := tab) (B := [(28, c_Di_i F_f_szC F_q_szC), (30, c_D_C F_f_cpC F_q_cpC), (35, c_Cii_ii F_f_in F_q_Cii), (36, c_Cii_ii F_f_in F_q_Cii), (32, c_cc_bool F_f0_eqC F_q_eqC)]) (Bi := []) [0, 1, 2, 3, 6, 7, 8, 9, 10, 11, 12] Try.func8 rfl rfl (by kernel_rfl) (Nat.le_of_ble_eq_true rfl) mixed tabOk (by subst H_f_szC H_q_szC H_f_cpC H_q_cpC H_f_in H_q_Cii H_f0_eqC H_q_eqC; exact (bookCons s_laws_szCurve (bookCons s_laws_toCurve (bookCons s_spec_IntersectionNumber (bookCons s_impl_IntersectionNumber (bookCons s_laws_eqCurve bookNil)))))) (by subst H_f_szC H_q_szC H_f_cpC H_q_cpC H_f_in H_q_Cii H_f0_eqC H_q_eqC; exact bookINil) (by kernel_rfl) ?_
    intro L lp rr hL hr hf hlp
    have hlen := hf.1
    conv => cbv
    simp only [stdEqs hL, g0, g1]
    subst H_f_szC H_q_szC H_f_cpC H_q_cpC H_f_in H_q_Cii H_f0_eqC H_q_eqC
    refine ⟨hq, fun h => by rw [hr]; rfl, fun h => ?_⟩
    obtain ⟨hc, ht1, ht2, _, _⟩ := szC_ok (by omega) (by omega) hq hlen.1.1 hlen.1.2 hlen.2.1.1 hlen.2.1.2 h
    obtain ⟨⟨bs, hbs⟩, ⟨ms, hms⟩⟩ := hq
    have e0 : f_cpC a0 a1 = (BB true bs, II true ms) := by rw [f_cpC, hbs, hms, unBB_BB, unII_II]
    rw [hbs, unBB_BB] at ht1
    rw [hms, unII_II] at ht2
    have kg := curve_keys bs ms (by omega)
    have hqc : q_C (BB false bs) (II false ms) := by have := q_C_of hc; rwa [hbs, hms] at this
    have hqx : q_Cii (BB false bs) (II false ms) a2 a3 := hqc
    simp only [e0, hc, kg, hqc, hqx, hr, yesCii, beq_self_eq_true]
    simp
  · cases h
/-! sums of intersection numbers -/
def totN (bs ms : List (List Int)) (i : Nat) : Nat → Int
  | 0 => 0
  | k + 1 => if k = i then totN bs ms i k else W (totN bs ms i k + meetC bs ms i k)
def c_Ci_ii (f : List V → List V → Int → Int × Int) (q : List V → List V → Int → Prop) : Contract := fun
  | [.agg [.slc false 28 (.agg [.slc false 2 (.int .i64 0) []]) a0, .slc false 22 (.slc false 2 (.int .i64 0) []) a1], .int .i64 a2] => some ([q a0 a1 a2], .tup [.int .i64 ((f a0 a1 a2).1), .int .i64 ((f a0 a1 a2).2)])
  | _ => none
noncomputable def f_tot (a b : List V) (i : Int) : Int × Int := bif f_isCv a b then (bif isOf a.length i then (totN (unBB a) (unII b) i.toNat a.length, 0) else (0, 2)) else (0, 1)
def q_Ci (a b : List V) (_ : Int) : Prop := q_C a b
set_option maxRecDepth 100000 in
theorem s_impl_TotalIntersection : Sat Try.prog 38 (c_Ci_ii f_tot q_Ci) := by
  intro args ps r h hp
  unfold c_Ci_ii at h
  split at h
  · rename_i a0 a1 a2
    simp only [Option.some.injEq, Prod.mk.injEq] at h
    obtain ⟨rfl, rfl⟩ := h
    have hq : q_C a0 a1 := (alls_cons.1 hp).1
    have g1 := frzs_BB hq.1.isBB
    have g2 := frzs_II hq.2.isII
    obtain ⟨n, hn⟩ : ∃ n : Int, n = a0.length := ⟨_, rfl⟩
    have hnl : a0.length ≤ 2147483647 := by
      obtain ⟨bs, hbs, h1, _⟩ := hq.1
      rw [hbs, BB_length]; exact h1
    generalize H_f_isCv : f_isCv = F_f_isCv
    generalize H_q_C : q_C = F_q_C
    generalize H_f_of : f_of = F_f_of
    generalize H_q_of : q_of = F_q_of
    generalize H_f_mt : f_mt = F_f_mt
    generalize H_q_mt : q_mt = F_q_mt
    refine fnOk_ofI (T := tab) (B := [(31, c_C_b F_f_isCv F_q_C), (73, c_Ci_b F_f_of F_q_of), (74, c_Cii_i F_f_mt F_q_mt)]) (Bi := []) [0, 1, 2, 4, 5, 6, 7, 17, 18] Try.func38 rfl rfl (by kernel_rfl) (Nat.le_of_ble_eq_true rfl) mixed tabOk (by subst H_f_isCv H_q_C H_f_of H_q_of H_f_mt H_q_mt; exact (bookCons s_impl_IsCurve (bookCons s_impl_isOfCurve (bookCons s_impl_meeting bookNil)))) (by subst H_f_isCv H_q_C H_f_of H_q_of H_f_mt H_q_mt; exact bookINil) (by kernel_rfl) ?_
    intro L lp rr hL hr hf hlp
    conv => cbv
    have E1 : F_f_isCv a0 a1 = f_isCv a0 a1 := by rw [H_f_isCv]
    have E2 : F_f_of a0 a1 a2 = isOf a0.length a2 := by rw [← H_f_of]; rfl
    simp only [stdEqs hL, imp_self, true_and, and_true, bif_or, bif_and, Bool.or_eq_true, Bool.or_eq_false_iff, Bool.and_eq_true, Bool.and_eq_false_iff, decide_eq_true_eq, decide_eq_false_iff_not, Bool.not_eq_true', Bool.not_eq_false', beq_iff_eq, beq_eq_false_iff_ne, ne_eq, toNat0, toNat1, ok_int, toI_int, I_frzs, I_length, I_getD, ok_ints, toL_slc, g1, g2, E1, E2]
    subst H_f_isCv H_q_C
    refine ⟨hq, fun h => ?_, fun h => ?_⟩
    · rw [hr, f_tot, h]; rfl
    have hv := q_cv_of hq h
    refine ⟨by rw [← H_q_of]; exact hv, fun h2 => ?_, fun h2 => ?_⟩
    · rw [hr, f_tot, h, h2]; rfl
    have h2' := isOf_iff.1 h2
    have hf0 : f_tot a0 a1 a2 = (totN (unBB a0) (unII a1) a2.toNat a0.length, 0) := by rw [f_tot, h, h2]; rfl
    have hmt : ∀ k, F_f_mt a0 a1 a2 k = meetC (unBB a0) (unII a1) a2.toNat k.toNat := fun k => by rw [← H_f_mt]; rfl
    have hqt : ∀ k : Int, 0 ≤ k → k < a0.length → a2 ≠ k → F_q_mt a0 a1 a2 k := fun k k0 k1 hne => by rw [← H_q_mt]; exact ⟨hv, h2'.1, h2'.2, k0, k1, hne⟩
    refine hlp (Int × Int) _ _ _ [1, 2, 6, 17, 18] (fun x => [(1, none, .val (.int .i64 a2)), (2, none, .val (.box 47 (.agg [.slc false 28 (.agg [.slc false 2 (.int .i64 0) []]) a0, .slc false 22 (.slc false 2 (.int .i64 0) []) a1]))), (6, none, .val (.int .i64 x.1)), (17, none, .val (.int .i64 n)), (18, none, .val (.int .i64 x.2))])
      (fun x => 0 ≤ x.2 ∧ x.2 ≤ n ∧ x.1 = totN (unBB a0) (unII a1) a2.toNat x.2.toNat) (fun x => (n - x.2).toNat) ((0, 0)) (by subst hL; rw [hn]; rfl) ?_ ?_
    · exact ⟨by simp, by simp only; omega, rfl⟩
    rintro ⟨s, k⟩ ⟨k0, k1, hI⟩ hfx ag hag
    simp only at k0 k1 hI
    conv => cbv
    simp only [stdEqs hL, imp_self, true_and, and_true, bif_or, bif_and, Bool.or_eq_true, Bool.or_eq_false_iff, Bool.and_eq_true, Bool.and_eq_false_iff, decide_eq_true_eq, decide_eq_false_iff_not, Bool.not_eq_true', Bool.not_eq_false', beq_iff_eq, beq_eq_false_iff_ne, ne_eq, toNat0, toNat1, ok_int, toI_int, I_frzs, I_length, I_getD, ok_ints, toL_slc, g1, g2, hmt]
    refine ⟨fun h3 => ⟨fun h4 => ⟨hqt k k0 (by omega) (fun e => h4 e.symm), ?_⟩, fun h4 => ?_⟩, fun h3 => ?_⟩
    · rw [wrap_id (n := k + 1) (by omega) (by omega)]
      refine hag (W (s + meetC (unBB a0) (unII a1) a2.toNat k.toNat), k + 1) ⟨by simp only; omega, by simp only; omega, ?_⟩ (by simp only; omega)
      simp only [toNat_succ k0]
      rw [totN, if_neg (by omega), hI]
    · rw [wrap_id (n := k + 1) (by omega) (by omega)]
      refine hag (s, k + 1) ⟨by simp only; omega, by simp only; omega, ?_⟩ (by simp only; omega)
      simp only [toNat_succ k0]
      rw [totN, if_pos (by omega), hI]
    · rw [hr, hf0, hI, show k.toNat = a0.length by omega]
  · cases h
set_option maxRecDepth 100000 in
theorem s_spec_TotalIntersection : Sat Try.prog 37 (c_Ci_ii f_tot q_Ci) := by
  intro args ps r h hp
  unfold c_Ci_ii at h
  split at h
  · rename_i a0 a1 a2
    simp only [Option.some.injEq, Prod.mk.injEq] at h
    obtain ⟨rfl, rfl⟩ := h
    have hq : q_C a0 a1 := (alls_cons.1 hp).1
    have g1 := frzs_BB hq.1.isBB
    have g2 := frzs_II hq.2.isII
    obtain ⟨N, hN⟩ : ∃ n : Int, n = a0.length := ⟨_, rfl⟩
    have hnl : a0.length ≤ 2147483647 := by
      obtain ⟨bs, hbs, h1, _⟩ := hq.1
      rw [hbs, BB_length]; exact h1
    have hof : ∀ i, inRange i 0 (N - 1) = isOf a0.length i := fun i => by rw [isOf, hN]
    have w1 : IntKind.wrap .i64 (N - 1) = N - 1 := wrap_id (by omega) (by omega)
    generalize H_f_isCv : f_isCv = F_f_isCv
    generalize H_q_C : q_C = F_q_C
    generalize H_inRange : inRange = F_inRange
    generalize H_f_meet : f_meet = F_f_meet
    generalize H_q_meet : q_meet = F_q_meet
    refine fnOk_ofI (T := tab) (B := [(62, c_C_b F_f_isCv F_q_C), (72, c_impl_inRange F_inRange), (58, c_BBi_i F_f_meet F_q_meet)]) (Bi := []) [0, 1, 2, 4, 5, 6, 7] Try.func37 rfl rfl (by kernel_rfl) (Nat.le_of_ble_eq_true rfl) mixed tabOk (by subst H_f_isCv H_q_C H_inRange H_f_meet H_q_meet; exact (bookCons s_spec_l09Is (bookCons s_spec_l01In (bookCons s_spec_l09Meet bookNil)))) (by subst H_f_isCv H_q_C H_inRange H_f_meet H_q_meet; exact bookINil) (by kernel_rfl) ?_
    intro L lp rr hL hr hf hlp
    conv => cbv
    have E1 : F_f_isCv a0 a1 = f_isCv a0 a1 := by rw [H_f_isCv]
    simp only [stdEqs hL, imp_self, true_and, and_true, bif_or, bif_and, Bool.or_eq_true, Bool.or_eq_false_iff, Bool.and_eq_true, Bool.and_eq_false_iff, decide_eq_true_eq, decide_eq_false_iff_not, Bool.not_eq_true', Bool.not_eq_false', beq_iff_eq, beq_eq_false_iff_ne, ne_eq, toNat0, toNat1, ok_int, toI_int, I_frzs, I_length, I_getD, ok_ints, toL_slc, g1, g2, E1, ← hN, w1]
    subst H_f_isCv H_q_C H_inRange
    simp only [hof]
    refine ⟨hq, fun h => ?_, fun h => ⟨fun h2 => ?_, fun h2 => ?_⟩⟩
    · rw [hr, f_tot, h]; rfl
    · rw [hr, f_tot, h, h2]; rfl
    have h2' := isOf_iff.1 h2
    have hf0 : f_tot a0 a1 a2 = (totN (unBB a0) (unII a1) a2.toNat a0.length, 0) := by rw [f_tot, h, h2]; rfl
    have hp : Alls [q_cv a0 a1] := alls_cons.2 ⟨q_cv_of hq h, fun q hq => by cases hq⟩
    clear g1 g2
    obtain ⟨⟨⟨bs, hbs, hb1, hb2⟩, ⟨ms, hms, hm1, hm2⟩⟩, hcv⟩ := (alls_cons.1 hp).1
    rw [hbs, hms, unBB_BB, unII_II] at hcv
    have g1 : V.frzs a0 = a0 := by rw [hbs, BB_frzs]
    have g2 : V.frzs a1 = a1 := by rw [hms, II_frzs]
    have hbl : a0.length = bs.length := by rw [hbs, BB_length]
    have hml : a1.length = ms.length := by rw [hms, II_length]
    have gb : ∀ k, a0.getD k (.agg [.slc false 2 (.int .i64 0) []]) = .agg [.slc false 2 (.int .i64 0) (I (bs.getD k []))] := fun k => by rw [hbs, BB_getD]
    have gm : ∀ k, a1.getD k (.slc false 2 (.int .i64 0) []) = .slc false 2 (.int .i64 0) (I (ms.getD k [])) := fun k => by rw [hms, II_getD]
    have hm0 : ∀ x y : Nat, (ms.getD x []).getD y 0 = mm ms x y := fun _ _ => rfl
    obtain ⟨n, hn⟩ : ∃ n : Int, n = bs.length := ⟨_, rfl⟩
    have n1 := hcv.n1
    have n6 := hcv.n6
    have hmn : ms.length = bs.length := hcv.tab.len
    have hbr : ∀ i, i < bs.length → Br (bs.getD i []) := fun i hi => br_of (hcv.br i hi)
    have rl : ∀ k, k < bs.length → (ms.getD k []).length = bs.length := fun k hk => (hcv.tab.row k hk).1
    have mmr : ∀ i k, i < bs.length → k < bs.length → 0 ≤ mm ms i k ∧ mm ms i k ≤ 200 := fun i k hi hk => hcv.tab.range hi hk
    have mmo : ∀ i k, i < bs.length → k < bs.length → i ≠ k → 1 ≤ mm ms i k ∧ mm ms i k ≤ 200 := fun i k hi hk hne => ((hcv.tab.row i hi).2 k hk).2 hne
    rw [hbl] at h2'
    have hmt : ∀ x y c, F_f_meet (I x) (I y) c = meet x y c.toNat := fun x y c => by rw [← H_f_meet, f_meet, unI_I, unI_I]
    have hqt : ∀ x y c, Br x → Br y → 1 ≤ c → c ≤ 200 → F_q_meet (I x) (I y) c := fun x y c hx hy h1 h2 => by rw [← H_q_meet]; exact ⟨⟨_, rfl, hx⟩, ⟨_, rfl, hy⟩, h1, by omega⟩
    rw [hbs, hms, unBB_BB, unII_II, BB_length, ← hbs, ← hms] at hf0
    refine hlp (Int × Int) _ _ _ [1, 2, 6, 7] (fun x => [(1, none, .val (.int .i64 a2)), (2, none, .val (.box 47 (.agg [.slc false 28 (.agg [.slc false 2 (.int .i64 0) []]) a0, .slc false 22 (.slc false 2 (.int .i64 0) []) a1]))), (6, none, .val (.int .i64 x.1)), (7, none, .val (.int .i64 x.2))])
      (fun x => 0 ≤ x.2 ∧ x.2 ≤ n ∧ x.1 = totN bs ms a2.toNat x.2.toNat) (fun x => (n - x.2).toNat) ((0, 0)) (by subst hL; rfl) ?_ ?_
    · exact ⟨by simp, by simp only; omega, rfl⟩
    rintro ⟨s, k⟩ ⟨k0, k1, hI⟩ hfx ag hag
    simp only at k0 k1 hI
    conv => cbv
    simp only [stdEqs hL, imp_self, true_and, and_true, bif_or, bif_and, Bool.or_eq_true, Bool.or_eq_false_iff, Bool.and_eq_true, Bool.and_eq_false_iff, decide_eq_true_eq, decide_eq_false_iff_not, Bool.not_eq_true', Bool.not_eq_false', beq_iff_eq, beq_eq_false_iff_ne, ne_eq, toNat0, toNat1, ok_int, toI_int, I_frzs, I_length, I_getD, ok_ints, toL_slc, hbl, gb, ok_bran, toL_bran, fld_bran, gm, hml, hm0, hmt, ← hn]
    refine ⟨fun h3 => ⟨fun h4 => ?_, fun h4 => ?_⟩, fun h3 => ?_⟩
    · have hl := rl a2.toNat (by omega)
      have hmo := mmo a2.toNat k.toNat (by omega) (by omega) (by omega)
      have hqq := hqt _ _ _ (hbr a2.toNat (by omega)) (hbr k.toNat (by omega)) hmo.1 hmo.2
      rw [hl, wrap_id (n := k + 1) (by omega) (by omega)]
      refine ⟨by omega, by omega, by omega, by omega, by omega, by omega, by omega, by omega, hqq, ?_⟩
      refine hag (W (s + meetC bs ms a2.toNat k.toNat), k + 1) ⟨by simp only; omega, by simp only; omega, ?_⟩ (by simp only; omega)
      simp only [toNat_succ k0]
      rw [totN, if_neg (by omega), hI]
    · rw [wrap_id (n := k + 1) (by omega) (by omega)]
      refine hag (s, k + 1) ⟨by simp only; omega, by simp only; omega, ?_⟩ (by simp only; omega)
      simp only [toNat_succ k0]
      rw [totN, if_pos (by omega), hI]
    · rw [hr, hf0, hI, show k.toNat = bs.length by omega]
  · cases h
def c_law_Di (f : List V → List V → Int → Bool) (q : List V → List V → Int → Prop) : Contract := fun
  | [.agg [.slc false 24 (.agg [.slc false 2 (.int .i64 0) []]) a0, .slc false 22 (.slc false 2 (.int .i64 0) []) a1], .int .i64 a2] => some ([q a0 a1 a2], .bool (f a0 a1 a2))
  | _ => none
def q_law_Di : List V → List V → Int → Prop := fun x y _ => q_C' x y
def yesCi (_ _ : List V) (_ : Int) : Bool := true
set_option maxRecDepth 100000 in
theorem s_laws_FnExactTotalIntersection : Sat Try.prog 9 (c_law_Di yesCi q_law_Di) := by
  intro args ps r h hp
  unfold c_law_Di at h
  split at h
  · rename_i a0 a1 a2
    simp only [Option.some.injEq, Prod.mk.injEq] at h
    obtain ⟨rfl, rfl⟩ := h
    have hq : q_C' a0 a1 := (alls_cons.1 hp).1
    have g0 := frzs_BB hq.1
    have g1 := frzs_II hq.2
    generalize H_f_szC : f_szC = F_f_szC
    generalize H_q_szC : q_szC = F_q_szC
    generalize H_f_cpC : f_cpC = F_f_cpC
    generalize H_q_cpC : q_cpC = F_q_cpC
    generalize H_f_tot : f_tot = F_f_tot
    generalize H_q_Ci : q_Ci = F_q_Ci
    generalize H_f0_eqC : f0_eqC = F_f0_eqC
    generalize H_q_eqC : q_eqC = F_q_eqC
    refine fnOk_ofI (T := tab) (B := [(28, c_Di_i F_f_szC F_q_szC), (30, c_D_C F_f_cpC F_q_cpC), (37, c_Ci_ii F_f_tot F_q_Ci), (38, c_Ci_ii F_f_tot F_q_Ci), (32, c_cc_bool F_f0_eqC F_q_eqC)]) (Bi := []) [0, 1, 2, 4, 5, 6, 7, 8, 9, 10] Try.func9 rfl rfl (by kernel_rfl) (Nat.le_of_ble_eq_true rfl) mixed tabOk (by subst H_f_szC H_q_szC H_f_cpC H_q_cpC H_f_tot H_q_Ci H_f0_eqC H_q_eqC; exact (bookCons s_laws_szCurve (bookCons s_laws_toCurve (bookCons s_spec_TotalIntersection (bookCons s_impl_TotalIntersection (bookCons s_laws_eqCurve bookNil)))))) (by subst H_f_szC H_q_szC H_f_cpC H_q_cpC H_f_tot H_q_Ci H_f0_eqC H_q_eqC; exact bookINil) (by kernel_rfl) ?_
    intro L lp rr hL hr hf hlp
    have hlen := hf.1
    conv => cbv
    simp only [stdEqs hL, g0, g1]
    subst H_f_szC H_q_szC H_f_cpC H_q_cpC H_f_tot H_q_Ci H_f0_eqC H_q_eqC
    refine ⟨hq, fun h => by rw [hr]; rfl, fun h => ?_⟩
    obtain ⟨hc, ht1, ht2, _, _⟩ := szC_ok (by omega) (by omega) hq hlen.1.1 hlen.1.2 hlen.2.1.1 hlen.2.1.2 h
    obtain ⟨⟨bs, hbs⟩, ⟨ms, hms⟩⟩ := hq
    have e0 : f_cpC a0 a1 = (BB true bs, II true ms) := by rw [f_cpC, hbs, hms, unBB_BB, unII_II]
    rw [hbs, unBB_BB] at ht1
    rw [hms, unII_II] at ht2
    have kg := curve_keys bs ms (by omega)
    have hqc : q_C (BB false bs) (II false ms) := by have := q_C_of hc; rwa [hbs, hms] at this
    have hqx : q_Ci (BB false bs) (II false ms) a2 := hqc
    simp only [e0, hc, kg, hqc, hqx, hr, yesCi, beq_self_eq_true]
    simp
  · cases h
end Go.Ax
