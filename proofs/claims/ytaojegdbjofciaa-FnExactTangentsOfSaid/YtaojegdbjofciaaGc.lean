/-
  Lengths and tangents of curves, distances. No conditions but those of the contracts.
-/
import Derived.Test.YtaojegdbjofciaaGb
set_option linter.all false
namespace Go.Ax
open Go.Proofs

/-! lengths -/
theorem maxGo_max : ∀ (l : List Int) (m x : Int), maxGo l (max m x) = max m (maxGo l x)
  | [], _, _ => rfl
  | y :: l, m, x => by
    simp only [maxGo]
    rw [show max (max m x) y = max m (max x y) by omega, maxGo_max l m (max x y)]
theorem maxGo_L {l : List Int} (h : l ≠ []) (m : Int) : maxGo l m = max m (maxL l) := by
  cases l with
  | nil => exact absurd rfl h
  | cons y l => simp only [maxGo, maxL]; exact maxGo_max l m y
def lenAt (bs ms : List (List Int)) (i : Nat) : Int := max ((sq1 (bs.getD i [])).length : Int) (maxL (ms.getD i []))
def lenL (bs ms : List (List Int)) (n : Nat) : List Int := tab' (lenAt bs ms) n
def c_C_l (f : List V → List V → List V) (q : List V → List V → Prop) : Contract := fun
  | [.agg [.slc false 28 (.agg [.slc false 2 (.int .i64 0) []]) a0, .slc false 22 (.slc false 2 (.int .i64 0) []) a1]] => some ([q a0 a1], .slc true 2 (.int .i64 0) (f a0 a1))
  | _ => none
def f_len (a b : List V) : List V := I (lenL (unBB a) (unII b) a.length)
set_option maxRecDepth 100000 in
theorem s_impl_lengths : Sat Try.prog 84 (c_C_l f_len q_cv) := by
  intro args ps r h hp
  unfold c_C_l at h
  split at h
  · rename_i a0 a1
    simp only [Option.some.injEq, Prod.mk.injEq] at h
    obtain ⟨rfl, rfl⟩ := h
    obtain ⟨⟨⟨bs, hbs, hb1, hb2⟩, ⟨ms, hms, hm1, hm2⟩⟩, hcv⟩ := (alls_cons.1 hp).1
    rw [hbs, hms, unBB_BB, unII_II] at hcv
    have g1 : V.frzs a0 = a0 := by rw [hbs, BB_frzs]
    have g2 : V.frzs a1 = a1 := by rw [hms, II_frzs]
    have hbl : a0.length = bs.length := by rw [hbs, BB_length]
    have hml : a1.length = ms.length := by rw [hms, II_length]
    have gb : ∀ k, a0.getD k (.agg [.slc false 2 (.int .i64 0) []]) = .agg [.slc false 2 (.int .i64 0) (I (bs.getD k []))] := fun k => by rw [hbs, BB_getD]
    have gm : ∀ k, a1.getD k (.slc false 2 (.int .i64 0) []) = .slc false 2 (.int .i64 0) (I (ms.getD k [])) := fun k => by rw [hms, II_getD]
    have hm0 : ∀ x y : Nat, (ms.getD x []).getD y 0 = mm ms x y := fun _ _ => rfl
    obtain ⟨n, hn⟩ : ∃ n : Int, n = bs.length := ⟨_, rfl⟩
    have n1 := hcv.n1
    have n6 := hcv.n6
    have hmn : ms.length = bs.length := hcv.tab.len
    have hbr : ∀ i, i < bs.length → Br (bs.getD i []) := fun i hi => br_of (hcv.br i hi)
    have rl : ∀ k, k < bs.length → (ms.getD k []).length = bs.length := fun k hk => (hcv.tab.row k hk).1
    have mmr : ∀ i k, i < bs.length → k < bs.length → 0 ≤ mm ms i k ∧ mm ms i k ≤ 200 := fun i k hi hk => hcv.tab.range hi hk
    have mmo : ∀ i k, i < bs.length → k < bs.length → i ≠ k → 1 ≤ mm ms i k ∧ mm ms i k ≤ 200 := fun i k hi hk hne => ((hcv.tab.row i hi).2 k hk).2 hne
    have hf0 : f_len a0 a1 = I (lenL bs ms bs.length) := by rw [f_len, hbl, hbs, hms, unBB_BB, unII_II]
    generalize H_f_seq : f_seq = F_f_seq
    generalize H_IsBr : IsBr = F_IsBr
    generalize H_f_maxL : f_maxL = F_f_maxL
    generalize H_q_ne : q_ne = F_q_ne
    refine fnOk_ofI (T := tab) (B := [(101, c_B_l F_f_seq F_IsBr), (103, c_l_i F_f_maxL F_q_ne)]) (Bi := []) [0, 1, 2, 3, 4, 5, 8, 9, 10] Try.func84 rfl rfl (by kernel_rfl) (Nat.le_of_ble_eq_true rfl) mixed tabOk (by subst H_f_seq H_IsBr H_f_maxL H_q_ne; exact (bookCons s_impl_sequence (bookCons s_slicesMax bookNil))) (by subst H_f_seq H_IsBr H_f_maxL H_q_ne; exact bookINil) (by kernel_rfl) ?_
    intro L lp rr hL hr hf hlp
    have esq : ∀ x, (F_f_seq (I x)).length = (sq1 x).length := fun x => by rw [← H_f_seq, f_seq, unI_I, I_length]
    have qsq : ∀ x, Br x → F_IsBr (I x) := fun x hx => by rw [← H_IsBr]; exact ⟨_, rfl, hx⟩
    have emx : ∀ x, F_f_maxL (I x) = maxL x := fun x => by rw [← H_f_maxL, f_maxL, unI_I]
    have qmx : ∀ x, 1 ≤ x.length → F_q_ne (I x) := fun x hx => by
      rw [← H_q_ne]
      refine ⟨⟨_, rfl⟩, fun h => ?_⟩
      have := congrArg List.length h
      rw [I_length] at this
      simp at this
      simp [this] at hx
    conv => cbv
    refine hlp (List V × Int) _ _ _ [1, 3, 8, 9, 10] (fun x => [(1, none, .val (.box 47 (.agg [.slc false 28 (.agg [.slc false 2 (.int .i64 0) []]) a0, .slc false 22 (.slc false 2 (.int .i64 0) []) a1]))), (3, none, .val (.slc true 2 (.int .i64 0) x.1)), (8, none, .val (.slc false 28 (.agg [.slc false 2 (.int .i64 0) []]) a0)), (9, none, .val (.int .i64 n)), (10, none, .val (.int .i64 x.2))])
      (fun x => 0 ≤ x.2 ∧ x.2 ≤ n ∧ x.1 = I (lenL bs ms x.2.toNat)) (fun x => (n - x.2).toNat) (([], 0)) (by subst hL; rw [hn, ← hbl]; rfl) ?_ ?_
    · exact ⟨by simp, by simp only; omega, rfl⟩
    rintro ⟨es, i⟩ ⟨i0, i1, hI⟩ hfx ag hag
    simp only at i0 i1 hI
    conv => cbv
    simp only [stdEqs hL, imp_self, true_and, and_true, bif_or, bif_and, Bool.or_eq_true, Bool.or_eq_false_iff, Bool.and_eq_true, Bool.and_eq_false_iff, decide_eq_true_eq, decide_eq_false_iff_not, Bool.not_eq_true', Bool.not_eq_false', beq_iff_eq, beq_eq_false_iff_ne, ne_eq, toNat0, toNat1, ok_int, toI_int, I_frzs, I_length, I_getD, ok_ints, toL_slc, hbl, gb, ok_bran, toL_bran, fld_bran, gm, hml, esq, emx]
    refine ⟨fun h2 => ?_, fun h2 => ?_⟩
    · have hb := hbr i.toNat (by omega)
      have hri := rl i.toNat (by omega)
      have hel : es.length ≤ 6 := by rw [hI, I_length, lenL, tab_len]; omega
      have hq1 := qsq _ hb
      have hq2 := qmx (ms.getD i.toNat []) (by omega)
      rw [wrap_id (n := i + 1) (by omega) (by omega)]
      (repeat' first | (exact solid_one _) | (exact solid1 rfl) | (exact noown_one _) | (apply And.intro) | (intro _)) <;> (try first | exact True.intro | omega | rfl | (simp only [List.length_cons, List.length_nil, I_length]; omega))
      all_goals first | exact hq1 | exact hq2 | skip
      refine hag (_, i + 1) ⟨by simp only; omega, by simp only; omega, ?_⟩ (by simp only; omega)
      simp only [toNat_succ i0]
      rw [lenL, tab_succ, hI, ← I_append]
      rfl
    · rw [hr, hf0, hI, show i.toNat = bs.length by omega]
  · cases h
set_option maxRecDepth 100000 in
theorem s_spec_l09Lengths : Sat Try.prog 83 (c_C_l f_len q_cv) := by
  intro args ps r h hp
  unfold c_C_l at h
  split at h
  · rename_i a0 a1
    simp only [Option.some.injEq, Prod.mk.injEq] at h
    obtain ⟨rfl, rfl⟩ := h
    obtain ⟨⟨⟨bs, hbs, hb1, hb2⟩, ⟨ms, hms, hm1, hm2⟩⟩, hcv⟩ := (alls_cons.1 hp).1
    rw [hbs, hms, unBB_BB, unII_II] at hcv
    have g1 : V.frzs a0 = a0 := by rw [hbs, BB_frzs]
    have g2 : V.frzs a1 = a1 := by rw [hms, II_frzs]
    have hbl : a0.length = bs.length := by rw [hbs, BB_length]
    have hml : a1.length = ms.length := by rw [hms, II_length]
    have gb : ∀ k, a0.getD k (.agg [.slc false 2 (.int .i64 0) []]) = .agg [.slc false 2 (.int .i64 0) (I (bs.getD k []))] := fun k => by rw [hbs, BB_getD]
    have gm : ∀ k, a1.getD k (.slc false 2 (.int .i64 0) []) = .slc false 2 (.int .i64 0) (I (ms.getD k [])) := fun k => by rw [hms, II_getD]
    have hm0 : ∀ x y : Nat, (ms.getD x []).getD y 0 = mm ms x y := fun _ _ => rfl
    obtain ⟨n, hn⟩ : ∃ n : Int, n = bs.length := ⟨_, rfl⟩
    have n1 := hcv.n1
    have n6 := hcv.n6
    have hmn : ms.length = bs.length := hcv.tab.len
    have hbr : ∀ i, i < bs.length → Br (bs.getD i []) := fun i hi => br_of (hcv.br i hi)
    have rl : ∀ k, k < bs.length → (ms.getD k []).length = bs.length := fun k hk => (hcv.tab.row k hk).1
    have mmr : ∀ i k, i < bs.length → k < bs.length → 0 ≤ mm ms i k ∧ mm ms i k ≤ 200 := fun i k hi hk => hcv.tab.range hi hk
    have mmo : ∀ i k, i < bs.length → k < bs.length → i ≠ k → 1 ≤ mm ms i k ∧ mm ms i k ≤ 200 := fun i k hi hk hne => ((hcv.tab.row i hi).2 k hk).2 hne
    have hf0 : f_len a0 a1 = I (lenL bs ms bs.length) := by rw [f_len, hbl, hbs, hms, unBB_BB, unII_II]
    generalize H_f_cnt : f_cnt = F_f_cnt
    generalize H_IsBr : IsBr = F_IsBr
    refine fnOk_ofI (T := tab) (B := [(102, c_B_i F_f_cnt F_IsBr)]) (Bi := []) [0, 1, 2, 3, 4, 5, 6] Try.func83 rfl rfl (by kernel_rfl) (Nat.le_of_ble_eq_true rfl) mixed tabOk (by subst H_f_cnt H_IsBr; exact (bookCons s_spec_l04Count bookNil)) (by subst H_f_cnt H_IsBr; exact bookINil) (by kernel_rfl) ?_
    intro L lp rr hL hr hf hlp
    have ecn : ∀ x, F_f_cnt (I x) = (sq1 x).length := fun x => by rw [← H_f_cnt, f_cnt, unI_I]
    have qsq : ∀ x, Br x → F_IsBr (I x) := fun x hx => by rw [← H_IsBr]; exact ⟨_, rfl, hx⟩
    conv => cbv
    refine hlp (List V × Int) _ _ _ [1, 3, 4] (fun x => [(1, none, .val (.box 47 (.agg [.slc false 28 (.agg [.slc false 2 (.int .i64 0) []]) a0, .slc false 22 (.slc false 2 (.int .i64 0) []) a1]))), (3, none, .val (.slc true 2 (.int .i64 0) x.1)), (4, none, .val (.int .i64 x.2))])
      (fun x => 0 ≤ x.2 ∧ x.2 ≤ n ∧ x.1 = I (lenL bs ms x.2.toNat)) (fun x => (n - x.2).toNat) (([], 0)) (by subst hL; rfl) ?_ ?_
    · exact ⟨by simp, by simp only; omega, rfl⟩
    rintro ⟨es, i⟩ ⟨i0, i1, hI⟩ hfx ag hag
    simp only at i0 i1 hI
    conv => cbv
    simp only [stdEqs hL, imp_self, true_and, and_true, bif_or, bif_and, Bool.or_eq_true, Bool.or_eq_false_iff, Bool.and_eq_true, Bool.and_eq_false_iff, decide_eq_true_eq, decide_eq_false_iff_not, Bool.not_eq_true', Bool.not_eq_false', beq_iff_eq, beq_eq_false_iff_ne, ne_eq, toNat0, toNat1, ok_int, toI_int, I_frzs, I_length, I_getD, ok_ints, toL_slc, hbl, gb, ok_bran, toL_bran, fld_bran, ecn, ← hn]
    refine ⟨fun h2 => ?_, fun h2 => ?_⟩
    · have hb := hbr i.toNat (by omega)
      have hri := rl i.toNat (by omega)
      have hel : es.length ≤ 6 := by rw [hI, I_length, lenL, tab_len]; omega
      obtain ⟨c0, hc0⟩ : ∃ c0 : Int, c0 = (sq1 (bs.getD i.toNat [])).length := ⟨_, rfl⟩
      rw [← hc0]
      refine ⟨i0, by omega, qsq _ hb, ?_⟩
      obtain ⟨r, hR⟩ : ∃ r, r = ms.getD i.toNat [] := ⟨_, rfl⟩
      rw [← hR] at hri
      refine hlp (Int × Int) _ _ _ [1, 3, 4, 5, 6] (fun x => [(1, none, .val (.box 47 (.agg [.slc false 28 (.agg [.slc false 2 (.int .i64 0) []]) a0, .slc false 22 (.slc false 2 (.int .i64 0) []) a1]))), (3, none, .val (.slc true 2 (.int .i64 0) es)), (4, none, .val (.int .i64 i)), (5, none, .val (.int .i64 x.1)), (6, none, .val (.int .i64 x.2))])
        (fun x => 0 ≤ x.2 ∧ x.2 ≤ n ∧ maxGo r c0 = maxGo (r.drop x.2.toNat) x.1) (fun x => (n - x.2).toNat) ((c0, 0)) (by subst hL; rfl) ?_ ?_
      · exact ⟨by simp, by simp only; omega, rfl⟩
      rintro ⟨t, k⟩ ⟨k0, k1, hK⟩ hfx2 ag2 hag2
      simp only at k0 k1 hK
      conv => cbv
      simp only [stdEqs hL, imp_self, true_and, and_true, bif_or, bif_and, Bool.or_eq_true, Bool.or_eq_false_iff, Bool.and_eq_true, Bool.and_eq_false_iff, decide_eq_true_eq, decide_eq_false_iff_not, Bool.not_eq_true', Bool.not_eq_false', beq_iff_eq, beq_eq_false_iff_ne, ne_eq, toNat0, toNat1, ok_int, toI_int, I_frzs, I_length, I_getD, ok_ints, toL_slc, hbl, gm, hml, ← hR, ← hn, hri]
      refine ⟨fun h3 => ?_, fun h3 => ?_⟩
      · rw [wrap_id (n := k + 1) (by omega) (by omega)]
        refine ⟨by omega, by omega, by omega, by omega, ?_⟩
        refine hag2 (max t (r.getD k.toNat 0), k + 1) ⟨by simp only; omega, by simp only; omega, ?_⟩ (by simp only; omega)
        simp only [toNat_succ k0]
        rw [hK, drop_cons 0 (show k.toNat < r.length by omega), maxGo]
      · rw [wrap_id (n := i + 1) (by omega) (by omega)]
        have e1 : t = lenAt bs ms i.toNat := by
          rw [List.drop_eq_nil_of_le (by omega)] at hK
          have hne : r ≠ [] := fun h => by rw [h] at hri; simp at hri; omega
          rw [maxGo_L hne, hc0, hR] at hK
          exact hK.symm
        (repeat' first | (exact solid_one _) | (exact solid1 rfl) | (exact noown_one _) | (apply And.intro) | (intro _)) <;> (try first | exact True.intro | omega | rfl | (simp only [List.length_cons, List.length_nil, I_length]; omega))
        refine hag (_, i + 1) ⟨by simp only; omega, by simp only; omega, ?_⟩ (by simp only; omega)
        simp only [toNat_succ i0]
        rw [lenL, tab_succ, hI, ← I_append, ← e1]
        rfl
    · rw [hr, hf0, hI, show i.toNat = bs.length by omega]
  · cases h
def c_C_li (f : List V → List V → List V × Int) (q : List V → List V → Prop) : Contract := fun
  | [.agg [.slc false 28 (.agg [.slc false 2 (.int .i64 0) []]) a0, .slc false 22 (.slc false 2 (.int .i64 0) []) a1]] => some ([q a0 a1], .tup [.slc true 2 (.int .i64 0) ((f a0 a1).1), .int .i64 ((f a0 a1).2)])
  | _ => none
noncomputable def f_lo (a b : List V) : List V × Int := bif f_isCv a b then (f_len a b, 0) else ([], 1)
set_option maxRecDepth 100000 in
theorem s_impl_LengthsOf : Sat Try.prog 47 (c_C_li f_lo q_C) := by
  intro args ps r h hp
  unfold c_C_li at h
  split at h
  · rename_i a0 a1
    simp only [Option.some.injEq, Prod.mk.injEq] at h
    obtain ⟨rfl, rfl⟩ := h
    have hq : q_C a0 a1 := (alls_cons.1 hp).1
    have g1 := frzs_BB hq.1.isBB
    have g2 := frzs_II hq.2.isII
    generalize H_f_isCv : f_isCv = F_f_isCv
    generalize H_q_C : q_C = F_q_C
    generalize H_f_len : f_len = F_f_len
    generalize H_q_cv : q_cv = F_q_cv
    refine fnOk_ofI (T := tab) (B := [(31, c_C_b F_f_isCv F_q_C), (84, c_C_l F_f_len F_q_cv)]) (Bi := []) [0, 1, 2, 3] Try.func47 rfl rfl (by kernel_rfl) (Nat.le_of_ble_eq_true rfl) mixed tabOk (by subst H_f_isCv H_q_C H_f_len H_q_cv; exact (bookCons s_impl_IsCurve (bookCons s_impl_lengths bookNil))) (by subst H_f_isCv H_q_C H_f_len H_q_cv; exact bookINil) (by kernel_rfl) ?_
    intro L lp rr hL hr hf hlp
    conv => cbv
    simp only [stdEqs hL, imp_self, true_and, and_true, bif_or, bif_and, Bool.or_eq_true, Bool.or_eq_false_iff, Bool.and_eq_true, Bool.and_eq_false_iff, decide_eq_true_eq, decide_eq_false_iff_not, Bool.not_eq_true', Bool.not_eq_false', beq_iff_eq, beq_eq_false_iff_ne, ne_eq, toNat0, toNat1, ok_int, toI_int, I_frzs, I_length, I_getD, ok_ints, toL_slc, g1, g2]
    subst H_f_isCv H_q_C H_f_len H_q_cv
    refine ⟨hq, fun h => ?_, fun h => ⟨q_cv_of hq h, ?_⟩⟩
    · rw [hr, f_lo, h]; rfl
    · rw [hr, f_lo, h]; rfl
  · cases h
set_option maxRecDepth 100000 in
theorem s_spec_LengthsOf : Sat Try.prog 46 (c_C_li f_lo q_C) := by
  intro args ps r h hp
  unfold c_C_li at h
  split at h
  · rename_i a0 a1
    simp only [Option.some.injEq, Prod.mk.injEq] at h
    obtain ⟨rfl, rfl⟩ := h
    have hq : q_C a0 a1 := (alls_cons.1 hp).1
    have g1 := frzs_BB hq.1.isBB
    have g2 := frzs_II hq.2.isII
    generalize H_f_isCv : f_isCv = F_f_isCv
    generalize H_q_C : q_C = F_q_C
    generalize H_f_len : f_len = F_f_len
    generalize H_q_cv : q_cv = F_q_cv
    refine fnOk_ofI (T := tab) (B := [(62, c_C_b F_f_isCv F_q_C), (83, c_C_l F_f_len F_q_cv)]) (Bi := []) [0, 1, 2, 3] Try.func46 rfl rfl (by kernel_rfl) (Nat.le_of_ble_eq_true rfl) mixed tabOk (by subst H_f_isCv H_q_C H_f_len H_q_cv; exact (bookCons s_spec_l09Is (bookCons s_spec_l09Lengths bookNil))) (by subst H_f_isCv H_q_C H_f_len H_q_cv; exact bookINil) (by kernel_rfl) ?_
    intro L lp rr hL hr hf hlp
    conv => cbv
    simp only [stdEqs hL, imp_self, true_and, and_true, bif_or, bif_and, Bool.or_eq_true, Bool.or_eq_false_iff, Bool.and_eq_true, Bool.and_eq_false_iff, decide_eq_true_eq, decide_eq_false_iff_not, Bool.not_eq_true', Bool.not_eq_false', beq_iff_eq, beq_eq_false_iff_ne, ne_eq, toNat0, toNat1, ok_int, toI_int, I_frzs, I_length, I_getD, ok_ints, toL_slc, g1, g2]
    subst H_f_isCv H_q_C H_f_len H_q_cv
    refine ⟨hq, fun h => ?_, fun h => ⟨q_cv_of hq h, ?_⟩⟩
    · rw [hr, f_lo, h]; rfl
    · rw [hr, f_lo, h]; rfl
  · cases h
theorem cv_len {bs ms : List (List Int)} (h : isCv bs ms = true) : bs.length ≤ 6 := (isCv_iff.1 h).n6
set_option maxRecDepth 100000 in
theorem s_laws_FnExactLengthsOf : Sat Try.prog 13 (c_law_D yesC q_law_D) := by
  intro args ps r h hp
  unfold c_law_D at h
  split at h
  · rename_i a0 a1
    simp only [Option.some.injEq, Prod.mk.injEq] at h
    obtain ⟨rfl, rfl⟩ := h
    have hq : q_C' a0 a1 := (alls_cons.1 hp).1
    have g0 := frzs_BB hq.1
    have g1 := frzs_II hq.2
    generalize H_f_szC : f_szC = F_f_szC
    generalize H_q_szC : q_szC = F_q_szC
    generalize H_f_cpC : f_cpC = F_f_cpC
    generalize H_q_cpC : q_cpC = F_q_cpC
    generalize H_f_lo : f_lo = F_f_lo
    generalize H_q_C : q_C = F_q_C
    generalize H_f0_eqC : f0_eqC = F_f0_eqC
    generalize H_q_eqC : q_eqC = F_q_eqC
    generalize H_f0_eqI : f0_eqI = F_f0_eqI
    generalize H_q_eqI : q_eqI = F_q_eqI
    generalize H_f0_held : f0_held = F_f0_held
    generalize H_q_mark : q_mark = F_q_mark
    generalize H_f0_mark : f0_mark = F_f0_mark
    generalize H_f1_mark : f1_mark = F_f1_mark
    generalize H_f0_markC : f0_markC = F_f0_markC
    generalize H_f1_markC : f1_markC = F_f1_markC
    generalize H_f2_markC : f2_markC = F_f2_markC
    generalize H_q_markC : q_markC = F_q_markC
    refine fnOk_ofI (T := tab) (B := [(28, c_Di_i F_f_szC F_q_szC), (30, c_D_C F_f_cpC F_q_cpC), (46, c_C_li F_f_lo F_q_C), (47, c_C_li F_f_lo F_q_C), (32, c_cc_bool F_f0_eqC F_q_eqC), (24, c_laws_eqInt64S F_f0_eqI F_q_eqI), (27, c_heldInt64S F_f0_held F_q_mark)]) (Bi := [(26, 0, false, ic_markInt64S F_f0_mark F_f1_mark F_q_mark), (45, 0, false, ic_markC F_f0_markC F_f1_markC F_f2_markC F_q_markC)]) [0, 1, 2, 3, 4, 5, 6, 7, 8, 9, 10, 11, 12, 13] Try.func13 rfl rfl (by kernel_rfl) (Nat.le_of_ble_eq_true rfl) mixed tabOk (by subst H_f_szC H_q_szC H_f_cpC H_q_cpC H_f_lo H_q_C H_f0_eqC H_q_eqC H_f0_eqI H_q_eqI H_f0_held H_q_mark H_f0_mark H_f1_mark H_f0_markC H_f1_markC H_f2_markC H_q_markC; exact (bookCons s_laws_szCurve (bookCons s_laws_toCurve (bookCons s_spec_LengthsOf (bookCons s_impl_LengthsOf (bookCons s_laws_eqCurve (bookCons s_laws_eqInt64S (bookCons s_laws_heldInt64S bookNil)))))))) (by subst H_f_szC H_q_szC H_f_cpC H_q_cpC H_f_lo H_q_C H_f0_eqC H_q_eqC H_f0_eqI H_q_eqI H_f0_held H_q_mark H_f0_mark H_f1_mark H_f0_markC H_f1_markC H_f2_markC H_q_markC; exact (bookICons s_laws_markInt64S (bookICons s_laws_markCurve bookINil))) (by kernel_rfl) ?_
    intro L lp rr hL hr hf hlp
    have hlen := hf.1
    conv => cbv
    simp only [stdEqs hL, g0, g1]
    subst H_f_szC H_q_szC H_f_cpC H_q_cpC H_f_lo H_q_C H_f0_eqC H_q_eqC H_f0_eqI H_q_eqI H_f0_held H_q_mark H_f0_mark H_f1_mark H_f0_markC H_f1_markC H_f2_markC H_q_markC
    refine ⟨hq, fun h => by rw [hr]; rfl, fun h => ?_⟩
    obtain ⟨hc, ht1, ht2, _, _⟩ := szC_ok (by omega) (by omega) hq hlen.1.1 hlen.1.2 hlen.2.1.1 hlen.2.1.2 h
    obtain ⟨⟨bs, hbs⟩, ⟨ms, hms⟩⟩ := hq
    have e0 : f_cpC a0 a1 = (BB true bs, II true ms) := by rw [f_cpC, hbs, hms, unBB_BB, unII_II]
    rw [hbs, unBB_BB] at ht1
    rw [hms, unII_II] at ht2
    have kg := curve_keys bs ms (by omega)
    have hqc : q_C (BB false bs) (II false ms) := by have := q_C_of hc; rwa [hbs, hms] at this
    have hqx := hqc

    obtain ⟨zs, code, ez, hzl⟩ : ∃ (zs : List Int) (code : Int), f_lo (BB false bs) (II false ms) = (I zs, code) ∧ zs.length ≤ 6 := by
      rw [f_lo, f_isCv, f_len, unBB_BB, unII_II]
      cases hh : isCv bs ms with
      | false => exact ⟨[], 1, rfl, by simp⟩
      | true => exact ⟨_, _, rfl, by rw [lenL, tab_len, BB_length]; exact cv_len hh⟩
    have ck := ints_keys zs (by omega)
    have hn1 : ∀ n : Nat, decide ((1 : Int) + n < 0) = false := fun n => by simp; omega
    have hn2 : ∀ n m : Nat, decide ((1 : Int) + n + m < 0) = false := fun n m => by simp; omega
    simp only [e0, hc, kg, hqc, ez, ck, hn1, hn2, hr, yesC, I_frzs]
    simp
  · cases h
end Go.Ax
