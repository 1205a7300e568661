/-
  Lengths and tangents of curves, distances. No conditions but those of the contracts.
-/
import Derived.Test.YtkidnnlplpocdaaGb
set_option linter.all false
namespace Go.Ax
open Go.Proofs

/-! lengths -/
theorem maxGo_max : ∀ (l : List Int) (m x : Int), maxGo l (max m x) = max m (maxGo l x)
  | [], _, _ => rfl
  | y :: l, m, x => by
    simp only [maxGo]
    rw [show max (max m x) y = max m (max x y) by omega, maxGo_max l m (max x y)]
theorem maxGo_L {l : List Int} (h : l ≠ []) (m : Int) : maxGo l m = max m (maxL l) := by
  cases l with
  | nil => exact absurd rfl h
  | cons y l => simp only [maxGo, maxL]; exact maxGo_max l m y
def lenAt (bs ms : List (List Int)) (i : Nat) : Int := max ((sq1 (bs.getD i [])).length : Int) (maxL (ms.getD i []))
def lenL (bs ms : List (List Int)) (n : Nat) : List Int := tab' (lenAt bs ms) n
def c_C_l (f : List V → List V → List V) (q : List V → List V → Prop) : Contract := fun
  | [.agg [.slc false 99 (.agg [.slc false 2 (.int .i64 0) []]) a0, .slc false 27 (.slc false 2 (.int .i64 0) []) a1]] => some ([q a0 a1], .slc true 2 (.int .i64 0) (f a0 a1))
  | _ => none
def f_len (a b : List V) : List V := I (lenL (unBB a) (unII b) a.length)
set_option maxRecDepth 100000 in
theorem s_impl_lengths : Sat Try.prog 131 (c_C_l f_len q_cv) := by
  intro args ps r h hp
  unfold c_C_l at h
  split at h
  · rename_i a0 a1
    simp only [Option.some.injEq, Prod.mk.injEq] at h
    obtain ⟨rfl, rfl⟩ := h
    obtain ⟨⟨⟨bs, hbs, hb1, hb2⟩, ⟨ms, hms, hm1, hm2⟩⟩, hcv⟩ := (alls_cons.1 hp).1
    rw [hbs, hms, unBB_BB, unII_II] at hcv
    have g1 : V.frzs a0 = a0 := by rw [hbs, BB_frzs]
    have g2 : V.frzs a1 = a1 := by rw [hms, II_frzs]
    have hbl : a0.length = bs.length := by rw [hbs, BB_length]
    have hml : a1.length = ms.length := by rw [hms, II_length]
    have gb : ∀ k, a0.getD k (.agg [.slc false 2 (.int .i64 0) []]) = .agg [.slc false 2 (.int .i64 0) (I (bs.getD k []))] := fun k => by rw [hbs, BB_getD]
    have gm : ∀ k, a1.getD k (.slc false 2 (.int .i64 0) []) = .slc false 2 (.int .i64 0) (I (ms.getD k [])) := fun k => by rw [hms, II_getD]
    have hm0 : ∀ x y : Nat, (ms.getD x []).getD y 0 = mm ms x y := fun _ _ => rfl
    obtain ⟨n, hn⟩ : ∃ n : Int, n = bs.length := ⟨_, rfl⟩
    have n1 := hcv.n1
    have n6 := hcv.n6
    have hmn : ms.length = bs.length := hcv.tab.len
    have hbr : ∀ i, i < bs.length → Br (bs.getD i []) := fun i hi => br_of (hcv.br i hi)
    have rl : ∀ k, k < bs.length → (ms.getD k []).length = bs.length := fun k hk => (hcv.tab.row k hk).1
    have mmr : ∀ i k, i < bs.length → k < bs.length → 0 ≤ mm ms i k ∧ mm ms i k ≤ 200 := fun i k hi hk => hcv.tab.range hi hk
    have mmo : ∀ i k, i < bs.length → k < bs.length → i ≠ k → 1 ≤ mm ms i k ∧ mm ms i k ≤ 200 := fun i k hi hk hne => ((hcv.tab.row i hi).2 k hk).2 hne
    have hf0 : f_len a0 a1 = I (lenL bs ms bs.length) := by rw [f_len, hbl, hbs, hms, unBB_BB, unII_II]
    generalize H_f_seq : f_seq = F_f_seq
    generalize H_IsBr : IsBr = F_IsBr
    generalize H_f_maxL : f_maxL = F_f_maxL
    generalize H_q_ne : q_ne = F_q_ne
    refine fnOk_ofI (T := tab) (B := [(171, c_B_l F_f_seq F_IsBr), (162, c_l_i F_f_maxL F_q_ne)]) (Bi := []) [0, 1, 2, 3, 4, 5, 8, 9, 10] Try.func131 rfl rfl (by kernel_rfl) (Nat.le_of_ble_eq_true rfl) mixed tabOk (by subst H_f_seq H_IsBr H_f_maxL H_q_ne; exact (bookCons s_impl_sequence (bookCons s_slicesMax bookNil))) (by subst H_f_seq H_IsBr H_f_maxL H_q_ne; exact bookINil) (by kernel_rfl) ?_
    intro L lp rr hL hr hf hlp
    have esq : ∀ x, (F_f_seq (I x)).length = (sq1 x).length := fun x => by rw [← H_f_seq, f_seq, unI_I, I_length]
    have qsq : ∀ x, Br x → F_IsBr (I x) := fun x hx => by rw [← H_IsBr]; exact ⟨_, rfl, hx⟩
    have emx : ∀ x, F_f_maxL (I x) = maxL x := fun x => by rw [← H_f_maxL, f_maxL, unI_I]
    have qmx : ∀ x, 1 ≤ x.length → F_q_ne (I x) := fun x hx => by
      rw [← H_q_ne]
      refine ⟨⟨_, rfl⟩, fun h => ?_⟩
      have := congrArg List.length h
      rw [I_length] at this
      simp at this
      simp [this] at hx
    conv => cbv
    refine hlp (List V × Int) _ _ _ [1, 3, 8, 9, 10] (fun x => [(1, none, .val (.box 32 (.agg [.slc false 99 (.agg [.slc false 2 (.int .i64 0) []]) a0, .slc false 27 (.slc false 2 (.int .i64 0) []) a1]))), (3, none, .val (.slc true 2 (.int .i64 0) x.1)), (8, none, .val (.slc false 99 (.agg [.slc false 2 (.int .i64 0) []]) a0)), (9, none, .val (.int .i64 n)), (10, none, .val (.int .i64 x.2))])
      (fun x => 0 ≤ x.2 ∧ x.2 ≤ n ∧ x.1 = I (lenL bs ms x.2.toNat)) (fun x => (n - x.2).toNat) (([], 0)) (by subst hL; rw [hn, ← hbl]; rfl) ?_ ?_
    · exact ⟨by simp, by simp only; omega, rfl⟩
    rintro ⟨es, i⟩ ⟨i0, i1, hI⟩ hfx ag hag
    simp only at i0 i1 hI
    conv => cbv
    simp only [stdEqs hL, imp_self, true_and, and_true, bif_or, bif_and, Bool.or_eq_true, Bool.or_eq_false_iff, Bool.and_eq_true, Bool.and_eq_false_iff, decide_eq_true_eq, decide_eq_false_iff_not, Bool.not_eq_true', Bool.not_eq_false', beq_iff_eq, beq_eq_false_iff_ne, ne_eq, toNat0, toNat1, ok_int, toI_int, I_frzs, I_length, I_getD, ok_ints, toL_slc, hbl, gb, ok_bran, toL_bran, fld_bran, gm, hml, esq, emx]
    refine ⟨fun h2 => ?_, fun h2 => ?_⟩
    · have hb := hbr i.toNat (by omega)
      have hri := rl i.toNat (by omega)
      have hel : es.length ≤ 6 := by rw [hI, I_length, lenL, tab_len]; omega
      have hq1 := qsq _ hb
      have hq2 := qmx (ms.getD i.toNat []) (by omega)
      rw [wrap_id (n := i + 1) (by omega) (by omega)]
      (repeat' first | (exact solid_one _) | (exact solid1 rfl) | (exact noown_one _) | (apply And.intro) | (intro _)) <;> (try first | exact True.intro | omega | rfl | (simp only [List.length_cons, List.length_nil, I_length]; omega))
      all_goals first | exact hq1 | exact hq2 | skip
      refine hag (_, i + 1) ⟨by simp only; omega, by simp only; omega, ?_⟩ (by simp only; omega)
      simp only [toNat_succ i0]
      rw [lenL, tab_succ, hI, ← I_append]
      rfl
    · rw [hr, hf0, hI, show i.toNat = bs.length by omega]
  · cases h
set_option maxRecDepth 100000 in
theorem s_spec_l09Lengths : Sat Try.prog 122 (c_C_l f_len q_cv) := by
  intro args ps r h hp
  unfold c_C_l at h
  split at h
  · rename_i a0 a1
    simp only [Option.some.injEq, Prod.mk.injEq] at h
    obtain ⟨rfl, rfl⟩ := h
    obtain ⟨⟨⟨bs, hbs, hb1, hb2⟩, ⟨ms, hms, hm1, hm2⟩⟩, hcv⟩ := (alls_cons.1 hp).1
    rw [hbs, hms, unBB_BB, unII_II] at hcv
    have g1 : V.frzs a0 = a0 := by rw [hbs, BB_frzs]
    have g2 : V.frzs a1 = a1 := by rw [hms, II_frzs]
    have hbl : a0.length = bs.length := by rw [hbs, BB_length]
    have hml : a1.length = ms.length := by rw [hms, II_length]
    have gb : ∀ k, a0.getD k (.agg [.slc false 2 (.int .i64 0) []]) = .agg [.slc false 2 (.int .i64 0) (I (bs.getD k []))] := fun k => by rw [hbs, BB_getD]
    have gm : ∀ k, a1.getD k (.slc false 2 (.int .i64 0) []) = .slc false 2 (.int .i64 0) (I (ms.getD k [])) := fun k => by rw [hms, II_getD]
    have hm0 : ∀ x y : Nat, (ms.getD x []).getD y 0 = mm ms x y := fun _ _ => rfl
    obtain ⟨n, hn⟩ : ∃ n : Int, n = bs.length := ⟨_, rfl⟩
    have n1 := hcv.n1
    have n6 := hcv.n6
    have hmn : ms.length = bs.length := hcv.tab.len
    have hbr : ∀ i, i < bs.length → Br (bs.getD i []) := fun i hi => br_of (hcv.br i hi)
    have rl : ∀ k, k < bs.length → (ms.getD k []).length = bs.length := fun k hk => (hcv.tab.row k hk).1
    have mmr : ∀ i k, i < bs.length → k < bs.length → 0 ≤ mm ms i k ∧ mm ms i k ≤ 200 := fun i k hi hk => hcv.tab.range hi hk
    have mmo : ∀ i k, i < bs.length → k < bs.length → i ≠ k → 1 ≤ mm ms i k ∧ mm ms i k ≤ 200 := fun i k hi hk hne => ((hcv.tab.row i hi).2 k hk).2 hne
    have hf0 : f_len a0 a1 = I (lenL bs ms bs.length) := by rw [f_len, hbl, hbs, hms, unBB_BB, unII_II]
    generalize H_f_cnt : f_cnt = F_f_cnt
    generalize H_IsBr : IsBr = F_IsBr
    refine fnOk_ofI (T := tab) (B := [(167, c_B_i F_f_cnt F_IsBr)]) (Bi := []) [0, 1, 2, 3, 4, 5, 6] Try.func122 rfl rfl (by kernel_rfl) (Nat.le_of_ble_eq_true rfl) mixed tabOk (by subst H_f_cnt H_IsBr; exact (bookCons s_spec_l04Count bookNil)) (by subst H_f_cnt H_IsBr; exact bookINil) (by kernel_rfl) ?_
    intro L lp rr hL hr hf hlp
    have ecn : ∀ x, F_f_cnt (I x) = (sq1 x).length := fun x => by rw [← H_f_cnt, f_cnt, unI_I]
    have qsq : ∀ x, Br x → F_IsBr (I x) := fun x hx => by rw [← H_IsBr]; exact ⟨_, rfl, hx⟩
    conv => cbv
    refine hlp (List V × Int) _ _ _ [1, 3, 4] (fun x => [(1, none, .val (.box 32 (.agg [.slc false 99 (.agg [.slc false 2 (.int .i64 0) []]) a0, .slc false 27 (.slc false 2 (.int .i64 0) []) a1]))), (3, none, .val (.slc true 2 (.int .i64 0) x.1)), (4, none, .val (.int .i64 x.2))])
      (fun x => 0 ≤ x.2 ∧ x.2 ≤ n ∧ x.1 = I (lenL bs ms x.2.toNat)) (fun x => (n - x.2).toNat) (([], 0)) (by subst hL; rfl) ?_ ?_
    · exact ⟨by simp, by simp only; omega, rfl⟩
    rintro ⟨es, i⟩ ⟨i0, i1, hI⟩ hfx ag hag
    simp only at i0 i1 hI
    conv => cbv
    simp only [stdEqs hL, imp_self, true_and, and_true, bif_or, bif_and, Bool.or_eq_true, Bool.or_eq_false_iff, Bool.and_eq_true, Bool.and_eq_false_iff, decide_eq_true_eq, decide_eq_false_iff_not, Bool.not_eq_true', Bool.not_eq_false', beq_iff_eq, beq_eq_false_iff_ne, ne_eq, toNat0, toNat1, ok_int, toI_int, I_frzs, I_length, I_getD, ok_ints, toL_slc, hbl, gb, ok_bran, toL_bran, fld_bran, ecn, ← hn]
    refine ⟨fun h2 => ?_, fun h2 => ?_⟩
    · have hb := hbr i.toNat (by omega)
      have hri := rl i.toNat (by omega)
      have hel : es.length ≤ 6 := by rw [hI, I_length, lenL, tab_len]; omega
      obtain ⟨c0, hc0⟩ : ∃ c0 : Int, c0 = (sq1 (bs.getD i.toNat [])).length := ⟨_, rfl⟩
      rw [← hc0]
      refine ⟨i0, by omega, qsq _ hb, ?_⟩
      obtain ⟨r, hR⟩ : ∃ r, r = ms.getD i.toNat [] := ⟨_, rfl⟩
      rw [← hR] at hri
      refine hlp (Int × Int) _ _ _ [1, 3, 4, 5, 6] (fun x => [(1, none, .val (.box 32 (.agg [.slc false 99 (.agg [.slc false 2 (.int .i64 0) []]) a0, .slc false 27 (.slc false 2 (.int .i64 0) []) a1]))), (3, none, .val (.slc true 2 (.int .i64 0) es)), (4, none, .val (.int .i64 i)), (5, none, .val (.int .i64 x.1)), (6, none, .val (.int .i64 x.2))])
        (fun x => 0 ≤ x.2 ∧ x.2 ≤ n ∧ maxGo r c0 = maxGo (r.drop x.2.toNat) x.1) (fun x => (n - x.2).toNat) ((c0, 0)) (by subst hL; rfl) ?_ ?_
      · exact ⟨by simp, by simp only; omega, rfl⟩
      rintro ⟨t, k⟩ ⟨k0, k1, hK⟩ hfx2 ag2 hag2
      simp only at k0 k1 hK
      conv => cbv
      simp only [stdEqs hL, imp_self, true_and, and_true, bif_or, bif_and, Bool.or_eq_true, Bool.or_eq_false_iff, Bool.and_eq_true, Bool.and_eq_false_iff, decide_eq_true_eq, decide_eq_false_iff_not, Bool.not_eq_true', Bool.not_eq_false', beq_iff_eq, beq_eq_false_iff_ne, ne_eq, toNat0, toNat1, ok_int, toI_int, I_frzs, I_length, I_getD, ok_ints, toL_slc, hbl, gm, hml, ← hR, ← hn, hri]
      refine ⟨fun h3 => ?_, fun h3 => ?_⟩
      · rw [wrap_id (n := k + 1) (by omega) (by omega)]
        refine ⟨by omega, by omega, by omega, by omega, ?_⟩
        refine hag2 (max t (r.getD k.toNat 0), k + 1) ⟨by simp only; omega, by simp only; omega, ?_⟩ (by simp only; omega)
        simp only [toNat_succ k0]
        rw [hK, drop_cons 0 (show k.toNat < r.length by omega), maxGo]
      · rw [wrap_id (n := i + 1) (by omega) (by omega)]
        have e1 : t = lenAt bs ms i.toNat := by
          rw [List.drop_eq_nil_of_le (by omega)] at hK
          have hne : r ≠ [] := fun h => by rw [h] at hri; simp at hri; omega
          rw [maxGo_L hne, hc0, hR] at hK
          exact hK.symm
        (repeat' first | (exact solid_one _) | (exact solid1 rfl) | (exact noown_one _) | (apply And.intro) | (intro _)) <;> (try first | exact True.intro | omega | rfl | (simp only [List.length_cons, List.length_nil, I_length]; omega))
        refine hag (_, i + 1) ⟨by simp only; omega, by simp only; omega, ?_⟩ (by simp only; omega)
        simp only [toNat_succ i0]
        rw [lenL, tab_succ, hI, ← I_append, ← e1]
        rfl
    · rw [hr, hf0, hI, show i.toNat = bs.length by omega]
  · cases h
def c_C_li (f : List V → List V → List V × Int) (q : List V → List V → Prop) : Contract := fun
  | [.agg [.slc false 99 (.agg [.slc false 2 (.int .i64 0) []]) a0, .slc false 27 (.slc false 2 (.int .i64 0) []) a1]] => some ([q a0 a1], .tup [.slc true 2 (.int .i64 0) ((f a0 a1).1), .int .i64 ((f a0 a1).2)])
  | _ => none
noncomputable def f_lo (a b : List V) : List V × Int := bif f_isCv a b then (f_len a b, 0) else ([], 1)
theorem cv_len {bs ms : List (List Int)} (h : isCv bs ms = true) : bs.length ≤ 6 := (isCv_iff.1 h).n6
end Go.Ax
