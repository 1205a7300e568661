/-
  Delta invariants, Milnor numbers, lengths and tangents of curves, distances. No conditions but those of the contracts.
-/
import Derived.Test.YtogjbbmndhlfaaaGa
set_option linter.all false
namespace Go.Ax
open Go.Proofs

/-! deltas -/
def dI (bs ms : List (List Int)) (i : Nat) (s : Int) : Nat → Int
  | 0 => s
  | k + 1 => W (dI bs ms i s k + meetC bs ms i k)
def dO (bs ms : List (List Int)) : Nat → Int
  | 0 => 0
  | i + 1 => dI bs ms i (W (dO bs ms i + delT (seqI (bs.getD i [])))) i
def f_cd (a b : List V) : Int := dO (unBB a) (unII b) a.length
set_option maxRecDepth 100000 in
theorem s_impl_curveDelta : Sat Try.prog 120 (c_C_i f_cd q_cv) := by
  intro args ps r h hp
  unfold c_C_i at h
  split at h
  · rename_i a0 a1
    simp only [Option.some.injEq, Prod.mk.injEq] at h
    obtain ⟨rfl, rfl⟩ := h
    have hv : q_cv a0 a1 := (alls_cons.1 hp).1
    obtain ⟨⟨⟨bs, hbs, hb1, hb2⟩, ⟨ms, hms, hm1, hm2⟩⟩, hcv⟩ := (alls_cons.1 hp).1
    rw [hbs, hms, unBB_BB, unII_II] at hcv
    have g1 : V.frzs a0 = a0 := by rw [hbs, BB_frzs]
    have g2 : V.frzs a1 = a1 := by rw [hms, II_frzs]
    have hbl : a0.length = bs.length := by rw [hbs, BB_length]
    have hml : a1.length = ms.length := by rw [hms, II_length]
    have gb : ∀ k, a0.getD k (.agg [.slc false 2 (.int .i64 0) []]) = .agg [.slc false 2 (.int .i64 0) (I (bs.getD k []))] := fun k => by rw [hbs, BB_getD]
    have gm : ∀ k, a1.getD k (.slc false 2 (.int .i64 0) []) = .slc false 2 (.int .i64 0) (I (ms.getD k [])) := fun k => by rw [hms, II_getD]
    have hm0 : ∀ x y : Nat, (ms.getD x []).getD y 0 = mm ms x y := fun _ _ => rfl
    obtain ⟨n, hn⟩ : ∃ n : Int, n = bs.length := ⟨_, rfl⟩
    have n1 := hcv.n1
    have n6 := hcv.n6
    have hmn : ms.length = bs.length := hcv.tab.len
    have hbr : ∀ i, i < bs.length → Br (bs.getD i []) := fun i hi => br_of (hcv.br i hi)
    have rl : ∀ k, k < bs.length → (ms.getD k []).length = bs.length := fun k hk => (hcv.tab.row k hk).1
    have mmr : ∀ i k, i < bs.length → k < bs.length → 0 ≤ mm ms i k ∧ mm ms i k ≤ 200 := fun i k hi hk => hcv.tab.range hi hk
    have mmo : ∀ i k, i < bs.length → k < bs.length → i ≠ k → 1 ≤ mm ms i k ∧ mm ms i k ≤ 200 := fun i k hi hk hne => ((hcv.tab.row i hi).2 k hk).2 hne
    have hf0 : f_cd a0 a1 = dO bs ms bs.length := by rw [f_cd, hbl, hbs, hms, unBB_BB, unII_II]
    generalize H_f_seq : f_seq = F_f_seq
    generalize H_IsBr : IsBr = F_IsBr
    generalize H_f_delT : f_delT = F_f_delT
    generalize H_q_del : q_del = F_q_del
    generalize H_f_mt : f_mt = F_f_mt
    generalize H_q_mt : q_mt = F_q_mt
    refine fnOk_ofI (T := tab) (B := [(143, c_B_l F_f_seq F_IsBr), (145, c_l_int F_f_delT F_q_del), (146, c_Cii_i F_f_mt F_q_mt)]) (Bi := []) [0, 1, 2, 3, 4, 5, 6, 8, 9, 10, 20, 21] Try.func120 rfl rfl (by kernel_rfl) (Nat.le_of_ble_eq_true rfl) mixed tabOk (by subst H_f_seq H_IsBr H_f_delT H_q_del H_f_mt H_q_mt; exact (bookCons s_impl_sequence (bookCons s_impl_deltaOf (bookCons s_impl_meeting bookNil)))) (by subst H_f_seq H_IsBr H_f_delT H_q_del H_f_mt H_q_mt; exact bookINil) (by kernel_rfl) ?_
    intro L lp rr hL hr hf hlp
    have esq : ∀ x, V.frzs (F_f_seq (I x)) = I (sq1 x) := fun x => by rw [← H_f_seq, f_seq, unI_I, I_frzs]
    have qsq : ∀ x, Br x → F_IsBr (I x) := fun x hx => by rw [← H_IsBr]; exact ⟨_, rfl, hx⟩
    have edl : ∀ x, F_f_delT (I (sq1 x)) = delT (seqI x) := fun x => by rw [← H_f_delT, f_delT, unI_I, delT_sq1]
    have qdl : ∀ x, Br x → F_q_del (I (sq1 x)) := fun x hx => by rw [← H_q_del]; exact ⟨_, rfl, sq1_len hx, sq1_low hx⟩
    have hmt : ∀ i k, F_f_mt a0 a1 i k = meetC bs ms i.toNat k.toNat := fun i k => by rw [← H_f_mt, f_mt, hbs, hms, unBB_BB, unII_II]
    have hqt : ∀ i k : Int, 0 ≤ i → i < n → 0 ≤ k → k < n → i ≠ k → F_q_mt a0 a1 i k := fun i k i0 i1 k0 k1 hne => by rw [← H_q_mt]; exact ⟨hv, i0, by omega, k0, by omega, hne⟩
    conv => cbv
    refine hlp (Int × Int) _ _ _ [1, 3, 8, 9, 10] (fun x => [(1, none, .val (.box 44 (.agg [.slc false 28 (.agg [.slc false 2 (.int .i64 0) []]) a0, .slc false 22 (.slc false 2 (.int .i64 0) []) a1]))), (3, none, .val (.int .i64 x.1)), (8, none, .val (.slc false 28 (.agg [.slc false 2 (.int .i64 0) []]) a0)), (9, none, .val (.int .i64 n)), (10, none, .val (.int .i64 x.2))])
      (fun x => 0 ≤ x.2 ∧ x.2 ≤ n ∧ x.1 = dO bs ms x.2.toNat) (fun x => (n - x.2).toNat) ((0, 0)) (by subst hL; rw [hn, ← hbl]; rfl) ?_ ?_
    · exact ⟨by simp, by simp only; omega, rfl⟩
    rintro ⟨s, i⟩ ⟨i0, i1, hI⟩ hfx ag hag
    simp only at i0 i1 hI
    conv => cbv
    simp only [stdEqs hL, imp_self, true_and, and_true, bif_or, bif_and, Bool.or_eq_true, Bool.or_eq_false_iff, Bool.and_eq_true, Bool.and_eq_false_iff, decide_eq_true_eq, decide_eq_false_iff_not, Bool.not_eq_true', Bool.not_eq_false', beq_iff_eq, beq_eq_false_iff_ne, ne_eq, toNat0, toNat1, ok_int, toI_int, I_frzs, I_length, I_getD, ok_ints, toL_slc, hbl, gb, ok_bran, toL_bran, fld_bran, esq, edl]
    refine ⟨fun h2 => ?_, fun h2 => ?_⟩
    · have hb := hbr i.toNat (by omega)
      obtain ⟨d, hd⟩ : ∃ d, d = W (s + delT (seqI (bs.getD i.toNat []))) := ⟨_, rfl⟩
      refine ⟨i0, by omega, qsq _ hb, qdl _ hb, ?_⟩
      rw [show IntKind.wrap .i64 (s + delT (seqI (bs.getD i.toNat []))) = d from hd.symm]
      refine hlp (Int × Int) _ _ _ [1, 3, 4, 8, 9, 10, 20, 21] (fun x => [(1, none, .val (.box 44 (.agg [.slc false 28 (.agg [.slc false 2 (.int .i64 0) []]) a0, .slc false 22 (.slc false 2 (.int .i64 0) []) a1]))), (3, none, .val (.int .i64 x.1)), (4, none, .val (.int .i64 i)), (8, none, .val (.slc false 28 (.agg [.slc false 2 (.int .i64 0) []]) a0)), (9, none, .val (.int .i64 n)), (10, none, .val (.int .i64 i)), (20, none, .val (.int .i64 i)), (21, none, .val (.int .i64 x.2))])
        (fun x => 0 ≤ x.2 ∧ x.2 ≤ i ∧ x.1 = dI bs ms i.toNat d x.2.toNat) (fun x => (i - x.2).toNat) ((d, 0)) (by subst hL; rfl) ?_ ?_
      · exact ⟨by simp, by simp only; omega, rfl⟩
      rintro ⟨t, k⟩ ⟨k0, k1, hK⟩ hfx2 ag2 hag2
      simp only at k0 k1 hK
      conv => cbv
      simp only [stdEqs hL, imp_self, true_and, and_true, bif_or, bif_and, Bool.or_eq_true, Bool.or_eq_false_iff, Bool.and_eq_true, Bool.and_eq_false_iff, decide_eq_true_eq, decide_eq_false_iff_not, Bool.not_eq_true', Bool.not_eq_false', beq_iff_eq, beq_eq_false_iff_ne, ne_eq, toNat0, toNat1, ok_int, toI_int, I_frzs, I_length, I_getD, ok_ints, toL_slc, g1, g2, hmt]
      refine ⟨fun h3 => ⟨hqt _ _ i0 h2 k0 (by omega) (by omega), ?_⟩, fun h3 => ?_⟩
      · rw [wrap_id (n := k + 1) (by omega) (by omega)]
        refine hag2 (W (t + meetC bs ms i.toNat k.toNat), k + 1) ⟨by simp only; omega, by simp only; omega, ?_⟩ (by simp only; omega)
        simp only [toNat_succ k0]
        rw [dI, hK]
      · rw [wrap_id (n := i + 1) (by omega) (by omega)]
        refine hag (t, i + 1) ⟨by simp only; omega, by simp only; omega, ?_⟩ (by simp only; omega)
        simp only [toNat_succ i0]
        rw [dO, ← hI, ← hd, hK, show k.toNat = i.toNat by omega]
    · rw [hr, hf0, hI, show i.toNat = bs.length by omega]
  · cases h
set_option maxRecDepth 100000 in
theorem s_spec_l09Delta : Sat Try.prog 118 (c_C_i f_cd q_cv) := by
  intro args ps r h hp
  unfold c_C_i at h
  split at h
  · rename_i a0 a1
    simp only [Option.some.injEq, Prod.mk.injEq] at h
    obtain ⟨rfl, rfl⟩ := h
    obtain ⟨⟨⟨bs, hbs, hb1, hb2⟩, ⟨ms, hms, hm1, hm2⟩⟩, hcv⟩ := (alls_cons.1 hp).1
    rw [hbs, hms, unBB_BB, unII_II] at hcv
    have g1 : V.frzs a0 = a0 := by rw [hbs, BB_frzs]
    have g2 : V.frzs a1 = a1 := by rw [hms, II_frzs]
    have hbl : a0.length = bs.length := by rw [hbs, BB_length]
    have hml : a1.length = ms.length := by rw [hms, II_length]
    have gb : ∀ k, a0.getD k (.agg [.slc false 2 (.int .i64 0) []]) = .agg [.slc false 2 (.int .i64 0) (I (bs.getD k []))] := fun k => by rw [hbs, BB_getD]
    have gm : ∀ k, a1.getD k (.slc false 2 (.int .i64 0) []) = .slc false 2 (.int .i64 0) (I (ms.getD k [])) := fun k => by rw [hms, II_getD]
    have hm0 : ∀ x y : Nat, (ms.getD x []).getD y 0 = mm ms x y := fun _ _ => rfl
    obtain ⟨n, hn⟩ : ∃ n : Int, n = bs.length := ⟨_, rfl⟩
    have n1 := hcv.n1
    have n6 := hcv.n6
    have hmn : ms.length = bs.length := hcv.tab.len
    have hbr : ∀ i, i < bs.length → Br (bs.getD i []) := fun i hi => br_of (hcv.br i hi)
    have rl : ∀ k, k < bs.length → (ms.getD k []).length = bs.length := fun k hk => (hcv.tab.row k hk).1
    have mmr : ∀ i k, i < bs.length → k < bs.length → 0 ≤ mm ms i k ∧ mm ms i k ≤ 200 := fun i k hi hk => hcv.tab.range hi hk
    have mmo : ∀ i k, i < bs.length → k < bs.length → i ≠ k → 1 ≤ mm ms i k ∧ mm ms i k ≤ 200 := fun i k hi hk hne => ((hcv.tab.row i hi).2 k hk).2 hne
    have hf0 : f_cd a0 a1 = dO bs ms bs.length := by rw [f_cd, hbl, hbs, hms, unBB_BB, unII_II]
    generalize H_f_del : f_del = F_f_del
    generalize H_IsBr : IsBr = F_IsBr
    generalize H_f_meet : f_meet = F_f_meet
    generalize H_q_meet : q_meet = F_q_meet
    refine fnOk_ofI (T := tab) (B := [(144, c_B_i F_f_del F_IsBr), (59, c_BBi_i F_f_meet F_q_meet)]) (Bi := []) [0, 1, 2, 3, 4, 5] Try.func118 rfl rfl (by kernel_rfl) (Nat.le_of_ble_eq_true rfl) mixed tabOk (by subst H_f_del H_IsBr H_f_meet H_q_meet; exact (bookCons s_spec_l04Delta (bookCons s_spec_l09Meet bookNil))) (by subst H_f_del H_IsBr H_f_meet H_q_meet; exact bookINil) (by kernel_rfl) ?_
    intro L lp rr hL hr hf hlp
    have edl : ∀ x, F_f_del (I x) = delT (seqI x) := fun x => by rw [← H_f_del, f_del, unI_I]
    have qsq : ∀ x, Br x → F_IsBr (I x) := fun x hx => by rw [← H_IsBr]; exact ⟨_, rfl, hx⟩
    have hmt : ∀ x y c, F_f_meet (I x) (I y) c = meet x y c.toNat := fun x y c => by rw [← H_f_meet, f_meet, unI_I, unI_I]
    have hqt : ∀ x y c, Br x → Br y → 1 ≤ c → c ≤ 200 → F_q_meet (I x) (I y) c := fun x y c hx hy h1 h2 => by rw [← H_q_meet]; exact ⟨⟨_, rfl, hx⟩, ⟨_, rfl, hy⟩, h1, by omega⟩
    conv => cbv
    refine hlp (Int × Int) _ _ _ [1, 3, 4] (fun x => [(1, none, .val (.box 44 (.agg [.slc false 28 (.agg [.slc false 2 (.int .i64 0) []]) a0, .slc false 22 (.slc false 2 (.int .i64 0) []) a1]))), (3, none, .val (.int .i64 x.1)), (4, none, .val (.int .i64 x.2))])
      (fun x => 0 ≤ x.2 ∧ x.2 ≤ n ∧ x.1 = dO bs ms x.2.toNat) (fun x => (n - x.2).toNat) ((0, 0)) (by subst hL; rfl) ?_ ?_
    · exact ⟨by simp, by simp only; omega, rfl⟩
    rintro ⟨s, i⟩ ⟨i0, i1, hI⟩ hfx ag hag
    simp only at i0 i1 hI
    conv => cbv
    simp only [stdEqs hL, imp_self, true_and, and_true, bif_or, bif_and, Bool.or_eq_true, Bool.or_eq_false_iff, Bool.and_eq_true, Bool.and_eq_false_iff, decide_eq_true_eq, decide_eq_false_iff_not, Bool.not_eq_true', Bool.not_eq_false', beq_iff_eq, beq_eq_false_iff_ne, ne_eq, toNat0, toNat1, ok_int, toI_int, I_frzs, I_length, I_getD, ok_ints, toL_slc, hbl, gb, ok_bran, toL_bran, fld_bran, edl, ← hn]
    refine ⟨fun h2 => ?_, fun h2 => ?_⟩
    · have hb := hbr i.toNat (by omega)
      have hri := rl i.toNat (by omega)
      obtain ⟨d, hd⟩ : ∃ d, d = W (s + delT (seqI (bs.getD i.toNat []))) := ⟨_, rfl⟩
      refine ⟨i0, by omega, qsq _ hb, ?_⟩
      rw [show IntKind.wrap .i64 (s + delT (seqI (bs.getD i.toNat []))) = d from hd.symm]
      refine hlp (Int × Int) _ _ _ [1, 3, 4, 5] (fun x => [(1, none, .val (.box 44 (.agg [.slc false 28 (.agg [.slc false 2 (.int .i64 0) []]) a0, .slc false 22 (.slc false 2 (.int .i64 0) []) a1]))), (3, none, .val (.int .i64 x.1)), (4, none, .val (.int .i64 i)), (5, none, .val (.int .i64 x.2))])
        (fun x => 0 ≤ x.2 ∧ x.2 ≤ i ∧ x.1 = dI bs ms i.toNat d x.2.toNat) (fun x => (i - x.2).toNat) ((d, 0)) (by subst hL; rfl) ?_ ?_
      · exact ⟨by simp, by simp only; omega, rfl⟩
      rintro ⟨t, k⟩ ⟨k0, k1, hK⟩ hfx2 ag2 hag2
      simp only at k0 k1 hK
      conv => cbv
      simp only [stdEqs hL, imp_self, true_and, and_true, bif_or, bif_and, Bool.or_eq_true, Bool.or_eq_false_iff, Bool.and_eq_true, Bool.and_eq_false_iff, decide_eq_true_eq, decide_eq_false_iff_not, Bool.not_eq_true', Bool.not_eq_false', beq_iff_eq, beq_eq_false_iff_ne, ne_eq, toNat0, toNat1, ok_int, toI_int, I_frzs, I_length, I_getD, ok_ints, toL_slc, hbl, gb, ok_bran, toL_bran, fld_bran, gm, hml, hm0, hmt, hri]
      refine ⟨fun h3 => ?_, fun h3 => ?_⟩
      · have hmo := mmo i.toNat k.toNat (by omega) (by omega) (by omega)
        have hqq := hqt _ _ _ hb (hbr k.toNat (by omega)) hmo.1 hmo.2
        rw [wrap_id (n := k + 1) (by omega) (by omega)]
        refine ⟨by omega, by omega, by omega, by omega, by omega, by omega, by omega, by omega, hqq, ?_⟩
        refine hag2 (W (t + meetC bs ms i.toNat k.toNat), k + 1) ⟨by simp only; omega, by simp only; omega, ?_⟩ (by simp only; omega)
        simp only [toNat_succ k0]
        rw [dI, hK]
      · rw [wrap_id (n := i + 1) (by omega) (by omega)]
        refine hag (t, i + 1) ⟨by simp only; omega, by simp only; omega, ?_⟩ (by simp only; omega)
        simp only [toNat_succ i0]
        rw [dO, ← hI, ← hd, hK, show k.toNat = i.toNat by omega]
    · rw [hr, hf0, hI, show i.toNat = bs.length by omega]
  · cases h
def f_mil (a b : List V) : Int := W (W (W (2 * f_cd a b) - a.length) + 1)
set_option maxRecDepth 100000 in
theorem s_impl_curveMilnor : Sat Try.prog 71 (c_C_i f_mil q_cv) := by
  intro args ps r h hp
  unfold c_C_i at h
  split at h
  · rename_i a0 a1
    simp only [Option.some.injEq, Prod.mk.injEq] at h
    obtain ⟨rfl, rfl⟩ := h
    have hv : q_cv a0 a1 := (alls_cons.1 hp).1
    have g1 := frzs_BB hv.1.1.isBB
    have g2 := frzs_II hv.1.2.isII
    generalize H_f_cd : f_cd = F_f_cd
    generalize H_q_cv : q_cv = F_q_cv
    refine fnOk_ofI (T := tab) (B := [(120, c_C_i F_f_cd F_q_cv)]) (Bi := []) [0, 1, 2] Try.func71 rfl rfl (by kernel_rfl) (Nat.le_of_ble_eq_true rfl) mixed tabOk (by subst H_f_cd H_q_cv; exact (bookCons s_impl_curveDelta bookNil)) (by subst H_f_cd H_q_cv; exact bookINil) (by kernel_rfl) ?_
    intro L lp rr hL hr hf hlp
    conv => cbv
    simp only [stdEqs hL, imp_self, true_and, and_true, bif_or, bif_and, Bool.or_eq_true, Bool.or_eq_false_iff, Bool.and_eq_true, Bool.and_eq_false_iff, decide_eq_true_eq, decide_eq_false_iff_not, Bool.not_eq_true', Bool.not_eq_false', beq_iff_eq, beq_eq_false_iff_ne, ne_eq, toNat0, toNat1, ok_int, toI_int, I_frzs, I_length, I_getD, ok_ints, toL_slc, g1, g2]
    subst H_f_cd H_q_cv
    exact ⟨hv, hr.symm⟩
  · cases h
set_option maxRecDepth 100000 in
theorem s_spec_l09Milnor : Sat Try.prog 67 (c_C_i f_mil q_cv) := by
  intro args ps r h hp
  unfold c_C_i at h
  split at h
  · rename_i a0 a1
    simp only [Option.some.injEq, Prod.mk.injEq] at h
    obtain ⟨rfl, rfl⟩ := h
    have hv : q_cv a0 a1 := (alls_cons.1 hp).1
    have g1 := frzs_BB hv.1.1.isBB
    have g2 := frzs_II hv.1.2.isII
    generalize H_f_cd : f_cd = F_f_cd
    generalize H_q_cv : q_cv = F_q_cv
    refine fnOk_ofI (T := tab) (B := [(118, c_C_i F_f_cd F_q_cv)]) (Bi := []) [0, 1, 2] Try.func67 rfl rfl (by kernel_rfl) (Nat.le_of_ble_eq_true rfl) mixed tabOk (by subst H_f_cd H_q_cv; exact (bookCons s_spec_l09Delta bookNil)) (by subst H_f_cd H_q_cv; exact bookINil) (by kernel_rfl) ?_
    intro L lp rr hL hr hf hlp
    conv => cbv
    simp only [stdEqs hL, imp_self, true_and, and_true, bif_or, bif_and, Bool.or_eq_true, Bool.or_eq_false_iff, Bool.and_eq_true, Bool.and_eq_false_iff, decide_eq_true_eq, decide_eq_false_iff_not, Bool.not_eq_true', Bool.not_eq_false', beq_iff_eq, beq_eq_false_iff_ne, ne_eq, toNat0, toNat1, ok_int, toI_int, I_frzs, I_length, I_getD, ok_ints, toL_slc, g1, g2]
    subst H_f_cd H_q_cv
    exact ⟨hv, hr.symm⟩
  · cases h
noncomputable def f_ed (a b : List V) : Int × Int := bif f_isCv a b then (f_cd a b, 0) else (0, 1)
noncomputable def f_em (a b : List V) : Int × Int := bif f_isCv a b then (f_mil a b, 0) else (0, 1)
end Go.Ax
