/-
  Distances of branches. No conditions but those of the contracts.
-/
import Derived.Test.YtaojegdbjofciaaGd
set_option linter.all false
namespace Go.Ax
open Go.Proofs

theorem dotW_in {X Y : List Int} : ∀ n : Nat, n ≤ 1000000 → (∀ i, i < n → 1 ≤ X.getD i 0 ∧ X.getD i 0 ≤ 64 ∧ 1 ≤ Y.getD i 0 ∧ Y.getD i 0 ≤ 64) → (n : Int) ≤ dotW X Y n ∧ dotW X Y n ≤ 4096 * n
  | 0, _, _ => by simp [dotW]
  | n + 1, h, hX => by
    obtain ⟨k1, k2⟩ := dotW_in n (by omega) (fun i hi => hX i (by omega))
    obtain ⟨x1, x2, y1, y2⟩ := hX n (by omega)
    have p1 : 1 * 1 ≤ X.getD n 0 * Y.getD n 0 := Int.mul_le_mul x1 y1 (by omega) (by omega)
    have p2 : X.getD n 0 * Y.getD n 0 ≤ 64 * 64 := Int.mul_le_mul x2 y2 (by omega) (by omega)
    have w1 : W (X.getD n 0 * Y.getD n 0) = X.getD n 0 * Y.getD n 0 := wrap_id (by omega) (by omega)
    have w2 : W (dotW X Y n + X.getD n 0 * Y.getD n 0) = dotW X Y n + X.getD n 0 * Y.getD n 0 := wrap_id (by omega) (by omega)
    rw [dotW, w1, w2]
    omega
theorem firstK_in {xs : List Int} (h : Br xs) {k i : Nat} (hi : i < k) : 1 ≤ (firstK xs k).getD i 0 ∧ (firstK xs k).getD i 0 ≤ 64 := by
  rw [firstK_mul, tab_get _ _ _ _ hi]
  have h1 := mul_le h i
  have h2 := (mul_good h).1.pos i
  omega
theorem meet_in {xs ys : List Int} (h1 : Br xs) (h2 : Br ys) {c : Nat} (hc : c ≤ 1000000) : (c : Int) ≤ meet xs ys c ∧ meet xs ys c ≤ 4096 * c :=
  dotW_in c hc fun i hi => by
    have e1 := firstK_in h1 hi
    have e2 := firstK_in h2 hi
    exact ⟨e1.1, e1.2, e2.1, e2.2⟩
/-! fractions -/
def c_ii_F (f : Int → Int → Int × Int) (q : Int → Int → Prop) : Contract := fun
  | [.int .i64 a0, .int .i64 a1] => some ([q a0 a1], .agg [.int .i64 ((f a0 a1).1), .int .i64 ((f a0 a1).2)])
  | _ => none
def f_red (a b : Int) : Int × Int := (W (a.tdiv (gcdW a b)), W (b.tdiv (gcdW a b)))
def pos2 (a b : Int) : Prop := 0 < a ∧ 0 < b
set_option maxRecDepth 100000 in
theorem s_impl_reduced : Sat Try.prog 86 (c_ii_F f_red pos2) := by
  intro args ps r h hp
  unfold c_ii_F at h
  split at h
  · rename_i a0 a1
    simp only [Option.some.injEq, Prod.mk.injEq] at h
    obtain ⟨rfl, rfl⟩ := h
    obtain ⟨h1, h2⟩ : pos2 a0 a1 := (alls_cons.1 hp).1
    have hg := (gcdW_le h1 h2).1
    generalize H_gcdW : gcdW = F_gcdW
    generalize H_always : always = F_always
    refine fnOk_ofI (T := tab) (B := [(105, c_ii_i F_gcdW F_always)]) (Bi := []) [0, 1, 4, 5] Try.func86 rfl rfl (by kernel_rfl) (Nat.le_of_ble_eq_true rfl) mixed tabOk (by subst H_gcdW H_always; exact (bookCons s_impl_divisor bookNil)) (by subst H_gcdW H_always; exact bookINil) (by kernel_rfl) ?_
    intro L lp rr hL hr hf hlp
    conv => cbv
    simp only [stdEqs hL, imp_self, true_and, and_true, bif_or, bif_and, Bool.or_eq_true, Bool.or_eq_false_iff, Bool.and_eq_true, Bool.and_eq_false_iff, decide_eq_true_eq, decide_eq_false_iff_not, Bool.not_eq_true', Bool.not_eq_false', beq_iff_eq, beq_eq_false_iff_ne, ne_eq, toNat0, toNat1, ok_int, toI_int, I_frzs, I_length, I_getD, ok_ints, toL_slc,]
    subst H_gcdW H_always
    refine ⟨fun h => absurd h (by omega), fun _ => ⟨trivial, by omega, by omega, ?_⟩⟩
    rw [hr]; rfl
  · cases h
set_option maxRecDepth 100000 in
theorem s_spec_l01Make : Sat Try.prog 85 (c_ii_F f_red pos2) := by
  intro args ps r h hp
  unfold c_ii_F at h
  split at h
  · rename_i a0 a1
    simp only [Option.some.injEq, Prod.mk.injEq] at h
    obtain ⟨rfl, rfl⟩ := h
    obtain ⟨h1, h2⟩ : pos2 a0 a1 := (alls_cons.1 hp).1
    have hg := (gcdW_le h1 h2).1
    generalize H_gcdW : gcdW = F_gcdW
    generalize H_always : always = F_always
    refine fnOk_ofI (T := tab) (B := [(104, c_ii_i F_gcdW F_always)]) (Bi := []) [0, 1, 4, 5] Try.func85 rfl rfl (by kernel_rfl) (Nat.le_of_ble_eq_true rfl) mixed tabOk (by subst H_gcdW H_always; exact (bookCons s_spec_l01Gcd bookNil)) (by subst H_gcdW H_always; exact bookINil) (by kernel_rfl) ?_
    intro L lp rr hL hr hf hlp
    conv => cbv
    simp only [stdEqs hL, imp_self, true_and, and_true, bif_or, bif_and, Bool.or_eq_true, Bool.or_eq_false_iff, Bool.and_eq_true, Bool.and_eq_false_iff, decide_eq_true_eq, decide_eq_false_iff_not, Bool.not_eq_true', Bool.not_eq_false', beq_iff_eq, beq_eq_false_iff_ne, ne_eq, toNat0, toNat1, ok_int, toI_int, I_frzs, I_length, I_getD, ok_ints, toL_slc,]
    subst H_gcdW H_always
    refine ⟨trivial, fun h => absurd h (by omega), fun _ => ⟨by omega, by omega, ?_⟩⟩
    rw [hr]; rfl
  · cases h
def c_FF_b (f : Int → Int → Int → Int → Bool) (q : Int → Int → Int → Int → Prop) : Contract := fun
  | [.agg [.int .i64 a0, .int .i64 a1], .agg [.int .i64 a2, .int .i64 a3]] => some ([q a0 a1 a2 a3], .bool (f a0 a1 a2 a3))
  | _ => none
def f_eqF (a b c d : Int) : Bool := a == c && b == d
def always4 (_ _ _ _ : Int) : Prop := True
set_option maxRecDepth 100000 in
theorem s_laws_eqFraction : Sat Try.prog 50 (c_FF_b f_eqF always4) := by
  intro args ps r h hp
  unfold c_FF_b at h
  split at h
  · rename_i a0 a1 b0 b1
    simp only [Option.some.injEq, Prod.mk.injEq] at h
    obtain ⟨rfl, rfl⟩ := h
    refine fnOk_ofI (T := tab) (B := []) (Bi := []) [0, 1, 2, 3, 4] Try.func50 rfl rfl (by kernel_rfl) (Nat.le_of_ble_eq_true rfl) mixed tabOk (by exact bookNil) (by exact bookINil) (by kernel_rfl) ?_
    intro L lp rr hL hr hf hlp
    conv => cbv
    simp only [stdEqs hL, imp_self, true_and, and_true, bif_or, bif_and, Bool.or_eq_true, Bool.or_eq_false_iff, Bool.and_eq_true, Bool.and_eq_false_iff, decide_eq_true_eq, decide_eq_false_iff_not, Bool.not_eq_true', Bool.not_eq_false', beq_iff_eq, beq_eq_false_iff_ne, ne_eq, toNat0, toNat1, ok_int, toI_int, I_frzs, I_length, I_getD, ok_ints, toL_slc,]
    rw [hr, f_eqF]
    refine ⟨fun h => ?_, fun h => ⟨fun h2 => ?_, fun h2 => ?_⟩⟩
    · rw [beq_eq_false_iff_ne.2 h]; rfl
    · rw [beq_eq_false_iff_ne.2 h2, Bool.and_false]
    · rw [h, h2, beq_self_eq_true, beq_self_eq_true]; rfl
  · cases h
def c_Cii_Fi (f : List V → List V → Int → Int → Int × Int × Int) (q : List V → List V → Int → Int → Prop) : Contract := fun
  | [.agg [.slc false 28 (.agg [.slc false 2 (.int .i64 0) []]) a0, .slc false 22 (.slc false 2 (.int .i64 0) []) a1], .int .i64 a2, .int .i64 a3] => some ([q a0 a1 a2 a3], .tup [.agg [.int .i64 ((f a0 a1 a2 a3).1), .int .i64 ((f a0 a1 a2 a3).2.1)], .int .i64 ((f a0 a1 a2 a3).2.2)])
  | _ => none
noncomputable def f_dis (a b : List V) (i k : Int) : Int × Int × Int := if (f_in a b i k).2 = 0 then ((f_red (f_in a b i k).1 (((unBB a).getD i.toNat []).getD 0 0 * ((unBB a).getD k.toNat []).getD 0 0)).1, (f_red (f_in a b i k).1 (((unBB a).getD i.toNat []).getD 0 0 * ((unBB a).getD k.toNat []).getD 0 0)).2, 0) else (0, 0, (f_in a b i k).2)
theorem f_in_0 {a b : List V} {i k : Int} (hq : q_C a b) (h : (f_in a b i k).2 = 0) : q_mt a b i k ∧ (f_in a b i k).1 = f_mt a b i k := by
  rw [f_in] at h ⊢
  cases h1 : f_isCv a b with
  | false => simp [h1] at h
  | true =>
    rw [h1, cond_true] at h
    rw [cond_true]
    cases h2 : isOf a.length i && isOf a.length k && !(i == k) with
    | false => simp [h2] at h
    | true =>
      simp only [Bool.and_eq_true, Bool.not_eq_true', beq_eq_false_iff_ne] at h2
      have h3 := isOf_iff.1 h2.1.1
      have h4 := isOf_iff.1 h2.1.2
      exact ⟨⟨q_cv_of hq h1, h3.1, h3.2, h4.1, h4.2, h2.2⟩, rfl⟩
set_option maxRecDepth 100000 in
theorem s_impl_DistanceOf : Sat Try.prog 49 (c_Cii_Fi f_dis q_Cii) := by
  intro args ps r h hp
  unfold c_Cii_Fi at h
  split at h
  · rename_i a0 a1 a2 a3
    simp only [Option.some.injEq, Prod.mk.injEq] at h
    obtain ⟨rfl, rfl⟩ := h
    have hq : q_C a0 a1 := (alls_cons.1 hp).1
    have g1 := frzs_BB hq.1.isBB
    have g2 := frzs_II hq.2.isII
    obtain ⟨v, cd, hvc⟩ : ∃ v cd, (v, cd) = f_in a0 a1 a2 a3 := ⟨_, _, rfl⟩
    generalize H_f_in : f_in = F_f_in
    generalize H_q_Cii : q_Cii = F_q_Cii
    generalize H_f_red : f_red = F_f_red
    generalize H_pos2 : pos2 = F_pos2
    refine fnOk_ofI (T := tab) (B := [(36, c_Cii_ii F_f_in F_q_Cii), (86, c_ii_F F_f_red F_pos2)]) (Bi := []) [0, 1, 2, 3, 6, 7, 8, 9] Try.func49 rfl rfl (by kernel_rfl) (Nat.le_of_ble_eq_true rfl) mixed tabOk (by subst H_f_in H_q_Cii H_f_red H_pos2; exact (bookCons s_impl_IntersectionNumber (bookCons s_impl_reduced bookNil))) (by subst H_f_in H_q_Cii H_f_red H_pos2; exact bookINil) (by kernel_rfl) ?_
    intro L lp rr hL hr hf hlp
    conv => cbv
    have E1 : F_f_in a0 a1 a2 a3 = (v, cd) := by rw [← H_f_in, hvc]
    simp only [stdEqs hL, imp_self, true_and, and_true, bif_or, bif_and, Bool.or_eq_true, Bool.or_eq_false_iff, Bool.and_eq_true, Bool.and_eq_false_iff, decide_eq_true_eq, decide_eq_false_iff_not, Bool.not_eq_true', Bool.not_eq_false', beq_iff_eq, beq_eq_false_iff_ne, ne_eq, toNat0, toNat1, ok_int, toI_int, I_frzs, I_length, I_getD, ok_ints, toL_slc, g1, g2, E1]
    subst H_q_Cii H_f_red H_pos2
    refine ⟨hq, fun h => ?_, fun h => ?_⟩
    · rw [hr, f_dis, ← hvc, if_neg h]
    · obtain ⟨hm, hv⟩ := f_in_0 hq (show (f_in a0 a1 a2 a3).2 = 0 by rw [← hvc]; exact h)
      have hd : f_dis a0 a1 a2 a3 = ((f_red v (((unBB a0).getD a2.toNat []).getD 0 0 * ((unBB a0).getD a3.toNat []).getD 0 0)).1, (f_red v (((unBB a0).getD a2.toNat []).getD 0 0 * ((unBB a0).getD a3.toNat []).getD 0 0)).2, 0) := by
        rw [f_dis, ← hvc, if_pos h]
      rw [← hvc] at hv
      simp only at hv
      have hp : Alls [q_mt a0 a1 a2 a3] := alls_cons.2 ⟨hm, fun q hq => by cases hq⟩
      clear g1 g2
      obtain ⟨⟨⟨⟨bs, hbs, hb1, hb2⟩, ⟨ms, hms, hm1, hm2⟩⟩, hcv⟩, ⟨x0,x1,x2,x3,x4⟩⟩ := (alls_cons.1 hp).1
      rw [hbs, hms, unBB_BB, unII_II] at hcv
      have g1 : V.frzs a0 = a0 := by rw [hbs, BB_frzs]
      have g2 : V.frzs a1 = a1 := by rw [hms, II_frzs]
      have hbl : a0.length = bs.length := by rw [hbs, BB_length]
      have hml : a1.length = ms.length := by rw [hms, II_length]
      have gb : ∀ k, a0.getD k (.agg [.slc false 2 (.int .i64 0) []]) = .agg [.slc false 2 (.int .i64 0) (I (bs.getD k []))] := fun k => by rw [hbs, BB_getD]
      have gm : ∀ k, a1.getD k (.slc false 2 (.int .i64 0) []) = .slc false 2 (.int .i64 0) (I (ms.getD k [])) := fun k => by rw [hms, II_getD]
      have hm0 : ∀ x y : Nat, (ms.getD x []).getD y 0 = mm ms x y := fun _ _ => rfl
      obtain ⟨n, hn⟩ : ∃ n : Int, n = bs.length := ⟨_, rfl⟩
      have n1 := hcv.n1
      have n6 := hcv.n6
      have hmn : ms.length = bs.length := hcv.tab.len
      have hbr : ∀ i, i < bs.length → Br (bs.getD i []) := fun i hi => br_of (hcv.br i hi)
      have rl : ∀ k, k < bs.length → (ms.getD k []).length = bs.length := fun k hk => (hcv.tab.row k hk).1
      have mmr : ∀ i k, i < bs.length → k < bs.length → 0 ≤ mm ms i k ∧ mm ms i k ≤ 200 := fun i k hi hk => hcv.tab.range hi hk
      have mmo : ∀ i k, i < bs.length → k < bs.length → i ≠ k → 1 ≤ mm ms i k ∧ mm ms i k ≤ 200 := fun i k hi hk hne => ((hcv.tab.row i hi).2 k hk).2 hne
      rw [hbl] at x1 x3
      have b1 := hbr a2.toNat (by omega)
      have b2 := hbr a3.toNat (by omega)
      have hmo := mmo a2.toNat a3.toNat (by omega) (by omega) (by omega)
      have hmi := meet_in b1 b2 (c := (mm ms a2.toNat a3.toNat).toNat) (by omega)
      rw [f_mt, hbs, hms, unBB_BB, unII_II, meetC] at hv
      rw [← hv] at hmi
      rw [hbs, unBB_BB, ← hbs] at hd
      have p1 := b1.low 0 b1.pos
      have p2 := b1.first
      have p3 := b2.low 0 b2.pos
      have p4 := b2.first
      have l1 := b1.pos
      have l2 := b2.pos
      obtain ⟨u, hu⟩ : ∃ u, u = (bs.getD a2.toNat []).getD 0 0 := ⟨_, rfl⟩
      obtain ⟨w, hw⟩ : ∃ w, w = (bs.getD a3.toNat []).getD 0 0 := ⟨_, rfl⟩
      rw [← hu] at p1 p2
      rw [← hw] at p3 p4
      rw [← hu, ← hw] at hd
      have q1 : 1 * 1 ≤ u * w := Int.mul_le_mul p1 p3 (by omega) (by omega)
      have q2 : u * w ≤ 64 * 64 := Int.mul_le_mul p2 p4 (by omega) (by omega)
      simp only [stdEqs hL, imp_self, true_and, and_true, bif_or, bif_and, Bool.or_eq_true, Bool.or_eq_false_iff, Bool.and_eq_true, Bool.and_eq_false_iff, decide_eq_true_eq, decide_eq_false_iff_not, Bool.not_eq_true', Bool.not_eq_false', beq_iff_eq, beq_eq_false_iff_ne, ne_eq, toNat0, toNat1, ok_int, toI_int, I_frzs, I_length, I_getD, ok_ints, toL_slc, hbl, gb, ok_bran, toL_bran, fld_bran, ← hu, ← hw]
      rw [wrap_id (n := u * w) (by omega) (by omega), hr, hd]
      refine ⟨x0, by omega, by omega, by omega, x2, by omega, by omega, by omega, ⟨by omega, by omega⟩, rfl⟩
  · cases h
set_option maxRecDepth 100000 in
theorem s_spec_DistanceOf : Sat Try.prog 48 (c_Cii_Fi f_dis q_Cii) := by
  intro args ps r h hp
  unfold c_Cii_Fi at h
  split at h
  · rename_i a0 a1 a2 a3
    simp only [Option.some.injEq, Prod.mk.injEq] at h
    obtain ⟨rfl, rfl⟩ := h
    have hq : q_C a0 a1 := (alls_cons.1 hp).1
    have g1 := frzs_BB hq.1.isBB
    have g2 := frzs_II hq.2.isII
    obtain ⟨v, cd, hvc⟩ : ∃ v cd, (v, cd) = f_in a0 a1 a2 a3 := ⟨_, _, rfl⟩
    generalize H_f_in : f_in = F_f_in
    generalize H_q_Cii : q_Cii = F_q_Cii
    generalize H_f_red : f_red = F_f_red
    generalize H_pos2 : pos2 = F_pos2
    refine fnOk_ofI (T := tab) (B := [(35, c_Cii_ii F_f_in F_q_Cii), (85, c_ii_F F_f_red F_pos2)]) (Bi := []) [0, 1, 2, 3, 6, 7, 8, 9] Try.func48 rfl rfl (by kernel_rfl) (Nat.le_of_ble_eq_true rfl) mixed tabOk (by subst H_f_in H_q_Cii H_f_red H_pos2; exact (bookCons s_spec_IntersectionNumber (bookCons s_spec_l01Make bookNil))) (by subst H_f_in H_q_Cii H_f_red H_pos2; exact bookINil) (by kernel_rfl) ?_
    intro L lp rr hL hr hf hlp
    conv => cbv
    have E1 : F_f_in a0 a1 a2 a3 = (v, cd) := by rw [← H_f_in, hvc]
    simp only [stdEqs hL, imp_self, true_and, and_true, bif_or, bif_and, Bool.or_eq_true, Bool.or_eq_false_iff, Bool.and_eq_true, Bool.and_eq_false_iff, decide_eq_true_eq, decide_eq_false_iff_not, Bool.not_eq_true', Bool.not_eq_false', beq_iff_eq, beq_eq_false_iff_ne, ne_eq, toNat0, toNat1, ok_int, toI_int, I_frzs, I_length, I_getD, ok_ints, toL_slc, g1, g2, E1]
    subst H_q_Cii H_f_red H_pos2
    refine ⟨hq, fun h => ?_, fun h => ?_⟩
    · rw [hr, f_dis, ← hvc, if_neg h]
    · obtain ⟨hm, hv⟩ := f_in_0 hq (show (f_in a0 a1 a2 a3).2 = 0 by rw [← hvc]; exact h)
      have hd : f_dis a0 a1 a2 a3 = ((f_red v (((unBB a0).getD a2.toNat []).getD 0 0 * ((unBB a0).getD a3.toNat []).getD 0 0)).1, (f_red v (((unBB a0).getD a2.toNat []).getD 0 0 * ((unBB a0).getD a3.toNat []).getD 0 0)).2, 0) := by
        rw [f_dis, ← hvc, if_pos h]
      rw [← hvc] at hv
      simp only at hv
      have hp : Alls [q_mt a0 a1 a2 a3] := alls_cons.2 ⟨hm, fun q hq => by cases hq⟩
      clear g1 g2
      obtain ⟨⟨⟨⟨bs, hbs, hb1, hb2⟩, ⟨ms, hms, hm1, hm2⟩⟩, hcv⟩, ⟨x0,x1,x2,x3,x4⟩⟩ := (alls_cons.1 hp).1
      rw [hbs, hms, unBB_BB, unII_II] at hcv
      have g1 : V.frzs a0 = a0 := by rw [hbs, BB_frzs]
      have g2 : V.frzs a1 = a1 := by rw [hms, II_frzs]
      have hbl : a0.length = bs.length := by rw [hbs, BB_length]
      have hml : a1.length = ms.length := by rw [hms, II_length]
      have gb : ∀ k, a0.getD k (.agg [.slc false 2 (.int .i64 0) []]) = .agg [.slc false 2 (.int .i64 0) (I (bs.getD k []))] := fun k => by rw [hbs, BB_getD]
      have gm : ∀ k, a1.getD k (.slc false 2 (.int .i64 0) []) = .slc false 2 (.int .i64 0) (I (ms.getD k [])) := fun k => by rw [hms, II_getD]
      have hm0 : ∀ x y : Nat, (ms.getD x []).getD y 0 = mm ms x y := fun _ _ => rfl
      obtain ⟨n, hn⟩ : ∃ n : Int, n = bs.length := ⟨_, rfl⟩
      have n1 := hcv.n1
      have n6 := hcv.n6
      have hmn : ms.length = bs.length := hcv.tab.len
      have hbr : ∀ i, i < bs.length → Br (bs.getD i []) := fun i hi => br_of (hcv.br i hi)
      have rl : ∀ k, k < bs.length → (ms.getD k []).length = bs.length := fun k hk => (hcv.tab.row k hk).1
      have mmr : ∀ i k, i < bs.length → k < bs.length → 0 ≤ mm ms i k ∧ mm ms i k ≤ 200 := fun i k hi hk => hcv.tab.range hi hk
      have mmo : ∀ i k, i < bs.length → k < bs.length → i ≠ k → 1 ≤ mm ms i k ∧ mm ms i k ≤ 200 := fun i k hi hk hne => ((hcv.tab.row i hi).2 k hk).2 hne
      rw [hbl] at x1 x3
      have b1 := hbr a2.toNat (by omega)
      have b2 := hbr a3.toNat (by omega)
      have hmo := mmo a2.toNat a3.toNat (by omega) (by omega) (by omega)
      have hmi := meet_in b1 b2 (c := (mm ms a2.toNat a3.toNat).toNat) (by omega)
      rw [f_mt, hbs, hms, unBB_BB, unII_II, meetC] at hv
      rw [← hv] at hmi
      rw [hbs, unBB_BB, ← hbs] at hd
      have p1 := b1.low 0 b1.pos
      have p2 := b1.first
      have p3 := b2.low 0 b2.pos
      have p4 := b2.first
      have l1 := b1.pos
      have l2 := b2.pos
      obtain ⟨u, hu⟩ : ∃ u, u = (bs.getD a2.toNat []).getD 0 0 := ⟨_, rfl⟩
      obtain ⟨w, hw⟩ : ∃ w, w = (bs.getD a3.toNat []).getD 0 0 := ⟨_, rfl⟩
      rw [← hu] at p1 p2
      rw [← hw] at p3 p4
      rw [← hu, ← hw] at hd
      have q1 : 1 * 1 ≤ u * w := Int.mul_le_mul p1 p3 (by omega) (by omega)
      have q2 : u * w ≤ 64 * 64 := Int.mul_le_mul p2 p4 (by omega) (by omega)
      simp only [stdEqs hL, imp_self, true_and, and_true, bif_or, bif_and, Bool.or_eq_true, Bool.or_eq_false_iff, Bool.and_eq_true, Bool.and_eq_false_iff, decide_eq_true_eq, decide_eq_false_iff_not, Bool.not_eq_true', Bool.not_eq_false', beq_iff_eq, beq_eq_false_iff_ne, ne_eq, toNat0, toNat1, ok_int, toI_int, I_frzs, I_length, I_getD, ok_ints, toL_slc, hbl, gb, ok_bran, toL_bran, fld_bran, ← hu, ← hw]
      rw [wrap_id (n := u * w) (by omega) (by omega), hr, hd]
      refine ⟨x0, by omega, by omega, by omega, x2, by omega, by omega, by omega, ⟨by omega, by omega⟩, rfl⟩
  · cases h
set_option maxRecDepth 100000 in
theorem s_laws_FnExactDistanceOf : Sat Try.prog 14 (c_law_Dii yesCii q_law_Dii) := by
  intro args ps r h hp
  unfold c_law_Dii at h
  split at h
  · rename_i a0 a1 a2 a3
    simp only [Option.some.injEq, Prod.mk.injEq] at h
    obtain ⟨rfl, rfl⟩ := h
    have hq : q_C' a0 a1 := (alls_cons.1 hp).1
    have g0 := frzs_BB hq.1
    have g1 := frzs_II hq.2
    generalize H_f_szC : f_szC = F_f_szC
    generalize H_q_szC : q_szC = F_q_szC
    generalize H_f_cpC : f_cpC = F_f_cpC
    generalize H_q_cpC : q_cpC = F_q_cpC
    generalize H_f_dis : f_dis = F_f_dis
    generalize H_q_Cii : q_Cii = F_q_Cii
    generalize H_f0_eqC : f0_eqC = F_f0_eqC
    generalize H_q_eqC : q_eqC = F_q_eqC
    generalize H_f_eqF : f_eqF = F_f_eqF
    generalize H_always4 : always4 = F_always4
    refine fnOk_ofI (T := tab) (B := [(28, c_Di_i F_f_szC F_q_szC), (30, c_D_C F_f_cpC F_q_cpC), (48, c_Cii_Fi F_f_dis F_q_Cii), (49, c_Cii_Fi F_f_dis F_q_Cii), (32, c_cc_bool F_f0_eqC F_q_eqC), (50, c_FF_b F_f_eqF F_always4)]) (Bi := []) [0, 1, 2, 3, 6, 7, 8, 9, 10, 11, 12] Try.func14 rfl rfl (by kernel_rfl) (Nat.le_of_ble_eq_true rfl) mixed tabOk (by subst H_f_szC H_q_szC H_f_cpC H_q_cpC H_f_dis H_q_Cii H_f0_eqC H_q_eqC H_f_eqF H_always4; exact (bookCons s_laws_szCurve (bookCons s_laws_toCurve (bookCons s_spec_DistanceOf (bookCons s_impl_DistanceOf (bookCons s_laws_eqCurve (bookCons s_laws_eqFraction bookNil))))))) (by subst H_f_szC H_q_szC H_f_cpC H_q_cpC H_f_dis H_q_Cii H_f0_eqC H_q_eqC H_f_eqF H_always4; exact bookINil) (by kernel_rfl) ?_
    intro L lp rr hL hr hf hlp
    have hlen := hf.1
    conv => cbv
    simp only [stdEqs hL, g0, g1]
    subst H_f_szC H_q_szC H_f_cpC H_q_cpC H_f_dis H_q_Cii H_f0_eqC H_q_eqC H_f_eqF H_always4
    refine ⟨hq, fun h => by rw [hr]; rfl, fun h => ?_⟩
    obtain ⟨hc, ht1, ht2, _, _⟩ := szC_ok (by omega) (by omega) hq hlen.1.1 hlen.1.2 hlen.2.1.1 hlen.2.1.2 h
    obtain ⟨⟨bs, hbs⟩, ⟨ms, hms⟩⟩ := hq
    have e0 : f_cpC a0 a1 = (BB true bs, II true ms) := by rw [f_cpC, hbs, hms, unBB_BB, unII_II]
    rw [hbs, unBB_BB] at ht1
    rw [hms, unII_II] at ht2
    have kg := curve_keys bs ms (by omega)
    have hqc : q_C (BB false bs) (II false ms) := by have := q_C_of hc; rwa [hbs, hms] at this
    have hqx : q_Cii (BB false bs) (II false ms) a2 a3 := hqc

    obtain ⟨u1, u2, u3, ez⟩ : ∃ u1 u2 u3 : Int, f_dis (BB false bs) (II false ms) a2 a3 = (u1, u2, u3) := ⟨_, _, _, rfl⟩
    have ef : ∀ x y : Int, f_eqF x y x y = true := fun x y => by rw [f_eqF, beq_self_eq_true, beq_self_eq_true]; rfl
    simp only [e0, hc, kg, hqc, hqx, ez, ef, hr, yesCii, always4, beq_self_eq_true]
    simp
  · cases h
end Go.Ax
