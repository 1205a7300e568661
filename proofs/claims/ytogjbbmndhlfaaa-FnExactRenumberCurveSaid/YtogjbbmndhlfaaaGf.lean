/-
  Polar numbers, parts of curves. No conditions but those of the contracts.
-/
import Derived.Test.YtogjbbmndhlfaaaGb
import Derived.Test.YtogjbbmndhlfaaaGc
set_option linter.all false
namespace Go.Ax
open Go.Proofs

noncomputable def f_pn (a b : List V) : Int × Int := bif f_isCv a b then (W (W (f_mil a b + f_mult a b) - 1), 0) else (0, 1)
set_option maxRecDepth 100000 in
theorem s_impl_PolarNumber : Sat Try.prog 26 (c_C_ii f_pn q_C) := by
  intro args ps r h hp
  unfold c_C_ii at h
  split at h
  · rename_i a0 a1
    simp only [Option.some.injEq, Prod.mk.injEq] at h
    obtain ⟨rfl, rfl⟩ := h
    have hq : q_C a0 a1 := (alls_cons.1 hp).1
    have g1 := frzs_BB hq.1.isBB
    have g2 := frzs_II hq.2.isII
    generalize H_f_isCv : f_isCv = F_f_isCv
    generalize H_q_C : q_C = F_q_C
    generalize H_f_mil : f_mil = F_f_mil
    generalize H_q_cv : q_cv = F_q_cv
    generalize H_f_mult : f_mult = F_f_mult
    refine fnOk_ofI (T := tab) (B := [(70, c_C_b F_f_isCv F_q_C), (71, c_C_i F_f_mil F_q_cv), (72, c_C_i F_f_mult F_q_cv)]) (Bi := []) [0, 1, 2, 3] Try.func26 rfl rfl (by kernel_rfl) (Nat.le_of_ble_eq_true rfl) mixed tabOk (by subst H_f_isCv H_q_C H_f_mil H_q_cv H_f_mult; exact (bookCons s_impl_IsCurve (bookCons s_impl_curveMilnor (bookCons s_impl_multiplicity bookNil)))) (by subst H_f_isCv H_q_C H_f_mil H_q_cv H_f_mult; exact bookINil) (by kernel_rfl) ?_
    intro L lp rr hL hr hf hlp
    conv => cbv
    simp only [stdEqs hL, imp_self, true_and, and_true, bif_or, bif_and, Bool.or_eq_true, Bool.or_eq_false_iff, Bool.and_eq_true, Bool.and_eq_false_iff, decide_eq_true_eq, decide_eq_false_iff_not, Bool.not_eq_true', Bool.not_eq_false', beq_iff_eq, beq_eq_false_iff_ne, ne_eq, toNat0, toNat1, ok_int, toI_int, I_frzs, I_length, I_getD, ok_ints, toL_slc, g1, g2]
    subst H_f_isCv H_q_C H_f_mil H_q_cv H_f_mult
    refine ⟨hq, fun h => ?_, fun h => ⟨q_cv_of hq h, q_cv_of hq h, ?_⟩⟩
    · rw [hr, f_pn, h]; rfl
    · rw [hr, f_pn, h]; rfl
  · cases h
set_option maxRecDepth 100000 in
theorem s_spec_PolarNumber : Sat Try.prog 24 (c_C_ii f_pn q_C) := by
  intro args ps r h hp
  unfold c_C_ii at h
  split at h
  · rename_i a0 a1
    simp only [Option.some.injEq, Prod.mk.injEq] at h
    obtain ⟨rfl, rfl⟩ := h
    have hq : q_C a0 a1 := (alls_cons.1 hp).1
    have g1 := frzs_BB hq.1.isBB
    have g2 := frzs_II hq.2.isII
    obtain ⟨m, cd, hmc⟩ : ∃ m cd, (m, cd) = f_cm a0 a1 := ⟨_, _, rfl⟩
    have hmc' := hmc
    generalize H_f_cm : f_cm = F_f_cm
    generalize H_q_C : q_C = F_q_C
    generalize H_f_mil : f_mil = F_f_mil
    generalize H_q_cv : q_cv = F_q_cv
    refine fnOk_ofI (T := tab) (B := [(66, c_C_ii F_f_cm F_q_C), (67, c_C_i F_f_mil F_q_cv)]) (Bi := []) [0, 1, 2, 3, 4, 5] Try.func24 rfl rfl (by kernel_rfl) (Nat.le_of_ble_eq_true rfl) mixed tabOk (by subst H_f_cm H_q_C H_f_mil H_q_cv; exact (bookCons s_spec_CurveMultiplicity (bookCons s_spec_l09Milnor bookNil))) (by subst H_f_cm H_q_C H_f_mil H_q_cv; exact bookINil) (by kernel_rfl) ?_
    intro L lp rr hL hr hf hlp
    conv => cbv
    have E1 : F_f_cm a0 a1 = (m, cd) := by rw [← H_f_cm, hmc]
    simp only [stdEqs hL, imp_self, true_and, and_true, bif_or, bif_and, Bool.or_eq_true, Bool.or_eq_false_iff, Bool.and_eq_true, Bool.and_eq_false_iff, decide_eq_true_eq, decide_eq_false_iff_not, Bool.not_eq_true', Bool.not_eq_false', beq_iff_eq, beq_eq_false_iff_ne, ne_eq, toNat0, toNat1, ok_int, toI_int, I_frzs, I_length, I_getD, ok_ints, toL_slc, g1, g2, E1]
    subst H_q_C H_f_mil H_q_cv
    rw [f_cm] at hmc'
    cases hi : f_isCv a0 a1 with
    | false =>
      rw [hi] at hmc'
      obtain ⟨rfl, rfl⟩ := Prod.mk.injEq .. ▸ hmc'
      refine ⟨hq, fun _ => ?_, fun h => absurd h (by decide)⟩
      rw [hr, f_pn, hi]; rfl
    | true =>
      rw [hi] at hmc'
      obtain ⟨rfl, rfl⟩ := Prod.mk.injEq .. ▸ hmc'
      refine ⟨hq, fun h => absurd rfl h, fun _ => ⟨q_cv_of hq hi, ?_⟩⟩
      rw [hr, f_pn, hi]; rfl
  · cases h
set_option maxRecDepth 100000 in
theorem s_laws_FnExactPolarNumber : Sat Try.prog 4 (c_law_D yesC q_law_D) := by
  intro args ps r h hp
  unfold c_law_D at h
  split at h
  · rename_i a0 a1
    simp only [Option.some.injEq, Prod.mk.injEq] at h
    obtain ⟨rfl, rfl⟩ := h
    have hq : q_C' a0 a1 := (alls_cons.1 hp).1
    have g0 := frzs_BB hq.1
    have g1 := frzs_II hq.2
    generalize H_f_szC : f_szC = F_f_szC
    generalize H_q_szC : q_szC = F_q_szC
    generalize H_f_cpC : f_cpC = F_f_cpC
    generalize H_q_cpC : q_cpC = F_q_cpC
    generalize H_f_pn : f_pn = F_f_pn
    generalize H_q_C : q_C = F_q_C
    generalize H_f0_eqC : f0_eqC = F_f0_eqC
    generalize H_q_eqC : q_eqC = F_q_eqC
    refine fnOk_ofI (T := tab) (B := [(23, c_Di_i F_f_szC F_q_szC), (25, c_D_C F_f_cpC F_q_cpC), (24, c_C_ii F_f_pn F_q_C), (26, c_C_ii F_f_pn F_q_C), (27, c_cc_bool F_f0_eqC F_q_eqC)]) (Bi := []) [0, 1, 2, 3, 4, 5, 6, 7, 8] Try.func4 rfl rfl (by kernel_rfl) (Nat.le_of_ble_eq_true rfl) mixed tabOk (by subst H_f_szC H_q_szC H_f_cpC H_q_cpC H_f_pn H_q_C H_f0_eqC H_q_eqC; exact (bookCons s_laws_szCurve (bookCons s_laws_toCurve (bookCons s_spec_PolarNumber (bookCons s_impl_PolarNumber (bookCons s_laws_eqCurve bookNil)))))) (by subst H_f_szC H_q_szC H_f_cpC H_q_cpC H_f_pn H_q_C H_f0_eqC H_q_eqC; exact bookINil) (by kernel_rfl) ?_
    intro L lp rr hL hr hf hlp
    have hlen := hf.1
    conv => cbv
    simp only [stdEqs hL, g0, g1]
    subst H_f_szC H_q_szC H_f_cpC H_q_cpC H_f_pn H_q_C H_f0_eqC H_q_eqC
    refine ⟨hq, fun h => by rw [hr]; rfl, fun h => ?_⟩
    obtain ⟨hc, ht1, ht2, _, _⟩ := szC_ok (by omega) (by omega) hq hlen.1.1 hlen.1.2 hlen.2.1.1 hlen.2.1.2 h
    obtain ⟨⟨bs, hbs⟩, ⟨ms, hms⟩⟩ := hq
    have e0 : f_cpC a0 a1 = (BB true bs, II true ms) := by rw [f_cpC, hbs, hms, unBB_BB, unII_II]
    rw [hbs, unBB_BB] at ht1
    rw [hms, unII_II] at ht2
    have kg := curve_keys bs ms (by omega)
    have hqc : q_C (BB false bs) (II false ms) := by have := q_C_of hc; rwa [hbs, hms] at this
    have hqx := hqc
    simp only [e0, hc, kg, hqc, hqx, hr, yesC, beq_self_eq_true]
    simp
  · cases h
/-! parts -/
theorem gAt {l : List Int} {k : Nat} (h : k < l.length) : l[k] = l.getD k 0 := by
  rw [List.getD_eq_getElem?_getD, List.getElem?_eq_getElem h]; rfl
def partB (bs : List (List Int)) (l : List Int) : List (List Int) := l.map fun i => bs.getD i.toNat []
def partM (ms : List (List Int)) (l : List Int) : List (List Int) := l.map fun i => l.map fun k => mm ms i.toNat k.toNat
def c_Cl_C (f : List V → List V → List V → List V × List V) (q : List V → List V → List V → Prop) : Contract := fun
  | [.agg [.slc false 28 (.agg [.slc false 2 (.int .i64 0) []]) a0, .slc false 22 (.slc false 2 (.int .i64 0) []) a1], .slc false 2 (.int .i64 0) a2] => some ([q a0 a1 a2], .agg [.slc true 28 (.agg [.slc true 2 (.int .i64 0) []]) ((f a0 a1 a2).1), .slc true 22 (.slc true 2 (.int .i64 0) []) ((f a0 a1 a2).2)])
  | _ => none
def f_part (a b l : List V) : List V × List V := (BB true (partB (unBB a) (unI l)), II true (partM (unII b) (unI l)))
def InL (n : Nat) (l : List Int) : Prop := ∀ k, k < l.length → 0 ≤ l.getD k 0 ∧ l.getD k 0 < n
def q_part (a b l : List V) : Prop := q_cv a b ∧ ∃ xs, l = I xs ∧ InL a.length xs ∧ xs.length ≤ 1000
theorem partB_step (bs : List (List Int)) (l : List Int) (i : Nat) (h : i < l.length) : partB bs (l.take (i + 1)) = partB bs (l.take i) ++ [bs.getD (l.getD i 0).toNat []] := by
  rw [partB, List.take_succ_eq_append_getElem h, List.map_append, gAt h]
  rfl
def rowM (ms : List (List Int)) (l : List Int) (i : Int) : List Int := l.map fun k => mm ms i.toNat k.toNat
theorem rowM_step (ms : List (List Int)) (l : List Int) (x : Int) (i : Nat) (h : i < l.length) : rowM ms (l.take (i + 1)) x = rowM ms (l.take i) x ++ [mm ms x.toNat (l.getD i 0).toNat] := by
  rw [rowM, List.take_succ_eq_append_getElem h, List.map_append, gAt h]
  rfl
def partM' (ms : List (List Int)) (l : List Int) (n : Nat) : List (List Int) := (l.take n).map (rowM ms l)
theorem partM_step (ms : List (List Int)) (l : List Int) (i : Nat) (h : i < l.length) : partM' ms l (i + 1) = partM' ms l i ++ [rowM ms l (l.getD i 0)] := by
  rw [partM', List.take_succ_eq_append_getElem h, List.map_append, gAt h]
  rfl
theorem partM_full (ms : List (List Int)) (l : List Int) {n : Nat} (h : l.length ≤ n) : partM' ms l n = partM ms l := by
  rw [partM', List.take_of_length_le h]; rfl
theorem InL.take {n : Nat} {l : List Int} (h : InL n l) (k : Nat) : InL n (l.take k) := fun i hi => by
  rw [List.length_take] at hi
  rw [List.getD_eq_getElem?_getD, List.getElem?_take, if_pos (by omega), ← List.getD_eq_getElem?_getD]
  exact h i (by omega)
theorem partB_len (bs : List (List Int)) (l : List Int) : (partB bs l).length = l.length := by simp [partB]
theorem rowM_len (ms : List (List Int)) (l : List Int) (x : Int) : (rowM ms l x).length = l.length := by simp [rowM]
set_option maxRecDepth 100000 in
theorem s_impl_partOf : Sat Try.prog 80 (c_Cl_C f_part q_part) := by
  intro args ps r h hp
  unfold c_Cl_C at h
  split at h
  · rename_i a0 a1 a2
    simp only [Option.some.injEq, Prod.mk.injEq] at h
    obtain ⟨rfl, rfl⟩ := h
    obtain ⟨⟨⟨⟨bs, hbs, hb1, hb2⟩, ⟨ms, hms, hm1, hm2⟩⟩, hcv⟩, ⟨ls,hls,hin,hll⟩⟩ := (alls_cons.1 hp).1
    rw [hbs, hms, unBB_BB, unII_II] at hcv
    have g1 : V.frzs a0 = a0 := by rw [hbs, BB_frzs]
    have g2 : V.frzs a1 = a1 := by rw [hms, II_frzs]
    have hbl : a0.length = bs.length := by rw [hbs, BB_length]
    have hml : a1.length = ms.length := by rw [hms, II_length]
    have gb : ∀ k, a0.getD k (.agg [.slc false 2 (.int .i64 0) []]) = .agg [.slc false 2 (.int .i64 0) (I (bs.getD k []))] := fun k => by rw [hbs, BB_getD]
    have gm : ∀ k, a1.getD k (.slc false 2 (.int .i64 0) []) = .slc false 2 (.int .i64 0) (I (ms.getD k [])) := fun k => by rw [hms, II_getD]
    have hm0 : ∀ x y : Nat, (ms.getD x []).getD y 0 = mm ms x y := fun _ _ => rfl
    obtain ⟨n, hn⟩ : ∃ n : Int, n = bs.length := ⟨_, rfl⟩
    have n1 := hcv.n1
    have n6 := hcv.n6
    have hmn : ms.length = bs.length := hcv.tab.len
    have hbr : ∀ i, i < bs.length → Br (bs.getD i []) := fun i hi => br_of (hcv.br i hi)
    have rl : ∀ k, k < bs.length → (ms.getD k []).length = bs.length := fun k hk => (hcv.tab.row k hk).1
    have mmr : ∀ i k, i < bs.length → k < bs.length → 0 ≤ mm ms i k ∧ mm ms i k ≤ 200 := fun i k hi hk => hcv.tab.range hi hk
    have mmo : ∀ i k, i < bs.length → k < bs.length → i ≠ k → 1 ≤ mm ms i k ∧ mm ms i k ≤ 200 := fun i k hi hk hne => ((hcv.tab.row i hi).2 k hk).2 hne
    rw [hbl] at hin
    have hf0 : f_part a0 a1 a2 = (BB true (partB bs ls), II true (partM ms ls)) := by rw [f_part, hbs, hms, hls, unBB_BB, unII_II, unI_I]
    have hal : a2.length = ls.length := by rw [hls, I_length]
    have gl : ∀ k, a2.getD k (.int .i64 0) = .int .i64 (ls.getD k 0) := fun k => by rw [hls, I_getD]
    obtain ⟨m, hm⟩ : ∃ m : Int, m = ls.length := ⟨_, rfl⟩
    generalize H_same : same = F_same
    generalize H_IsIs : IsIs = F_IsIs
    refine fnOk_ofI (T := tab) (B := [(122, c_b_b F_same F_IsIs)]) (Bi := []) [2000005025, 0, 1, 2, 4, 5, 7, 8, 10, 12, 13, 14, 30, 31, 32] Try.func80 rfl rfl (by kernel_rfl) (Nat.le_of_ble_eq_true rfl) mixed tabOk (by subst H_same H_IsIs; exact (bookCons s_impl_copyBranch bookNil)) (by subst H_same H_IsIs; exact bookINil) (by kernel_rfl) ?_
    intro L lp rr hL hr hf hlp
    have qcp : ∀ x, Br x → F_IsIs (I x) := fun x hx => by rw [← H_IsIs]; exact ⟨⟨_, rfl⟩, by rw [I_length]; have := hx.len; omega⟩
    have ecp : ∀ x, F_same (I x) = I x := fun x => by rw [← H_same]; rfl
    conv => cbv
    refine hlp ((List V × List V) × Int) _ _ _ [1, 2, 4, 5, 12, 13, 14] (fun x => [(1, none, .val (.slc false 2 (.int .i64 0) a2)), (2, none, .val (.box 44 (.agg [.slc false 28 (.agg [.slc false 2 (.int .i64 0) []]) a0, .slc false 22 (.slc false 2 (.int .i64 0) []) a1]))), (4, none, .val (.box 44 (.agg [.slc true 28 (.agg [.slc true 2 (.int .i64 0) []]) [], .slc true 22 (.slc true 2 (.int .i64 0) []) []]))), (5, none, .val (.box 44 (.agg [.slc true 28 (.agg [.slc true 2 (.int .i64 0) []]) x.1.1, .slc true 22 (.slc true 2 (.int .i64 0) []) x.1.2]))), (12, none, .val (.slc false 2 (.int .i64 0) a2)), (13, none, .val (.int .i64 m)), (14, none, .val (.int .i64 x.2))])
      (fun x => 0 ≤ x.2 ∧ x.2 ≤ m ∧ x.1.1 = BB true (partB bs (ls.take x.2.toNat)) ∧ x.1.2 = II true (partM' ms ls x.2.toNat)) (fun x => (m - x.2).toNat) ((([], []), 0)) (by subst hL; rw [hm, ← hal]; rfl) ?_ ?_
    · exact ⟨by simp, by simp only; omega, rfl, rfl⟩
    rintro ⟨⟨fs, gs⟩, i⟩ ⟨i0, i1, hI, hJ⟩ hfx ag hag
    simp only at i0 i1 hI hJ
    conv => cbv
    simp only [stdEqs hL, imp_self, true_and, and_true, bif_or, bif_and, Bool.or_eq_true, Bool.or_eq_false_iff, Bool.and_eq_true, Bool.and_eq_false_iff, decide_eq_true_eq, decide_eq_false_iff_not, Bool.not_eq_true', Bool.not_eq_false', beq_iff_eq, beq_eq_false_iff_ne, ne_eq, toNat0, toNat1, ok_int, toI_int, I_frzs, I_length, I_getD, ok_ints, toL_slc, hbl, gb, ok_bran, toL_bran, fld_bran, hal, gl, ecp]
    refine ⟨fun h2 => ?_, fun h2 => ?_⟩
    · have hil : i.toNat < ls.length := by omega
      have hxi := hin _ hil
      obtain ⟨x, hx⟩ : ∃ x, x = ls.getD i.toNat 0 := ⟨_, rfl⟩
      rw [← hx] at hxi
      have hbx := hbr x.toNat (by omega)
      have hrx := rl x.toNat (by omega)
      have hfl : fs.length ≤ 1000 := by rw [hI, BB_length, partB_len, List.length_take]; omega
      have hgl : gs.length ≤ 1000 := by rw [hJ, II_length, partM', List.length_map, List.length_take]; omega
      have qx := qcp _ hbx
      rw [← hx]
      obtain ⟨fs', hfs'⟩ : ∃ fs', fs' = fs ++ [V.agg [.slc true 2 (.int .i64 0) (I (bs.getD x.toNat []))]] := ⟨_, rfl⟩
      rw [← hfs']
      refine ⟨i0, by omega, hxi.1, by omega, qx, by simp only [List.length_cons, List.length_nil]; omega, solid1 rfl, ?_⟩
      refine hlp (List V × Int) _ _ _ [1, 2, 4, 5, 7, 8, 12, 13, 14, 30, 31, 32] (fun y => [(1, none, .val (.slc false 2 (.int .i64 0) a2)), (2, none, .val (.box 44 (.agg [.slc false 28 (.agg [.slc false 2 (.int .i64 0) []]) a0, .slc false 22 (.slc false 2 (.int .i64 0) []) a1]))), (4, none, .val (.box 44 (.agg [.slc true 28 (.agg [.slc true 2 (.int .i64 0) []]) [], .slc true 22 (.slc true 2 (.int .i64 0) []) []]))), (5, none, .val (.box 44 (.agg [.slc true 28 (.agg [.slc true 2 (.int .i64 0) []]) fs', .slc true 22 (.slc true 2 (.int .i64 0) []) gs]))), (7, none, .val (.int .i64 x)), (8, none, .val (.slc true 2 (.int .i64 0) y.1)), (12, none, .val (.slc false 2 (.int .i64 0) a2)), (13, none, .val (.int .i64 m)), (14, none, .val (.int .i64 i)), (30, none, .val (.slc false 2 (.int .i64 0) a2)), (31, none, .val (.int .i64 m)), (32, none, .val (.int .i64 y.2))])
        (fun y => 0 ≤ y.2 ∧ y.2 ≤ m ∧ y.1 = I (rowM ms (ls.take y.2.toNat) x)) (fun y => (m - y.2).toNat) (([], 0)) (by subst hL; rw [hm, ← hal]; rfl) ?_ ?_
      · exact ⟨by simp, by simp only; omega, rfl⟩
      rintro ⟨rs, k⟩ ⟨k0, k1, hK⟩ hfx2 ag2 hag2
      simp only at k0 k1 hK
      conv => cbv
      simp only [stdEqs hL, imp_self, true_and, and_true, bif_or, bif_and, Bool.or_eq_true, Bool.or_eq_false_iff, Bool.and_eq_true, Bool.and_eq_false_iff, decide_eq_true_eq, decide_eq_false_iff_not, Bool.not_eq_true', Bool.not_eq_false', beq_iff_eq, beq_eq_false_iff_ne, ne_eq, toNat0, toNat1, ok_int, toI_int, I_frzs, I_length, I_getD, ok_ints, toL_slc, hal, gl, gm, hml, hm0, hrx]
      refine ⟨fun h3 => ?_, fun h3 => ?_⟩
      · have hkl : k.toNat < ls.length := by omega
        have hyk := hin _ hkl
        have hrs : rs.length ≤ 1000 := by rw [hK, I_length, rowM_len, List.length_take]; omega
        rw [wrap_id (n := k + 1) (by omega) (by omega)]
        (repeat' first | (exact solid_one _) | (exact solid1 rfl) | (exact noown_one _) | (apply And.intro) | (intro _)) <;> (try first | exact True.intro | omega | rfl | (simp only [List.length_cons, List.length_nil, I_length]; omega))
        refine hag2 (_, k + 1) ⟨by simp only; omega, by simp only; omega, ?_⟩ (by simp only; omega)
        simp only [toNat_succ k0]
        rw [rowM_step _ _ _ _ hkl, hK, ← I_append]
        rfl
      · have hrs : rs = I (rowM ms ls x) := by rw [hK, List.take_of_length_le (by omega)]
        rw [wrap_id (n := i + 1) (by omega) (by omega)]
        have hff : fs' = BB true (partB bs (ls.take (i.toNat + 1))) := by
          rw [partB_step _ _ _ hil, hfs', hI, ← hx]
          simp [BB]
        have hgg : gs ++ [V.slc true 2 (.int .i64 0) rs] = II true (partM' ms ls (i.toNat + 1)) := by
          rw [partM_step _ _ _ hil, II_append, hJ, hrs, ← hx]
          rfl
        refine ⟨by simp only [List.length_cons, List.length_nil]; omega, solid1 rfl, hag ((fs', _), i + 1) ⟨by simp only; omega, by simp only; omega, ?_, ?_⟩ (by simp only; omega)⟩
        · simp only [toNat_succ i0]; exact hff
        · simp only [toNat_succ i0]; exact hgg
    · rw [hr, hf0, hI, hJ, List.take_of_length_le (by omega), partM_full _ _ (by omega)]
  · cases h
set_option maxRecDepth 100000 in
theorem s_spec_l09Part : Sat Try.prog 77 (c_Cl_C f_part q_part) := by
  intro args ps r h hp
  unfold c_Cl_C at h
  split at h
  · rename_i a0 a1 a2
    simp only [Option.some.injEq, Prod.mk.injEq] at h
    obtain ⟨rfl, rfl⟩ := h
    obtain ⟨⟨⟨⟨bs, hbs, hb1, hb2⟩, ⟨ms, hms, hm1, hm2⟩⟩, hcv⟩, ⟨ls,hls,hin,hll⟩⟩ := (alls_cons.1 hp).1
    rw [hbs, hms, unBB_BB, unII_II] at hcv
    have g1 : V.frzs a0 = a0 := by rw [hbs, BB_frzs]
    have g2 : V.frzs a1 = a1 := by rw [hms, II_frzs]
    have hbl : a0.length = bs.length := by rw [hbs, BB_length]
    have hml : a1.length = ms.length := by rw [hms, II_length]
    have gb : ∀ k, a0.getD k (.agg [.slc false 2 (.int .i64 0) []]) = .agg [.slc false 2 (.int .i64 0) (I (bs.getD k []))] := fun k => by rw [hbs, BB_getD]
    have gm : ∀ k, a1.getD k (.slc false 2 (.int .i64 0) []) = .slc false 2 (.int .i64 0) (I (ms.getD k [])) := fun k => by rw [hms, II_getD]
    have hm0 : ∀ x y : Nat, (ms.getD x []).getD y 0 = mm ms x y := fun _ _ => rfl
    obtain ⟨n, hn⟩ : ∃ n : Int, n = bs.length := ⟨_, rfl⟩
    have n1 := hcv.n1
    have n6 := hcv.n6
    have hmn : ms.length = bs.length := hcv.tab.len
    have hbr : ∀ i, i < bs.length → Br (bs.getD i []) := fun i hi => br_of (hcv.br i hi)
    have rl : ∀ k, k < bs.length → (ms.getD k []).length = bs.length := fun k hk => (hcv.tab.row k hk).1
    have mmr : ∀ i k, i < bs.length → k < bs.length → 0 ≤ mm ms i k ∧ mm ms i k ≤ 200 := fun i k hi hk => hcv.tab.range hi hk
    have mmo : ∀ i k, i < bs.length → k < bs.length → i ≠ k → 1 ≤ mm ms i k ∧ mm ms i k ≤ 200 := fun i k hi hk hne => ((hcv.tab.row i hi).2 k hk).2 hne
    rw [hbl] at hin
    have hf0 : f_part a0 a1 a2 = (BB true (partB bs ls), II true (partM ms ls)) := by rw [f_part, hbs, hms, hls, unBB_BB, unII_II, unI_I]
    have hal : a2.length = ls.length := by rw [hls, I_length]
    have gl : ∀ k, a2.getD k (.int .i64 0) = .int .i64 (ls.getD k 0) := fun k => by rw [hls, I_getD]
    obtain ⟨m, hm⟩ : ∃ m : Int, m = ls.length := ⟨_, rfl⟩
    generalize H_same : same = F_same
    generalize H_IsIs : IsIs = F_IsIs
    refine fnOk_ofI (T := tab) (B := [(121, c_b_b F_same F_IsIs)]) (Bi := []) [2000010050, 0, 1, 2, 4, 5, 6, 7, 8] Try.func77 rfl rfl (by kernel_rfl) (Nat.le_of_ble_eq_true rfl) mixed tabOk (by subst H_same H_IsIs; exact (bookCons s_spec_l09Own bookNil)) (by subst H_same H_IsIs; exact bookINil) (by kernel_rfl) ?_
    intro L lp rr hL hr hf hlp
    have qcp : ∀ x, Br x → F_IsIs (I x) := fun x hx => by rw [← H_IsIs]; exact ⟨⟨_, rfl⟩, by rw [I_length]; have := hx.len; omega⟩
    have ecp : ∀ x, F_same (I x) = I x := fun x => by rw [← H_same]; rfl
    conv => cbv
    refine hlp ((List V × List V) × Int) _ _ _ [1, 2, 4, 5, 6] (fun x => [(1, none, .val (.slc false 2 (.int .i64 0) a2)), (2, none, .val (.box 44 (.agg [.slc false 28 (.agg [.slc false 2 (.int .i64 0) []]) a0, .slc false 22 (.slc false 2 (.int .i64 0) []) a1]))), (4, none, .val (.box 44 (.agg [.slc true 28 (.agg [.slc true 2 (.int .i64 0) []]) [], .slc true 22 (.slc true 2 (.int .i64 0) []) []]))), (5, none, .val (.box 44 (.agg [.slc true 28 (.agg [.slc true 2 (.int .i64 0) []]) x.1.1, .slc true 22 (.slc true 2 (.int .i64 0) []) x.1.2]))), (6, none, .val (.int .i64 x.2))])
      (fun x => 0 ≤ x.2 ∧ x.2 ≤ m ∧ x.1.1 = BB true (partB bs (ls.take x.2.toNat)) ∧ x.1.2 = II true (partM' ms ls x.2.toNat)) (fun x => (m - x.2).toNat) ((([], []), 0)) (by subst hL; rfl) ?_ ?_
    · exact ⟨by simp, by simp only; omega, rfl, rfl⟩
    rintro ⟨⟨fs, gs⟩, i⟩ ⟨i0, i1, hI, hJ⟩ hfx ag hag
    simp only at i0 i1 hI hJ
    conv => cbv
    simp only [stdEqs hL, imp_self, true_and, and_true, bif_or, bif_and, Bool.or_eq_true, Bool.or_eq_false_iff, Bool.and_eq_true, Bool.and_eq_false_iff, decide_eq_true_eq, decide_eq_false_iff_not, Bool.not_eq_true', Bool.not_eq_false', beq_iff_eq, beq_eq_false_iff_ne, ne_eq, toNat0, toNat1, ok_int, toI_int, I_frzs, I_length, I_getD, ok_ints, toL_slc, hal, gl, ← hm]
    refine ⟨fun h2 => ?_, fun h2 => ?_⟩
    · have hil : i.toNat < ls.length := by omega
      have hxi := hin _ hil
      obtain ⟨x, hx⟩ : ∃ x, x = ls.getD i.toNat 0 := ⟨_, rfl⟩
      rw [← hx] at hxi
      have hbx := hbr x.toNat (by omega)
      have hrx := rl x.toNat (by omega)
      have hfl : fs.length ≤ 1000 := by rw [hI, BB_length, partB_len, List.length_take]; omega
      have hgl : gs.length ≤ 1000 := by rw [hJ, II_length, partM', List.length_map, List.length_take]; omega
      have qx := qcp _ hbx
      refine hlp (List V × Int) _ _ _ [1, 2, 4, 5, 6, 7, 8] (fun y => [(1, none, .val (.slc false 2 (.int .i64 0) a2)), (2, none, .val (.box 44 (.agg [.slc false 28 (.agg [.slc false 2 (.int .i64 0) []]) a0, .slc false 22 (.slc false 2 (.int .i64 0) []) a1]))), (4, none, .val (.box 44 (.agg [.slc true 28 (.agg [.slc true 2 (.int .i64 0) []]) [], .slc true 22 (.slc true 2 (.int .i64 0) []) []]))), (5, none, .val (.box 44 (.agg [.slc true 28 (.agg [.slc true 2 (.int .i64 0) []]) fs, .slc true 22 (.slc true 2 (.int .i64 0) []) gs]))), (6, none, .val (.int .i64 i)), (7, none, .val (.slc true 2 (.int .i64 0) y.1)), (8, none, .val (.int .i64 y.2))])
        (fun y => 0 ≤ y.2 ∧ y.2 ≤ m ∧ y.1 = I (rowM ms (ls.take y.2.toNat) x)) (fun y => (m - y.2).toNat) (([], 0)) (by subst hL; rfl) ?_ ?_
      · exact ⟨by simp, by simp only; omega, rfl⟩
      rintro ⟨rs, k⟩ ⟨k0, k1, hK⟩ hfx2 ag2 hag2
      simp only at k0 k1 hK
      conv => cbv
      simp only [stdEqs hL, imp_self, true_and, and_true, bif_or, bif_and, Bool.or_eq_true, Bool.or_eq_false_iff, Bool.and_eq_true, Bool.and_eq_false_iff, decide_eq_true_eq, decide_eq_false_iff_not, Bool.not_eq_true', Bool.not_eq_false', beq_iff_eq, beq_eq_false_iff_ne, ne_eq, toNat0, toNat1, ok_int, toI_int, I_frzs, I_length, I_getD, ok_ints, toL_slc, hal, gl, gm, hml, hm0, ← hx, hrx, ← hm, hbl, gb, ok_bran, toL_bran, fld_bran, ecp]
      refine ⟨fun h3 => ?_, fun h3 => ?_⟩
      · have hkl : k.toNat < ls.length := by omega
        have hyk := hin _ hkl
        have hrs : rs.length ≤ 1000 := by rw [hK, I_length, rowM_len, List.length_take]; omega
        rw [wrap_id (n := k + 1) (by omega) (by omega)]
        (repeat' first | (exact solid_one _) | (exact solid1 rfl) | (exact noown_one _) | (apply And.intro) | (intro _)) <;> (try first | exact True.intro | omega | rfl | (simp only [List.length_cons, List.length_nil, I_length]; omega))
        refine hag2 (_, k + 1) ⟨by simp only; omega, by simp only; omega, ?_⟩ (by simp only; omega)
        simp only [toNat_succ k0]
        rw [rowM_step _ _ _ _ hkl, hK, ← I_append]
        rfl
      · have hrs : rs = I (rowM ms ls x) := by rw [hK, List.take_of_length_le (by omega)]
        obtain ⟨fs', hfs'⟩ : ∃ fs', fs' = fs ++ [V.agg [.slc true 2 (.int .i64 0) (I (bs.getD x.toNat []))]] := ⟨_, rfl⟩
        rw [wrap_id (n := i + 1) (by omega) (by omega), ← hfs']
        have hff : fs' = BB true (partB bs (ls.take (i.toNat + 1))) := by
          rw [partB_step _ _ _ hil, hfs', hI, ← hx]
          simp [BB]
        have hgg : gs ++ [V.slc true 2 (.int .i64 0) rs] = II true (partM' ms ls (i.toNat + 1)) := by
          rw [partM_step _ _ _ hil, II_append, hJ, hrs, ← hx]
          rfl
        refine ⟨i0, h2, hxi.1, hxi.2, qx, by simp only [List.length_cons, List.length_nil]; omega, solid1 rfl, by simp only [List.length_cons, List.length_nil]; omega, solid1 rfl, hag ((fs', _), i + 1) ⟨by simp only; omega, by simp only; omega, ?_, ?_⟩ (by simp only; omega)⟩
        · simp only [toNat_succ i0]; exact hff
        · simp only [toNat_succ i0]; exact hgg
    · rw [hr, hf0, hI, hJ, List.take_of_length_le (by omega), partM_full _ _ (by omega)]
  · cases h
/-! parts, and errors -/
def okp (n : Nat) (l : List Int) : Bool := !(l.length == 0) && asc l && within l 0 ((n : Int) - 1)
theorem within_at {l : List Int} {a b : Int} : within l a b = true ↔ ∀ i, i < l.length → a ≤ l.getD i 0 ∧ l.getD i 0 ≤ b := by
  simp only [within, List.all_eq_true, inRange, Bool.and_eq_true, decide_eq_true_eq]
  constructor
  · intro h i hi
    rw [← gAt hi]; exact h _ (List.getElem_mem hi)
  · intro h x hx
    obtain ⟨i, hi, rfl⟩ := List.mem_iff_getElem.1 hx
    rw [gAt hi]; exact h i hi
theorem asc_low {l : List Int} (h : asc l = true) : ∀ i, i < l.length → l.getD 0 0 + i ≤ l.getD i 0
  | 0, _ => by simp
  | i + 1, hi => by
    have h1 := asc_low h i (by omega)
    have h2 := asc_step l h i hi
    omega
theorem okp_in {n : Nat} {l : List Int} (h : okp n l = true) : InL n l ∧ l.length ≤ n ∧ 0 < l.length := by
  simp only [okp, Bool.and_eq_true, Bool.not_eq_true', beq_eq_false_iff_ne] at h
  obtain ⟨⟨h1, h2⟩, h3⟩ := h
  have h4 := within_at.1 h3
  have hp : 0 < l.length := by omega
  have h5 := asc_low h2 (l.length - 1) (by omega)
  have h6 := h4 (l.length - 1) (by omega)
  have h7 := h4 0 hp
  refine ⟨fun k hk => by have := h4 k hk; omega, by omega, hp⟩
theorem asc_of : ∀ (l : List Int), (∀ i, i + 1 < l.length → l.getD i 0 < l.getD (i + 1) 0) → asc l = true
  | [], _ => rfl
  | [x], _ => rfl
  | x :: y :: l, h => by
    have h0 := h 0 (by simp)
    have h1 := asc_of (y :: l) (fun i hi => by have := h (i + 1) (by simpa using hi); simpa using this)
    simp only [List.getD_cons_zero, List.getD_cons_succ] at h0
    simp only [asc] at h1 ⊢
    simp [h0, h1]
def c_Cl_Ci (f : List V → List V → List V → List V × List V × Int) (q : List V → List V → List V → Prop) : Contract := fun
  | [.agg [.slc false 28 (.agg [.slc false 2 (.int .i64 0) []]) a0, .slc false 22 (.slc false 2 (.int .i64 0) []) a1], .slc false 2 (.int .i64 0) a2] => some ([q a0 a1 a2], .tup [.agg [.slc true 28 (.agg [.slc true 2 (.int .i64 0) []]) ((f a0 a1 a2).1), .slc true 22 (.slc true 2 (.int .i64 0) []) ((f a0 a1 a2).2.1)], .int .i64 ((f a0 a1 a2).2.2)])
  | _ => none
noncomputable def f_pc (a b l : List V) : List V × List V × Int := bif f_isCv a b then (bif okp a.length (unI l) then ((f_part a b l).1, (f_part a b l).2, 0) else ([], [], 2)) else ([], [], 1)
def q_Cl (a b l : List V) : Prop := q_C a b ∧ IsIs l
set_option maxRecDepth 100000 in
theorem s_impl_PartOfCurve : Sat Try.prog 30 (c_Cl_Ci f_pc q_Cl) := by
  intro args ps r h hp
  unfold c_Cl_Ci at h
  split at h
  · rename_i a0 a1 a2
    simp only [Option.some.injEq, Prod.mk.injEq] at h
    obtain ⟨rfl, rfl⟩ := h
    obtain ⟨hq, ⟨ls, hls⟩, hll⟩ : q_Cl a0 a1 a2 := (alls_cons.1 hp).1
    have g1 := frzs_BB hq.1.isBB
    have g2 := frzs_II hq.2.isII
    have g3 : V.frzs a2 = a2 := by rw [hls, I_frzs]
    have hal : a2.length = ls.length := by rw [hls, I_length]
    obtain ⟨n, hn⟩ : ∃ n : Int, n = a0.length := ⟨_, rfl⟩
    have hnl : a0.length ≤ 2147483647 := by
      obtain ⟨bs, hbs, h1, _⟩ := hq.1
      rw [hbs, BB_length]; exact h1
    have e1 : f0_asc a2 = asc ls := by rw [f0_asc, hls, unI_I]
    have e2 : ∀ x y, f_within a2 x y = within ls x y := fun x y => by rw [f_within, hls, unI_I]
    have eo : okp a0.length ls = (!((ls.length : Int) == 0) && asc ls && within ls 0 (n - 1)) := by
      rw [okp, hn]
      congr 2
      congr 1
      rw [Bool.eq_iff_iff, beq_iff_eq, beq_iff_eq]
      omega
    generalize H_f_isCv : f_isCv = F_f_isCv
    generalize H_q_C : q_C = F_q_C
    generalize H_f0_asc : f0_asc = F_f0_asc
    generalize H_IsI : IsI = F_IsI
    generalize H_f_within : f_within = F_f_within
    generalize H_f_part : f_part = F_f_part
    generalize H_q_part : q_part = F_q_part
    refine fnOk_ofI (T := tab) (B := [(70, c_C_b F_f_isCv F_q_C), (78, c_l_bool F_f0_asc F_IsI), (79, c_impl_within F_f_within F_IsI), (80, c_Cl_C F_f_part F_q_part)]) (Bi := []) [0, 1, 2, 4, 5] Try.func30 rfl rfl (by kernel_rfl) (Nat.le_of_ble_eq_true rfl) mixed tabOk (by subst H_f_isCv H_q_C H_f0_asc H_IsI H_f_within H_f_part H_q_part; exact (bookCons s_impl_IsCurve (bookCons s_impl_ascends (bookCons s_impl_within (bookCons s_impl_partOf bookNil))))) (by subst H_f_isCv H_q_C H_f0_asc H_IsI H_f_within H_f_part H_q_part; exact bookINil) (by kernel_rfl) ?_
    intro L lp rr hL hr hf hlp
    conv => cbv
    simp only [stdEqs hL, imp_self, true_and, and_true, bif_or, bif_and, Bool.or_eq_true, Bool.or_eq_false_iff, Bool.and_eq_true, Bool.and_eq_false_iff, decide_eq_true_eq, decide_eq_false_iff_not, Bool.not_eq_true', Bool.not_eq_false', beq_iff_eq, beq_eq_false_iff_ne, ne_eq, toNat0, toNat1, ok_int, toI_int, I_frzs, I_length, I_getD, ok_ints, toL_slc, g1, g2, g3, hal, ← hn]
    subst H_f_isCv H_q_C H_f0_asc H_IsI H_f_within H_f_part H_q_part
    rw [wrap_id (n := n - 1) (by omega) (by omega)]
    simp only [e1, e2]
    refine ⟨hq, fun h => ?_, fun h => ⟨fun _ => ⟨ls, hls⟩, fun _ => ⟨ls, hls⟩, fun h2 => ?_, fun h2 => ?_⟩⟩
    · rw [hr, f_pc, h]; rfl
    · have : okp a0.length ls = false := by
        rw [eo]
        rcases h2 with (h2 | h2) | h2
        · rw [h2]; rfl
        · rw [h2, Bool.and_false]; rfl
        · rw [h2, Bool.and_false]
      rw [hr, f_pc, h, hls, unI_I, this]; rfl
    · have : okp a0.length ls = true := by
        rw [eo, h2.1.2, h2.2, beq_eq_false_iff_ne.2 h2.1.1]; rfl
      obtain ⟨k1, k2, k3⟩ := okp_in this
      refine ⟨⟨q_cv_of hq h, ls, hls, k1, ?_⟩, ?_⟩
      · obtain ⟨bs, hbs, _⟩ := hq.1
        have := (isCv_iff.1 h).n6
        rw [hbs, unBB_BB] at this
        rw [hbs, BB_length] at k2
        omega
      · rw [hr, f_pc, h]
        rw [show unI a2 = ls by rw [hls, unI_I], this]; rfl
  · cases h
set_option maxRecDepth 100000 in
theorem s_spec_PartOfCurve : Sat Try.prog 28 (c_Cl_Ci f_pc q_Cl) := by
  intro args ps r h hp
  unfold c_Cl_Ci at h
  split at h
  · rename_i a0 a1 a2
    simp only [Option.some.injEq, Prod.mk.injEq] at h
    obtain ⟨rfl, rfl⟩ := h
    obtain ⟨hq, ⟨ls, hls⟩, hll⟩ : q_Cl a0 a1 a2 := (alls_cons.1 hp).1
    have g1 := frzs_BB hq.1.isBB
    have g2 := frzs_II hq.2.isII
    have g3 : V.frzs a2 = a2 := by rw [hls, I_frzs]
    have hal : a2.length = ls.length := by rw [hls, I_length]
    have gl : ∀ k, a2.getD k (.int .i64 0) = .int .i64 (ls.getD k 0) := fun k => by rw [hls, I_getD]
    obtain ⟨n, hn⟩ : ∃ n : Int, n = a0.length := ⟨_, rfl⟩
    have hnl : a0.length ≤ 2147483647 := by
      obtain ⟨bs, hbs, h1, _⟩ := hq.1
      rw [hbs, BB_length]; exact h1
    have hf0 : f_isCv a0 a1 = true → f_pc a0 a1 a2 = bif okp a0.length ls then ((f_part a0 a1 a2).1, (f_part a0 a1 a2).2, 0) else ([], [], 2) := fun h => by rw [f_pc, h, cond_true, hls, unI_I]
    have hw1 : IntKind.wrap .i64 (n - 1) = n - 1 := wrap_id (by omega) (by omega)
    generalize H_f_isCv : f_isCv = F_f_isCv
    generalize H_q_C : q_C = F_q_C
    generalize H_inRange : inRange = F_inRange
    generalize H_f_part : f_part = F_f_part
    generalize H_q_part : q_part = F_q_part
    refine fnOk_ofI (T := tab) (B := [(75, c_C_b F_f_isCv F_q_C), (76, c_impl_inRange F_inRange), (77, c_Cl_C F_f_part F_q_part)]) (Bi := []) [0, 1, 2, 4, 5, 6] Try.func28 rfl rfl (by kernel_rfl) (Nat.le_of_ble_eq_true rfl) mixed tabOk (by subst H_f_isCv H_q_C H_inRange H_f_part H_q_part; exact (bookCons s_spec_l09Is (bookCons s_spec_l01In (bookCons s_spec_l09Part bookNil)))) (by subst H_f_isCv H_q_C H_inRange H_f_part H_q_part; exact bookINil) (by kernel_rfl) ?_
    intro L lp rr hL hr hf hlp
    have hwi : ∀ x, F_inRange x 0 (n - 1) = (decide (0 ≤ x) && decide (x ≤ n - 1)) := fun x => by rw [← H_inRange]; rfl
    have Ep : F_f_part a0 a1 a2 = f_part a0 a1 a2 := by rw [H_f_part]
    have Qp : q_part a0 a1 a2 → F_q_part a0 a1 a2 := fun h => by rw [← H_q_part]; exact h
    conv => cbv
    have E1 : F_f_isCv a0 a1 = f_isCv a0 a1 := by rw [H_f_isCv]
    simp only [stdEqs hL, imp_self, true_and, and_true, bif_or, bif_and, Bool.or_eq_true, Bool.or_eq_false_iff, Bool.and_eq_true, Bool.and_eq_false_iff, decide_eq_true_eq, decide_eq_false_iff_not, Bool.not_eq_true', Bool.not_eq_false', beq_iff_eq, beq_eq_false_iff_ne, ne_eq, toNat0, toNat1, ok_int, toI_int, I_frzs, I_length, I_getD, ok_ints, toL_slc, g1, g2, g3, hal, ← hn, E1]
    subst H_f_isCv H_q_C
    refine ⟨hq, fun h => ?_, fun h => ⟨fun h2 => ?_, fun h2 => ?_⟩⟩
    · rw [hr, f_pc, h]; rfl
    · have : ls = [] := List.eq_nil_of_length_eq_zero (by omega)
      rw [hr, hf0 h, this]; rfl
    have hpos : 0 < ls.length := by omega
    refine hlp (Int) _ _ _ [1, 2, 4, 6] (fun x => [(1, none, .val (.slc false 2 (.int .i64 0) a2)), (2, none, .val (.box 44 (.agg [.slc false 28 (.agg [.slc false 2 (.int .i64 0) []]) a0, .slc false 22 (.slc false 2 (.int .i64 0) []) a1]))), (4, none, .val (.box 44 (.agg [.slc true 28 (.agg [.slc true 2 (.int .i64 0) []]) [], .slc true 22 (.slc true 2 (.int .i64 0) []) []]))), (6, none, .val (.int .i64 x))])
      (fun x => 0 ≤ x ∧ x ≤ ls.length ∧ (∀ k, k < x.toNat → 0 ≤ ls.getD k 0 ∧ ls.getD k 0 ≤ n - 1) ∧ (∀ k, k + 1 < x.toNat → ls.getD k 0 < ls.getD (k + 1) 0)) (fun x => (ls.length - x).toNat) (0) (by subst hL; rfl) ?_ ?_
    · exact ⟨by simp, by simp, fun k hk => by simp at hk, fun k hk => by simp at hk⟩
    rintro i ⟨i0, i1, hA, hB⟩ hfx ag hag
    conv => cbv
    simp only [stdEqs hL, imp_self, true_and, and_true, bif_or, bif_and, Bool.or_eq_true, Bool.or_eq_false_iff, Bool.and_eq_true, Bool.and_eq_false_iff, decide_eq_true_eq, decide_eq_false_iff_not, Bool.not_eq_true', Bool.not_eq_false', beq_iff_eq, beq_eq_false_iff_ne, ne_eq, toNat0, toNat1, ok_int, toI_int, I_frzs, I_length, I_getD, ok_ints, toL_slc, hal, gl, ← hn, hw1, hwi, g1, g2, g3, Ep]
    have hbad : ¬ (∀ k, k < ls.length → 0 ≤ ls.getD k 0 ∧ ls.getD k 0 ≤ n - 1) ∨ ¬ (∀ k, k + 1 < ls.length → ls.getD k 0 < ls.getD (k + 1) 0) → okp a0.length ls = false := fun hb => by
      cases ho : okp a0.length ls with
      | false => rfl
      | true =>
        exfalso
        have h3 := (okp_in ho).1
        simp only [okp, Bool.and_eq_true] at ho
        rcases hb with hb | hb
        · exact hb fun k hk => by have := h3 k hk; omega
        · exact hb fun k hk => asc_step ls ho.1.2 k hk
    refine ⟨fun h3 => ?_, fun h3 => ?_⟩
    · have hil : i.toNat < ls.length := by omega
      have hw : 0 < i → IntKind.wrap .i64 (i - 1) = i - 1 := fun _ => wrap_id (by omega) (by omega)
      refine ⟨i0, by omega, fun _ => i0, fun _ => by omega, fun _ => trivial, fun h => by rw [hw h.2]; omega, fun h => by rw [hw h.2]; omega, fun _ => trivial, fun h h' => ⟨h, h'⟩, fun h4 => ?_, fun h4 => ?_⟩
      · have : okp a0.length ls = false := by
          refine hbad ?_
          rcases h4 with h4 | ⟨h4, h5⟩
          · exact .inl fun hh => by have := hh i.toNat hil; omega
          · refine .inr fun hh => ?_
            have := hh (i.toNat - 1) (by omega)
            rw [hw h4, show (i - 1).toNat = i.toNat - 1 by omega] at h5
            rw [show i.toNat - 1 + 1 = i.toNat by omega] at this
            omega
        rw [hr, hf0 h, this]; rfl
      · rw [wrap_id (n := i + 1) (by omega) (by omega)]
        refine hag (i + 1) ⟨by omega, by omega, fun k hk => ?_, fun k hk => ?_⟩ (by omega)
        · by_cases hki : k = i.toNat
          · rw [hki]; exact h4.1
          · exact hA k (by omega)
        · by_cases hki : k + 1 = i.toNat
          · have h5 := h4.2.resolve_left (by omega)
            rw [hw (by omega), show (i - 1).toNat = k by omega] at h5
            rw [hki]
            omega
          · exact hB k (by omega)
    · have ho : okp a0.length ls = true := by
        simp only [okp, Bool.and_eq_true, Bool.not_eq_true', beq_eq_false_iff_ne]
        refine ⟨⟨by omega, asc_of ls (fun k hk => hB k (by omega))⟩, within_at.2 (fun k hk => ?_)⟩
        have := hA k (by omega)
        omega
      obtain ⟨k1, k2, _⟩ := okp_in ho
      refine ⟨Qp ⟨q_cv_of hq h, ls, hls, k1, ?_⟩, ?_⟩
      · obtain ⟨bs, hbs, _⟩ := hq.1
        have := (isCv_iff.1 h).n6
        rw [hbs, unBB_BB] at this
        rw [hbs, BB_length] at k2
        omega
      · rw [hr, hf0 h, ho]; rfl
  · cases h
theorem tot_le : ∀ (l : List (List Int)) (c : Nat), (∀ x ∈ l, x.length ≤ c) → tot l ≤ l.length * c
  | [], _, _ => by simp [tot]
  | x :: l, c, h => by
    have h1 := tot_le l c (fun y hy => h y (by simp [hy]))
    have h2 := h x (by simp)
    simp only [tot, List.length_cons, Nat.add_mul]
    omega
theorem part_tot {bs ms : List (List Int)} (hcv : CvP bs ms) {ls : List Int} (hin : InL bs.length ls) (hl : ls.length ≤ 6) : tot (partB bs ls) + tot (partM ms ls) ≤ 4611686018427387904 := by
  have h1 := tot_le (partB bs ls) 64 (fun x hx => by
    simp only [partB, List.mem_map] at hx
    obtain ⟨i, hi, rfl⟩ := hx
    obtain ⟨k, hk, rfl⟩ := List.mem_iff_getElem.1 hi
    rw [gAt hk]
    have := hin k hk
    exact (br_of (hcv.br _ (by omega))).len)
  have h2 := tot_le (partM ms ls) 6 (fun x hx => by
    simp only [partM, List.mem_map] at hx
    obtain ⟨i, hi, rfl⟩ := hx
    rw [List.length_map]; exact hl)
  rw [partB_len] at h1
  have e : (partM ms ls).length = ls.length := by simp [partM]
  rw [e] at h2
  omega
theorem ints_keysM (l : List Int) (k : Int) (hk : 0 ≤ k) (hl : k + l.length ≤ 2147483647) : q_mark (I l) k ∧ f0_mark (I l) k = k + l.length ∧ f1_mark (I l) k = I (marks l.length k) :=
  ⟨⟨⟨l, rfl⟩, by omega, by rw [I_length]; omega⟩, by rw [f0_mark, I_length], by rw [f1_mark, I_length]⟩
def c_law_Dl (f : List V → List V → List V → Bool) (q : List V → List V → List V → Prop) : Contract := fun
  | [.agg [.slc false 24 (.agg [.slc false 2 (.int .i64 0) []]) a0, .slc false 22 (.slc false 2 (.int .i64 0) []) a1], .slc false 2 (.int .i64 0) a2] => some ([q a0 a1 a2], .bool (f a0 a1 a2))
  | _ => none
def yesDl (_ _ _ : List V) : Bool := true
def q_law_Dl (a b l : List V) : Prop := q_C' a b ∧ IsI l
set_option maxRecDepth 100000 in
theorem s_laws_FnExactPartOfCurve : Sat Try.prog 5 (c_law_Dl yesDl q_law_Dl) := by
  intro args ps r h hp
  unfold c_law_Dl at h
  split at h
  · rename_i a0 a1 a2
    simp only [Option.some.injEq, Prod.mk.injEq] at h
    obtain ⟨rfl, rfl⟩ := h
    obtain ⟨hq, ⟨ls, hls⟩⟩ : q_law_Dl a0 a1 a2 := (alls_cons.1 hp).1
    have g0 := frzs_BB hq.1
    have g1 := frzs_II hq.2
    have g2 : V.frzs a2 = a2 := by rw [hls, I_frzs]
    have hal : a2.length = ls.length := by rw [hls, I_length]
    generalize H_f_szC : f_szC = F_f_szC
    generalize H_q_szC : q_szC = F_q_szC
    generalize H_f_cpC : f_cpC = F_f_cpC
    generalize H_q_cpC : q_cpC = F_q_cpC
    generalize H_same : same = F_same
    generalize H_IsIs : IsIs = F_IsIs
    generalize H_f_pc : f_pc = F_f_pc
    generalize H_q_Cl : q_Cl = F_q_Cl
    generalize H_f0_eqC : f0_eqC = F_f0_eqC
    generalize H_q_eqC : q_eqC = F_q_eqC
    generalize H_f0_eqI : f0_eqI = F_f0_eqI
    generalize H_q_eqI : q_eqI = F_q_eqI
    generalize H_f0_heldC : f0_heldC = F_f0_heldC
    generalize H_q_heldC : q_heldC = F_q_heldC
    generalize H_f0_mark : f0_mark = F_f0_mark
    generalize H_f1_mark : f1_mark = F_f1_mark
    generalize H_q_mark : q_mark = F_q_mark
    generalize H_f0_markC : f0_markC = F_f0_markC
    generalize H_f1_markC : f1_markC = F_f1_markC
    generalize H_f2_markC : f2_markC = F_f2_markC
    generalize H_q_markC : q_markC = F_q_markC
    refine fnOk_ofI (T := tab) (B := [(23, c_Di_i F_f_szC F_q_szC), (25, c_D_C F_f_cpC F_q_cpC), (29, c_laws_toInt64S F_same F_IsIs), (28, c_Cl_Ci F_f_pc F_q_Cl), (30, c_Cl_Ci F_f_pc F_q_Cl), (27, c_cc_bool F_f0_eqC F_q_eqC), (18, c_laws_eqInt64S F_f0_eqI F_q_eqI), (32, c_heldC F_f0_heldC F_q_heldC)]) (Bi := [(21, 0, false, ic_markInt64S F_f0_mark F_f1_mark F_q_mark), (31, 0, false, ic_markC F_f0_markC F_f1_markC F_f2_markC F_q_markC)]) [0, 1, 2, 4, 5, 6, 7, 8, 9, 10, 11, 12, 13, 14, 15, 16] Try.func5 rfl rfl (by kernel_rfl) (Nat.le_of_ble_eq_true rfl) mixed tabOk (by subst H_f_szC H_q_szC H_f_cpC H_q_cpC H_same H_IsIs H_f_pc H_q_Cl H_f0_eqC H_q_eqC H_f0_eqI H_q_eqI H_f0_heldC H_q_heldC H_f0_mark H_f1_mark H_q_mark H_f0_markC H_f1_markC H_f2_markC H_q_markC; exact (bookCons s_laws_szCurve (bookCons s_laws_toCurve (bookCons s_laws_toInt64S (bookCons s_spec_PartOfCurve (bookCons s_impl_PartOfCurve (bookCons s_laws_eqCurve (bookCons s_laws_eqInt64S (bookCons s_laws_heldCurve bookNil))))))))) (by subst H_f_szC H_q_szC H_f_cpC H_q_cpC H_same H_IsIs H_f_pc H_q_Cl H_f0_eqC H_q_eqC H_f0_eqI H_q_eqI H_f0_heldC H_q_heldC H_f0_mark H_f1_mark H_q_mark H_f0_markC H_f1_markC H_f2_markC H_q_markC; exact (bookICons s_laws_markInt64S (bookICons s_laws_markCurve bookINil))) (by kernel_rfl) ?_
    intro L lp rr hL hr hf hlp
    have hlen := hf.1
    conv => cbv
    simp only [stdEqs hL, g0, g1, g2, hal]
    subst H_f_szC H_q_szC H_f_cpC H_q_cpC H_same H_IsIs H_f_pc H_q_Cl H_f0_eqC H_q_eqC H_f0_eqI H_q_eqI H_f0_heldC H_q_heldC H_f0_mark H_f1_mark H_q_mark H_f0_markC H_f1_markC H_f2_markC H_q_markC
    refine ⟨fun h => by rw [hr]; rfl, fun hls1 => ⟨hq, fun h => by rw [hr]; rfl, fun h => ?_⟩⟩
    have hll : ls.length ≤ 1048576 := by
      simp only [decide_eq_false_iff_not] at hls1
      omega
    obtain ⟨hc, ht1, ht2, _, _⟩ := szC_ok (by omega) (by omega) hq hlen.1.1 hlen.1.2 hlen.2.1.1 hlen.2.1.2 h
    obtain ⟨⟨bs, hbs⟩, ⟨ms, hms⟩⟩ := hq
    have e0 : f_cpC a0 a1 = (BB true bs, II true ms) := by rw [f_cpC, hbs, hms, unBB_BB, unII_II]
    rw [hbs, unBB_BB] at ht1
    rw [hms, unII_II] at ht2
    have kg := curve_keys bs ms (by omega)
    have hqc : q_C (BB false bs) (II false ms) := by have := q_C_of hc; rwa [hbs, hms] at this
    have kl := ints_keys ls (by omega)
    have hqx : q_Cl (BB false bs) (II false ms) (I ls) := ⟨hqc, kl.1⟩
    have km := ints_keysM ls (1 + tot bs + tot ms) (by omega) (by omega)

    obtain ⟨cs, ns, code, ez, hz1⟩ : ∃ (cs ns : List (List Int)) (code : Int), f_pc (BB false bs) (II false ms) (I ls) = (BB true cs, II true ns, code) ∧ tot cs + tot ns ≤ 4611686018427387904 := by
      rw [f_pc, f_isCv, unBB_BB, unII_II]
      cases hh : isCv bs ms with
      | false => exact ⟨[], [], 1, rfl, by simp [tot]⟩
      | true =>
        rw [cond_true, unI_I, BB_length]
        cases ho : okp bs.length ls with
        | false => exact ⟨[], [], 2, rfl, by simp [tot]⟩
        | true =>
          obtain ⟨k1, k2, _⟩ := okp_in ho
          have hcv := isCv_iff.1 hh
          refine ⟨partB bs ls, partM ms ls, 0, by rw [f_part, unBB_BB, unII_II, unI_I]; rfl, part_tot hcv k1 (by have := hcv.n6; omega)⟩
    have kz := curve_keys cs ns hz1
    have hn1 : ∀ n : Nat, decide ((1 : Int) + n < 0) = false := fun n => by simp; omega
    have hn2 : ∀ n m : Nat, decide ((1 : Int) + n + m < 0) = false := fun n m => by simp; omega
    have hn3 : ∀ n m r : Nat, decide ((1 : Int) + n + m + r < 0) = false := fun n m r => by simp; omega
    simp only [hls, same, I_frzs, e0, hc, kg, hqc, hqx, kl, km, ez, kz, hn1, hn2, hn3, hr, yesDl]
    simp
  · cases h
end Go.Ax
