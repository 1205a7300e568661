import Derived.Test.YtdibahknjbgdkaaB17p2
import Derived.Test.YtdibahknjbgdkaaB08p2
import Derived.Test.YtdibahknjbgdkaaB15p2
/-
  IsCurve of the reference, and its law. No conditions but those of the contracts.
-/
set_option linter.all false
namespace Go.Ax
open Go.Proofs

def BRow (bs ms : List (List Int)) (i k : Nat) : Prop := EntP i k (mm ms i k) ∧ (i ≠ k → mm ms i k = mm ms k i) ∧ (i < k → shr (bs.getD i []) (bs.getD k []) (mm ms i k).toNat = true)
def URow (bs ms : List (List Int)) (i k : Nat) : Prop := ∀ j, j < bs.length → i ≠ k → i ≠ j → j ≠ k → ¬ mm ms i k < min (mm ms i j) (mm ms j k)
theorem CvP.of {bs ms : List (List Int)} (h1 : 1 ≤ bs.length) (h6 : bs.length ≤ 6) (hl : ms.length = bs.length) (hA : ∀ t, t < bs.length → isBr (bs.getD t []) = true ∧ (ms.getD t []).length = bs.length)
    (hB : ∀ t, t < bs.length → ∀ k, k < bs.length → BRow bs ms t k) (hC : ∀ t, t < bs.length → ∀ k, k < bs.length → URow bs ms t k) : CvP bs ms := by
  refine ⟨h1, h6, ⟨hl, fun i hi => ⟨(hA i hi).2, fun k hk => (hB i hi k hk).1⟩, fun i hi k hk => ?_⟩, fun i hi => (hA i hi).1, fun i k hi hk hne => ?_, fun i k j hi hk hj hne h1 h2 => hC i hi k hk j hj hne (Ne.symm h1) h2⟩
  · by_cases h : i = k
    · rw [h]
    · exact ((hB i hi k hk).2.1 h).symm
  · by_cases h : i < k
    · exact (hB i hi k hk).2.2 h
    · have := (hB k hk i hi).2.2 (by omega)
      rw [shr_comm, (hB i hi k hk).2.1 hne]
      exact this
end Go.Ax
/-
  Numbers of curves: multiplicity, intersection numbers. No conditions but those of the contracts.
-/
set_option linter.all false
namespace Go.Ax
open Go.Proofs

theorem TabP.range {ms : List (List Int)} {n : Nat} (h : TabP ms n) {i k : Nat} (hi : i < n) (hk : k < n) : 0 ≤ mm ms i k ∧ mm ms i k ≤ 200 := by
  have hE := (h.row i hi).2 k hk
  by_cases he : i = k
  · have := hE.1 he; omega
  · have := hE.2 he; omega
def q_cv (a b : List V) : Prop := q_C a b ∧ CvP (unBB a) (unII b)
theorem q_cv_of {a b : List V} (h : q_C a b) (hc : f_isCv a b = true) : q_cv a b := ⟨h, isCv_iff.1 hc⟩
def meetC (bs ms : List (List Int)) (i k : Nat) : Int := meet (bs.getD i []) (bs.getD k []) (mm ms i k).toNat
def c_Cii_i (f : List V → List V → Int → Int → Int) (q : List V → List V → Int → Int → Prop) : Contract := fun
  | [.agg [.slc false 26 (.agg [.slc false 2 (.int .i64 0) []]) a0, .slc false 24 (.slc false 2 (.int .i64 0) []) a1], .int .i64 a2, .int .i64 a3] => some ([q a0 a1 a2 a3], .int .i64 (f a0 a1 a2 a3))
  | _ => none
def f_mt (a b : List V) (i k : Int) : Int := meetC (unBB a) (unII b) i.toNat k.toNat
def q_mt (a b : List V) (i k : Int) : Prop := q_cv a b ∧ 0 ≤ i ∧ i < a.length ∧ 0 ≤ k ∧ k < a.length ∧ i ≠ k
set_option maxHeartbeats 1000000 in
set_option maxRecDepth 100000 in
theorem s_impl_meeting : Sat Try.prog 46 (c_Cii_i f_mt q_mt) := by
  intro args ps r h hp
  unfold c_Cii_i at h
  split at h
  · rename_i a0 a1 a2 a3
    simp only [Option.some.injEq, Prod.mk.injEq] at h
    obtain ⟨rfl, rfl⟩ := h
    obtain ⟨⟨⟨⟨bs, hbs, hb1, hb2⟩, ⟨ms, hms, hm1, hm2⟩⟩, hcv⟩, ⟨x0,x1,x2,x3,x4⟩⟩ := (alls_cons.1 hp).1
    rw [hbs, hms, unBB_BB, unII_II] at hcv
    have g1 : V.frzs a0 = a0 := by rw [hbs, BB_frzs]
    have g2 : V.frzs a1 = a1 := by rw [hms, II_frzs]
    have hbl : a0.length = bs.length := by rw [hbs, BB_length]
    have hml : a1.length = ms.length := by rw [hms, II_length]
    have gb : ∀ k, a0.getD k (.agg [.slc false 2 (.int .i64 0) []]) = .agg [.slc false 2 (.int .i64 0) (I (bs.getD k []))] := fun k => by rw [hbs, BB_getD]
    have gm : ∀ k, a1.getD k (.slc false 2 (.int .i64 0) []) = .slc false 2 (.int .i64 0) (I (ms.getD k [])) := fun k => by rw [hms, II_getD]
    have hm0 : ∀ x y : Nat, (ms.getD x []).getD y 0 = mm ms x y := fun _ _ => rfl
    obtain ⟨n, hn⟩ : ∃ n : Int, n = bs.length := ⟨_, rfl⟩
    have n1 := hcv.n1
    have n6 := hcv.n6
    have hmn : ms.length = bs.length := hcv.tab.len
    have hbr : ∀ i, i < bs.length → Br (bs.getD i []) := fun i hi => br_of (hcv.br i hi)
    have rl : ∀ k, k < bs.length → (ms.getD k []).length = bs.length := fun k hk => (hcv.tab.row k hk).1
    have mmr : ∀ i k, i < bs.length → k < bs.length → 0 ≤ mm ms i k ∧ mm ms i k ≤ 200 := fun i k hi hk => hcv.tab.range hi hk
    have mmo : ∀ i k, i < bs.length → k < bs.length → i ≠ k → 1 ≤ mm ms i k ∧ mm ms i k ≤ 200 := fun i k hi hk hne => ((hcv.tab.row i hi).2 k hk).2 hne
    rw [hbl] at x1 x3
    have hf0 : f_mt a0 a1 a2 a3 = meetC bs ms a2.toNat a3.toNat := by rw [f_mt, hbs, hms, unBB_BB, unII_II]
    have h1 := hbr a2.toNat (by omega)
    have h2 := hbr a3.toNat (by omega)
    have h3 := mmo a2.toNat a3.toNat (by omega) (by omega) (by omega)
    have h4 := rl a2.toNat (by omega)
    obtain ⟨u, hu⟩ : ∃ u, u = bs.getD a2.toNat [] := ⟨_, rfl⟩
    obtain ⟨v, hv⟩ : ∃ v, v = bs.getD a3.toNat [] := ⟨_, rfl⟩
    rw [← hu] at h1
    rw [← hv] at h2
    rw [meetC, ← hu, ← hv] at hf0
    obtain ⟨c, hc⟩ : ∃ c, c = mm ms a2.toNat a3.toNat := ⟨_, rfl⟩
    rw [← hc] at h3 hf0
    have hqm : q_meet (I u) (I v) c := ⟨⟨_, rfl, h1⟩, ⟨_, rfl, h2⟩, by omega, by omega⟩
    have hfm : f_meet (I u) (I v) c = meet u v c.toNat := by rw [f_meet, unI_I, unI_I]
    generalize H_f_meet : f_meet = F_f_meet
    generalize H_q_meet : q_meet = F_q_meet
    refine fnOk_ofI (T := tab) (B := [(37, c_BBi_i F_f_meet F_q_meet)]) (Bi := []) [0, 1, 2, 3, 6] Try.func46 rfl rfl (by kernel_rfl) (Nat.le_of_ble_eq_true rfl) mixed tabOk (by subst H_f_meet H_q_meet; exact (bookCons s_impl_intersection bookNil)) (by subst H_f_meet H_q_meet; exact bookINil) (by kernel_rfl) ?_
    intro L lp rr hL hr hf hlp
    conv => cbv
    simp only [stdEqs hL, imp_self, true_and, and_true, bif_or, bif_and, Bool.or_eq_true, Bool.or_eq_false_iff, Bool.and_eq_true, Bool.and_eq_false_iff, decide_eq_true_eq, decide_eq_false_iff_not, Bool.not_eq_true', Bool.not_eq_false', beq_iff_eq, beq_eq_false_iff_ne, ne_eq, toNat0, toNat1, ok_int, toI_int, I_frzs, I_length, I_getD, ok_ints, toL_slc, hbl, gb, ok_bran, toL_bran, fld_bran, ← hu, ← hv, gm, hml, h4, hm0, ← hc]
    subst H_f_meet H_q_meet
    rw [hr, hf0, hfm]
    (repeat' first | (exact solid_one _) | (exact solid1 rfl) | (exact noown_one _) | (apply And.intro) | (intro _)) <;> (try first | exact True.intro | omega | rfl | (simp only [List.length_cons, List.length_nil, I_length]; omega))
    all_goals first | exact hqm.1 | exact hqm.2.1 | skip
  · cases h
def isOf (n : Nat) (i : Int) : Bool := inRange i 0 ((n : Int) - 1)
def c_Ci_b (f : List V → List V → Int → Bool) (q : List V → List V → Int → Prop) : Contract := fun
  | [.agg [.slc false 26 (.agg [.slc false 2 (.int .i64 0) []]) a0, .slc false 24 (.slc false 2 (.int .i64 0) []) a1], .int .i64 a2] => some ([q a0 a1 a2], .bool (f a0 a1 a2))
  | _ => none
def f_of (a _ : List V) (i : Int) : Bool := isOf a.length i
def q_of (a b : List V) (_ : Int) : Prop := q_cv a b
set_option maxHeartbeats 1000000 in
set_option maxRecDepth 100000 in
theorem s_impl_isOfCurve : Sat Try.prog 45 (c_Ci_b f_of q_of) := by
  intro args ps r h hp
  unfold c_Ci_b at h
  split at h
  · rename_i a0 a1 a2
    simp only [Option.some.injEq, Prod.mk.injEq] at h
    obtain ⟨rfl, rfl⟩ := h
    obtain ⟨⟨⟨bs, hbs, hb1, hb2⟩, ⟨ms, hms, hm1, hm2⟩⟩, hcv⟩ := (alls_cons.1 hp).1
    rw [hbs, hms, unBB_BB, unII_II] at hcv
    have g1 : V.frzs a0 = a0 := by rw [hbs, BB_frzs]
    have g2 : V.frzs a1 = a1 := by rw [hms, II_frzs]
    have hbl : a0.length = bs.length := by rw [hbs, BB_length]
    have hml : a1.length = ms.length := by rw [hms, II_length]
    have gb : ∀ k, a0.getD k (.agg [.slc false 2 (.int .i64 0) []]) = .agg [.slc false 2 (.int .i64 0) (I (bs.getD k []))] := fun k => by rw [hbs, BB_getD]
    have gm : ∀ k, a1.getD k (.slc false 2 (.int .i64 0) []) = .slc false 2 (.int .i64 0) (I (ms.getD k [])) := fun k => by rw [hms, II_getD]
    have hm0 : ∀ x y : Nat, (ms.getD x []).getD y 0 = mm ms x y := fun _ _ => rfl
    obtain ⟨n, hn⟩ : ∃ n : Int, n = bs.length := ⟨_, rfl⟩
    have n1 := hcv.n1
    have n6 := hcv.n6
    have hmn : ms.length = bs.length := hcv.tab.len
    have hbr : ∀ i, i < bs.length → Br (bs.getD i []) := fun i hi => br_of (hcv.br i hi)
    have rl : ∀ k, k < bs.length → (ms.getD k []).length = bs.length := fun k hk => (hcv.tab.row k hk).1
    have mmr : ∀ i k, i < bs.length → k < bs.length → 0 ≤ mm ms i k ∧ mm ms i k ≤ 200 := fun i k hi hk => hcv.tab.range hi hk
    have mmo : ∀ i k, i < bs.length → k < bs.length → i ≠ k → 1 ≤ mm ms i k ∧ mm ms i k ≤ 200 := fun i k hi hk hne => ((hcv.tab.row i hi).2 k hk).2 hne
    have hf0 : f_of a0 a1 a2 = inRange a2 0 (n - 1) := by rw [f_of, isOf, hbl, hn]
    generalize H_inRange : inRange = F_inRange
    refine fnOk_ofI (T := tab) (B := [(50, c_impl_inRange F_inRange)]) (Bi := []) [0, 1, 2, 4] Try.func45 rfl rfl (by kernel_rfl) (Nat.le_of_ble_eq_true rfl) mixed tabOk (by subst H_inRange; exact (bookCons s_impl_inRange bookNil)) (by subst H_inRange; exact bookINil) (by kernel_rfl) ?_
    intro L lp rr hL hr hf hlp
    conv => cbv
    simp only [stdEqs hL, imp_self, true_and, and_true, bif_or, bif_and, Bool.or_eq_true, Bool.or_eq_false_iff, Bool.and_eq_true, Bool.and_eq_false_iff, decide_eq_true_eq, decide_eq_false_iff_not, Bool.not_eq_true', Bool.not_eq_false', beq_iff_eq, beq_eq_false_iff_ne, ne_eq, toNat0, toNat1, ok_int, toI_int, I_frzs, I_length, I_getD, ok_ints, toL_slc, hbl, ← hn]
    subst H_inRange
    rw [wrap_id (n := n - 1) (by omega) (by omega), hr, hf0]
  · cases h
def c_Cii_ii (f : List V → List V → Int → Int → Int × Int) (q : List V → List V → Int → Int → Prop) : Contract := fun
  | [.agg [.slc false 26 (.agg [.slc false 2 (.int .i64 0) []]) a0, .slc false 24 (.slc false 2 (.int .i64 0) []) a1], .int .i64 a2, .int .i64 a3] => some ([q a0 a1 a2 a3], .tup [.int .i64 ((f a0 a1 a2 a3).1), .int .i64 ((f a0 a1 a2 a3).2)])
  | _ => none
noncomputable def f_in (a b : List V) (i k : Int) : Int × Int := bif f_isCv a b then (bif isOf a.length i && isOf a.length k && !(i == k) then (f_mt a b i k, 0) else (0, 2)) else (0, 1)
def q_Cii (a b : List V) (_ _ : Int) : Prop := q_C a b
theorem isOf_iff {n : Nat} {i : Int} : isOf n i = true ↔ 0 ≤ i ∧ i < n := by
  simp only [isOf, inRange, Bool.and_eq_true, decide_eq_true_eq]
  omega
set_option maxHeartbeats 1000000 in
set_option maxRecDepth 100000 in
theorem s_impl_IntersectionNumber : Sat Try.prog 16 (c_Cii_ii f_in q_Cii) := by
  intro args ps r h hp
  unfold c_Cii_ii at h
  split at h
  · rename_i a0 a1 a2 a3
    simp only [Option.some.injEq, Prod.mk.injEq] at h
    obtain ⟨rfl, rfl⟩ := h
    have hq : q_C a0 a1 := (alls_cons.1 hp).1
    have g1 := frzs_BB hq.1.isBB
    have g2 := frzs_II hq.2.isII
    generalize H_f_isCv : f_isCv = F_f_isCv
    generalize H_q_C : q_C = F_q_C
    generalize H_f_of : f_of = F_f_of
    generalize H_q_of : q_of = F_q_of
    generalize H_f_mt : f_mt = F_f_mt
    generalize H_q_mt : q_mt = F_q_mt
    refine fnOk_ofI (T := tab) (B := [(44, c_C_b F_f_isCv F_q_C), (45, c_Ci_b F_f_of F_q_of), (46, c_Cii_i F_f_mt F_q_mt)]) (Bi := []) [0, 1, 2, 3, 6, 7] Try.func16 rfl rfl (by kernel_rfl) (Nat.le_of_ble_eq_true rfl) mixed tabOk (by subst H_f_isCv H_q_C H_f_of H_q_of H_f_mt H_q_mt; exact (bookCons s_impl_IsCurve (bookCons s_impl_isOfCurve (bookCons s_impl_meeting bookNil)))) (by subst H_f_isCv H_q_C H_f_of H_q_of H_f_mt H_q_mt; exact bookINil) (by kernel_rfl) ?_
    intro L lp rr hL hr hf hlp
    conv => cbv
    simp only [stdEqs hL, imp_self, true_and, and_true, bif_or, bif_and, Bool.or_eq_true, Bool.or_eq_false_iff, Bool.and_eq_true, Bool.and_eq_false_iff, decide_eq_true_eq, decide_eq_false_iff_not, Bool.not_eq_true', Bool.not_eq_false', beq_iff_eq, beq_eq_false_iff_ne, ne_eq, toNat0, toNat1, ok_int, toI_int, I_frzs, I_length, I_getD, ok_ints, toL_slc, g1, g2]
    subst H_f_isCv H_q_C H_f_of H_q_of H_f_mt H_q_mt
    refine ⟨hq, fun h => ?_, fun h => ?_⟩
    · rw [hr, f_in, h]; rfl
    have hv := q_cv_of hq h
    refine ⟨hv, fun _ => hv, fun h2 => ?_, fun h2 => ?_⟩
    · have hz : (isOf a0.length a2 && isOf a0.length a3 && !(a2 == a3)) = false := by
        rcases h2 with (h2 | h2) | h2
        · rw [show isOf a0.length a2 = false from h2]; rfl
        · rw [show isOf a0.length a3 = false from h2, Bool.and_false]; rfl
        · rw [beq_iff_eq.2 h2, Bool.not_true, Bool.and_false]
      rw [hr, f_in, h, hz]; rfl
    · obtain ⟨⟨h3, h4⟩, h5⟩ := h2
      have h3 : isOf a0.length a2 = true := h3
      have h4 : isOf a0.length a3 = true := h4
      have h3' := isOf_iff.1 h3
      have h4' := isOf_iff.1 h4
      have hz : (isOf a0.length a2 && isOf a0.length a3 && !(a2 == a3)) = true := by
        rw [h3, h4, beq_eq_false_iff_ne.2 h5]; rfl
      refine ⟨⟨hv, h3'.1, h3'.2, h4'.1, h4'.2, h5⟩, ?_⟩
      rw [hr, f_in, h, hz]; rfl
  · cases h
end Go.Ax
/-
  Two branches with common points: their curve, their possible intersections, the greatest number of points. No conditions but those of the theorems.
-/
set_option linter.all false
namespace Go.Ax
open Go.Proofs

theorem fstD_iff {X Y : List Int} {t : Nat} (h : fstD X Y = some t) : t < X.length ∧ (∀ s, s < t → X.getD s 0 = Y.getD s 0) ∧ X.getD t 0 ≠ Y.getD t 0 := by
  rw [fstD, List.find?_range_eq_some] at h
  obtain ⟨h1, h2, h3⟩ := h
  exact ⟨by simpa using h2, fun s hs => by simpa using h3 s hs, by simpa using h1⟩
theorem take_same {X Y : List Int} {n : Nat} (hl : X.length = Y.length) (h : ∀ s, s < n → X.getD s 0 = Y.getD s 0) : X.take n = Y.take n := by
  apply List.ext_getElem?
  intro i
  rw [List.getElem?_take, List.getElem?_take]
  split
  · rename_i hi
    have := h i hi
    by_cases hx : i < X.length
    · rw [List.getD_eq_getElem?_getD, List.getElem?_eq_getElem hx, List.getD_eq_getElem?_getD, List.getElem?_eq_getElem (by omega)] at this
      rw [List.getElem?_eq_getElem hx, List.getElem?_eq_getElem (by omega)]
      simpa using this
    · rw [List.getElem?_eq_none (by omega), List.getElem?_eq_none (by omega)]
  · rfl
theorem gc_shr {xs ys : List Int} {c : Int} (h : gc xs ys = (c, 0)) : 1 ≤ c ∧ c ≤ 200 ∧ shr xs ys c.toNat = true ∧ (c < 200 → shr xs ys (c + 1).toNat = false) := by
  unfold gc at h
  split at h
  · rename_i t ht
    simp only [Prod.mk.injEq, and_true] at h
    obtain ⟨h1, h2, h3⟩ := fstD_iff ht
    rw [codeK_len] at h1
    have hl : (codeK xs 201).length = (codeK ys 201).length := by rw [codeK_len, codeK_len]
    refine ⟨by omega, by omega, ?_, fun hc => ?_⟩
    · rw [show c.toNat = t + 1 by omega, shr, cshL, Nat.add_sub_cancel, take_same hl h2]
      rw [Bool.and_eq_true, Bool.or_eq_true]
      exact ⟨by simp, .inl (bne_iff_ne.2 h3)⟩
    · rw [show (c + 1).toNat = t + 2 by omega, shr, cshL, show t + 2 - 1 = t + 1 by omega]
      have : ¬ (codeK xs 201).take (t + 1) = (codeK ys 201).take (t + 1) := fun e => by
        have := congrArg (fun l => l.getD t 0) e
        simp only [List.getD_eq_getElem?_getD, List.getElem?_take, if_pos (Nat.lt_succ_self t)] at this
        rw [← List.getD_eq_getElem?_getD, ← List.getD_eq_getElem?_getD] at this
        exact h3 this
      simp [this]
  · simp at h
theorem meet_lt {xs ys : List Int} (hx : Br xs) (hy : Br ys) {n m : Nat} (h : n < m) (hm : m ≤ 1000000) : meet xs ys n < meet xs ys m := by
  rw [meet_dS hx hy (by omega), meet_dS hx hy hm]
  have step : ∀ k, dS (mul xs) (mul ys) k < dS (mul xs) (mul ys) (k + 1) := by
    intro k
    have p1 := (mul_good hx).1.pos k
    have p2 := (mul_good hy).1.pos k
    have : (1 : Int) * 1 ≤ (mul xs k : Int) * (mul ys k : Int) := Int.mul_le_mul (by omega) (by omega) (by omega) (by omega)
    simp only [dS]
    omega
  have : ∀ d, dS (mul xs) (mul ys) n < dS (mul xs) (mul ys) (n + d + 1) := by
    intro d
    induction d with
    | zero => exact step n
    | succ d ih => exact Int.lt_trans ih (step (n + d + 1))
  have h2 := this (m - n - 1)
  rwa [show n + (m - n - 1) + 1 = m by omega] at h2
def Asc (l : List Int) : Prop := ∀ i, i + 1 < l.length → l.getD i 0 < l.getD (i + 1) 0
theorem posL_asc {xs ys : List Int} (hx : Br xs) (hy : Br ys) : ∀ n, n ≤ 1000000 → Asc (posL xs ys n) ∧ ∀ v ∈ posL xs ys n, v ≤ meet xs ys n
  | 0, _ => ⟨fun i hi => by simp [posL] at hi, fun v hv => by simp [posL] at hv⟩
  | n + 1, hn => by
    obtain ⟨h1, h2⟩ := posL_asc hx hy n (by omega)
    have hlt := meet_lt hx hy (n := n) (m := n + 1) (by omega) hn
    rw [posL]
    cases hs : shr xs ys (n + 1) with
    | false =>
      simp only [cond_false, List.append_nil]
      exact ⟨h1, fun v hv => Int.le_trans (h2 v hv) (Int.le_of_lt hlt)⟩
    | true =>
      simp only [cond_true]
      refine ⟨fun i hi => ?_, fun v hv => ?_⟩
      · simp only [List.length_append, List.length_singleton] at hi
        by_cases hi2 : i + 1 < (posL xs ys n).length
        · rw [List.getD_eq_getElem?_getD, List.getElem?_append_left (by omega), List.getD_eq_getElem?_getD, List.getElem?_append_left hi2, ← List.getD_eq_getElem?_getD, ← List.getD_eq_getElem?_getD]
          exact h1 i hi2
        · have hi3 : i + 1 = (posL xs ys n).length := by omega
          have hil : i < (posL xs ys n).length := by omega
          rw [List.getD_eq_getElem?_getD, List.getElem?_append_left hil, List.getD_eq_getElem?_getD, List.getElem?_append_right (by omega), hi3, Nat.sub_self, List.getElem?_eq_getElem hil]
          simp only [Option.getD_some, List.getElem?_cons_zero]
          exact Int.lt_of_le_of_lt (h2 _ (List.getElem_mem hil)) hlt
      · rcases List.mem_append.1 hv with hv | hv
        · exact Int.le_trans (h2 v hv) (Int.le_of_lt hlt)
        · simp only [List.mem_singleton] at hv
          rw [hv]
          exact Int.le_refl _
theorem posL_last {xs ys : List Int} {n : Nat} (hn : 1 ≤ n) (h : shr xs ys n = true) : 1 ≤ (posL xs ys n).length ∧ (posL xs ys n).getD ((posL xs ys n).length - 1) 0 = meet xs ys n := by
  obtain ⟨m, rfl⟩ : ∃ m, n = m + 1 := ⟨n - 1, by omega⟩
  rw [posL, h]
  simp only [cond_true, List.length_append, List.length_singleton]
  refine ⟨by omega, ?_⟩
  rw [Nat.add_sub_cancel, List.getD_eq_getElem?_getD, List.getElem?_append_right (Nat.le_refl _), Nat.sub_self]
  rfl
theorem two_cv {xs ys : List Int} {c : Int} (hx : Br xs) (hy : Br ys) (c1 : 1 ≤ c) (c2 : c ≤ 200) (hs : shr xs ys c.toNat = true) : CvP [xs, ys] [[0, c], [c, 0]] := by
  have l2 : ([xs, ys] : List (List Int)).length = 2 := rfl
  have m00 : mm [[0, c], [c, 0]] 0 0 = 0 := rfl
  have m01 : mm [[0, c], [c, 0]] 0 1 = c := rfl
  have m10 : mm [[0, c], [c, 0]] 1 0 = c := rfl
  have m11 : mm [[0, c], [c, 0]] 1 1 = 0 := rfl
  have two : ∀ i, i < 2 → i = 0 ∨ i = 1 := fun i hi => by omega
  refine ⟨by simp, by simp, ⟨rfl, fun i hi => ⟨?_, fun k hk => ?_⟩, fun i hi k hk => ?_⟩, fun i hi => ?_, fun i k hi hk hne => ?_, fun i k j hi hk hj h1 h2 h3 => ?_⟩
  · rcases two i hi with rfl | rfl <;> rfl
  · rcases two i hi with rfl | rfl <;> rcases two k hk with rfl | rfl
    · rw [m00]; exact ⟨fun _ => rfl, fun h => absurd rfl h⟩
    · rw [m01]; exact ⟨fun h => by omega, fun _ => ⟨c1, c2⟩⟩
    · rw [m10]; exact ⟨fun h => by omega, fun _ => ⟨c1, c2⟩⟩
    · rw [m11]; exact ⟨fun _ => rfl, fun h => absurd rfl h⟩
  · rcases two i hi with rfl | rfl <;> rcases two k hk with rfl | rfl <;> rfl
  · rcases two i hi with rfl | rfl
    · exact hx.is
    · exact hy.is
  · rcases two i hi with rfl | rfl <;> rcases two k hk with rfl | rfl
    · exact absurd rfl hne
    · rw [m01]; exact hs
    · rw [m10, shr_comm]; exact hs
    · exact absurd rfl hne
  · rw [l2] at hi hk hj
    omega
theorem two_in {xs ys : List Int} {c : Int} (hx : Br xs) (hy : Br ys) (c1 : 1 ≤ c) (c2 : c ≤ 200) (hs : shr xs ys c.toNat = true) : f_in (BB false [xs, ys]) (II false [[0, c], [c, 0]]) 0 1 = (meet xs ys c.toNat, 0) := by
  have h1 : f_isCv (BB false [xs, ys]) (II false [[0, c], [c, 0]]) = true := by rw [f_isCv, unBB_BB, unII_II, isCv_iff]; exact two_cv hx hy c1 c2 hs
  have h2 : isOf (BB false [xs, ys]).length 0 = true := isOf_iff.2 ⟨by decide, by rw [BB_length]; simp⟩
  have h3 : isOf (BB false [xs, ys]).length 1 = true := isOf_iff.2 ⟨by decide, by rw [BB_length]; simp⟩
  rw [f_in, h1, h2, h3]
  show (meetC (unBB (BB false [xs, ys])) (unII (II false [[0, c], [c, 0]])) 0 1, 0) = _
  rw [unBB_BB, unII_II]
  rfl
end Go.Ax
