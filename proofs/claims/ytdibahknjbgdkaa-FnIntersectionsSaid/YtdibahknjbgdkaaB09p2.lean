import Derived.Test.YtdibahknjbgdkaaB07p2
/-
  The greatest number of common points. No conditions but those of the contracts.
-/
set_option linter.all false
namespace Go.Ax
open Go.Proofs

def c_Bi_m (f : List V → Int → List V) (q : List V → Int → Prop) : Contract := fun
  | [.agg [.slc false 2 (.int .i64 0) a0], .int .i64 a1] => some ([q a0 a1], .slc true 24 (.slc true 2 (.int .i64 0) []) (f a0 a1))
  | _ => none
def f_pof (es : List V) (k : Int) : List V := II true (proxL (firstK (unI es) k.toNat))
set_option maxHeartbeats 1000000 in
set_option maxRecDepth 100000 in
theorem s_impl_proximatesOf : Sat Try.prog 71 (c_Bi_m f_pof q_first) := by
  intro args ps r h hp
  unfold c_Bi_m at h
  split at h
  · rename_i a0 a1
    simp only [Option.some.injEq, Prod.mk.injEq] at h
    obtain ⟨rfl, rfl⟩ := h
    obtain ⟨hq, k1, k2⟩ : q_first a0 a1 := (alls_cons.1 hp).1
    have hqb := hq
    obtain ⟨xs, hxs, hb⟩ := hq
    have g1 : V.frzs a0 = a0 := by rw [hxs, I_frzs]
    obtain ⟨ms, hms⟩ : ∃ ms, ms = I (firstK xs a1.toNat) := ⟨_, rfl⟩
    have e1 : f_first a0 a1 = ms := by rw [f_first, hxs, unI_I, hms]
    have g2 : V.frzs ms = ms := by rw [hms, I_frzs]
    generalize H_f_first : f_first = F_f_first
    generalize H_q_first : q_first = F_q_first
    generalize H_f_prox : f_prox = F_f_prox
    generalize H_q_prox : q_prox = F_q_prox
    refine fnOk_ofI (T := tab) (B := [(66, c_Bi_L F_f_first F_q_first), (81, c_l_m F_f_prox F_q_prox)]) (Bi := []) [0, 1, 2, 4] Try.func71 rfl rfl (by kernel_rfl) (Nat.le_of_ble_eq_true rfl) mixed tabOk (by subst H_f_first H_q_first H_f_prox H_q_prox; exact (bookCons s_impl_firstOf (bookCons s_impl_proximates bookNil))) (by subst H_f_first H_q_first H_f_prox H_q_prox; exact bookINil) (by kernel_rfl) ?_
    intro L lp rr hL hr hf hlp
    conv => cbv
    have hF : F_f_first a0 a1 = ms := by rw [← H_f_first, e1]
    simp only [stdEqs hL, imp_self, true_and, and_true, bif_or, bif_and, Bool.or_eq_true, Bool.or_eq_false_iff, Bool.and_eq_true, Bool.and_eq_false_iff, decide_eq_true_eq, decide_eq_false_iff_not, Bool.not_eq_true', Bool.not_eq_false', beq_iff_eq, beq_eq_false_iff_ne, ne_eq, toNat0, toNat1, ok_int, toI_int, I_frzs, I_length, I_getD, ok_ints, toL_slc, g1, hF, g2]
    refine ⟨by rw [← H_q_first]; exact ⟨hqb, k1, k2⟩, by rw [← H_q_prox]; exact ⟨xs, _, hb, hms, by omega⟩, ?_⟩
    rw [hr, f_pof, ← H_f_prox, f_prox, hms, unI_I, hxs, unI_I]
  · cases h
theorem nf : ∀ l : List Int, V.noFzs (I l) = true
  | [] => rfl
  | x :: l => by
    have := nf l
    simpa [I, V.noFzs, V.noFz] using this
def c_BB_ll (f : List V → List V → List V × List V) (q : List V → List V → Prop) : Contract := fun
  | [.agg [.slc false 2 (.int .i64 0) a0], .agg [.slc false 2 (.int .i64 0) a1]] => some ([q a0 a1], .tup [.slc true 2 (.int .i64 0) ((f a0 a1).1), .slc true 2 (.int .i64 0) ((f a0 a1).2)])
  | _ => none
def q_BB (a b : List V) : Prop := IsBr a ∧ IsBr b
def f_codes (a b : List V) : List V × List V := (I (codeK (unI a) 201), I (codeK (unI b) 201))
set_option maxHeartbeats 1000000 in
set_option maxRecDepth 100000 in
theorem s_impl_codesOf : Sat Try.prog 42 (c_BB_ll f_codes q_BB) := by
  intro args ps r h hp
  unfold c_BB_ll at h
  split at h
  · rename_i a0 a1
    simp only [Option.some.injEq, Prod.mk.injEq] at h
    obtain ⟨rfl, rfl⟩ := h
    obtain ⟨hq, hq1⟩ : q_BB a0 a1 := (alls_cons.1 hp).1
    have hqb := hq
    have hqb1 := hq1
    obtain ⟨xs, hxs, hb⟩ := hq
    obtain ⟨ys, hys, hb1⟩ := hq1
    have g1 : V.frzs a0 = a0 := by rw [hxs, I_frzs]
    have g2 : V.frzs a1 = a1 := by rw [hys, I_frzs]
    have e1 : V.frzs (f_pof a0 201) = II false (proxL (firstK xs 201)) := by rw [f_pof, hxs, unI_I, II_frzs]; rfl
    have e2 : V.frzs (f_pof a1 201) = II false (proxL (firstK ys 201)) := by rw [f_pof, hys, unI_I, II_frzs]; rfl
    have c1 : f_code (II false (proxL (firstK xs 201))) = I (codeK xs 201) := by rw [f_code, unII_II, codeL_prox hb]
    have c2 : f_code (II false (proxL (firstK ys 201))) = I (codeK ys 201) := by rw [f_code, unII_II, codeL_prox hb1]
    generalize H_f_pof : f_pof = F_f_pof
    generalize H_q_first : q_first = F_q_first
    generalize H_f_code : f_code = F_f_code
    generalize H_q_code : q_code = F_q_code
    refine fnOk_ofI (T := tab) (B := [(71, c_Bi_m F_f_pof F_q_first), (70, c_m_l F_f_code F_q_code)]) (Bi := []) [0, 1, 2, 3, 4, 5] Try.func42 rfl rfl (by kernel_rfl) (Nat.le_of_ble_eq_true rfl) mixed tabOk (by subst H_f_pof H_q_first H_f_code H_q_code; exact (bookCons s_impl_proximatesOf (bookCons s_impl_codeOf bookNil))) (by subst H_f_pof H_q_first H_f_code H_q_code; exact bookINil) (by kernel_rfl) ?_
    intro L lp rr hL hr hf hlp
    conv => cbv
    simp only [stdEqs hL, imp_self, true_and, and_true, bif_or, bif_and, Bool.or_eq_true, Bool.or_eq_false_iff, Bool.and_eq_true, Bool.and_eq_false_iff, decide_eq_true_eq, decide_eq_false_iff_not, Bool.not_eq_true', Bool.not_eq_false', beq_iff_eq, beq_eq_false_iff_ne, ne_eq, toNat0, toNat1, ok_int, toI_int, I_frzs, I_length, I_getD, ok_ints, toL_slc, g1, g2]
    subst H_f_pof H_q_first H_f_code H_q_code
    simp only [e1, e2, c1, c2]
    refine ⟨⟨hqb, by omega, by omega⟩, q_code_prox xs (by omega) (by omega), nf _, ⟨hqb1, by omega, by omega⟩, q_code_prox ys (by omega) (by omega), nf _, ?_⟩
    rw [hr, f_codes, hxs, hys, unI_I, unI_I]
  · cases h

def fstD (X Y : List Int) : Option Nat := (List.range X.length).find? fun t => X.getD t 0 != Y.getD t 0
theorem fstD_some {X Y : List Int} {i : Nat} (hi : i < X.length) (hb : ∀ t, t < i → X.getD t 0 = Y.getD t 0) (hd : X.getD i 0 ≠ Y.getD i 0) : fstD X Y = some i := by
  rw [fstD, List.find?_range_eq_some]
  refine ⟨by simpa using hd, by simpa using hi, fun j hj => ?_⟩
  simpa using hb j hj
theorem fstD_none {X Y : List Int} (hb : ∀ t, t < X.length → X.getD t 0 = Y.getD t 0) : fstD X Y = none := by
  rw [fstD, List.find?_eq_none]
  intro t ht
  simpa using hb t (by simpa using ht)
def gc (xs ys : List Int) : Int × Int := match fstD (codeK xs 201) (codeK ys 201) with
  | some i => ((i : Int) + 1, 0)
  | none => (0, 4)
def f_gc (a b : List V) : Int × Int := bif isBr (unI a) && isBr (unI b) then gc (unI a) (unI b) else (0, 1)
def c_BB_ii (f : List V → List V → Int × Int) (q : List V → List V → Prop) : Contract := fun
  | [.agg [.slc false 2 (.int .i64 0) a0], .agg [.slc false 2 (.int .i64 0) a1]] => some ([q a0 a1], .tup [.int .i64 ((f a0 a1).1), .int .i64 ((f a0 a1).2)])
  | _ => none
def q_IsIs2 (a b : List V) : Prop := IsIs a ∧ IsIs b
theorem codeK_len (xs : List Int) (k : Nat) : (codeK xs k).length = k - 1 := tab_len _ _
set_option maxHeartbeats 1000000 in
set_option maxRecDepth 100000 in
theorem s_impl_GreatestCommon : Sat Try.prog 19 (c_BB_ii f_gc q_IsIs2) := by
  intro args ps r h hp
  unfold c_BB_ii at h
  split at h
  · rename_i a0 a1
    simp only [Option.some.injEq, Prod.mk.injEq] at h
    obtain ⟨rfl, rfl⟩ := h
    obtain ⟨hq, hq1⟩ : q_IsIs2 a0 a1 := (alls_cons.1 hp).1
    obtain ⟨xs, hxs⟩ := hq.1
    obtain ⟨ys, hys⟩ := hq1.1
    have g1 : V.frzs a0 = a0 := by rw [hxs, I_frzs]
    have g2 : V.frzs a1 = a1 := by rw [hys, I_frzs]
    have e1 : f0_isBr a0 = isBr xs := by rw [hxs, f0_isBr, unI_I]
    have e2 : f0_isBr a1 = isBr ys := by rw [hys, f0_isBr, unI_I]
    obtain ⟨X, hX⟩ : ∃ X, X = codeK xs 201 := ⟨_, rfl⟩
    obtain ⟨Y, hY⟩ : ∃ Y, Y = codeK ys 201 := ⟨_, rfl⟩
    have e3 : f_codes a0 a1 = (I X, I Y) := by rw [f_codes, hxs, hys, unI_I, unI_I, hX, hY]
    have e4 : f_gc a0 a1 = bif isBr xs && isBr ys then gc xs ys else (0, 1) := by rw [f_gc, hxs, hys, unI_I, unI_I]
    have Xl : X.length = 200 := by rw [hX, codeK_len]
    have Yl : Y.length = 200 := by rw [hY, codeK_len]
    generalize H_f0_isBr : f0_isBr = F_f0_isBr
    generalize H_IsIs : IsIs = F_IsIs
    generalize H_f_codes : f_codes = F_f_codes
    generalize H_q_BB : q_BB = F_q_BB
    refine fnOk_ofI (T := tab) (B := [(28, c_b_bool F_f0_isBr F_IsIs), (42, c_BB_ll F_f_codes F_q_BB)]) (Bi := []) [0, 1, 2, 3, 4, 5, 6, 7, 8, 9, 24, 25, 26] Try.func19 rfl rfl (by kernel_rfl) (Nat.le_of_ble_eq_true rfl) mixed tabOk (by subst H_f0_isBr H_IsIs H_f_codes H_q_BB; exact (bookCons s_impl_IsBranch (bookCons s_impl_codesOf bookNil))) (by subst H_f0_isBr H_IsIs H_f_codes H_q_BB; exact bookINil) (by kernel_rfl) ?_
    intro L lp rr hL hr hf hlp
    conv => cbv
    simp only [stdEqs hL, imp_self, true_and, and_true, bif_or, bif_and, Bool.or_eq_true, Bool.or_eq_false_iff, Bool.and_eq_true, Bool.and_eq_false_iff, decide_eq_true_eq, decide_eq_false_iff_not, Bool.not_eq_true', Bool.not_eq_false', beq_iff_eq, beq_eq_false_iff_ne, ne_eq, toNat0, toNat1, ok_int, toI_int, I_frzs, I_length, I_getD, ok_ints, toL_slc, g1, g2]
    subst H_f0_isBr H_IsIs
    simp only [e1, e2]
    refine ⟨hq, fun _ => hq1, fun h => ?_, fun h => ?_⟩
    · have hz : (isBr xs && isBr ys) = false := by rcases h with h | h <;> simp [h]
      rw [hr, e4, hz]; rfl
    have e4' : f_gc a0 a1 = gc xs ys := by rw [e4, h.1, h.2]; rfl
    refine ⟨by rw [← H_q_BB]; exact ⟨⟨xs, hxs, br_of h.1⟩, ⟨ys, hys, br_of h.2⟩⟩, ?_⟩
    have hF : F_f_codes a0 a1 = (I X, I Y) := by rw [← H_f_codes, e3]
    obtain ⟨vx, hvx⟩ : ∃ vx, vx = I X := ⟨_, rfl⟩
    obtain ⟨vy, hvy⟩ : ∃ vy, vy = I Y := ⟨_, rfl⟩
    rw [← hvx, ← hvy] at hF
    rw [hF]
    simp only
    have xl : vx.length = 200 := by rw [hvx, I_length, Xl]
    have yl : vy.length = 200 := by rw [hvy, I_length, Yl]
    have gx : ∀ t, vx.getD t (.int .i64 0) = .int .i64 (X.getD t 0) := fun t => by rw [hvx, I_getD]
    have gy : ∀ t, vy.getD t (.int .i64 0) = .int .i64 (Y.getD t 0) := fun t => by rw [hvy, I_getD]
    refine hlp Int _ _ _ [6, 7, 24, 25, 26] (fun x => [(6, none, .val (.slc true 2 (.int .i64 0) vx)), (7, none, .val (.slc true 2 (.int .i64 0) vy)), (24, none, .rf 6 0 []), (25, none, .val (.int .i64 200)), (26, none, .val (.int .i64 x))])
      (fun x => 0 ≤ x ∧ x ≤ 200 ∧ ∀ t, t < x.toNat → X.getD t 0 = Y.getD t 0) (fun x => (200 - x).toNat) 0 (by subst hL; rw [xl]; rfl) ?_ ?_
    · exact ⟨by simp, by simp, fun t ht => by simp at ht⟩
    rintro i ⟨i0, i1, hI⟩ hfx ag hag
    conv => cbv
    simp only [stdEqs hL, imp_self, true_and, and_true, bif_or, bif_and, Bool.or_eq_true, Bool.or_eq_false_iff, Bool.and_eq_true, Bool.and_eq_false_iff, decide_eq_true_eq, decide_eq_false_iff_not, Bool.not_eq_true', Bool.not_eq_false', beq_iff_eq, beq_eq_false_iff_ne, ne_eq, toNat0, toNat1, ok_int, toI_int, I_frzs, I_length, I_getD, ok_ints, toL_slc, xl, yl, gx, gy]
    refine ⟨fun h2 => ⟨i0, by omega, by omega, i0, by omega, by omega, fun hne => ?_, fun heq => ?_⟩, fun h2 => ?_⟩
    · have hfd : fstD (codeK xs 201) (codeK ys 201) = some i.toNat := by
        rw [← hX, ← hY]
        exact fstD_some (by omega) hI hne
      rw [hr, e4', gc, hfd, wrap_id (n := i + 1) (by omega) (by omega)]
      simp only
      rw [show ((i.toNat : Nat) : Int) = i by omega]
    · rw [wrap_id (n := i + 1) (by omega) (by omega)]
      refine hag (i + 1) ⟨by omega, by omega, fun t ht => ?_⟩ (by omega)
      by_cases hti : t = i.toNat
      · rw [hti]; exact heq
      · exact hI t (by omega)
    · have hfd : fstD (codeK xs 201) (codeK ys 201) = none := by
        rw [← hX, ← hY]
        exact fstD_none fun t ht => hI t (by omega)
      rw [hr, e4', gc, hfd]
  · cases h
def c_BB_i (f : List V → List V → Int) (q : List V → List V → Prop) : Contract := fun
  | [.agg [.slc false 2 (.int .i64 0) a0], .agg [.slc false 2 (.int .i64 0) a1]] => some ([q a0 a1], .int .i64 (f a0 a1))
  | _ => none
def grt (xs ys : List Int) : Int := match fstD (codeK xs 201) (codeK ys 201) with
  | some i => (i : Int) + 1
  | none => 0
def f_grt (a b : List V) : Int := grt (unI a) (unI b)
set_option maxHeartbeats 1000000 in
set_option maxRecDepth 100000 in
theorem s_spec_l10Greatest : Sat Try.prog 48 (c_BB_i f_grt q_BB) := by
  intro args ps r h hp
  unfold c_BB_i at h
  split at h
  · rename_i a0 a1
    simp only [Option.some.injEq, Prod.mk.injEq] at h
    obtain ⟨rfl, rfl⟩ := h
    obtain ⟨hq, hq1⟩ : q_BB a0 a1 := (alls_cons.1 hp).1
    have hqb := hq
    have hqb1 := hq1
    obtain ⟨xs, hxs, hb⟩ := hq
    obtain ⟨ys, hys, hb1⟩ := hq1
    have g1 : V.frzs a0 = a0 := by rw [hxs, I_frzs]
    have g2 : V.frzs a1 = a1 := by rw [hys, I_frzs]
    obtain ⟨X, hX⟩ : ∃ X, X = codeK xs 201 := ⟨_, rfl⟩
    obtain ⟨Y, hY⟩ : ∃ Y, Y = codeK ys 201 := ⟨_, rfl⟩
    obtain ⟨vx, hvx⟩ : ∃ vx, vx = I X := ⟨_, rfl⟩
    obtain ⟨vy, hvy⟩ : ∃ vy, vy = I Y := ⟨_, rfl⟩
    have e1 : f_codeK a0 201 = vx := by rw [f_codeK, hxs, unI_I, hvx, hX]; rfl
    have e2 : f_codeK a1 201 = vy := by rw [f_codeK, hys, unI_I, hvy, hY]; rfl
    have e4 : f_grt a0 a1 = grt xs ys := by rw [f_grt, hxs, hys, unI_I, unI_I]
    have Xl : X.length = 200 := by rw [hX, codeK_len]
    have Yl : Y.length = 200 := by rw [hY, codeK_len]
    generalize H_f_codeK : f_codeK = F_f_codeK
    generalize H_q_first : q_first = F_q_first
    refine fnOk_ofI (T := tab) (B := [(75, c_Bi_l F_f_codeK F_q_first)]) (Bi := []) [0, 1, 2, 3, 4, 5, 6, 7] Try.func48 rfl rfl (by kernel_rfl) (Nat.le_of_ble_eq_true rfl) mixed tabOk (by subst H_f_codeK H_q_first; exact (bookCons s_spec_l06Code bookNil)) (by subst H_f_codeK H_q_first; exact bookINil) (by kernel_rfl) ?_
    intro L lp rr hL hr hf hlp
    conv => cbv
    have F1 : F_f_codeK a0 201 = vx := by rw [← H_f_codeK, e1]
    have F2 : F_f_codeK a1 201 = vy := by rw [← H_f_codeK, e2]
    simp only [stdEqs hL, imp_self, true_and, and_true, bif_or, bif_and, Bool.or_eq_true, Bool.or_eq_false_iff, Bool.and_eq_true, Bool.and_eq_false_iff, decide_eq_true_eq, decide_eq_false_iff_not, Bool.not_eq_true', Bool.not_eq_false', beq_iff_eq, beq_eq_false_iff_ne, ne_eq, toNat0, toNat1, ok_int, toI_int, I_frzs, I_length, I_getD, ok_ints, toL_slc, g1, g2, F1, F2]
    have xl : vx.length = 200 := by rw [hvx, I_length, Xl]
    have yl : vy.length = 200 := by rw [hvy, I_length, Yl]
    have gx : ∀ t, vx.getD t (.int .i64 0) = .int .i64 (X.getD t 0) := fun t => by rw [hvx, I_getD]
    have gy : ∀ t, vy.getD t (.int .i64 0) = .int .i64 (Y.getD t 0) := fun t => by rw [hvy, I_getD]
    refine ⟨by rw [← H_q_first]; exact ⟨hqb, by omega, by omega⟩, by rw [← H_q_first]; exact ⟨hqb1, by omega, by omega⟩, ?_⟩
    refine hlp (Int) _ _ _ [5, 6, 7] (fun x => [(5, none, .val (.slc true 2 (.int .i64 0) vx)), (6, none, .val (.slc true 2 (.int .i64 0) vy)), (7, none, .val (.int .i64 x))])
      (fun x => 0 ≤ x ∧ x ≤ 200 ∧ ∀ t, t < x.toNat → X.getD t 0 = Y.getD t 0) (fun x => (200 - x).toNat) (0) (by subst hL; rfl) ?_ ?_
    · exact ⟨by simp, by simp, fun t ht => by simp at ht⟩
    rintro i ⟨i0, i1, hI⟩ hfx ag hag
    conv => cbv
    simp only [stdEqs hL, imp_self, true_and, and_true, bif_or, bif_and, Bool.or_eq_true, Bool.or_eq_false_iff, Bool.and_eq_true, Bool.and_eq_false_iff, decide_eq_true_eq, decide_eq_false_iff_not, Bool.not_eq_true', Bool.not_eq_false', beq_iff_eq, beq_eq_false_iff_ne, ne_eq, toNat0, toNat1, ok_int, toI_int, I_frzs, I_length, I_getD, ok_ints, toL_slc, xl, yl, gx, gy]
    refine ⟨fun h2 => ⟨i0, by omega, by omega, i0, by omega, by omega, fun hne => ?_, fun heq => ?_⟩, fun h2 => ?_⟩
    · have hfd : fstD (codeK xs 201) (codeK ys 201) = some i.toNat := by
        rw [← hX, ← hY]
        exact fstD_some (by omega) hI hne
      rw [hr, e4, grt, hfd, wrap_id (n := i + 1) (by omega) (by omega)]
      simp only
      rw [show ((i.toNat : Nat) : Int) = i by omega]
    · rw [wrap_id (n := i + 1) (by omega) (by omega)]
      refine hag (i + 1) ⟨by omega, by omega, fun t ht => ?_⟩ (by omega)
      by_cases hti : t = i.toNat
      · rw [hti]; exact heq
      · exact hI t (by omega)
    · have hfd : fstD (codeK xs 201) (codeK ys 201) = none := by
        rw [← hX, ← hY]
        exact fstD_none fun t ht => hI t (by omega)
      rw [hr, e4, grt, hfd]
  · cases h
set_option maxHeartbeats 1000000 in
set_option maxRecDepth 100000 in
theorem s_spec_GreatestCommon : Sat Try.prog 20 (c_BB_ii f_gc q_IsIs2) := by
  intro args ps r h hp
  unfold c_BB_ii at h
  split at h
  · rename_i a0 a1
    simp only [Option.some.injEq, Prod.mk.injEq] at h
    obtain ⟨rfl, rfl⟩ := h
    obtain ⟨hq, hq1⟩ : q_IsIs2 a0 a1 := (alls_cons.1 hp).1
    obtain ⟨xs, hxs⟩ := hq.1
    obtain ⟨ys, hys⟩ := hq1.1
    have g1 : V.frzs a0 = a0 := by rw [hxs, I_frzs]
    have g2 : V.frzs a1 = a1 := by rw [hys, I_frzs]
    have e1 : f0_isBr a0 = isBr xs := by rw [hxs, f0_isBr, unI_I]
    have e2 : f0_isBr a1 = isBr ys := by rw [hys, f0_isBr, unI_I]
    have e3 : f_grt a0 a1 = grt xs ys := by rw [f_grt, hxs, hys, unI_I, unI_I]
    have e4 : f_gc a0 a1 = bif isBr xs && isBr ys then gc xs ys else (0, 1) := by rw [f_gc, hxs, hys, unI_I, unI_I]
    have e5 : gc xs ys = if grt xs ys = 0 then (0, 4) else (grt xs ys, 0) := by
      rw [gc, grt]
      cases fstD (codeK xs 201) (codeK ys 201) with
      | none => rfl
      | some i => simp only; rw [if_neg (by omega)]
    generalize H_f0_isBr : f0_isBr = F_f0_isBr
    generalize H_IsIs : IsIs = F_IsIs
    generalize H_f_grt : f_grt = F_f_grt
    generalize H_q_BB : q_BB = F_q_BB
    refine fnOk_ofI (T := tab) (B := [(32, c_b_bool F_f0_isBr F_IsIs), (48, c_BB_i F_f_grt F_q_BB)]) (Bi := []) [0, 1, 2, 3, 4, 5, 6] Try.func20 rfl rfl (by kernel_rfl) (Nat.le_of_ble_eq_true rfl) mixed tabOk (by subst H_f0_isBr H_IsIs H_f_grt H_q_BB; exact (bookCons s_spec_l03Is (bookCons s_spec_l10Greatest bookNil))) (by subst H_f0_isBr H_IsIs H_f_grt H_q_BB; exact bookINil) (by kernel_rfl) ?_
    intro L lp rr hL hr hf hlp
    conv => cbv
    simp only [stdEqs hL, imp_self, true_and, and_true, bif_or, bif_and, Bool.or_eq_true, Bool.or_eq_false_iff, Bool.and_eq_true, Bool.and_eq_false_iff, decide_eq_true_eq, decide_eq_false_iff_not, Bool.not_eq_true', Bool.not_eq_false', beq_iff_eq, beq_eq_false_iff_ne, ne_eq, toNat0, toNat1, ok_int, toI_int, I_frzs, I_length, I_getD, ok_ints, toL_slc, g1, g2]
    subst H_f0_isBr H_IsIs H_f_grt H_q_BB
    simp only [e1, e2, e3]
    refine ⟨hq, fun _ => hq1, fun h => ?_, fun h => ?_⟩
    · have hz : (isBr xs && isBr ys) = false := by rcases h with h | h <;> simp [h]
      rw [hr, e4, hz]; rfl
    have e4' : f_gc a0 a1 = gc xs ys := by rw [e4, h.1, h.2]; rfl
    refine ⟨⟨⟨xs, hxs, br_of h.1⟩, ⟨ys, hys, br_of h.2⟩⟩, fun h2 => ?_, fun h2 => ?_⟩
    · rw [hr, e4', e5, if_pos h2]
    · rw [hr, e4', e5, if_neg h2]
  · cases h
end Go.Ax
