import Derived.Test.YtdibahknjbgdkaaB10p2
/-
  CanShare, IntersectionWith, PossibleIntersections: both sides, the laws. No conditions but those of the contracts.
-/
set_option linter.all false
namespace Go.Ax
open Go.Proofs

set_option maxHeartbeats 1000000 in
set_option maxRecDepth 100000 in
theorem s_impl_CanShare : Sat Try.prog 14 (c_BBi_bi f_cs q_IsIs3) := by
  intro args ps r h hp
  unfold c_BBi_bi at h
  split at h
  · rename_i a0 a1 a2
    simp only [Option.some.injEq, Prod.mk.injEq] at h
    obtain ⟨rfl, rfl⟩ := h
    obtain ⟨hq, hq1⟩ : q_IsIs3 a0 a1 a2 := (alls_cons.1 hp).1
    obtain ⟨xs, hxs⟩ := hq.1
    obtain ⟨ys, hys⟩ := hq1.1
    have g1 : V.frzs a0 = a0 := by rw [hxs, I_frzs]
    have g2 : V.frzs a1 = a1 := by rw [hys, I_frzs]
    obtain ⟨ck, hck⟩ : ∃ ck, ck = chk1 xs ys a2 := ⟨_, rfl⟩
    have eck : f_chk a0 a1 a2 = ck := by rw [f_chk, hxs, hys, unI_I, unI_I, hck]
    have hbr : ck = 0 → IsBr a0 ∧ IsBr a1 ∧ Br xs ∧ Br ys ∧ 1 ≤ a2 ∧ a2 ≤ 200 := fun h => by
      obtain ⟨h1, h2, h3, h4⟩ := chk1_0 (hck.symm.trans h)
      exact ⟨⟨xs, hxs, h1⟩, ⟨ys, hys, h2⟩, h1, h2, h3, h4⟩
    have esh : ∀ c, f_shr a0 a1 c = shr xs ys c.toNat := fun c => by rw [f_shr, hxs, hys, unI_I, unI_I]
    have eme : ∀ c, f_meet a0 a1 c = meet xs ys c.toNat := fun c => by rw [f_meet, hxs, hys, unI_I, unI_I]
    obtain ⟨vx, hvx⟩ : ∃ vx, vx = I (codeK xs 201) := ⟨_, rfl⟩
    obtain ⟨vy, hvy⟩ : ∃ vy, vy = I (codeK ys 201) := ⟨_, rfl⟩
    have ecd : f_codes a0 a1 = (vx, vy) := by rw [f_codes, hxs, hys, unI_I, unI_I, hvx, hvy]
    have fx : V.frzs vx = vx := by rw [hvx, I_frzs]
    have fy : V.frzs vy = vy := by rw [hvy, I_frzs]
    have ecs : ∀ c, f_csh vx vy c = shr xs ys c.toNat := fun c => by rw [f_csh, hvx, hvy, unI_I, unI_I, shr]
    have qcs : ∀ c, 1 ≤ c → c ≤ 200 → q_csh vx vy c := fun c h1 h2 => ⟨⟨_, hvx⟩, ⟨_, hvy⟩, h1, by rw [hvx, I_length, codeK_len]; omega, by rw [hvy, I_length, codeK_len]; omega⟩
    have hf0 : f_cs a0 a1 a2 = if ck = 0 then (shr xs ys a2.toNat, 0) else (false, ck) := by rw [f_cs, hxs, hys, unI_I, unI_I, hck]
    generalize H_f_chk : f_chk = F_f_chk
    generalize H_q_IsIs3 : q_IsIs3 = F_q_IsIs3
    generalize H_f_codes : f_codes = F_f_codes
    generalize H_q_BB : q_BB = F_q_BB
    generalize H_f_csh : f_csh = F_f_csh
    generalize H_q_csh : q_csh = F_q_csh
    refine fnOk_ofI (T := tab) (B := [(41, c_BBi_i F_f_chk F_q_IsIs3), (42, c_BB_ll F_f_codes F_q_BB), (43, c_lli_b F_f_csh F_q_csh)]) (Bi := []) [0, 1, 2, 3, 4, 6, 7, 8, 9, 10] Try.func14 rfl rfl (by kernel_rfl) (Nat.le_of_ble_eq_true rfl) mixed tabOk (by subst H_f_chk H_q_IsIs3 H_f_codes H_q_BB H_f_csh H_q_csh; exact (bookCons s_impl_checkShare (bookCons s_impl_codesOf (bookCons s_impl_canShare bookNil)))) (by subst H_f_chk H_q_IsIs3 H_f_codes H_q_BB H_f_csh H_q_csh; exact bookINil) (by kernel_rfl) ?_
    intro L lp rr hL hr hf hlp
    conv => cbv
    have E1 : F_f_chk a0 a1 a2 = ck := by rw [← H_f_chk, eck]
    have E2 : F_f_codes a0 a1 = (vx, vy) := by rw [← H_f_codes, ecd]
    simp only [stdEqs hL, imp_self, true_and, and_true, bif_or, bif_and, Bool.or_eq_true, Bool.or_eq_false_iff, Bool.and_eq_true, Bool.and_eq_false_iff, decide_eq_true_eq, decide_eq_false_iff_not, Bool.not_eq_true', Bool.not_eq_false', beq_iff_eq, beq_eq_false_iff_ne, ne_eq, toNat0, toNat1, ok_int, toI_int, I_frzs, I_length, I_getD, ok_ints, toL_slc, g1, g2, E1, E2, fx, fy]
    subst H_q_IsIs3 H_q_BB H_f_csh H_q_csh
    refine ⟨⟨hq, hq1⟩, fun h => ?_, fun h => ?_⟩
    · rw [hr, hf0, if_neg h]
    · obtain ⟨b1, b2, _, _, c1, c2⟩ := hbr h
      refine ⟨⟨b1, b2⟩, qcs _ c1 c2, ?_⟩
      rw [hr, hf0, if_pos h, ecs]
  · cases h
set_option maxHeartbeats 1000000 in
set_option maxRecDepth 100000 in
theorem s_spec_CanShare : Sat Try.prog 15 (c_BBi_bi f_cs q_IsIs3) := by
  intro args ps r h hp
  unfold c_BBi_bi at h
  split at h
  · rename_i a0 a1 a2
    simp only [Option.some.injEq, Prod.mk.injEq] at h
    obtain ⟨rfl, rfl⟩ := h
    obtain ⟨hq, hq1⟩ : q_IsIs3 a0 a1 a2 := (alls_cons.1 hp).1
    obtain ⟨xs, hxs⟩ := hq.1
    obtain ⟨ys, hys⟩ := hq1.1
    have g1 : V.frzs a0 = a0 := by rw [hxs, I_frzs]
    have g2 : V.frzs a1 = a1 := by rw [hys, I_frzs]
    obtain ⟨ck, hck⟩ : ∃ ck, ck = chk1 xs ys a2 := ⟨_, rfl⟩
    have eck : f_chk a0 a1 a2 = ck := by rw [f_chk, hxs, hys, unI_I, unI_I, hck]
    have hbr : ck = 0 → IsBr a0 ∧ IsBr a1 ∧ Br xs ∧ Br ys ∧ 1 ≤ a2 ∧ a2 ≤ 200 := fun h => by
      obtain ⟨h1, h2, h3, h4⟩ := chk1_0 (hck.symm.trans h)
      exact ⟨⟨xs, hxs, h1⟩, ⟨ys, hys, h2⟩, h1, h2, h3, h4⟩
    have esh : ∀ c, f_shr a0 a1 c = shr xs ys c.toNat := fun c => by rw [f_shr, hxs, hys, unI_I, unI_I]
    have eme : ∀ c, f_meet a0 a1 c = meet xs ys c.toNat := fun c => by rw [f_meet, hxs, hys, unI_I, unI_I]
    have hf0 : f_cs a0 a1 a2 = if ck = 0 then (shr xs ys a2.toNat, 0) else (false, ck) := by rw [f_cs, hxs, hys, unI_I, unI_I, hck]
    generalize H_f_chk : f_chk = F_f_chk
    generalize H_q_IsIs3 : q_IsIs3 = F_q_IsIs3
    generalize H_f_shr : f_shr = F_f_shr
    generalize H_q_shr : q_shr = F_q_shr
    refine fnOk_ofI (T := tab) (B := [(38, c_BBi_i F_f_chk F_q_IsIs3), (39, c_BBi_b F_f_shr F_q_shr)]) (Bi := []) [0, 1, 2, 3, 4, 6, 7, 8] Try.func15 rfl rfl (by kernel_rfl) (Nat.le_of_ble_eq_true rfl) mixed tabOk (by subst H_f_chk H_q_IsIs3 H_f_shr H_q_shr; exact (bookCons s_spec_l10Code (bookCons s_spec_l10Share bookNil))) (by subst H_f_chk H_q_IsIs3 H_f_shr H_q_shr; exact bookINil) (by kernel_rfl) ?_
    intro L lp rr hL hr hf hlp
    conv => cbv
    have E1 : F_f_chk a0 a1 a2 = ck := by rw [← H_f_chk, eck]
    simp only [stdEqs hL, imp_self, true_and, and_true, bif_or, bif_and, Bool.or_eq_true, Bool.or_eq_false_iff, Bool.and_eq_true, Bool.and_eq_false_iff, decide_eq_true_eq, decide_eq_false_iff_not, Bool.not_eq_true', Bool.not_eq_false', beq_iff_eq, beq_eq_false_iff_ne, ne_eq, toNat0, toNat1, ok_int, toI_int, I_frzs, I_length, I_getD, ok_ints, toL_slc, g1, g2, E1]
    subst H_q_IsIs3 H_f_shr H_q_shr
    refine ⟨⟨hq, hq1⟩, fun h => ?_, fun h => ?_⟩
    · rw [hr, hf0, if_neg h]
    · obtain ⟨b1, b2, _, _, c1, c2⟩ := hbr h
      refine ⟨⟨b1, b2, c1, c2⟩, ?_⟩
      rw [hr, hf0, if_pos h, esh]
  · cases h
def c_BBi_ii (f : List V → List V → Int → Int × Int) (q : List V → List V → Int → Prop) : Contract := fun
  | [.agg [.slc false 2 (.int .i64 0) a0], .agg [.slc false 2 (.int .i64 0) a1], .int .i64 a2] => some ([q a0 a1 a2], .tup [.int .i64 ((f a0 a1 a2).1), .int .i64 ((f a0 a1 a2).2)])
  | _ => none
def iw (xs ys : List Int) (c : Int) : Int × Int := if chk1 xs ys c = 0 then (bif shr xs ys c.toNat then (meet xs ys c.toNat, 0) else (0, 5)) else (0, chk1 xs ys c)
def f_iw (a b : List V) (c : Int) : Int × Int := iw (unI a) (unI b) c
set_option maxHeartbeats 1000000 in
set_option maxRecDepth 100000 in
theorem s_impl_IntersectionWith : Sat Try.prog 12 (c_BBi_ii f_iw q_IsIs3) := by
  intro args ps r h hp
  unfold c_BBi_ii at h
  split at h
  · rename_i a0 a1 a2
    simp only [Option.some.injEq, Prod.mk.injEq] at h
    obtain ⟨rfl, rfl⟩ := h
    obtain ⟨hq, hq1⟩ : q_IsIs3 a0 a1 a2 := (alls_cons.1 hp).1
    obtain ⟨xs, hxs⟩ := hq.1
    obtain ⟨ys, hys⟩ := hq1.1
    have g1 : V.frzs a0 = a0 := by rw [hxs, I_frzs]
    have g2 : V.frzs a1 = a1 := by rw [hys, I_frzs]
    obtain ⟨ck, hck⟩ : ∃ ck, ck = chk1 xs ys a2 := ⟨_, rfl⟩
    have eck : f_chk a0 a1 a2 = ck := by rw [f_chk, hxs, hys, unI_I, unI_I, hck]
    have hbr : ck = 0 → IsBr a0 ∧ IsBr a1 ∧ Br xs ∧ Br ys ∧ 1 ≤ a2 ∧ a2 ≤ 200 := fun h => by
      obtain ⟨h1, h2, h3, h4⟩ := chk1_0 (hck.symm.trans h)
      exact ⟨⟨xs, hxs, h1⟩, ⟨ys, hys, h2⟩, h1, h2, h3, h4⟩
    have esh : ∀ c, f_shr a0 a1 c = shr xs ys c.toNat := fun c => by rw [f_shr, hxs, hys, unI_I, unI_I]
    have eme : ∀ c, f_meet a0 a1 c = meet xs ys c.toNat := fun c => by rw [f_meet, hxs, hys, unI_I, unI_I]
    have hf0 : f_iw a0 a1 a2 = if ck = 0 then (bif shr xs ys a2.toNat then (meet xs ys a2.toNat, 0) else (0, 5)) else (0, ck) := by rw [f_iw, hxs, hys, unI_I, unI_I, iw, hck]
    have ecs : f_cs a0 a1 a2 = if ck = 0 then (shr xs ys a2.toNat, 0) else (false, ck) := by rw [f_cs, hxs, hys, unI_I, unI_I, hck]
    obtain ⟨ok, cc, hoc⟩ : ∃ ok cc, (ok, cc) = f_cs a0 a1 a2 := ⟨_, _, rfl⟩
    rw [← hoc] at ecs
    generalize H_f_cs : f_cs = F_f_cs
    generalize H_q_IsIs3 : q_IsIs3 = F_q_IsIs3
    generalize H_f_meet : f_meet = F_f_meet
    generalize H_q_meet : q_meet = F_q_meet
    refine fnOk_ofI (T := tab) (B := [(14, c_BBi_bi F_f_cs F_q_IsIs3), (37, c_BBi_i F_f_meet F_q_meet)]) (Bi := []) [0, 1, 2, 3, 4, 6, 7, 8, 9] Try.func12 rfl rfl (by kernel_rfl) (Nat.le_of_ble_eq_true rfl) mixed tabOk (by subst H_f_cs H_q_IsIs3 H_f_meet H_q_meet; exact (bookCons s_impl_CanShare (bookCons s_impl_intersection bookNil))) (by subst H_f_cs H_q_IsIs3 H_f_meet H_q_meet; exact bookINil) (by kernel_rfl) ?_
    intro L lp rr hL hr hf hlp
    conv => cbv
    have E1 : F_f_cs a0 a1 a2 = (ok, cc) := by rw [← H_f_cs, hoc]
    simp only [stdEqs hL, imp_self, true_and, and_true, bif_or, bif_and, Bool.or_eq_true, Bool.or_eq_false_iff, Bool.and_eq_true, Bool.and_eq_false_iff, decide_eq_true_eq, decide_eq_false_iff_not, Bool.not_eq_true', Bool.not_eq_false', beq_iff_eq, beq_eq_false_iff_ne, ne_eq, toNat0, toNat1, ok_int, toI_int, I_frzs, I_length, I_getD, ok_ints, toL_slc, g1, g2, E1]
    subst H_q_IsIs3 H_f_meet H_q_meet
    by_cases hz : ck = 0
    · rw [if_pos hz] at ecs hf0
      obtain ⟨rfl, rfl⟩ := Prod.mk.injEq .. ▸ ecs
      obtain ⟨b1, b2, _, _, c1, c2⟩ := hbr hz
      refine ⟨⟨hq, hq1⟩, fun h => absurd rfl h, fun _ => ⟨fun h => ?_, fun h => ⟨⟨b1, b2, c1, by omega⟩, ?_⟩⟩⟩
      · rw [hr, hf0, h]; rfl
      · rw [hr, hf0, h, eme]; rfl
    · rw [if_neg hz] at ecs hf0
      obtain ⟨rfl, rfl⟩ := Prod.mk.injEq .. ▸ ecs
      refine ⟨⟨hq, hq1⟩, fun h => ?_, fun h => absurd h hz⟩
      rw [hr, hf0]
  · cases h
set_option maxHeartbeats 1000000 in
set_option maxRecDepth 100000 in
theorem s_spec_IntersectionWith : Sat Try.prog 13 (c_BBi_ii f_iw q_IsIs3) := by
  intro args ps r h hp
  unfold c_BBi_ii at h
  split at h
  · rename_i a0 a1 a2
    simp only [Option.some.injEq, Prod.mk.injEq] at h
    obtain ⟨rfl, rfl⟩ := h
    obtain ⟨hq, hq1⟩ : q_IsIs3 a0 a1 a2 := (alls_cons.1 hp).1
    obtain ⟨xs, hxs⟩ := hq.1
    obtain ⟨ys, hys⟩ := hq1.1
    have g1 : V.frzs a0 = a0 := by rw [hxs, I_frzs]
    have g2 : V.frzs a1 = a1 := by rw [hys, I_frzs]
    obtain ⟨ck, hck⟩ : ∃ ck, ck = chk1 xs ys a2 := ⟨_, rfl⟩
    have eck : f_chk a0 a1 a2 = ck := by rw [f_chk, hxs, hys, unI_I, unI_I, hck]
    have hbr : ck = 0 → IsBr a0 ∧ IsBr a1 ∧ Br xs ∧ Br ys ∧ 1 ≤ a2 ∧ a2 ≤ 200 := fun h => by
      obtain ⟨h1, h2, h3, h4⟩ := chk1_0 (hck.symm.trans h)
      exact ⟨⟨xs, hxs, h1⟩, ⟨ys, hys, h2⟩, h1, h2, h3, h4⟩
    have esh : ∀ c, f_shr a0 a1 c = shr xs ys c.toNat := fun c => by rw [f_shr, hxs, hys, unI_I, unI_I]
    have eme : ∀ c, f_meet a0 a1 c = meet xs ys c.toNat := fun c => by rw [f_meet, hxs, hys, unI_I, unI_I]
    have hf0 : f_iw a0 a1 a2 = if ck = 0 then (bif shr xs ys a2.toNat then (meet xs ys a2.toNat, 0) else (0, 5)) else (0, ck) := by rw [f_iw, hxs, hys, unI_I, unI_I, iw, hck]
    generalize H_f_chk : f_chk = F_f_chk
    generalize H_q_IsIs3 : q_IsIs3 = F_q_IsIs3
    generalize H_f_shr : f_shr = F_f_shr
    generalize H_q_shr : q_shr = F_q_shr
    generalize H_f_meet : f_meet = F_f_meet
    generalize H_q_meet : q_meet = F_q_meet
    refine fnOk_ofI (T := tab) (B := [(38, c_BBi_i F_f_chk F_q_IsIs3), (39, c_BBi_b F_f_shr F_q_shr), (40, c_BBi_i F_f_meet F_q_meet)]) (Bi := []) [0, 1, 2, 3, 4, 6, 7, 8] Try.func13 rfl rfl (by kernel_rfl) (Nat.le_of_ble_eq_true rfl) mixed tabOk (by subst H_f_chk H_q_IsIs3 H_f_shr H_q_shr H_f_meet H_q_meet; exact (bookCons s_spec_l10Code (bookCons s_spec_l10Share (bookCons s_spec_l09Meet bookNil)))) (by subst H_f_chk H_q_IsIs3 H_f_shr H_q_shr H_f_meet H_q_meet; exact bookINil) (by kernel_rfl) ?_
    intro L lp rr hL hr hf hlp
    conv => cbv
    have E1 : F_f_chk a0 a1 a2 = ck := by rw [← H_f_chk, eck]
    simp only [stdEqs hL, imp_self, true_and, and_true, bif_or, bif_and, Bool.or_eq_true, Bool.or_eq_false_iff, Bool.and_eq_true, Bool.and_eq_false_iff, decide_eq_true_eq, decide_eq_false_iff_not, Bool.not_eq_true', Bool.not_eq_false', beq_iff_eq, beq_eq_false_iff_ne, ne_eq, toNat0, toNat1, ok_int, toI_int, I_frzs, I_length, I_getD, ok_ints, toL_slc, g1, g2, E1]
    subst H_q_IsIs3 H_f_shr H_q_shr H_f_meet H_q_meet
    refine ⟨⟨hq, hq1⟩, fun h => ?_, fun h => ⟨fun _ => ?_, fun h5 => absurd h5 (by decide)⟩, fun h => ⟨fun h2 => ?_, fun h2 => ?_⟩⟩
    · obtain ⟨b1, b2, _, _, c1, c2⟩ := hbr h
      exact ⟨b1, b2, c1, c2⟩
    · have h2 := h.2
      rw [esh] at h2
      rw [hr, hf0, if_pos h.1, h2]; rfl
    · rw [hr, hf0, if_neg h2]
    · obtain ⟨b1, b2, _, _, c1, c2⟩ := hbr h2
      have h3 := h.resolve_left (fun h => h h2)
      rw [esh] at h3
      refine ⟨⟨b1, b2, c1, by omega⟩, ?_⟩
      rw [hr, hf0, if_pos h2, h3, eme]; rfl
  · cases h
def posL (xs ys : List Int) : Nat → List Int
  | 0 => []
  | n + 1 => posL xs ys n ++ (bif shr xs ys (n + 1) then [meet xs ys (n + 1)] else [])
def c_BBi_li (f : List V → List V → Int → List V × Int) (q : List V → List V → Int → Prop) : Contract := fun
  | [.agg [.slc false 2 (.int .i64 0) a0], .agg [.slc false 2 (.int .i64 0) a1], .int .i64 a2] => some ([q a0 a1 a2], .tup [.slc true 2 (.int .i64 0) ((f a0 a1 a2).1), .int .i64 ((f a0 a1 a2).2)])
  | _ => none
def f_pos (a b : List V) (c : Int) : List V × Int := if chk1 (unI a) (unI b) c = 0 then (I (posL (unI a) (unI b) c.toNat), 0) else ([], chk1 (unI a) (unI b) c)
theorem posL_len (xs ys : List Int) : ∀ n, (posL xs ys n).length ≤ n
  | 0 => by simp [posL]
  | n + 1 => by
    have := posL_len xs ys n
    rw [posL, List.length_append]
    cases shr xs ys (n + 1) <;> simp <;> omega
set_option maxHeartbeats 1000000 in
set_option maxRecDepth 100000 in
theorem s_impl_PossibleIntersections : Sat Try.prog 17 (c_BBi_li f_pos q_IsIs3) := by
  intro args ps r h hp
  unfold c_BBi_li at h
  split at h
  · rename_i a0 a1 a2
    simp only [Option.some.injEq, Prod.mk.injEq] at h
    obtain ⟨rfl, rfl⟩ := h
    obtain ⟨hq, hq1⟩ : q_IsIs3 a0 a1 a2 := (alls_cons.1 hp).1
    obtain ⟨xs, hxs⟩ := hq.1
    obtain ⟨ys, hys⟩ := hq1.1
    have g1 : V.frzs a0 = a0 := by rw [hxs, I_frzs]
    have g2 : V.frzs a1 = a1 := by rw [hys, I_frzs]
    obtain ⟨ck, hck⟩ : ∃ ck, ck = chk1 xs ys a2 := ⟨_, rfl⟩
    have eck : f_chk a0 a1 a2 = ck := by rw [f_chk, hxs, hys, unI_I, unI_I, hck]
    have hbr : ck = 0 → IsBr a0 ∧ IsBr a1 ∧ Br xs ∧ Br ys ∧ 1 ≤ a2 ∧ a2 ≤ 200 := fun h => by
      obtain ⟨h1, h2, h3, h4⟩ := chk1_0 (hck.symm.trans h)
      exact ⟨⟨xs, hxs, h1⟩, ⟨ys, hys, h2⟩, h1, h2, h3, h4⟩
    have esh : ∀ c, f_shr a0 a1 c = shr xs ys c.toNat := fun c => by rw [f_shr, hxs, hys, unI_I, unI_I]
    have eme : ∀ c, f_meet a0 a1 c = meet xs ys c.toNat := fun c => by rw [f_meet, hxs, hys, unI_I, unI_I]
    obtain ⟨vx, hvx⟩ : ∃ vx, vx = I (codeK xs 201) := ⟨_, rfl⟩
    obtain ⟨vy, hvy⟩ : ∃ vy, vy = I (codeK ys 201) := ⟨_, rfl⟩
    have ecd : f_codes a0 a1 = (vx, vy) := by rw [f_codes, hxs, hys, unI_I, unI_I, hvx, hvy]
    have fx : V.frzs vx = vx := by rw [hvx, I_frzs]
    have fy : V.frzs vy = vy := by rw [hvy, I_frzs]
    have ecs : ∀ c, f_csh vx vy c = shr xs ys c.toNat := fun c => by rw [f_csh, hvx, hvy, unI_I, unI_I, shr]
    have qcs : ∀ c, 1 ≤ c → c ≤ 200 → q_csh vx vy c := fun c h1 h2 => ⟨⟨_, hvx⟩, ⟨_, hvy⟩, h1, by rw [hvx, I_length, codeK_len]; omega, by rw [hvy, I_length, codeK_len]; omega⟩
    have hf0 : f_pos a0 a1 a2 = if ck = 0 then (I (posL xs ys a2.toNat), 0) else ([], ck) := by rw [f_pos, hxs, hys, unI_I, unI_I, hck]
    generalize H_f_chk : f_chk = F_f_chk
    generalize H_q_IsIs3 : q_IsIs3 = F_q_IsIs3
    generalize H_f_codes : f_codes = F_f_codes
    generalize H_q_BB : q_BB = F_q_BB
    generalize H_f_csh : f_csh = F_f_csh
    generalize H_q_csh : q_csh = F_q_csh
    generalize H_f_meet : f_meet = F_f_meet
    generalize H_q_meet : q_meet = F_q_meet
    refine fnOk_ofI (T := tab) (B := [(41, c_BBi_i F_f_chk F_q_IsIs3), (42, c_BB_ll F_f_codes F_q_BB), (43, c_lli_b F_f_csh F_q_csh), (37, c_BBi_i F_f_meet F_q_meet)]) (Bi := []) [0, 1, 2, 3, 4, 6, 7, 8, 9, 10, 11, 12] Try.func17 rfl rfl (by kernel_rfl) (Nat.le_of_ble_eq_true rfl) mixed tabOk (by subst H_f_chk H_q_IsIs3 H_f_codes H_q_BB H_f_csh H_q_csh H_f_meet H_q_meet; exact (bookCons s_impl_checkShare (bookCons s_impl_codesOf (bookCons s_impl_canShare (bookCons s_impl_intersection bookNil))))) (by subst H_f_chk H_q_IsIs3 H_f_codes H_q_BB H_f_csh H_q_csh H_f_meet H_q_meet; exact bookINil) (by kernel_rfl) ?_
    intro L lp rr hL hr hf hlp
    conv => cbv
    have E1 : F_f_chk a0 a1 a2 = ck := by rw [← H_f_chk, eck]
    have E2 : F_f_codes a0 a1 = (vx, vy) := by rw [← H_f_codes, ecd]
    simp only [stdEqs hL, imp_self, true_and, and_true, bif_or, bif_and, Bool.or_eq_true, Bool.or_eq_false_iff, Bool.and_eq_true, Bool.and_eq_false_iff, decide_eq_true_eq, decide_eq_false_iff_not, Bool.not_eq_true', Bool.not_eq_false', beq_iff_eq, beq_eq_false_iff_ne, ne_eq, toNat0, toNat1, ok_int, toI_int, I_frzs, I_length, I_getD, ok_ints, toL_slc, g1, g2, E1, E2, fx, fy]
    subst H_q_IsIs3 H_q_BB
    refine ⟨⟨hq, hq1⟩, fun h => ?_, fun h => ?_⟩
    · rw [hr, hf0, if_neg h]
    obtain ⟨b1, b2, _, _, c1, c2⟩ := hbr h
    have E3 : ∀ c, F_f_csh vx vy c = shr xs ys c.toNat := by rw [← H_f_csh]; exact ecs
    have Q3 : ∀ c, 1 ≤ c → c ≤ 200 → F_q_csh vx vy c := by rw [← H_q_csh]; exact qcs
    have E4 : ∀ c, F_f_meet a0 a1 c = meet xs ys c.toNat := by rw [← H_f_meet]; exact eme
    have Q4 : ∀ c, 1 ≤ c → c ≤ 200 → F_q_meet a0 a1 c := by rw [← H_q_meet]; exact fun c h1 h2 => ⟨b1, b2, h1, by omega⟩
    refine ⟨⟨b1, b2⟩, ?_⟩
    refine hlp (List V × Int) _ _ _ [2, 3, 4, 9, 10, 11, 12] (fun x => [(2, none, .val (.int .i64 a2)), (3, none, .val (.box 26 (.agg [.slc false 2 (.int .i64 0) a0]))), (4, none, .val (.box 26 (.agg [.slc false 2 (.int .i64 0) a1]))), (9, none, .val (.slc true 2 (.int .i64 0) vx)), (10, none, .val (.slc true 2 (.int .i64 0) vy)), (11, none, .val (.slc true 2 (.int .i64 0) x.1)), (12, none, .val (.int .i64 x.2))])
      (fun x => 1 ≤ x.2 ∧ x.2 ≤ a2 + 1 ∧ x.1 = I (posL xs ys (x.2 - 1).toNat)) (fun x => (a2 + 1 - x.2).toNat) (([], 1)) (by subst hL; rfl) ?_ ?_
    · exact ⟨by simp, by simp only; omega, by simp [posL]⟩
    rintro ⟨es, c⟩ ⟨i0, i1, hI⟩ hfx ag hag
    simp only at i0 i1 hI
    conv => cbv
    simp only [stdEqs hL, imp_self, true_and, and_true, bif_or, bif_and, Bool.or_eq_true, Bool.or_eq_false_iff, Bool.and_eq_true, Bool.and_eq_false_iff, decide_eq_true_eq, decide_eq_false_iff_not, Bool.not_eq_true', Bool.not_eq_false', beq_iff_eq, beq_eq_false_iff_ne, ne_eq, toNat0, toNat1, ok_int, toI_int, I_frzs, I_length, I_getD, ok_ints, toL_slc, g1, g2, fx, fy, E3, E4]
    have hw : IntKind.wrap .i64 (c + 1) = c + 1 := wrap_id (by omega) (by omega)
    have pS : c ≤ a2 → posL xs ys (c + 1 - 1).toNat = posL xs ys (c - 1).toNat ++ (bif shr xs ys c.toNat then [meet xs ys c.toNat] else []) := fun _ => by
      rw [show (c + 1 - 1).toNat = (c - 1).toNat + 1 by omega, posL, show (c - 1).toNat + 1 = c.toNat by omega]
    have esl : es.length ≤ 200 := by
      rw [hI, I_length]
      have := posL_len xs ys (c - 1).toNat
      omega
    refine ⟨fun h2 => ⟨Q3 _ i0 (by omega), fun h3 => ⟨Q4 _ i0 (by omega), ?_⟩, fun h3 => ?_⟩, fun h2 => ?_⟩
    · (repeat' first | (exact solid_one _) | (exact solid1 rfl) | (exact noown_one _) | (apply And.intro) | (intro _)) <;> (try first | exact True.intro | omega | rfl | (simp only [List.length_cons, List.length_nil, I_length]; omega))
      rw [hw]
      refine hag (_, c + 1) ⟨by simp only; omega, by simp only; omega, ?_⟩ (by simp only; omega)
      simp only
      rw [pS h2, h3, cond_true, hI, ← I_append]
      rfl
    · rw [hw]
      refine hag (es, c + 1) ⟨by simp only; omega, by simp only; omega, ?_⟩ (by simp only; omega)
      simp only
      rw [pS h2, h3, cond_false, List.append_nil, hI]
    · rw [hr, hf0, if_pos h, hI, show (c - 1).toNat = a2.toNat by omega]
  · cases h
theorem FnOk.frz {P : Program} {k : FuncId} {args : List V} {r : V} (h : FnOk P k args r) : FnOk P k args r.frz := by
  refine ⟨h.1, fun vals w F h1 h2 h3 cs => ?_⟩
  obtain ⟨e, w', fr, ⟨v, cs', On, Fr, k1, k2, k3, k4, k5, k6⟩, r2⟩ := h.2 vals w F h1 h2 h3 cs
  refine ⟨e, w', fr, ⟨v, cs', fun _ => False, fun b => On b ∨ Fr b, k1, V.frz_reg k2, k3.frz.mono (fun b hb => ?_) (fun _ h => h), fun b hb => k4 b (hb.resolve_left id), fun _ h => h.elim, k6⟩, r2⟩
  rcases hb with (h | h) | h
  · exact .inl h
  · exact .inr (.inr h)
  · exact .inr (.inl h)
end Go.Ax
