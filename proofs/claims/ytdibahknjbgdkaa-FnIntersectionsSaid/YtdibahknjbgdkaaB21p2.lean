import Derived.Test.YtdibahknjbgdkaaB13p2
import Derived.Test.YtdibahknjbgdkaaB18p2
import Derived.Test.YtdibahknjbgdkaaB20p2
/-
  The law of intersections, at all that is drawn. No conditions but those of the contracts.
-/
set_option linter.all false
namespace Go.Ax
open Go.Proofs

set_option maxHeartbeats 1000000 in
set_option maxRecDepth 100000 in
theorem s_laws_FnIntersections : Sat Try.prog 4 (c_u_b yesU q_by) := by
  intro args ps r h hp
  unfold c_u_b at h
  split at h
  · rename_i a0
    simp only [Option.some.injEq, Prod.mk.injEq] at h
    obtain ⟨rfl, rfl⟩ := h
    have hq : q_by a0 := (alls_cons.1 hp).1
    have hfr : V.frzs a0 = a0 := by
      obtain ⟨xs, hxs, _⟩ := hq
      rw [hxs, U8_frzs]
    obtain ⟨A, B, c, hpr⟩ : ∃ A B c, f_pr a0 = (I A, I B, c) := ⟨_, _, _, rfl⟩
    obtain ⟨X, Y, hdg⟩ : ∃ X Y, f_dgc a0 = (I X, I Y) := ⟨_, _, rfl⟩
    obtain ⟨D, di, hds⟩ : ∃ D di, f_dsr a0 = (I D, di) := ⟨_, _, rfl⟩
    obtain ⟨n, w, hiw⟩ : ∃ n w, iw A B c = (n, w) := ⟨_, _, rfl⟩
    obtain ⟨ok, z, hcs⟩ : ∃ ok z, f_cs (I A) (I B) c = (ok, z) := ⟨_, _, rfl⟩
    have hwz : z = 0 → ok = (w == 0) := fun hz => by
      rw [f_cs, unI_I, unI_I] at hcs
      rw [iw] at hiw
      by_cases h : chk1 A B c = 0
      · rw [if_pos h] at hcs hiw
        simp only [Prod.mk.injEq] at hcs
        rw [hcs.1] at hiw
        cases ok with
        | false =>
          simp only [cond_false, Prod.mk.injEq] at hiw
          rw [← hiw.2]; rfl
        | true =>
          simp only [cond_true, Prod.mk.injEq] at hiw
          rw [← hiw.2]; rfl
      · rw [if_neg h] at hcs
        simp only [Prod.mk.injEq] at hcs
        exact absurd (hcs.2.trans hz) h
    have hw0 : w = 0 → (Br A ∧ Br B ∧ 1 ≤ c ∧ c ≤ 200) ∧ shr A B c.toNat = true ∧ n = meet A B c.toNat ∧ f_pos (I A) (I B) c = (I (posL A B c.toNat), 0) := fun hz => by
      rw [iw] at hiw
      by_cases h : chk1 A B c = 0
      · rw [if_pos h] at hiw
        cases hs : shr A B c.toNat with
        | false =>
          rw [hs] at hiw
          simp only [cond_false, Prod.mk.injEq] at hiw
          exact absurd (hiw.2.trans hz) (by decide)
        | true =>
          rw [hs] at hiw
          simp only [cond_true, Prod.mk.injEq] at hiw
          exact ⟨chk1_0 h, rfl, hiw.1.symm, by rw [f_pos, unI_I, unI_I, if_pos h]⟩
      · rw [if_neg h] at hiw
        simp only [Prod.mk.injEq] at hiw
        exact absurd (hiw.2.trans hz) h
    obtain ⟨gm, gz, hgc⟩ : ∃ gm gz, f_gc (I X) (I Y) = (gm, gz) := ⟨_, _, rfl⟩
    have hgc0 : gz = 0 → 1 ≤ gm ∧ gm ≤ 200 ∧ f_cs (I X) (I Y) gm = (true, 0) ∧ (gm < 200 → f_cs (I X) (I Y) (gm + 1) = (false, 0)) := fun hz => by
      rw [f_gc, unI_I, unI_I] at hgc
      cases hb : isBr X && isBr Y with
      | false =>
        rw [hb] at hgc
        simp only [cond_false, Prod.mk.injEq] at hgc
        exact absurd (hgc.2.trans hz) (by decide)
      | true =>
        rw [hb, hz] at hgc
        obtain ⟨g1, g2, g3, g4⟩ := gc_shr hgc
        have hin : ∀ x : Int, 1 ≤ x → x ≤ 200 → chk1 X Y x = 0 := fun x h1 h2 => by
          have : inRange x 1 200 = true := by simp only [inRange, Bool.and_eq_true, decide_eq_true_eq]; omega
          rw [chk1, hb, this]; rfl
        refine ⟨g1, g2, ?_, fun h => ?_⟩
        · rw [f_cs, unI_I, unI_I, if_pos (hin gm g1 g2), g3]
        · rw [f_cs, unI_I, unI_I, if_pos (hin (gm + 1) (by omega) (by omega)), g4 h]
    obtain ⟨R, sc, hsr⟩ : ∃ R sc, sr D di = (R, sc) := ⟨_, _, rfl⟩
    have hsc0 : sc = 0 → ∃ k : Nat, Br D ∧ k + 1 < D.length ∧ di = (k : Int) + 1 ∧ R = sroot D k := fun hz => by
      unfold sr at hsr
      cases hb : isBr D with
      | false =>
        rw [hb] at hsr
        simp only [Bool.not_false, cond_true, Prod.mk.injEq] at hsr
        exact absurd (hsr.2.trans hz) (by decide)
      | true =>
        have bD := br_of hb
        have hl := bD.len
        have hp := bD.pos
        rw [hb, wrap_id (n := (D.length : Int) - 1) (by omega) (by omega)] at hsr
        cases hi : inRange di 1 ((D.length : Int) - 1) with
        | false =>
          rw [hi] at hsr
          simp only [Bool.not_true, Bool.not_false, cond_false, cond_true, Prod.mk.injEq] at hsr
          exact absurd (hsr.2.trans hz) (by decide)
        | true =>
          rw [hi] at hsr
          simp only [Bool.not_true, cond_false, Prod.mk.injEq] at hsr
          simp only [inRange, Bool.and_eq_true, decide_eq_true_eq] at hi
          refine ⟨(di - 1).toNat, bD, by omega, by omega, ?_⟩
          rw [← hsr.1, wrap_id (by omega) (by omega), sroot, show ((di - 1).toNat : Int) = di - 1 by omega]
    generalize H_f_big : f_big = F_f_big
    generalize H_q_any : q_any = F_q_any
    generalize H_f_pr : f_pr = F_f_pr
    generalize H_IsU : IsU = F_IsU
    generalize H_f_iw : f_iw = F_f_iw
    generalize H_q_IsIs3 : q_IsIs3 = F_q_IsIs3
    generalize H_f_cs : f_cs = F_f_cs
    generalize H_f_in : f_in = F_f_in
    generalize H_q_Cii : q_Cii = F_q_Cii
    generalize H_f_pos : f_pos = F_f_pos
    generalize H_f_dgc : f_dgc = F_f_dgc
    generalize H_f_gc : f_gc = F_f_gc
    generalize H_q_IsIs2 : q_IsIs2 = F_q_IsIs2
    generalize H_f_dsr : f_dsr = F_f_dsr
    generalize H_f0_sr : f0_sr = F_f0_sr
    generalize H_f1_sr : f1_sr = F_f1_sr
    generalize H_IsIs : IsIs = F_IsIs
    generalize H_f_like : f_like = F_f_like
    generalize H_q_like : q_like = F_q_like
    generalize H_f_gnr : f_gnr = F_f_gnr
    refine fnOk_ofI (T := tab) (B := [(5, c_u_b F_f_big F_q_any), (11, c_u_AAi F_f_pr F_IsU), (12, c_BBi_ii F_f_iw F_q_IsIs3), (13, c_BBi_ii F_f_iw F_q_IsIs3), (14, c_BBi_bi F_f_cs F_q_IsIs3), (15, c_BBi_bi F_f_cs F_q_IsIs3), (16, c_Cii_ii F_f_in F_q_Cii), (17, c_BBi_li F_f_pos F_q_IsIs3), (18, c_u_AA F_f_dgc F_IsU), (19, c_BB_ii F_f_gc F_q_IsIs2), (20, c_BB_ii F_f_gc F_q_IsIs2), (21, c_u_Ai F_f_dsr F_IsU), (22, c_SemirootOf F_f0_sr F_f1_sr F_IsIs), (23, c_SemirootOf F_f0_sr F_f1_sr F_IsIs), (24, c_ll_b F_f_like F_q_like), (25, c_B_li F_f_gnr F_IsIs)]) (Bi := []) [0, 2, 3, 4, 5, 6, 7, 8, 9, 10, 11, 12, 13, 14, 15, 16, 17, 18, 19, 20, 21, 22, 23, 24, 25, 26, 27, 28, 29, 30, 31, 32, 33, 34, 35, 36, 37, 38, 39, 40, 41] Try.func4 rfl rfl (by kernel_rfl) (Nat.le_of_ble_eq_true rfl) mixed tabOk (by subst H_f_big H_q_any H_f_pr H_IsU H_f_iw H_q_IsIs3 H_f_cs H_f_in H_q_Cii H_f_pos H_f_dgc H_f_gc H_q_IsIs2 H_f_dsr H_f0_sr H_f1_sr H_IsIs H_f_like H_q_like H_f_gnr; exact (bookCons s_laws_big (bookCons s_spec_DrawIntersectionWith (bookCons s_impl_IntersectionWith (bookCons s_spec_IntersectionWith (bookCons s_impl_CanShare (bookCons s_spec_CanShare (bookCons s_impl_IntersectionNumber (bookCons s_impl_PossibleIntersections (bookCons s_spec_DrawGreatestCommon (bookCons s_impl_GreatestCommon (bookCons s_spec_GreatestCommon (bookCons s_spec_DrawSemirootOf (bookCons s_impl_SemirootOf (bookCons s_spec_SemirootOf (bookCons s_laws_likeInts (bookCons s_impl_GeneratorsOf bookNil))))))))))))))))) (by subst H_f_big H_q_any H_f_pr H_IsU H_f_iw H_q_IsIs3 H_f_cs H_f_in H_q_Cii H_f_pos H_f_dgc H_f_gc H_q_IsIs2 H_f_dsr H_f0_sr H_f1_sr H_IsIs H_f_like H_q_like H_f_gnr; exact bookINil) (by kernel_rfl) ?_
    intro L lp rr hL hr hf hlp
    have E0 : F_f_big a0 = f_big a0 := by rw [← H_f_big]
    have E1 : F_f_pr a0 = (I A, I B, c) := by rw [← H_f_pr, hpr]
    have E2 : F_f_dgc a0 = (I X, I Y) := by rw [← H_f_dgc, hdg]
    have E3 : F_f_dsr a0 = (I D, di) := by rw [← H_f_dsr, hds]
    have yes : rr = .bool true := hr
    have E8 : F_f_gc (I X) (I Y) = (gm, gz) := by rw [← H_f_gc, hgc]
    have E8s : gz = 0 → 1 ≤ gm ∧ gm ≤ 200 ∧ F_f_cs (I X) (I Y) gm = (true, 0) ∧ (gm < 200 → F_f_cs (I X) (I Y) (gm + 1) = (false, 0)) := fun hz => by
      rw [← H_f_cs]
      exact hgc0 hz
    have E9 : F_f0_sr (I D) di = I R := by rw [← H_f0_sr, f0_sr, unI_I, hsr]
    have E9' : F_f1_sr (I D) di = sc := by rw [← H_f1_sr, f1_sr, unI_I, hsr]
    have Efl : F_f_like (I R) (I R) = true := by rw [← H_f_like, f_like]; simp
    have hsc : sc = 0 → ∃ k : Nat, Br D ∧ k + 1 < D.length ∧ di = (k : Int) + 1 ∧ R.length ≤ 64 ∧ F_f_gnr (I D) = (I (gens D), 0) ∧
        ((F_f_gc (I D) (I R)).2 = 0 ∨ (F_f_gc (I D) (I R)).2 = 4) ∧ ((F_f_gc (I D) (I R)).2 = 0 → F_f_iw (I D) (I R) (F_f_gc (I D) (I R)).1 = (genF D (k + 1), 0)) := fun hz => by
      obtain ⟨k, bD, hk, hdi, hR⟩ := hsc0 hz
      have bR : Br R := by rw [hR]; exact sroot_br bD hk
      obtain ⟨e, r, q, L', hS⟩ := semi_of bD hk
      rw [← hR] at hS
      have hg := semi_gc bD hS
      have hgc2 : f_gc (I D) (I R) = gc D R := by rw [f_gc, unI_I, unI_I, bD.is, bR.is]; rfl
      rw [← H_f_gnr, ← H_f_gc, ← H_f_iw, hgc2, hg]
      refine ⟨k, bD, hk, hdi, bR.len, by rw [f_gnr, unI_I, bD.is]; rfl, ?_, fun h0 => ?_⟩
      · split
        · exact .inl rfl
        · exact .inr rfl
      · by_cases hL : L' < 200
        · rw [if_pos hL] at hg ⊢
          obtain ⟨g1, g2, g3, _⟩ := gc_shr hg
          have hch : chk1 D R ((L' : Int) + 1) = 0 := by
            have : inRange ((L' : Int) + 1) 1 200 = true := by simp only [inRange, Bool.and_eq_true, decide_eq_true_eq]; omega
            rw [chk1, bD.is, bR.is, this]; rfl
          have hm := semi_meet bD bR hk hS hL
          rw [f_iw, unI_I, unI_I]
          show iw D R ((L' : Int) + 1) = _
          rw [iw, if_pos hch, g3, show ((L' : Int) + 1).toNat = L' + 1 by omega, hm]
          rfl
        · rw [if_neg hL] at h0
          exact absurd h0 (by decide)
    refine wpS_cut_of L tab lp _ _ _ _ _ 9 _ _ fun K1 hK1 => ?_
    conv => cbv
    have E4 : F_f_iw (I A) (I B) c = (n, w) := by rw [← H_f_iw, f_iw, unI_I, unI_I, hiw]
    have E5 : F_f_cs (I A) (I B) c = (ok, z) := by rw [← H_f_cs, hcs]
    simp only [stdEqs hL, imp_self, true_and, and_true, bif_or, bif_and, Bool.or_eq_true, Bool.or_eq_false_iff, Bool.and_eq_true, Bool.and_eq_false_iff, decide_eq_true_eq, decide_eq_false_iff_not, Bool.not_eq_true', Bool.not_eq_false', beq_iff_eq, beq_eq_false_iff_ne, ne_eq, toNat0, toNat1, ok_int, toI_int, I_frzs, I_length, I_getD, ok_ints, toL_slc, true_and, hfr, E0, E1, I_frzs, E4, E5]
    refine ⟨by rw [← H_q_any]; trivial, fun _ => yes.symm, fun h1 => ?_⟩
    have hu := by_big hq h1
    have s0 : q_src a0 0 (f0_from a0) := ⟨hu, Int.le_refl _, Int.natCast_nonneg _⟩
    have hA : IsIs (I A) ∧ IsIs (I B) := by
      rw [f_pr] at hpr
      simp only [Prod.mk.injEq] at hpr
      obtain ⟨_, t2, t3⟩ := twF_src s0
      rw [← hpr.1, ← hpr.2.1]
      exact ⟨⟨⟨_, rfl⟩, by rw [I_length]; exact Nat.le_trans t2 (by decide)⟩, ⟨_, rfl⟩, by rw [I_length]; exact Nat.le_trans t3 (by decide)⟩
    have Q3 : F_q_IsIs3 (I A) (I B) c := by rw [← H_q_IsIs3]; exact hA
    have Qu : F_IsU a0 := by rw [← H_IsU]; exact hu
    have hXY : IsIs (I X) ∧ IsIs (I Y) := by
      rw [f_dgc] at hdg
      simp only [Prod.mk.injEq] at hdg
      obtain ⟨_, t2, t3⟩ := twF_src s0
      rw [← hdg.1, ← hdg.2]
      exact ⟨⟨⟨_, rfl⟩, by rw [I_length]; exact Nat.le_trans t2 (by decide)⟩, ⟨_, rfl⟩, by rw [I_length]; exact Nat.le_trans t3 (by decide)⟩
    have Q2 : F_q_IsIs2 (I X) (I Y) := by rw [← H_q_IsIs2]; exact hXY
    have QX : ∀ v, F_q_IsIs3 (I X) (I Y) v := fun v => by rw [← H_q_IsIs3]; exact hXY
    have hDl : D.length ≤ 5 := by
      rw [f_dsr] at hds
      simp only [Prod.mk.injEq] at hds
      have := (spF_src s0).2
      have e : D = (spF a0 0 (f0_from a0)).1 := by
        have := congrArg unI hds.1
        rw [unI_I, unI_I] at this
        exact this.symm
      rw [e]; exact this
    have QD : IsIs (I D) := ⟨⟨D, rfl⟩, by rw [I_length]; omega⟩
    have QD' : F_IsIs (I D) := by rw [← H_IsIs]; exact QD
    have hRl : R.length ≤ 2147483647 := by
      have : R = (sr D di).1 := by rw [hsr]
      rw [this]
      unfold sr
      cases isBr D with
      | false => simp
      | true =>
        simp only [Bool.not_true, cond_false]
        cases inRange di 1 (IntKind.wrap .i64 ((D.length : Int) - 1)) with
        | false => simp
        | true => simp only [Bool.not_true, cond_false, cut, List.length_map, List.length_take]; omega
    have Ql : F_q_like (I R) (I R) := by rw [← H_q_like]; exact ⟨⟨_, rfl⟩, ⟨_, rfl⟩, by rw [I_length]; exact hRl⟩
    have QDR : F_q_IsIs2 (I D) (I R) := by rw [← H_q_IsIs2]; exact ⟨QD, ⟨R, rfl⟩, by rw [I_length]; exact hRl⟩
    have QDR3 : ∀ v, F_q_IsIs3 (I D) (I R) v := fun v => by rw [← H_q_IsIs3]; exact ⟨QD, ⟨R, rfl⟩, by rw [I_length]; exact hRl⟩
    refine ⟨by rw [← H_IsU]; exact hu, Q3, Q3, Q3, Q3, ?_⟩
    refine ⟨fun h => ?_, fun _ => ⟨fun h3 => ?_, fun _ => ?_⟩⟩
    · exfalso
      simp only [not_true, false_or] at h
      exact h.2 (hwz h.1)
    · obtain ⟨⟨bA, bB, c1, c2⟩, hs, hn, hpos⟩ := hw0 h3
      have E6 : F_f_pos (I A) (I B) c = (I (posL A B c.toNat), 0) := by rw [← H_f_pos, hpos]
      have E7 : F_f_in (BB false [A, B]) (II false [[0, c], [c, 0]]) 0 1 = (n, 0) := by rw [← H_f_in, two_in bA bB c1 c2 hs, hn]
      obtain ⟨pv, hpv⟩ : ∃ pv, pv = I (posL A B c.toNat) := ⟨_, rfl⟩
      rw [← hpv] at E6
      have hbb : V.frzs [V.agg [V.slc false 2 (.int .i64 0) (I A)], V.agg [V.slc false 2 (.int .i64 0) (I B)]] = BB false [A, B] := by simp only [V.frzs, V.frz, I_frzs]; rfl
      have hmm : V.frzs [V.slc true 2 (.int .i64 0) [V.int .i64 0, V.int .i64 c], V.slc true 2 (.int .i64 0) [V.int .i64 c, V.int .i64 0]] = II false [[0, c], [c, 0]] := rfl
      have QC : F_q_Cii (BB false [A, B]) (II false [[0, c], [c, 0]]) 0 1 := by
        rw [← H_q_Cii]
        have hl1 := bA.len
        have hl2 := bB.len
        refine ⟨⟨[A, B], rfl, by simp, fun x hx => ?_⟩, ⟨[[0, c], [c, 0]], rfl, by simp, fun x hx => ?_⟩⟩
        · simp only [List.mem_cons, List.not_mem_nil, or_false] at hx
          rcases hx with rfl | rfl <;> omega
        · simp only [List.mem_cons, List.not_mem_nil, or_false] at hx
          rcases hx with rfl | rfl <;> simp
      obtain ⟨pl1, pl2⟩ := posL_last (xs := A) (ys := B) (n := c.toNat) (by omega) hs
      have pasc := (posL_asc bA bB c.toNat (by omega)).1
      rw [← hn] at pl2
      have gp : ∀ k, pv.getD k (.int .i64 0) = .int .i64 ((posL A B c.toNat).getD k 0) := fun k => by rw [hpv, I_getD]
      have pll := posL_len A B c.toNat
      obtain ⟨m, hm⟩ : ∃ m : Int, m = pv.length := ⟨_, rfl⟩
      have hml : m = (posL A B c.toNat).length := by rw [hm, hpv, I_length]
      have hpvl : pv.length = (posL A B c.toNat).length := by rw [hpv, I_length]
      have wm : IntKind.wrap .i64 (m - 1) = m - 1 := wrap_id (by omega) (by omega)
      simp only [hbb, hmm, E7, E6, ← hm, wm, gp, stdEqs hL, imp_self, true_and, and_true, bif_or, bif_and, Bool.or_eq_true, Bool.or_eq_false_iff, Bool.and_eq_true, Bool.and_eq_false_iff, decide_eq_true_eq, decide_eq_false_iff_not, Bool.not_eq_true', Bool.not_eq_false', beq_iff_eq, beq_eq_false_iff_ne, ne_eq, toNat0, toNat1, ok_int, toI_int, I_frzs, I_length, I_getD, ok_ints, toL_slc, true_and]
      refine ⟨QC, Q3, fun _ => by omega, fun _ => by omega, fun _ => by omega, fun _ => trivial, fun h4 => ?_, fun h4 => ?_⟩
      · exfalso
        simp only [not_true, false_or] at h4
        rcases h4 with h4 | h4
        · omega
        · exact h4 (by rw [show (m - 1).toNat = (posL A B c.toNat).length - 1 by omega]; exact pl2)
      refine hlp (Int) _ _ _ [0, 17, 19] (fun x => [(0, none, .val (.slc false 5 (.int .u8 0) a0)), (17, none, .val (.slc true 2 (.int .i64 0) pv)), (19, none, .val (.int .i64 x))])
        (fun x => 1 ≤ x ∧ x ≤ m) (fun x => (m - x).toNat) (1) (by subst hL; rfl) ?_ ?_
      · exact ⟨by omega, by omega⟩
      rintro i ⟨i0, i1⟩ hfx ag hag
      have wi1 : IntKind.wrap .i64 (i - 1) = i - 1 := wrap_id (by omega) (by omega)
      have wi : i < m → IntKind.wrap .i64 (i + 1) = i + 1 := fun h => wrap_id (by omega) (by omega)
      conv => cbv
      simp only [stdEqs hL, imp_self, true_and, and_true, bif_or, bif_and, Bool.or_eq_true, Bool.or_eq_false_iff, Bool.and_eq_true, Bool.and_eq_false_iff, decide_eq_true_eq, decide_eq_false_iff_not, Bool.not_eq_true', Bool.not_eq_false', beq_iff_eq, beq_eq_false_iff_ne, ne_eq, toNat0, toNat1, ok_int, toI_int, I_frzs, I_length, I_getD, ok_ints, toL_slc, true_and, ← hm, gp, wi1]
      refine ⟨fun h5 => ?_, fun h5 => ?_⟩
      · have ha := pasc (i - 1).toNat (by omega)
        rw [show (i - 1).toNat + 1 = i.toNat by omega] at ha
        rw [wi h5]
        (repeat' first | (exact solid_one _) | (exact solid1 rfl) | (exact noown_one _) | (apply And.intro) | (intro _)) <;> (try first | exact True.intro | omega | rfl | (simp only [List.length_cons, List.length_nil, I_length]; omega))
        exact hag (i + 1) ⟨by omega, by omega⟩ (by omega)
      rw [hK1]
      refine wpS_cut_of L tab lp _ _ _ _ _ 5 _ _ fun K2 hK2 => ?_
      conv => cbv
      simp only [stdEqs hL, imp_self, true_and, and_true, bif_or, bif_and, Bool.or_eq_true, Bool.or_eq_false_iff, Bool.and_eq_true, Bool.and_eq_false_iff, decide_eq_true_eq, decide_eq_false_iff_not, Bool.not_eq_true', Bool.not_eq_false', beq_iff_eq, beq_eq_false_iff_ne, ne_eq, toNat0, toNat1, ok_int, toI_int, I_frzs, I_length, I_getD, ok_ints, toL_slc, true_and, hfr, E2, I_frzs, E8]
      refine ⟨Qu, Q2, Q2, fun h6 => ?_, fun _ => ⟨fun h6 => ?_, fun h6 => ?_⟩⟩
      · exfalso
        simp only [not_true, or_self] at h6
      · obtain ⟨g1, g2, g3, g4⟩ := E8s h6
        have wg : gm < 200 → IntKind.wrap .i64 (gm + 1) = gm + 1 := fun _ => wrap_id (by omega) (by omega)
        simp only [g3]
        refine ⟨QX gm, fun h7 => ?_, fun _ => ⟨fun h7 => ?_, fun h7 => ?_⟩⟩
        · exfalso
          simp at h7
        · simp only [wg h7, g4 h7]
          refine ⟨QX _, fun h8 => ?_, fun _ => ?_⟩
          · exfalso
            simp at h8
          · have dummy3 := True.intro
            rw [hK2]
            conv => cbv
            simp only [stdEqs hL, imp_self, true_and, and_true, bif_or, bif_and, Bool.or_eq_true, Bool.or_eq_false_iff, Bool.and_eq_true, Bool.and_eq_false_iff, decide_eq_true_eq, decide_eq_false_iff_not, Bool.not_eq_true', Bool.not_eq_false', beq_iff_eq, beq_eq_false_iff_ne, ne_eq, toNat0, toNat1, ok_int, toI_int, I_frzs, I_length, I_getD, ok_ints, toL_slc, true_and, hfr, E3, I_frzs, E9, E9', Efl]
            refine ⟨Qu, QD', QD', fun _ => Ql, fun h => ?_, fun _ => ⟨fun h => yes.symm, fun h9 => ?_⟩⟩
            · exfalso
              simp at h
            · obtain ⟨k, bD, hk, hdi, hR, E10, E11, E12⟩ := hsc h9
              have gl : (gens D).length = D.length := by rw [gens, tab_len]
              have gg : ∀ j, j < D.length → (gens D).getD j 0 = genF D j := fun j hj => by rw [gens, tab_get _ _ _ _ hj]
              simp only [E10, I_length, gl]
              generalize F_f_gc (I D) (I R) = g at E11 E12 ⊢
              obtain ⟨g1, g2⟩ := g
              simp only at E11 E12 ⊢
              refine ⟨QD', fun h => ?_, fun _ => ⟨QDR, fun h => ?_, fun h => ?_⟩⟩
              · exfalso
                simp only [not_true, false_or] at h
                omega
              · rw [yes, E11.resolve_left h]; rfl
              · have dk : di.toNat = k + 1 := by omega
                simp only [E12 h, I_getD, dk, gg (k + 1) hk, I_length, gl]
                (repeat' first | (exact solid_one _) | (exact solid1 rfl) | (exact noown_one _) | (apply And.intro) | (intro _)) <;> (try first | exact True.intro | omega | rfl | (simp only [List.length_cons, List.length_nil, I_length]; omega))
                · exact QDR3 _
                · rw [yes]
                  show V.bool (0 == 0 && genF D (k + 1) == genF D (k + 1)) = _
                  simp
        · have dummy4 := True.intro
          rw [hK2]
          conv => cbv
          simp only [stdEqs hL, imp_self, true_and, and_true, bif_or, bif_and, Bool.or_eq_true, Bool.or_eq_false_iff, Bool.and_eq_true, Bool.and_eq_false_iff, decide_eq_true_eq, decide_eq_false_iff_not, Bool.not_eq_true', Bool.not_eq_false', beq_iff_eq, beq_eq_false_iff_ne, ne_eq, toNat0, toNat1, ok_int, toI_int, I_frzs, I_length, I_getD, ok_ints, toL_slc, true_and, hfr, E3, I_frzs, E9, E9', Efl]
          refine ⟨Qu, QD', QD', fun _ => Ql, fun h => ?_, fun _ => ⟨fun h => yes.symm, fun h9 => ?_⟩⟩
          · exfalso
            simp at h
          · obtain ⟨k, bD, hk, hdi, hR, E10, E11, E12⟩ := hsc h9
            have gl : (gens D).length = D.length := by rw [gens, tab_len]
            have gg : ∀ j, j < D.length → (gens D).getD j 0 = genF D j := fun j hj => by rw [gens, tab_get _ _ _ _ hj]
            simp only [E10, I_length, gl]
            generalize F_f_gc (I D) (I R) = g at E11 E12 ⊢
            obtain ⟨g1, g2⟩ := g
            simp only at E11 E12 ⊢
            refine ⟨QD', fun h => ?_, fun _ => ⟨QDR, fun h => ?_, fun h => ?_⟩⟩
            · exfalso
              simp only [not_true, false_or] at h
              omega
            · rw [yes, E11.resolve_left h]; rfl
            · have dk : di.toNat = k + 1 := by omega
              simp only [E12 h, I_getD, dk, gg (k + 1) hk, I_length, gl]
              (repeat' first | (exact solid_one _) | (exact solid1 rfl) | (exact noown_one _) | (apply And.intro) | (intro _)) <;> (try first | exact True.intro | omega | rfl | (simp only [List.length_cons, List.length_nil, I_length]; omega))
              · exact QDR3 _
              · rw [yes]
                show V.bool (0 == 0 && genF D (k + 1) == genF D (k + 1)) = _
                simp
      · have dummy2 := True.intro
        rw [hK2]
        conv => cbv
        simp only [stdEqs hL, imp_self, true_and, and_true, bif_or, bif_and, Bool.or_eq_true, Bool.or_eq_false_iff, Bool.and_eq_true, Bool.and_eq_false_iff, decide_eq_true_eq, decide_eq_false_iff_not, Bool.not_eq_true', Bool.not_eq_false', beq_iff_eq, beq_eq_false_iff_ne, ne_eq, toNat0, toNat1, ok_int, toI_int, I_frzs, I_length, I_getD, ok_ints, toL_slc, true_and, hfr, E3, I_frzs, E9, E9', Efl]
        refine ⟨Qu, QD', QD', fun _ => Ql, fun h => ?_, fun _ => ⟨fun h => yes.symm, fun h9 => ?_⟩⟩
        · exfalso
          simp at h
        · obtain ⟨k, bD, hk, hdi, hR, E10, E11, E12⟩ := hsc h9
          have gl : (gens D).length = D.length := by rw [gens, tab_len]
          have gg : ∀ j, j < D.length → (gens D).getD j 0 = genF D j := fun j hj => by rw [gens, tab_get _ _ _ _ hj]
          simp only [E10, I_length, gl]
          generalize F_f_gc (I D) (I R) = g at E11 E12 ⊢
          obtain ⟨g1, g2⟩ := g
          simp only at E11 E12 ⊢
          refine ⟨QD', fun h => ?_, fun _ => ⟨QDR, fun h => ?_, fun h => ?_⟩⟩
          · exfalso
            simp only [not_true, false_or] at h
            omega
          · rw [yes, E11.resolve_left h]; rfl
          · have dk : di.toNat = k + 1 := by omega
            simp only [E12 h, I_getD, dk, gg (k + 1) hk, I_length, gl]
            (repeat' first | (exact solid_one _) | (exact solid1 rfl) | (exact noown_one _) | (apply And.intro) | (intro _)) <;> (try first | exact True.intro | omega | rfl | (simp only [List.length_cons, List.length_nil, I_length]; omega))
            · exact QDR3 _
            · rw [yes]
              show V.bool (0 == 0 && genF D (k + 1) == genF D (k + 1)) = _
              simp
    · have dummy := True.intro
      rw [hK1]
      refine wpS_cut_of L tab lp _ _ _ _ _ 5 _ _ fun K2 hK2 => ?_
      conv => cbv
      simp only [stdEqs hL, imp_self, true_and, and_true, bif_or, bif_and, Bool.or_eq_true, Bool.or_eq_false_iff, Bool.and_eq_true, Bool.and_eq_false_iff, decide_eq_true_eq, decide_eq_false_iff_not, Bool.not_eq_true', Bool.not_eq_false', beq_iff_eq, beq_eq_false_iff_ne, ne_eq, toNat0, toNat1, ok_int, toI_int, I_frzs, I_length, I_getD, ok_ints, toL_slc, true_and, hfr, E2, I_frzs, E8]
      refine ⟨Qu, Q2, Q2, fun h6 => ?_, fun _ => ⟨fun h6 => ?_, fun h6 => ?_⟩⟩
      · exfalso
        simp only [not_true, or_self] at h6
      · obtain ⟨g1, g2, g3, g4⟩ := E8s h6
        have wg : gm < 200 → IntKind.wrap .i64 (gm + 1) = gm + 1 := fun _ => wrap_id (by omega) (by omega)
        simp only [g3]
        refine ⟨QX gm, fun h7 => ?_, fun _ => ⟨fun h7 => ?_, fun h7 => ?_⟩⟩
        · exfalso
          simp at h7
        · simp only [wg h7, g4 h7]
          refine ⟨QX _, fun h8 => ?_, fun _ => ?_⟩
          · exfalso
            simp at h8
          · have dummy3 := True.intro
            rw [hK2]
            conv => cbv
            simp only [stdEqs hL, imp_self, true_and, and_true, bif_or, bif_and, Bool.or_eq_true, Bool.or_eq_false_iff, Bool.and_eq_true, Bool.and_eq_false_iff, decide_eq_true_eq, decide_eq_false_iff_not, Bool.not_eq_true', Bool.not_eq_false', beq_iff_eq, beq_eq_false_iff_ne, ne_eq, toNat0, toNat1, ok_int, toI_int, I_frzs, I_length, I_getD, ok_ints, toL_slc, true_and, hfr, E3, I_frzs, E9, E9', Efl]
            refine ⟨Qu, QD', QD', fun _ => Ql, fun h => ?_, fun _ => ⟨fun h => yes.symm, fun h9 => ?_⟩⟩
            · exfalso
              simp at h
            · obtain ⟨k, bD, hk, hdi, hR, E10, E11, E12⟩ := hsc h9
              have gl : (gens D).length = D.length := by rw [gens, tab_len]
              have gg : ∀ j, j < D.length → (gens D).getD j 0 = genF D j := fun j hj => by rw [gens, tab_get _ _ _ _ hj]
              simp only [E10, I_length, gl]
              generalize F_f_gc (I D) (I R) = g at E11 E12 ⊢
              obtain ⟨g1, g2⟩ := g
              simp only at E11 E12 ⊢
              refine ⟨QD', fun h => ?_, fun _ => ⟨QDR, fun h => ?_, fun h => ?_⟩⟩
              · exfalso
                simp only [not_true, false_or] at h
                omega
              · rw [yes, E11.resolve_left h]; rfl
              · have dk : di.toNat = k + 1 := by omega
                simp only [E12 h, I_getD, dk, gg (k + 1) hk, I_length, gl]
                (repeat' first | (exact solid_one _) | (exact solid1 rfl) | (exact noown_one _) | (apply And.intro) | (intro _)) <;> (try first | exact True.intro | omega | rfl | (simp only [List.length_cons, List.length_nil, I_length]; omega))
                · exact QDR3 _
                · rw [yes]
                  show V.bool (0 == 0 && genF D (k + 1) == genF D (k + 1)) = _
                  simp
        · have dummy4 := True.intro
          rw [hK2]
          conv => cbv
          simp only [stdEqs hL, imp_self, true_and, and_true, bif_or, bif_and, Bool.or_eq_true, Bool.or_eq_false_iff, Bool.and_eq_true, Bool.and_eq_false_iff, decide_eq_true_eq, decide_eq_false_iff_not, Bool.not_eq_true', Bool.not_eq_false', beq_iff_eq, beq_eq_false_iff_ne, ne_eq, toNat0, toNat1, ok_int, toI_int, I_frzs, I_length, I_getD, ok_ints, toL_slc, true_and, hfr, E3, I_frzs, E9, E9', Efl]
          refine ⟨Qu, QD', QD', fun _ => Ql, fun h => ?_, fun _ => ⟨fun h => yes.symm, fun h9 => ?_⟩⟩
          · exfalso
            simp at h
          · obtain ⟨k, bD, hk, hdi, hR, E10, E11, E12⟩ := hsc h9
            have gl : (gens D).length = D.length := by rw [gens, tab_len]
            have gg : ∀ j, j < D.length → (gens D).getD j 0 = genF D j := fun j hj => by rw [gens, tab_get _ _ _ _ hj]
            simp only [E10, I_length, gl]
            generalize F_f_gc (I D) (I R) = g at E11 E12 ⊢
            obtain ⟨g1, g2⟩ := g
            simp only at E11 E12 ⊢
            refine ⟨QD', fun h => ?_, fun _ => ⟨QDR, fun h => ?_, fun h => ?_⟩⟩
            · exfalso
              simp only [not_true, false_or] at h
              omega
            · rw [yes, E11.resolve_left h]; rfl
            · have dk : di.toNat = k + 1 := by omega
              simp only [E12 h, I_getD, dk, gg (k + 1) hk, I_length, gl]
              (repeat' first | (exact solid_one _) | (exact solid1 rfl) | (exact noown_one _) | (apply And.intro) | (intro _)) <;> (try first | exact True.intro | omega | rfl | (simp only [List.length_cons, List.length_nil, I_length]; omega))
              · exact QDR3 _
              · rw [yes]
                show V.bool (0 == 0 && genF D (k + 1) == genF D (k + 1)) = _
                simp
      · have dummy2 := True.intro
        rw [hK2]
        conv => cbv
        simp only [stdEqs hL, imp_self, true_and, and_true, bif_or, bif_and, Bool.or_eq_true, Bool.or_eq_false_iff, Bool.and_eq_true, Bool.and_eq_false_iff, decide_eq_true_eq, decide_eq_false_iff_not, Bool.not_eq_true', Bool.not_eq_false', beq_iff_eq, beq_eq_false_iff_ne, ne_eq, toNat0, toNat1, ok_int, toI_int, I_frzs, I_length, I_getD, ok_ints, toL_slc, true_and, hfr, E3, I_frzs, E9, E9', Efl]
        refine ⟨Qu, QD', QD', fun _ => Ql, fun h => ?_, fun _ => ⟨fun h => yes.symm, fun h9 => ?_⟩⟩
        · exfalso
          simp at h
        · obtain ⟨k, bD, hk, hdi, hR, E10, E11, E12⟩ := hsc h9
          have gl : (gens D).length = D.length := by rw [gens, tab_len]
          have gg : ∀ j, j < D.length → (gens D).getD j 0 = genF D j := fun j hj => by rw [gens, tab_get _ _ _ _ hj]
          simp only [E10, I_length, gl]
          generalize F_f_gc (I D) (I R) = g at E11 E12 ⊢
          obtain ⟨g1, g2⟩ := g
          simp only at E11 E12 ⊢
          refine ⟨QD', fun h => ?_, fun _ => ⟨QDR, fun h => ?_, fun h => ?_⟩⟩
          · exfalso
            simp only [not_true, false_or] at h
            omega
          · rw [yes, E11.resolve_left h]; rfl
          · have dk : di.toNat = k + 1 := by omega
            simp only [E12 h, I_getD, dk, gg (k + 1) hk, I_length, gl]
            (repeat' first | (exact solid_one _) | (exact solid1 rfl) | (exact noown_one _) | (apply And.intro) | (intro _)) <;> (try first | exact True.intro | omega | rfl | (simp only [List.length_cons, List.length_nil, I_length]; omega))
            · exact QDR3 _
            · rw [yes]
              show V.bool (0 == 0 && genF D (k + 1) == genF D (k + 1)) = _
              simp
  · cases h
end Go.Ax
