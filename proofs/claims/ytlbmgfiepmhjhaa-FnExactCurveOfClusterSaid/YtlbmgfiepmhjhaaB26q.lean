import Derived.Test.YtlbmgfiepmhjhaaB25q
import Derived.Test.YtlbmgfiepmhjhaaB06q
import Derived.Test.YtlbmgfiepmhjhaaB10q
/-
  Curves of clusters: impl.CurveOfCluster. No conditions but those of the contracts.
-/
set_option linter.all false
namespace Go.Ax
open Go.Proofs

def c_K_Ci (f : List V → List V → List V → List V × List V × Int) (q : List V → List V → List V → Prop) : Contract := fun
  | [.agg [.slc false 2 (.int .i64 0) a0, .slc false 2 (.int .i64 0) a1, .slc false 2 (.int .i64 0) a2]] => some ([q a0 a1 a2], .tup [.agg [.slc true 74 (.agg [.slc true 2 (.int .i64 0) []]) ((f a0 a1 a2).1), .slc true 22 (.slc true 2 (.int .i64 0) []) ((f a0 a1 a2).2.1)], .int .i64 ((f a0 a1 a2).2.2)])
  | _ => none
set_option maxHeartbeats 1000000 in
set_option maxRecDepth 100000 in
theorem s_impl_CurveOfCluster : Sat Try.prog 21 (c_K_Ci f_coc q_K) := by
  intro args ps r h hp
  unfold c_K_Ci at h
  split at h
  · rename_i a0 a1 a2
    simp only [Option.some.injEq, Prod.mk.injEq] at h
    obtain ⟨rfl, rfl⟩ := h
    have hq : q_K a0 a1 a2 := (alls_cons.1 hp).1
    obtain ⟨⟨P, hP⟩, ⟨S, hS⟩, ⟨Q, hQ⟩⟩ := id hq
    have g0 : V.frzs a0 = a0 := by rw [hP, I_frzs]
    have g1 : V.frzs a1 = a1 := by rw [hS, I_frzs]
    have g2 : V.frzs a2 = a2 := by rw [hQ, I_frzs]
    have hpl : a0.length = P.length := by rw [hP, I_length]
    have hf1 : f_isCl a0 a1 a2 = false → f_coc a0 a1 a2 = ([], [], 1) := fun h => by rw [f_coc, h]; rfl
    have hf2 : f_isCl a0 a1 a2 = true → f_cons a0 a1 a2 = false → f_coc a0 a1 a2 = ([], [], 5) := fun h h2 => by rw [f_coc, h, h2]; rfl
    obtain ⟨fs, hfs⟩ : ∃ fs, fs = facA (exsL P S Q) P.length := ⟨_, rfl⟩
    have hf3 : f_isCl a0 a1 a2 = true → f_cons a0 a1 a2 = true → f_coc a0 a1 a2 = cocP P S (ptsF fs) := fun h h2 => by rw [f_coc, h, h2, hpl, hP, hS, hQ, unI_I, unI_I, unI_I, hfs]; rfl
    have hff : f_facs a0 a1 a2 = II true fs := by rw [f_facs, hpl, hP, hS, hQ, unI_I, unI_I, unI_I, hfs]
    obtain ⟨vf, hvf⟩ : ∃ vf, vf = II true fs := ⟨_, rfl⟩
    rw [← hvf] at hff
    have hvl : vf.length = fs.length := by rw [hvf, II_length]
    have gvf : ∀ k, vf.getD k (.slc true 2 (.int .i64 0) []) = .slc true 2 (.int .i64 0) (I (fs.getD k [])) := fun k => by rw [hvf, II_getD]
    obtain ⟨n, hn⟩ : ∃ n : Int, n = fs.length := ⟨_, rfl⟩
    generalize H_f_isCl : f_isCl = F_f_isCl
    generalize H_q_K : q_K = F_q_K
    generalize H_f_cons : f_cons = F_f_cons
    generalize H_q_Kv : q_Kv = F_q_Kv
    generalize H_f_facs : f_facs = F_f_facs
    generalize H_inRange : inRange = F_inRange
    generalize H_f_bat : f_bat = F_f_bat
    generalize H_q_Kp : q_Kp = F_q_Kp
    generalize H_same : same = F_same
    generalize H_IsIs : IsIs = F_IsIs
    generalize H_f_path : f_path = F_f_path
    generalize H_f0_square : f0_square = F_f0_square
    generalize H_q_n : q_n = F_q_n
    generalize H_f_sh : f_sh = F_f_sh
    generalize H_q_sh : q_sh = F_q_sh
    refine fnOk_ofI (T := tab) (B := [(57, c_K_b F_f_isCl F_q_K), (58, c_K_b F_f_cons F_q_Kv), (59, c_K_m F_f_facs F_q_Kv), (60, c_impl_inRange F_inRange), (61, c_Ki_Bi F_f_bat F_q_Kp), (2000000061, c_alias), (62, c_b_b F_same F_IsIs), (63, c_Ki_l9 F_f_path F_q_Kp), (64, c_n_ll F_f0_square F_q_n), (65, c_ll_i9 F_f_sh F_q_sh)]) (Bi := []) [2000017811, 2000017858, 2000017998, 2000022071, 2000023080, 0, 1, 2, 3, 4, 6, 7, 8, 10, 11, 12, 13, 14, 15, 16, 26, 27, 28, 45, 46, 47, 65, 66, 89, 90, 91, 96, 97, 98] Try.func21 rfl rfl (by kernel_rfl) (Nat.le_of_ble_eq_true rfl) mixed tabOk (by subst H_f_isCl H_q_K H_f_cons H_q_Kv H_f_facs H_inRange H_f_bat H_q_Kp H_same H_IsIs H_f_path H_f0_square H_q_n H_f_sh H_q_sh; exact (bookCons s_impl_IsCluster (bookCons s_impl_consistent (bookCons s_impl_factors (bookCons s_impl_inRange (bookCons s_impl_branchAt (bookCons s_alias (bookCons s_impl_copyBranch (bookCons s_impl_pathOf (bookCons s_impl_square (bookCons s_impl_shared bookNil))))))))))) (by subst H_f_isCl H_q_K H_f_cons H_q_Kv H_f_facs H_inRange H_f_bat H_q_Kp H_same H_IsIs H_f_path H_f0_square H_q_n H_f_sh H_q_sh; exact bookINil) (by kernel_rfl) ?_
    intro L lp rr hL hr hf hlp
    have Ef : F_f_facs a0 a1 a2 = vf := by rw [← H_f_facs]; exact hff
    have Er : ∀ x y z, F_inRange x y z = inRange x y z := fun x y z => by rw [← H_inRange]
    conv => cbv
    simp only [stdEqs hL, imp_self, true_and, and_true, bif_or, bif_and, Bool.or_eq_true, Bool.or_eq_false_iff, Bool.and_eq_true, Bool.and_eq_false_iff, decide_eq_true_eq, decide_eq_false_iff_not, Bool.not_eq_true', Bool.not_eq_false', beq_iff_eq, beq_eq_false_iff_ne, ne_eq, toNat0, toNat1, ok_int, toI_int, I_frzs, I_length, I_getD, ok_ints, toL_slc, g0, g1, g2, Ef, hvl, ← hn]
    refine ⟨by rw [← H_q_K]; exact hq, fun h => ?_, fun hcl0 => ?_⟩
    · rw [hr, hf1 (by rw [← h, ← H_f_isCl])]
    have hcl1 : f_isCl a0 a1 a2 = true := by rw [← hcl0, ← H_f_isCl]
    have hqv : q_Kv a0 a1 a2 := q_Kv_of hq hcl1
    have hcl : ClP P S Q := by have := hqv.2; rwa [hP, hS, hQ, unI_I, unI_I, unI_I] at this
    have Qv : F_q_Kv a0 a1 a2 := by rw [← H_q_Kv]; exact hqv
    have hfo : FacOk P.length fs := by rw [hfs]; exact facs_ok hcl
    have hl24 := hfo.len
    refine ⟨Qv, fun h => ?_, fun hco0 => ?_⟩
    · rw [hr, hf2 hcl1 (by rw [← h, ← H_f_cons])]
    have hco1 : f_cons a0 a1 a2 = true := by rw [← hco0, ← H_f_cons]
    have hf0 := hf3 hcl1 hco1
    refine ⟨Qv, ?_⟩
    refine hlp (Int × Int) _ _ _ [1, 2, 4, 26, 27, 28] (fun x => [(1, none, .val (.box 46 (.agg [.slc false 2 (.int .i64 0) a0, .slc false 2 (.int .i64 0) a1, .slc false 2 (.int .i64 0) a2]))), (2, none, .val (.box 43 (.agg [.slc true 74 (.agg [.slc true 2 (.int .i64 0) []]) [], .slc true 22 (.slc true 2 (.int .i64 0) []) []]))), (4, none, .val (.int .i64 x.1)), (26, none, .val (.slc true 22 (.slc true 2 (.int .i64 0) []) vf)), (27, none, .val (.int .i64 n)), (28, none, .val (.int .i64 x.2))])
      (fun x => 0 ≤ x.2 ∧ x.2 ≤ n ∧ x.1 = sumF (fs.take x.2.toNat)) (fun x => (n - x.2).toNat) ((0, 0)) (by subst hL; rw [hn, ← hvl]; rfl) ?_ ?_
    · exact ⟨by simp, by simp only; omega, rfl⟩
    rintro ⟨s, i⟩ ⟨i0, i1, hI⟩ hfx ag hag
    simp only at i0 i1 hI
    conv => cbv
    simp only [stdEqs hL, imp_self, true_and, and_true, bif_or, bif_and, Bool.or_eq_true, Bool.or_eq_false_iff, Bool.and_eq_true, Bool.and_eq_false_iff, decide_eq_true_eq, decide_eq_false_iff_not, Bool.not_eq_true', Bool.not_eq_false', beq_iff_eq, beq_eq_false_iff_ne, ne_eq, toNat0, toNat1, ok_int, toI_int, I_frzs, I_length, I_getD, ok_ints, toL_slc, g0, g1, g2, Ef, Er, hvl, gvf, ← hn, I_getD, I_length]
    refine ⟨fun h2 => ?_, fun h2 => ?_⟩
    · obtain ⟨r1, r2, r3, r4, r5⟩ := hfo.get (i := i.toNat) (by omega)
      have hss := sumF_len (fs := fs.take i.toNat) (hfo.take i.toNat).row
      have hsl : sumF (fs.take i.toNat) ≤ 2500000 * 24 := by
        have : ((fs.take i.toNat).length : Int) ≤ 24 := by have := (hfo.take i.toNat).len; omega
        omega
      rw [wrap_id (n := i + 1) (by omega) (by omega), wrap_id (n := s + (fs.getD i.toNat []).getD 1 0) (by omega) (by omega)]
      refine ⟨i0, h2, by omega, by omega, by omega, by omega, by omega, by omega, ?_⟩
      refine hag (_, i + 1) ⟨by simp only; omega, by simp only; omega, ?_⟩ (by simp only; omega)
      simp only [toNat_succ i0]
      rw [take_snoc (by omega), sumF_snoc, hI]
    have htk : fs.take i.toNat = fs := List.take_of_length_le (by omega)
    rw [htk] at hI
    have hss := (sumF_len hfo.row).1
    obtain ⟨ps, hps⟩ : ∃ ps, ps = ptsF fs := ⟨_, rfl⟩
    rw [← hps] at hss hf0
    refine ⟨fun h3 => ?_, fun h3 => ⟨Qv, ?_⟩⟩
    · have h4 : ps.length = 0 ∨ 6 < ps.length := by
        rw [inRange, Bool.and_eq_false_iff, decide_eq_false_iff_not, decide_eq_false_iff_not] at h3
        omega
      rw [hr, hf0, cocP, if_pos h4]
    have hp6 : 1 ≤ ps.length ∧ ps.length ≤ 6 := by
      rw [inRange, Bool.and_eq_true, decide_eq_true_eq, decide_eq_true_eq] at h3
      omega
    have hf4 : cocP P S ps = bif ps.all (okX P S) then (BB true (ps.map (curX P S)), II true (T2 ps.length (com P ps)), 0) else ([], [], 5) := by rw [cocP, if_neg (by omega)]
    clear hag hfx ag
    refine hlp ((List V × List V) × Int) _ _ _ [1, 2, 7, 8, 45, 46, 47] (fun x => [(1, none, .val (.box 46 (.agg [.slc false 2 (.int .i64 0) a0, .slc false 2 (.int .i64 0) a1, .slc false 2 (.int .i64 0) a2]))), (2, none, .val (.box 43 (.agg [.slc true 74 (.agg [.slc true 2 (.int .i64 0) []]) [], .slc true 22 (.slc true 2 (.int .i64 0) []) []]))), (7, none, .val (.box 43 (.agg [.slc true 74 (.agg [.slc true 2 (.int .i64 0) []]) x.1.1, .slc true 22 (.slc true 2 (.int .i64 0) []) []]))), (8, none, .val (.slc true 22 (.slc true 2 (.int .i64 0) []) x.1.2)), (45, none, .val (.slc true 22 (.slc true 2 (.int .i64 0) []) vf)), (46, none, .val (.int .i64 n)), (47, none, .val (.int .i64 x.2))])
      (fun x => 0 ≤ x.2 ∧ x.2 ≤ n ∧ x.1.1 = BB true ((ptsF (fs.take x.2.toNat)).map (curX P S)) ∧ x.1.2 = II true ((ptsF (fs.take x.2.toNat)).map (pthC P)) ∧ ∀ y ∈ ptsF (fs.take x.2.toNat), okX P S y = true) (fun x => (n - x.2).toNat) ((([], []), 0)) (by subst hL; rw [hn, ← hvl]; rfl) ?_ ?_
    · exact ⟨by simp, by simp only; omega, rfl, rfl, fun y hy => by cases hy⟩
    rintro ⟨⟨bs, qs⟩, j⟩ ⟨j0, j1, hB, hQ2, hok⟩ hfx ag hag
    simp only at j0 j1 hB hQ2 hok
    have hbatx : ∀ x : Int, 0 ≤ x → x < P.length → F_f_bat a0 a1 a2 x = curR (codI P S x) := fun x h1 h2 => by rw [← H_f_bat, f_bat, hP, hS, unI_I, unI_I]
    have hqpx : ∀ x : Int, 0 ≤ x → x < P.length → q_Kp a0 a1 a2 x := fun x h1 h2 => ⟨hqv, h1, by rw [hpl]; exact h2⟩
    have Qp : ∀ x : Int, 0 ≤ x → x < P.length → F_q_Kp a0 a1 a2 x := by rw [← H_q_Kp]; exact hqpx
    conv => cbv
    simp only [stdEqs hL, imp_self, true_and, and_true, bif_or, bif_and, Bool.or_eq_true, Bool.or_eq_false_iff, Bool.and_eq_true, Bool.and_eq_false_iff, decide_eq_true_eq, decide_eq_false_iff_not, Bool.not_eq_true', Bool.not_eq_false', beq_iff_eq, beq_eq_false_iff_ne, ne_eq, toNat0, toNat1, ok_int, toI_int, I_frzs, I_length, I_getD, ok_ints, toL_slc, g0, g1, g2, Er, hvl, gvf, ← hn, I_getD, I_length]
    refine ⟨fun h4 => ?_, fun h4 => ?_⟩
    · obtain ⟨jn, hjn⟩ : ∃ jn : Nat, jn = j.toNat := ⟨_, rfl⟩
      obtain ⟨r1, r2, r3, r4, r5⟩ := hfo.get (i := jn) (by omega)
      obtain ⟨x, hx⟩ : ∃ x, x = (fs.getD jn []).getD 0 0 := ⟨_, rfl⟩
      rw [← hx] at r2 r3
      obtain ⟨c, hc⟩ : ∃ c, c = (fs.getD jn []).getD 1 0 := ⟨_, rfl⟩
      rw [← hc] at r4 r5
      simp only [← hjn] at hB hQ2 hok
      simp only [← hjn, ← hx, ← hc, hbatx x r2 r3]
      obtain ⟨pp, hpp⟩ : ∃ pp, pp = ptsF (fs.take jn) := ⟨_, rfl⟩
      rw [← hpp] at hB hQ2 hok
      have hnx : ptsF (fs.take (jn + 1)) = pp ++ List.replicate c.toNat x := by rw [take_snoc (by omega), ptsF_snoc, ← hpp, ← hx, ← hc]
      have hxm : x ∈ ps := by rw [hps, hx]; exact ptsF_has hfo (by omega)
      have hpc : pp.length + c.toNat ≤ 6 := by
        obtain ⟨t, ht⟩ := ptsF_pre fs (jn + 1)
        rw [← hps, hnx] at ht
        have := congrArg List.length ht
        simp only [List.length_append, List.length_replicate] at this
        omega
      refine ⟨j0, h4, by omega, by omega, by omega, by omega, by omega, by omega, Qp x r2 r3, ?_⟩
      cases hox : okX P S x with
      | false =>
        rw [curR_no hox]
        refine ⟨fun _ => ?_, fun h => by cases h⟩
        have hall : ps.all (okX P S) = false := by rw [List.all_eq_false]; exact ⟨x, hxm, by rw [hox]; simp⟩
        rw [hr, hf0, hf4, hall]
        rfl
      | true =>
        rw [curR_yes hox]
        obtain ⟨vb, hvb⟩ : ∃ vb, vb = I (curX P S x) := ⟨_, rfl⟩
        have gvb : V.frzs vb = vb := by rw [hvb, I_frzs]
        have hvbl : vb.length ≤ 3000 := by rw [hvb, I_length]; exact curX_len hcl r2 r3 hox
        have Es : F_same vb = vb := by rw [← H_same]; rfl
        have Qs : F_IsIs vb := by rw [← H_IsIs]; exact ⟨⟨_, hvb⟩, by omega⟩
        have Ep : F_f_path a0 a1 a2 x = I (pthC P x) := by rw [← H_f_path, f_path, hP, unI_I]
        simp only [← hvb, gvb]
        refine ⟨fun h => absurd trivial h, fun _ => ⟨by omega, by omega, by omega, by omega, by omega, ?_⟩⟩
        refine hlp ((List V × List V) × Int) _ _ _ [1, 2, 7, 8, 10, 11, 45, 46, 47, 65, 66] (fun y => [(1, none, .val (.box 46 (.agg [.slc false 2 (.int .i64 0) a0, .slc false 2 (.int .i64 0) a1, .slc false 2 (.int .i64 0) a2]))), (2, none, .val (.box 43 (.agg [.slc true 74 (.agg [.slc true 2 (.int .i64 0) []]) [], .slc true 22 (.slc true 2 (.int .i64 0) []) []]))), (7, none, .val (.box 43 (.agg [.slc true 74 (.agg [.slc true 2 (.int .i64 0) []]) y.1.1, .slc true 22 (.slc true 2 (.int .i64 0) []) []]))), (8, none, .val (.slc true 22 (.slc true 2 (.int .i64 0) []) y.1.2)), (10, none, .rf 45 0 [jn]), (11, none, .val (.box 74 (.agg [.slc false 2 (.int .i64 0) vb]))), (45, none, .val (.slc true 22 (.slc true 2 (.int .i64 0) []) vf)), (46, none, .val (.int .i64 n)), (47, none, .val (.int .i64 j)), (65, none, .val (.int .i64 c)), (66, none, .val (.int .i64 y.2))])
          (fun y => 0 ≤ y.2 ∧ y.2 ≤ c ∧ y.1.1 = BB true ((pp ++ List.replicate y.2.toNat x).map (curX P S)) ∧ y.1.2 = II true ((pp ++ List.replicate y.2.toNat x).map (pthC P))) (fun y => (c - y.2).toNat) (((bs, qs), 0)) (by subst hL; rfl) ?_ ?_
        · exact ⟨by simp, by simp only; omega, by simp only; rw [hB]; simp, by simp only; rw [hQ2]; simp⟩
        rintro ⟨⟨bs2, qs2⟩, t⟩ ⟨t0, t1, hB2, hQ3⟩ hfx2 ag2 hag2
        simp only at t0 t1 hB2 hQ3
        have hbl2 : bs2.length = pp.length + t.toNat := by rw [hB2, BB_length, List.length_map, List.length_append, List.length_replicate]
        have hql2 : qs2.length = pp.length + t.toNat := by rw [hQ3, II_length, List.length_map, List.length_append, List.length_replicate]
        conv => cbv
        simp only [stdEqs hL, imp_self, true_and, and_true, bif_or, bif_and, Bool.or_eq_true, Bool.or_eq_false_iff, Bool.and_eq_true, Bool.and_eq_false_iff, decide_eq_true_eq, decide_eq_false_iff_not, Bool.not_eq_true', Bool.not_eq_false', beq_iff_eq, beq_eq_false_iff_ne, ne_eq, toNat0, toNat1, ok_int, toI_int, I_frzs, I_length, I_getD, ok_ints, toL_slc, g0, g1, g2, hvl, gvf, I_getD, I_length, gvb, Es, ← hx, Ep]
        refine ⟨fun h5 => ?_, fun h5 => ?_⟩
        · rw [wrap_id (n := t + 1) (by omega) (by omega)]
          have hrs : pp ++ List.replicate (t.toNat + 1) x = (pp ++ List.replicate t.toNat x) ++ [x] := by rw [List.replicate_succ', List.append_assoc]
          refine ⟨Qs, by simp only [List.length_cons, List.length_nil]; omega, fun z hz => by (simp only [List.mem_singleton] at hz; subst hz; rfl), by omega, by omega, by omega, by omega, by omega, Qp x r2 r3, by simp only [List.length_cons, List.length_nil]; omega, fun z hz => by (simp only [List.mem_singleton] at hz; subst hz; rfl), ?_⟩
          refine hag2 ((_, _), t + 1) ⟨by simp only; omega, by simp only; omega, ?_, ?_⟩ (by simp only; omega)
          · simp only [toNat_succ t0]
            rw [hrs, List.map_append, hB2, hvb]
            simp [BB]
          · simp only [toNat_succ t0]
            rw [hrs, List.map_append, hQ3]
            simp [II]
        · rw [wrap_id (n := j + 1) (by omega) (by omega)]
          refine hag ((bs2, qs2), j + 1) ⟨by simp only; omega, by simp only; omega, ?_, ?_, ?_⟩ (by simp only; omega)
          · simp only
            rw [show (j + 1).toNat = jn + 1 by omega, hnx, show c.toNat = t.toNat by omega]; exact hB2
          · simp only
            rw [show (j + 1).toNat = jn + 1 by omega, hnx, show c.toNat = t.toNat by omega]; exact hQ3
          · intro y hy
            simp only at hy
            rw [show (j + 1).toNat = jn + 1 by omega, hnx] at hy
            rcases List.mem_append.1 hy with hy | hy
            · exact hok y hy
            · rw [List.eq_of_mem_replicate hy]; exact hox
    have htj : fs.take j.toNat = fs := List.take_of_length_le (by omega)
    rw [htj, ← hps] at hB hQ2 hok
    have hall : ps.all (okX P S) = true := by rw [List.all_eq_true]; exact hok
    have hf5 : f_coc a0 a1 a2 = (BB true (ps.map (curX P S)), II true (T2 ps.length (com P ps)), 0) := by rw [hf0, hf4, hall]; rfl
    have hqsl : qs.length = ps.length := by rw [hQ2, II_length, List.length_map]
    obtain ⟨m, hm⟩ : ∃ m : Int, m = ps.length := ⟨_, rfl⟩
    have gqs : ∀ k, k < ps.length → qs.getD k (.slc true 2 (.int .i64 0) []) = .slc true 2 (.int .i64 0) (I (pthC P (ps.getD k 0))) := fun k hk => by
      rw [hQ2, II_getD]
      congr 2
      rw [List.getD_eq_getElem?_getD, List.getElem?_map, List.getElem?_eq_getElem hk, List.getD_eq_getElem?_getD, List.getElem?_eq_getElem hk]
      rfl
    simp only [hqsl, ← hm]
    have hsq : F_f0_square m = II true (T2 ps.length (comS P ps 0 0)) := by rw [← H_f0_square, f0_square, hm, Int.toNat_natCast, comS_zero]
    have Qn : F_q_n m := by rw [← H_q_n]; exact ⟨by omega, by omega⟩
    have Esh : ∀ xs ys : List Int, F_f_sh (I xs) (I ys) = (shN xs ys : Nat) := fun xs ys => by rw [← H_f_sh, f_sh, unI_I, unI_I]
    have Qsh : ∀ xs ys : List Int, xs.length ≤ 24 → ys.length ≤ 24 → F_q_sh (I xs) (I ys) := by
      rw [← H_q_sh]
      exact fun xs ys h1 h2 => ⟨⟨⟨_, rfl⟩, by rw [I_length]; omega⟩, ⟨⟨_, rfl⟩, by rw [I_length]; omega⟩⟩
    have hpin : ∀ k, k < ps.length → (pthC P (ps.getD k 0)).length ≤ 24 := fun k hk => by
      have h5 := ptsF_in hfo (ps.getD k 0) (by rw [← hps]; exact getD_mem hk)
      exact pthC_len hcl (by omega) h5.2
    clear hag hfx ag
    obtain ⟨c0, hc0⟩ : ∃ c0, c0 = II true (T2 ps.length (comS P ps 0 0)) := ⟨_, rfl⟩
    rw [hsq, ← hc0]
    refine ⟨Qn, ?_⟩
    refine hlp (List V × Int) _ _ _ [2, 7, 8, 89, 90, 91] (fun x => [(2, none, .val (.box 43 (.agg [.slc true 74 (.agg [.slc true 2 (.int .i64 0) []]) [], .slc true 22 (.slc true 2 (.int .i64 0) []) []]))), (7, none, .val (.box 43 (.agg [.slc true 74 (.agg [.slc true 2 (.int .i64 0) []]) bs, .slc true 22 (.slc true 2 (.int .i64 0) []) x.1]))), (8, none, .val (.slc true 22 (.slc true 2 (.int .i64 0) []) qs)), (89, none, .rf 8 0 []), (90, none, .val (.int .i64 m)), (91, none, .val (.int .i64 x.2))])
      (fun x => 0 ≤ x.2 ∧ x.2 ≤ m ∧ x.1 = II true (T2 ps.length (comS P ps x.2.toNat 0))) (fun x => (m - x.2).toNat) ((c0, 0)) (by subst hL; rw [hm, ← hqsl]; rfl) ?_ ?_
    · exact ⟨by simp, by simp only; omega, hc0⟩
    rintro ⟨ms, i⟩ ⟨i0, i1, hM⟩ hfx ag hag
    simp only at i0 i1 hM
    obtain ⟨ni, hni⟩ : ∃ ni : Nat, ni = i.toNat := ⟨_, rfl⟩
    rw [← hni] at hM
    conv => cbv
    simp only [stdEqs hL, imp_self, true_and, and_true, bif_or, bif_and, Bool.or_eq_true, Bool.or_eq_false_iff, Bool.and_eq_true, Bool.and_eq_false_iff, decide_eq_true_eq, decide_eq_false_iff_not, Bool.not_eq_true', Bool.not_eq_false', beq_iff_eq, beq_eq_false_iff_ne, ne_eq, toNat0, toNat1, ok_int, toI_int, I_frzs, I_length, I_getD, ok_ints, toL_slc, hqsl, ← hm, ← hni]
    refine ⟨fun h5 => ?_, fun h5 => ?_⟩
    · have hnl : ni < ps.length := by omega
      refine ⟨i0, h5, hnl, by rw [gqs ni hnl]; rfl, ?_⟩
      refine hlp (List V × Int) _ _ _ [2, 7, 8, 13, 14, 89, 90, 91, 96, 97, 98] (fun x => [(2, none, .val (.box 43 (.agg [.slc true 74 (.agg [.slc true 2 (.int .i64 0) []]) [], .slc true 22 (.slc true 2 (.int .i64 0) []) []]))), (7, none, .val (.box 43 (.agg [.slc true 74 (.agg [.slc true 2 (.int .i64 0) []]) bs, .slc true 22 (.slc true 2 (.int .i64 0) []) x.1]))), (8, none, .val (.slc true 22 (.slc true 2 (.int .i64 0) []) qs)), (13, none, .val (.int .i64 i)), (14, none, .rf 8 0 [ni]), (89, none, .rf 8 0 []), (90, none, .val (.int .i64 m)), (91, none, .val (.int .i64 i)), (96, none, .rf 8 0 []), (97, none, .val (.int .i64 m)), (98, none, .val (.int .i64 x.2))])
        (fun x => 0 ≤ x.2 ∧ x.2 ≤ m ∧ x.1 = II true (T2 ps.length (comS P ps ni x.2.toNat))) (fun x => (m - x.2).toNat) ((ms, 0)) (by subst hL; rw [hm, ← hqsl]; rfl) ?_ ?_
      · exact ⟨by simp, by simp only; omega, hM⟩
      rintro ⟨ms2, k⟩ ⟨k0, k1, hM2⟩ hfx2 ag2 hag2
      simp only at k0 k1 hM2
      obtain ⟨nk, hnk⟩ : ∃ nk : Nat, nk = k.toNat := ⟨_, rfl⟩
      rw [← hnk] at hM2
      have hml2 : ms2.length = ps.length := by rw [hM2, II_length, T2_len]
      have gms : ∀ t, ms2.getD t (.slc true 2 (.int .i64 0) []) = .slc true 2 (.int .i64 0) (I ((T2 ps.length (comS P ps ni nk)).getD t [])) := fun t => by rw [hM2, II_getD]
      conv => cbv
      simp only [stdEqs hL, imp_self, true_and, and_true, bif_or, bif_and, Bool.or_eq_true, Bool.or_eq_false_iff, Bool.and_eq_true, Bool.and_eq_false_iff, decide_eq_true_eq, decide_eq_false_iff_not, Bool.not_eq_true', Bool.not_eq_false', beq_iff_eq, beq_eq_false_iff_ne, ne_eq, toNat0, toNat1, ok_int, toI_int, I_frzs, I_length, I_getD, ok_ints, toL_slc, hqsl, ← hm, ← hnk, ← hni, gqs ni hnl, hml2, gms, I_getD, I_length]
      refine ⟨fun h6 => ?_, fun h6 => ?_⟩
      · have hkl : nk < ps.length := by omega
        simp only [gqs nk hkl, toL_slc, I_frzs, Esh]
        have hrow : ((T2 ps.length (comS P ps ni nk)).getD ni []).length = ps.length := by rw [T2_row _ hnl, tab_len]
        rw [hrow, wrap_id (n := k + 1) (by omega) (by omega)]
        refine ⟨k0, h6, hkl, rfl, fun h7 => ⟨i0, h5, hnl, hnl, hkl, rfl, Qsh _ _ (hpin ni hnl) (hpin nk hkl), hnl, k0, by omega, hnl, hkl, ?_⟩, fun h7 => ?_⟩
        · refine hag2 (_, k + 1) ⟨by simp only; omega, by simp only; omega, ?_⟩ (by simp only; omega)
          simp only
          rw [show (k + 1).toNat = nk + 1 by omega, I_set, hM2, II_set, comS_set hnl hkl (by omega)]
        · refine hag2 (ms2, k + 1) ⟨by simp only; omega, by simp only; omega, ?_⟩ (by simp only; omega)
          simp only
          have h8 : nk = ni := by omega
          rw [show (k + 1).toNat = nk + 1 by omega, hM2, h8]
          rw [comS_skip]
      · rw [wrap_id (n := i + 1) (by omega) (by omega)]
        refine hag (ms2, i + 1) ⟨by simp only; omega, by simp only; omega, ?_⟩ (by simp only; omega)
        simp only
        rw [hM2, show nk = ps.length by omega, comS_row, show (i + 1).toNat = ni + 1 by omega]
    · have hin : ni = ps.length := by omega
      rw [hr, hf5, hM, hin, comS_all, hB]
  · cases h
end Go.Ax
