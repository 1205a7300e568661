import Derived.Test.YtlbmgfiepmhjhaaB25q
import Derived.Test.YtlbmgfiepmhjhaaB06q
import Derived.Test.YtlbmgfiepmhjhaaB10q
/-
  Curves of clusters: spec.CurveOfCluster. No conditions but those of the contracts.
-/
set_option linter.all false
namespace Go.Ax
open Go.Proofs

theorem take7_step {pp : List Int} {x : Int} {t : Nat} (h : ((pp ++ List.replicate t x).take 7).length ≤ 6) : (pp ++ List.replicate t x).take 7 ++ [x] = (pp ++ List.replicate (t + 1) x).take 7 := by
  rw [List.length_take] at h
  have h2 : (pp ++ List.replicate t x).length ≤ 6 := by omega
  rw [List.take_of_length_le (by omega), List.replicate_succ', ← List.append_assoc, List.take_of_length_le (by rw [List.length_append]; simp only [List.length_cons, List.length_nil]; omega)]
theorem take7_end {pp : List Int} {x : Int} {t c : Nat} (ht : t ≤ c) (h : t = c ∨ 6 < ((pp ++ List.replicate t x).take 7).length) : (pp ++ List.replicate t x).take 7 = (pp ++ List.replicate c x).take 7 := by
  rcases h with h | h
  · rw [h]
  · rw [List.length_take] at h
    have e : pp ++ List.replicate c x = (pp ++ List.replicate t x) ++ List.replicate (c - t) x := by
      rw [List.append_assoc, List.replicate_append_replicate, show t + (c - t) = c by omega]
    rw [e]
    exact (List.take_append_of_le_length (by omega)).symm
noncomputable def f_coq (a b c : List V) : List V × List V × Int := (V.frzs (f_coc a b c).1, V.frzs (f_coc a b c).2.1, (f_coc a b c).2.2)
def c_K_Qi (f : List V → List V → List V → List V × List V × Int) (q : List V → List V → List V → Prop) : Contract := fun
  | [.agg [.slc false 2 (.int .i64 0) a0, .slc false 2 (.int .i64 0) a1, .slc false 2 (.int .i64 0) a2]] => some ([q a0 a1 a2], .tup [.agg [.slc false 74 (.agg [.slc false 2 (.int .i64 0) []]) ((f a0 a1 a2).1), .slc false 22 (.slc false 2 (.int .i64 0) []) ((f a0 a1 a2).2.1)], .int .i64 ((f a0 a1 a2).2.2)])
  | _ => none
set_option maxHeartbeats 1000000 in
set_option maxRecDepth 100000 in
theorem s_spec_CurveOfCluster : Sat Try.prog 19 (c_K_Qi f_coq q_K) := by
  intro args ps r h hp
  unfold c_K_Qi at h
  split at h
  · rename_i a0 a1 a2
    simp only [Option.some.injEq, Prod.mk.injEq] at h
    obtain ⟨rfl, rfl⟩ := h
    have hq : q_K a0 a1 a2 := (alls_cons.1 hp).1
    obtain ⟨⟨P, hP⟩, ⟨S, hS⟩, ⟨Q, hQ⟩⟩ := id hq
    have g0 : V.frzs a0 = a0 := by rw [hP, I_frzs]
    have g1 : V.frzs a1 = a1 := by rw [hS, I_frzs]
    have g2 : V.frzs a2 = a2 := by rw [hQ, I_frzs]
    have hpl : a0.length = P.length := by rw [hP, I_length]
    have hf1 : f_isCl a0 a1 a2 = false → f_coc a0 a1 a2 = ([], [], 1) := fun h => by rw [f_coc, h]; rfl
    have hf2 : f_isCl a0 a1 a2 = true → f_cons a0 a1 a2 = false → f_coc a0 a1 a2 = ([], [], 5) := fun h h2 => by rw [f_coc, h, h2]; rfl
    obtain ⟨fs, hfs⟩ : ∃ fs, fs = facA (exsL P S Q) P.length := ⟨_, rfl⟩
    have hf3 : f_isCl a0 a1 a2 = true → f_cons a0 a1 a2 = true → f_coc a0 a1 a2 = cocP P S (ptsF fs) := fun h h2 => by rw [f_coc, h, h2, hpl, hP, hS, hQ, unI_I, unI_I, unI_I, hfs]; rfl
    have hff : f_facs a0 a1 a2 = II true fs := by rw [f_facs, hpl, hP, hS, hQ, unI_I, unI_I, unI_I, hfs]
    obtain ⟨vf, hvf⟩ : ∃ vf, vf = II true fs := ⟨_, rfl⟩
    rw [← hvf] at hff
    have hvl : vf.length = fs.length := by rw [hvf, II_length]
    have gvf : ∀ k, vf.getD k (.slc true 2 (.int .i64 0) []) = .slc true 2 (.int .i64 0) (I (fs.getD k [])) := fun k => by rw [hvf, II_getD]
    obtain ⟨n, hn⟩ : ∃ n : Int, n = fs.length := ⟨_, rfl⟩
    generalize H_f_isCl : f_isCl = F_f_isCl
    generalize H_q_K : q_K = F_q_K
    generalize H_f_cons : f_cons = F_f_cons
    generalize H_q_Kv : q_Kv = F_q_Kv
    generalize H_f_facs : f_facs = F_f_facs
    generalize H_f_bat : f_bat = F_f_bat
    generalize H_q_Kp : q_Kp = F_q_Kp
    generalize H_f_path : f_path = F_f_path
    generalize H_f_has : f_has = F_f_has
    generalize H_q_lI : q_lI = F_q_lI
    refine fnOk_ofF (T := tab) (B := [(52, c_K_b F_f_isCl F_q_K), (53, c_K_b F_f_cons F_q_Kv), (54, c_K_m F_f_facs F_q_Kv), (55, c_Ki_Ai F_f_bat F_q_Kp), (3000000055, c_alias), (56, c_Ki_l9 F_f_path F_q_Kp), (41, c_lxi_b F_f_has F_q_lI)]) (Bi := []) [1000016708, 2000019811, 2000019884, 2000019998, 2000023101, 0, 1, 2, 3, 4, 5, 6, 7, 8, 9, 10, 11, 12, 13, 14, 15, 16, 17] Try.func19 rfl rfl (by kernel_rfl) (Nat.le_of_ble_eq_true rfl) mixed tabOk (by subst H_f_isCl H_q_K H_f_cons H_q_Kv H_f_facs H_f_bat H_q_Kp H_f_path H_f_has H_q_lI; exact (bookCons s_spec_l07Is (bookCons s_spec_l07Consistent (bookCons s_spec_l08Factors (bookCons s_spec_BranchAtPoint (bookCons s_alias (bookCons s_spec_l08Path (bookCons s_spec_l01Has bookNil)))))))) (by subst H_f_isCl H_q_K H_f_cons H_q_Kv H_f_facs H_f_bat H_q_Kp H_f_path H_f_has H_q_lI; exact bookINil) (by kernel_rfl) ?_
    intro L lp rr hL hr hf hlp
    have Ef : F_f_facs a0 a1 a2 = vf := by rw [← H_f_facs]; exact hff
    conv => cbv
    simp only [stdEqs hL, imp_self, true_and, and_true, bif_or, bif_and, Bool.or_eq_true, Bool.or_eq_false_iff, Bool.and_eq_true, Bool.and_eq_false_iff, decide_eq_true_eq, decide_eq_false_iff_not, Bool.not_eq_true', Bool.not_eq_false', beq_iff_eq, beq_eq_false_iff_ne, ne_eq, toNat0, toNat1, ok_int, toI_int, I_frzs, I_length, I_getD, ok_ints, toL_slc, g0, g1, g2, Ef, hvl, ← hn]
    refine ⟨by rw [← H_q_K]; exact hq, fun h => ?_, fun hcl0 => ?_⟩
    · rw [hr, f_coq, hf1 (by rw [← h, ← H_f_isCl])]
    have hcl1 : f_isCl a0 a1 a2 = true := by rw [← hcl0, ← H_f_isCl]
    have hqv : q_Kv a0 a1 a2 := q_Kv_of hq hcl1
    have hcl : ClP P S Q := by have := hqv.2; rwa [hP, hS, hQ, unI_I, unI_I, unI_I] at this
    have Qv : F_q_Kv a0 a1 a2 := by rw [← H_q_Kv]; exact hqv
    have hfo : FacOk P.length fs := by rw [hfs]; exact facs_ok hcl
    have hl24 := hfo.len
    refine ⟨Qv, fun h => ?_, fun hco0 => ?_⟩
    · rw [hr, f_coq, hf2 hcl1 (by rw [← h, ← H_f_cons])]
    have hco1 : f_cons a0 a1 a2 = true := by rw [← hco0, ← H_f_cons]
    have hf0 := hf3 hcl1 hco1
    refine ⟨Qv, ?_⟩
    refine hlp (List V × Int) _ _ _ [1, 2, 4, 5, 6] (fun x => [(1, none, .val (.box 46 (.agg [.slc false 2 (.int .i64 0) a0, .slc false 2 (.int .i64 0) a1, .slc false 2 (.int .i64 0) a2]))), (2, none, .val (.box 43 (.agg [.slc true 74 (.agg [.slc true 2 (.int .i64 0) []]) [], .slc true 22 (.slc true 2 (.int .i64 0) []) []]))), (4, none, .val (.slc true 22 (.slc true 2 (.int .i64 0) []) vf)), (5, none, .val (.slc true 2 (.int .i64 0) x.1)), (6, none, .val (.int .i64 x.2))])
      (fun x => 0 ≤ x.2 ∧ x.2 ≤ n ∧ x.1 = I ((ptsF (fs.take x.2.toNat)).take 7)) (fun x => (n - x.2).toNat) (([], 0)) (by subst hL; rfl) ?_ ?_
    · exact ⟨by simp, by simp only; omega, rfl⟩
    rintro ⟨vp, i⟩ ⟨i0, i1, hI⟩ hfx ag hag
    simp only at i0 i1 hI
    obtain ⟨ni, hni⟩ : ∃ ni : Nat, ni = i.toNat := ⟨_, rfl⟩
    rw [← hni] at hI
    have hvpl : vp.length = ((ptsF (fs.take ni)).take 7).length := by rw [hI, I_length]
    conv => cbv
    simp only [stdEqs hL, imp_self, true_and, and_true, bif_or, bif_and, Bool.or_eq_true, Bool.or_eq_false_iff, Bool.and_eq_true, Bool.and_eq_false_iff, decide_eq_true_eq, decide_eq_false_iff_not, Bool.not_eq_true', Bool.not_eq_false', beq_iff_eq, beq_eq_false_iff_ne, ne_eq, toNat0, toNat1, ok_int, toI_int, I_frzs, I_length, I_getD, ok_ints, toL_slc, g0, g1, g2, hvl, gvf, ← hn, I_getD, I_length, ← hni]
    refine ⟨fun h2 => ?_, fun h2 => ?_⟩
    · obtain ⟨r1, r2, r3, r4, r5⟩ := hfo.get (i := ni) (by omega)
      obtain ⟨xx, hx⟩ : ∃ xx, xx = (fs.getD ni []).getD 0 0 := ⟨_, rfl⟩
      rw [← hx] at r2 r3
      obtain ⟨c, hc⟩ : ∃ c, c = (fs.getD ni []).getD 1 0 := ⟨_, rfl⟩
      rw [← hc] at r4 r5
      obtain ⟨pp, hpp⟩ : ∃ pp, pp = ptsF (fs.take ni) := ⟨_, rfl⟩
      rw [← hpp] at hI
      have hnx : ptsF (fs.take (ni + 1)) = pp ++ List.replicate c.toNat xx := by rw [take_snoc (by omega), ptsF_snoc, ← hpp, ← hx, ← hc]
      simp only [← hc]
      refine ⟨i0, h2, by omega, by omega, by omega, by omega, by omega, by omega, ?_⟩
      refine hlp (List V × Int) _ _ _ [1, 2, 4, 5, 6, 7] (fun x => [(1, none, .val (.box 46 (.agg [.slc false 2 (.int .i64 0) a0, .slc false 2 (.int .i64 0) a1, .slc false 2 (.int .i64 0) a2]))), (2, none, .val (.box 43 (.agg [.slc true 74 (.agg [.slc true 2 (.int .i64 0) []]) [], .slc true 22 (.slc true 2 (.int .i64 0) []) []]))), (4, none, .val (.slc true 22 (.slc true 2 (.int .i64 0) []) vf)), (5, none, .val (.slc true 2 (.int .i64 0) x.1)), (6, none, .val (.int .i64 i)), (7, none, .val (.int .i64 x.2))])
        (fun x => 0 ≤ x.2 ∧ x.2 ≤ c ∧ x.1 = I ((pp ++ List.replicate (c - x.2).toNat xx).take 7)) (fun x => x.2.toNat) ((vp, c)) (by subst hL; rfl) ?_ ?_
      · exact ⟨by simp only; omega, by simp, by simp only; rw [hI]; simp⟩
      rintro ⟨vp2, e⟩ ⟨e0, e1, hI2⟩ hfx2 ag2 hag2
      simp only at e0 e1 hI2
      have hvl2 : vp2.length = ((pp ++ List.replicate (c - e).toNat xx).take 7).length := by rw [hI2, I_length]
      have hv7 : vp2.length ≤ 7 := by rw [hvl2, List.length_take]; omega
      conv => cbv
      simp only [stdEqs hL, imp_self, true_and, and_true, bif_or, bif_and, Bool.or_eq_true, Bool.or_eq_false_iff, Bool.and_eq_true, Bool.and_eq_false_iff, decide_eq_true_eq, decide_eq_false_iff_not, Bool.not_eq_true', Bool.not_eq_false', beq_iff_eq, beq_eq_false_iff_ne, ne_eq, toNat0, toNat1, ok_int, toI_int, I_frzs, I_length, I_getD, ok_ints, toL_slc, hvl, gvf, ← hn, I_getD, I_length, ← hni, ← hx]
      refine ⟨fun h5 => ⟨i0, h2, by omega, by omega, by omega, by omega, by omega, by omega, rfl, by simp only [List.length_cons, List.length_nil]; omega, fun z hz => by (simp only [List.mem_singleton] at hz; subst hz; rfl), ?_⟩, fun h5 => ?_⟩
      · rw [wrap_id (n := e - 1) (by omega) (by omega)]
        refine hag2 (_, e - 1) ⟨by simp only; omega, by simp only; omega, ?_⟩ (by simp only; omega)
        simp only
        rw [show (c - (e - 1)).toNat = (c - e).toNat + 1 by omega, ← take7_step (by rw [← hvl2]; omega), ← I_append, ← hI2]
        rfl
      · rw [wrap_id (n := i + 1) (by omega) (by omega)]
        refine hag (vp2, i + 1) ⟨by simp only; omega, by simp only; omega, ?_⟩ (by simp only; omega)
        simp only
        rw [show (i + 1).toNat = ni + 1 by omega, hnx, hI2, take7_end (t := (c - e).toNat) (c := c.toNat) (by omega) (by
          rcases h5 with h5 | h5
          · exact .inl (by omega)
          · exact .inr (by rw [← hvl2]; omega))]
    have htk : fs.take ni = fs := List.take_of_length_le (by omega)
    obtain ⟨ps, hps⟩ : ∃ ps, ps = ptsF fs := ⟨_, rfl⟩
    rw [htk, ← hps] at hI hvpl
    rw [← hps] at hf0
    rw [List.length_take] at hvpl
    refine ⟨fun h3 => ?_, fun h3 => ?_⟩
    · have h4 : ps.length = 0 ∨ 6 < ps.length := by omega
      rw [hr, f_coq, hf0, cocP, if_pos h4]
    have hp6 : 1 ≤ ps.length ∧ ps.length ≤ 6 := by omega
    have hf4 : cocP P S ps = bif ps.all (okX P S) then (BB true (ps.map (curX P S)), II true (T2 ps.length (com P ps)), 0) else ([], [], 5) := by rw [cocP, if_neg (by omega)]
    rw [List.take_of_length_le (by omega)] at hI
    have hvl3 : vp.length = ps.length := by rw [hI, I_length]
    have gvp : ∀ k, vp.getD k (.int .i64 0) = .int .i64 (ps.getD k 0) := fun k => by rw [hI, I_getD]
    have hbatx : ∀ x : Int, 0 ≤ x → x < P.length → F_f_bat a0 a1 a2 x = curR (codI P S x) := fun x h1 h2 => by rw [← H_f_bat, f_bat, hP, hS, unI_I, unI_I]
    have Qp : ∀ x : Int, 0 ≤ x → x < P.length → F_q_Kp a0 a1 a2 x := by
      rw [← H_q_Kp]
      exact fun x h1 h2 => ⟨hqv, h1, by rw [hpl]; exact h2⟩
    have Ep : ∀ x : Int, F_f_path a0 a1 a2 x = I (pthC P x) := fun x => by rw [← H_f_path, f_path, hP, unI_I]
    have hpin : ∀ k, k < ps.length → 0 ≤ ps.getD k 0 ∧ ps.getD k 0 < P.length := fun k hk => ptsF_in hfo (ps.getD k 0) (by rw [← hps]; exact getD_mem hk)
    obtain ⟨m, hm⟩ : ∃ m : Int, m = ps.length := ⟨_, rfl⟩
    clear hag hfx ag
    refine hlp ((List V × List V) × Int) _ _ _ [1, 2, 5, 8, 9, 10] (fun x => [(1, none, .val (.box 46 (.agg [.slc false 2 (.int .i64 0) a0, .slc false 2 (.int .i64 0) a1, .slc false 2 (.int .i64 0) a2]))), (2, none, .val (.box 43 (.agg [.slc true 74 (.agg [.slc true 2 (.int .i64 0) []]) [], .slc true 22 (.slc true 2 (.int .i64 0) []) []]))), (5, none, .val (.slc true 2 (.int .i64 0) vp)), (8, none, .val (.box 43 (.agg [.slc true 74 (.agg [.slc false 2 (.int .i64 0) []]) x.1.1, .slc true 22 (.slc true 2 (.int .i64 0) []) []]))), (9, none, .val (.slc true 22 (.slc true 2 (.int .i64 0) []) x.1.2)), (10, none, .val (.int .i64 x.2))])
      (fun x => 0 ≤ x.2 ∧ x.2 ≤ m ∧ x.1.1 = BB false ((ps.take x.2.toNat).map (curX P S)) ∧ x.1.2 = II true ((ps.take x.2.toNat).map (pthC P)) ∧ ∀ y ∈ ps.take x.2.toNat, okX P S y = true) (fun x => (m - x.2).toNat) ((([], []), 0)) (by subst hL; rfl) ?_ ?_
    · exact ⟨by simp, by simp only; omega, rfl, rfl, fun y hy => by cases hy⟩
    rintro ⟨⟨bs, qs⟩, j⟩ ⟨j0, j1, hB, hQ2, hok⟩ hfx ag hag
    simp only at j0 j1 hB hQ2 hok
    obtain ⟨nj, hnj⟩ : ∃ nj : Nat, nj = j.toNat := ⟨_, rfl⟩
    rw [← hnj] at hB hQ2 hok
    have hbl : bs.length ≤ 6 := by rw [hB, BB_length, List.length_map, List.length_take]; omega
    have hql : qs.length ≤ 6 := by rw [hQ2, II_length, List.length_map, List.length_take]; omega
    conv => cbv
    simp only [stdEqs hL, imp_self, true_and, and_true, bif_or, bif_and, Bool.or_eq_true, Bool.or_eq_false_iff, Bool.and_eq_true, Bool.and_eq_false_iff, decide_eq_true_eq, decide_eq_false_iff_not, Bool.not_eq_true', Bool.not_eq_false', beq_iff_eq, beq_eq_false_iff_ne, ne_eq, toNat0, toNat1, ok_int, toI_int, I_frzs, I_length, I_getD, ok_ints, toL_slc, g0, g1, g2, hvl3, gvp, ← hm, ← hnj, Ep]
    refine ⟨fun h4 => ?_, fun h4 => ?_⟩
    · have hnl : nj < ps.length := by omega
      obtain ⟨x, hx⟩ : ∃ x, x = ps.getD nj 0 := ⟨_, rfl⟩
      obtain ⟨x0, x1⟩ := hpin nj hnl
      rw [← hx] at x0 x1
      simp only [← hx, hbatx x x0 x1]
      have hxm : x ∈ ps := by rw [hx]; exact getD_mem hnl
      have htk2 : ps.take (nj + 1) = ps.take nj ++ [x] := by rw [List.take_succ_eq_append_getElem hnl, getD_at hnl, hx]
      refine ⟨j0, h4, hnl, Qp x x0 x1, ?_⟩
      cases hox : okX P S x with
      | false =>
        rw [curR_no hox]
        refine ⟨fun _ => ?_, fun h => by cases h⟩
        have hall : ps.all (okX P S) = false := by rw [List.all_eq_false]; exact ⟨x, hxm, by rw [hox]; simp⟩
        rw [hr, f_coq, hf0, hf4, hall]
        rfl
      | true =>
        rw [curR_yes hox, wrap_id (n := j + 1) (by omega) (by omega)]
        refine ⟨fun h => absurd rfl h, fun _ => ⟨by simp only [List.length_cons, List.length_nil]; omega, fun z hz => by (simp only [List.mem_singleton] at hz; subst hz; rfl), j0, h4, hnl, Qp x x0 x1, by simp only [List.length_cons, List.length_nil]; omega, fun z hz => by (simp only [List.mem_singleton] at hz; subst hz; rfl), ?_⟩⟩
        refine hag ((_, _), j + 1) ⟨by simp only; omega, by simp only; omega, ?_, ?_, fun y hy => ?_⟩ (by simp only; omega)
        · simp only
          rw [show (j + 1).toNat = nj + 1 by omega, htk2, List.map_append, hB]
          simp [BB]
        · simp only
          rw [show (j + 1).toNat = nj + 1 by omega, htk2, List.map_append, hQ2]
          simp [II]
        · simp only at hy
          rw [show (j + 1).toNat = nj + 1 by omega, htk2] at hy
          rcases List.mem_append.1 hy with hy | hy
          · exact hok y hy
          · rw [List.mem_singleton] at hy; rw [hy]; exact hox
    have htj : ps.take nj = ps := List.take_of_length_le (by omega)
    rw [htj] at hB hQ2 hok
    have hall : ps.all (okX P S) = true := by rw [List.all_eq_true]; exact hok
    have hf5 : f_coc a0 a1 a2 = (BB true (ps.map (curX P S)), II true (T2 ps.length (com P ps)), 0) := by rw [hf0, hf4, hall]; rfl
    have hqsl : qs.length = ps.length := by rw [hQ2, II_length, List.length_map]
    have gqs : ∀ k, k < ps.length → qs.getD k (.slc true 2 (.int .i64 0) []) = .slc true 2 (.int .i64 0) (I (pthC P (ps.getD k 0))) := fun k hk => by
      rw [hQ2, II_getD]
      congr 2
      rw [List.getD_eq_getElem?_getD, List.getElem?_map, List.getElem?_eq_getElem hk, List.getD_eq_getElem?_getD, List.getElem?_eq_getElem hk]
      rfl
    have Eh : ∀ (xs : List Int) (y : Int), F_f_has (I xs) y = decide (y ∈ xs) := fun xs y => by rw [← H_f_has, f_has, unI_I]; rw [Bool.eq_iff_iff]; simp
    have hplen : ∀ k, k < ps.length → (pthC P (ps.getD k 0)).length ≤ 24 := fun k hk => pthC_len hcl (by have := hpin k hk; omega) (hpin k hk).2
    have Qh : ∀ (k : Nat) (y : Int), k < ps.length → F_q_lI (I (pthC P (ps.getD k 0))) y := by
      rw [← H_q_lI]
      exact fun k y hk => ⟨⟨_, rfl⟩, by rw [I_length]; have := hplen k hk; omega⟩
    clear hag hfx ag
    refine hlp (List V × Int) _ _ _ [2, 5, 8, 9, 13] (fun x => [(2, none, .val (.box 43 (.agg [.slc true 74 (.agg [.slc true 2 (.int .i64 0) []]) [], .slc true 22 (.slc true 2 (.int .i64 0) []) []]))), (5, none, .val (.slc true 2 (.int .i64 0) vp)), (8, none, .val (.box 43 (.agg [.slc true 74 (.agg [.slc false 2 (.int .i64 0) []]) bs, .slc true 22 (.slc true 2 (.int .i64 0) []) x.1]))), (9, none, .val (.slc true 22 (.slc true 2 (.int .i64 0) []) qs)), (13, none, .val (.int .i64 x.2))])
      (fun x => 0 ≤ x.2 ∧ x.2 ≤ m ∧ x.1 = II true (tab' (fun a => tab' (com P ps a) ps.length) x.2.toNat)) (fun x => (m - x.2).toNat) (([], 0)) (by subst hL; rfl) ?_ ?_
    · exact ⟨by simp, by simp only; omega, rfl⟩
    rintro ⟨ms, i⟩ ⟨i0, i1, hM⟩ hfx ag hag
    simp only at i0 i1 hM
    obtain ⟨ni, hni⟩ : ∃ ni : Nat, ni = i.toNat := ⟨_, rfl⟩
    rw [← hni] at hM
    have hml : ms.length = ni := by rw [hM, II_length, tab_len]
    conv => cbv
    simp only [stdEqs hL, imp_self, true_and, and_true, bif_or, bif_and, Bool.or_eq_true, Bool.or_eq_false_iff, Bool.and_eq_true, Bool.and_eq_false_iff, decide_eq_true_eq, decide_eq_false_iff_not, Bool.not_eq_true', Bool.not_eq_false', beq_iff_eq, beq_eq_false_iff_ne, ne_eq, toNat0, toNat1, ok_int, toI_int, I_frzs, I_length, I_getD, ok_ints, toL_slc, hvl3, ← hm, ← hni]
    refine ⟨fun h5 => ?_, fun h5 => ?_⟩
    · have hnil : ni < ps.length := by omega
      refine hlp (List V × Int) _ _ _ [2, 5, 8, 9, 13, 14, 15] (fun x => [(2, none, .val (.box 43 (.agg [.slc true 74 (.agg [.slc true 2 (.int .i64 0) []]) [], .slc true 22 (.slc true 2 (.int .i64 0) []) []]))), (5, none, .val (.slc true 2 (.int .i64 0) vp)), (8, none, .val (.box 43 (.agg [.slc true 74 (.agg [.slc false 2 (.int .i64 0) []]) bs, .slc true 22 (.slc true 2 (.int .i64 0) []) ms]))), (9, none, .val (.slc true 22 (.slc true 2 (.int .i64 0) []) qs)), (13, none, .val (.int .i64 i)), (14, none, .val (.slc true 2 (.int .i64 0) x.1)), (15, none, .val (.int .i64 x.2))])
        (fun x => 0 ≤ x.2 ∧ x.2 ≤ m ∧ x.1 = I (tab' (com P ps ni) x.2.toNat)) (fun x => (m - x.2).toNat) (([], 0)) (by subst hL; rfl) ?_ ?_
      · exact ⟨by simp, by simp only; omega, rfl⟩
      rintro ⟨rs, k⟩ ⟨k0, k1, hR⟩ hfx2 ag2 hag2
      simp only at k0 k1 hR
      obtain ⟨nk, hnk⟩ : ∃ nk : Nat, nk = k.toNat := ⟨_, rfl⟩
      rw [← hnk] at hR
      have hrl : rs.length = nk := by rw [hR, I_length, tab_len]
      conv => cbv
      simp only [stdEqs hL, imp_self, true_and, and_true, bif_or, bif_and, Bool.or_eq_true, Bool.or_eq_false_iff, Bool.and_eq_true, Bool.and_eq_false_iff, decide_eq_true_eq, decide_eq_false_iff_not, Bool.not_eq_true', Bool.not_eq_false', beq_iff_eq, beq_eq_false_iff_ne, ne_eq, toNat0, toNat1, ok_int, toI_int, I_frzs, I_length, I_getD, ok_ints, toL_slc, hvl3, ← hm, ← hnk]
      refine ⟨fun h6 => ?_, fun h6 => ?_⟩
      · have hkl : nk < ps.length := by omega
        refine hlp (Int × Int) _ _ _ [2, 5, 8, 9, 13, 14, 15, 16, 17] (fun x => [(2, none, .val (.box 43 (.agg [.slc true 74 (.agg [.slc true 2 (.int .i64 0) []]) [], .slc true 22 (.slc true 2 (.int .i64 0) []) []]))), (5, none, .val (.slc true 2 (.int .i64 0) vp)), (8, none, .val (.box 43 (.agg [.slc true 74 (.agg [.slc false 2 (.int .i64 0) []]) bs, .slc true 22 (.slc true 2 (.int .i64 0) []) ms]))), (9, none, .val (.slc true 22 (.slc true 2 (.int .i64 0) []) qs)), (13, none, .val (.int .i64 i)), (14, none, .val (.slc true 2 (.int .i64 0) rs)), (15, none, .val (.int .i64 k)), (16, none, .val (.int .i64 x.1)), (17, none, .val (.int .i64 x.2))])
          (fun x => 0 ≤ x.2 ∧ x.2 ≤ 24 ∧ (i = k → x.2 = 0) ∧ x.1 = (shN ((pthC P (ps.getD nk 0)).take x.2.toNat) (pthC P (ps.getD ni 0)) : Nat)) (fun x => (24 - x.2).toNat) ((0, 0)) (by subst hL; rfl) ?_ ?_
        · exact ⟨by simp, by simp, fun _ => rfl, by simp [shN]⟩
        rintro ⟨s, j⟩ ⟨j0', j1', hjk, hS2⟩ hfx3 ag3 hag3
        simp only at j0' j1' hjk hS2
        conv => cbv
        simp only [stdEqs hL, imp_self, true_and, and_true, bif_or, bif_and, Bool.or_eq_true, Bool.or_eq_false_iff, Bool.and_eq_true, Bool.and_eq_false_iff, decide_eq_true_eq, decide_eq_false_iff_not, Bool.not_eq_true', Bool.not_eq_false', beq_iff_eq, beq_eq_false_iff_ne, ne_eq, toNat0, toNat1, ok_int, toI_int, I_frzs, I_length, I_getD, ok_ints, toL_slc, hqsl, ← hm, ← hnk, ← hni, gqs nk hkl, gqs ni hnil, I_getD, I_length, Eh]
        have hpk := hplen nk hkl
        refine ⟨k0, h6, hkl, hkl, fun h7 => ⟨i0, h5, hnil, k0, h6, hkl, hkl, j0', h7.1, hkl, by omega, hnil, Qh ni _ hnil, ?_⟩, fun h7 => ⟨rfl, by simp only [List.length_cons, List.length_nil]; omega, fun z hz => by (simp only [List.mem_singleton] at hz; subst hz; rfl), ?_⟩⟩
        · have hst := shN_take (b := pthC P (ps.getD ni 0)) (show j.toNat < (pthC P (ps.getD nk 0)).length by omega)
          have hsl := shN_le ((pthC P (ps.getD nk 0)).take j.toNat) (pthC P (ps.getD ni 0))
          rw [List.length_take] at hsl
          have hj1 : (j + 1).toNat = j.toNat + 1 := by omega
          refine ⟨fun h8 => ?_, fun h8 => ?_⟩
          · rw [if_pos h8] at hst
            rw [wrap_id (n := s + 1) (by omega) (by omega), wrap_id (n := j + 1) (by omega) (by omega)]
            exact hag3 (s + 1, j + 1) ⟨by simp only; omega, by simp only; omega, fun h9 => absurd h9 h7.2, by simp only; rw [hj1, hst, hS2]; simp⟩ (by simp only; omega)
          · rw [if_neg h8] at hst
            rw [wrap_id (n := j + 1) (by omega) (by omega)]
            exact hag3 (s, j + 1) ⟨by simp only; omega, by simp only; omega, fun h9 => absurd h9 h7.2, by simp only; rw [hj1, hst, hS2]; simp⟩ (by simp only; omega)
        · have hsv : s = com P ps ni nk := by
            by_cases hik : i = k
            · have h8 := hjk hik
              rw [com, if_pos (by omega), hS2, h8]
              rfl
            · have h8 : (pthC P (ps.getD nk 0)).length ≤ j.toNat := by
                rcases h7 with h7 | h7
                · omega
                · exact absurd h7 hik
              have h9 := hpin ni hnil
              have h10 := hpin nk hkl
              rw [com, if_neg (by omega), hS2, List.take_of_length_le h8, shN_comm (pthC_nodup hcl (by omega) h10.2) (pthC_nodup hcl (by omega) h9.2)]
          rw [wrap_id (n := k + 1) (by omega) (by omega)]
          refine hag2 (_, k + 1) ⟨by simp only; omega, by simp only; omega, ?_⟩ (by simp only; omega)
          simp only
          rw [show (k + 1).toNat = nk + 1 by omega, tab_succ, ← I_append, ← hR, ← hsv]
          rfl
      · rw [wrap_id (n := i + 1) (by omega) (by omega)]
        refine ⟨by simp only [List.length_cons, List.length_nil]; omega, solid1 (by simp [V.solid]), ?_⟩
        refine hag (_, i + 1) ⟨by simp only; omega, by simp only; omega, ?_⟩ (by simp only; omega)
        simp only
        rw [show (i + 1).toNat = ni + 1 by omega, tab_succ, II_append, ← hM, II_one, hR, show nk = ps.length by omega]
    · have hin : ni = ps.length := by omega
      rw [hr, f_coq, hf5, hM, hB, hin]
      simp only [BB_frzs, II_frzs]
      rfl
  · cases h
end Go.Ax
