/-
  Polar invariants. No conditions but those of the contracts.
-/
import Derived.Test.YtdnkchoihhghjaaFi
set_option linter.all false
namespace Go.Ax
open Go.Proofs

def polRow (xs : List Int) (i : Nat) : List Int := [W (W (((dv xs).getD 0 0).tdiv ((dv xs).getD (i + 1) 0)) - W (((dv xs).getD 0 0).tdiv ((dv xs).getD i 0))), W (W (rat xs i - 1) * genF xs (i + 1))]
def pol (xs : List Int) : List (List Int) := tab' (polRow xs) (xs.length - 1)
def c_B_mi (f : List V → List V × Int) (q : List V → Prop) : Contract := fun
  | [.agg [.slc false 2 (.int .i64 0) a0]] => some ([q a0], .tup [.slc true 22 (.slc true 2 (.int .i64 0) []) ((f a0).1), .int .i64 ((f a0).2)])
  | _ => none
def f_pol (a : List V) : List V × Int := bif isBr (unI a) then (II true (pol (unI a)), 0) else ([], 1)
set_option maxRecDepth 100000 in
theorem s_impl_PolarInvariants : Sat Try.prog 23 (c_B_mi f_pol IsIs) := by
  intro args ps r h hp
  unfold c_B_mi at h
  split at h
  · rename_i a0
    simp only [Option.some.injEq, Prod.mk.injEq] at h
    obtain ⟨rfl, rfl⟩ := h
    have hq : IsIs a0 := (alls_cons.1 hp).1
    obtain ⟨xs, hxs⟩ := hq.1
    have g1 : V.frzs a0 = a0 := by rw [hxs, I_frzs]
    have e1 : f0_isBr a0 = isBr xs := by rw [hxs, f0_isBr, unI_I]
    have e2 : f_pol a0 = bif isBr xs then (II true (pol xs), 0) else ([], 1) := by rw [f_pol, hxs, unI_I]
    have e3 : f0_dv a0 = I (dv xs) := by rw [f0_dv, hxs, unI_I]
    have e4 : f_ratios a0 = I (ratios xs) := by rw [f_ratios, hxs, unI_I]
    have e5 : f_gens a0 = I (gens xs) := by rw [f_gens, hxs, unI_I]
    generalize H_f0_isBr : f0_isBr = F_f0_isBr
    generalize H_IsIs : IsIs = F_IsIs
    generalize H_f0_dv : f0_dv = F_f0_dv
    generalize H_f_ratios : f_ratios = F_f_ratios
    generalize H_IsBr : IsBr = F_IsBr
    generalize H_f_gens : f_gens = F_f_gens
    refine fnOk_ofI (T := tab) (B := [(75, c_b_bool F_f0_isBr F_IsIs), (76, c_l_l F_f0_dv F_IsIs), (77, c_B_l F_f_ratios F_IsBr), (78, c_B_l F_f_gens F_IsBr)]) (Bi := []) [2000008055, 0, 1, 2, 3, 4, 5, 6, 7, 8] Try.func23 rfl rfl (by kernel_rfl) (Nat.le_of_ble_eq_true rfl) mixed tabOk (by subst H_f0_isBr H_IsIs H_f0_dv H_f_ratios H_IsBr H_f_gens; exact (bookCons s_impl_IsBranch (bookCons s_impl_divisors (bookCons s_impl_ratios (bookCons s_impl_generators bookNil))))) (by subst H_f0_isBr H_IsIs H_f0_dv H_f_ratios H_IsBr H_f_gens; exact bookINil) (by kernel_rfl) ?_
    intro L lp rr hL hr hf hlp
    conv => cbv
    simp only [stdEqs hL, g1]
    subst H_f0_isBr H_IsIs H_f0_dv H_f_ratios H_f_gens H_IsBr
    simp only [e1, e3, e4, e5]
    refine ⟨hq, fun h => ?_, fun h => ?_⟩
    · simp only [Bool.not_eq_true'] at h; rw [hr, e2, h]; rfl
    simp only [Bool.not_eq_false'] at h
    have h0 := h
    have hb := br_of h
    have hbq : IsBr a0 := ⟨xs, hxs, hb⟩
    have h1 := hb.len
    have h2 := hb.pos
    have l1 : (I (dv xs)).length = xs.length := by rw [I_length, hb.dlen]
    refine ⟨hq, hbq, hbq, ?_⟩
    obtain ⟨ds, hds⟩ : ∃ ds, ds = I (dv xs) := ⟨_, rfl⟩
    obtain ⟨rs, hrs⟩ : ∃ rs, rs = I (ratios xs) := ⟨_, rfl⟩
    obtain ⟨gs, hgs⟩ : ∃ gs, gs = I (gens xs) := ⟨_, rfl⟩
    rw [← hds] at l1
    refine hlp (List V × Int) _ _ _ [4, 5, 6, 7, 8] (fun x => [(4, none, .val (.slc true 2 (.int .i64 0) ds)), (5, none, .val (.slc true 2 (.int .i64 0) rs)), (6, none, .val (.slc true 2 (.int .i64 0) gs)), (7, none, .val (.slc true 22 (.slc true 2 (.int .i64 0) []) x.1)), (8, none, .val (.int .i64 x.2))])
      (fun x => 1 ≤ x.2 ∧ x.2 ≤ xs.length ∧ x.1 = II true (tab' (polRow xs) (x.2 - 1).toNat)) (fun x => (xs.length - x.2).toNat) (([], 1)) (by subst hL hds hrs hgs; rfl) ?_ ?_
    · exact ⟨by simp, by simp only; omega, rfl⟩
    rintro ⟨es, i⟩ ⟨i0, i1, hes⟩ hfx ag hag
    conv => cbv
    simp only at i0 i1 hes
    have hel : es.length = (i - 1).toNat := by rw [hes, II_length, tab_len]
    have w1 : W (i - 1) = i - 1 := wrap_id (by omega) (by omega)
    have rl : (ratios xs).length = xs.length := by rw [ratios, tab_len]
    have gl : (gens xs).length = xs.length := by rw [gens, tab_len]
    have dl : (dv xs).length = xs.length := hb.dlen
    have p1 := hb.dpos i.toNat
    have p2 := hb.dpos (i - 1).toNat
    subst hds hrs hgs
    simp only [stdEqs hL, hel, I_getD, I_length, rl, gl, dl, w1, ok_int, toI_int, imp_self, true_and, decide_eq_true_eq, decide_eq_false_iff_not]
    refine ⟨fun h => ?_, fun h => ?_⟩
    · (repeat' first | (exact solid_one _) | (exact solid1 rfl) | (exact noown_one _) | (apply And.intro) | (intro _)) <;> (try first | exact True.intro | omega | rfl | (simp only [List.length_cons, List.length_nil, I_length]; omega))
      rw [wrap_id (n := i + 1) (by omega) (by omega)]
      refine hag (_, i + 1) ⟨by simp only; omega, by simp only; omega, ?_⟩ (by simp only; omega)
      simp only
      rw [show (i + 1 - 1).toNat = (i - 1).toNat + 1 by omega, tab_succ, II_append, hes]
      congr 1
      obtain ⟨k, hk⟩ : ∃ k : Nat, i = k + 1 := ⟨(i - 1).toNat, by omega⟩
      subst hk
      rw [show ((k : Int) + 1).toNat = k + 1 by omega, show ((k : Int) + 1 - 1).toNat = k by omega, ratios, gens, tab_get _ _ _ _ (by omega), tab_get _ _ _ _ (by omega)]
      rfl
    · rw [hr, e2, h0, hes, show (i - 1).toNat = xs.length - 1 by omega]
      rfl
  · cases h
set_option maxRecDepth 100000 in
theorem s_spec_PolarInvariants : Sat Try.prog 21 (c_B_mi f_pol IsIs) := by
  intro args ps r h hp
  unfold c_B_mi at h
  split at h
  · rename_i a0
    simp only [Option.some.injEq, Prod.mk.injEq] at h
    obtain ⟨rfl, rfl⟩ := h
    have hq : IsIs a0 := (alls_cons.1 hp).1
    obtain ⟨xs, hxs⟩ := hq.1
    have g1 : V.frzs a0 = a0 := by rw [hxs, I_frzs]
    have e1 : f0_isBr a0 = isBr xs := by rw [hxs, f0_isBr, unI_I]
    have e2 : f_pol a0 = bif isBr xs then (II true (pol xs), 0) else ([], 1) := by rw [f_pol, hxs, unI_I]
    have e3 : f0_dv a0 = I (dv xs) := by rw [f0_dv, hxs, unI_I]
    have e5 : f_gens a0 = I (gens xs) := by rw [f_gens, hxs, unI_I]
    generalize H_f0_isBr : f0_isBr = F_f0_isBr
    generalize H_IsIs : IsIs = F_IsIs
    generalize H_f0_dv : f0_dv = F_f0_dv
    generalize H_IsP : IsP = F_IsP
    generalize H_f_gens : f_gens = F_f_gens
    generalize H_IsBr : IsBr = F_IsBr
    refine fnOk_ofI (T := tab) (B := [(72, c_b_bool F_f0_isBr F_IsIs), (73, c_b_l F_f0_dv F_IsP), (74, c_B_l F_f_gens F_IsBr)]) (Bi := []) [2000003012, 2000003014, 2000003015, 2000007057, 0, 1, 2, 3, 4, 5, 6, 7] Try.func21 rfl rfl (by kernel_rfl) (Nat.le_of_ble_eq_true rfl) mixed tabOk (by subst H_f0_isBr H_IsIs H_f0_dv H_IsP H_f_gens H_IsBr; exact (bookCons s_spec_l03Is (bookCons s_spec_l03Divisors (bookCons s_spec_l05Generators bookNil)))) (by subst H_f0_isBr H_IsIs H_f0_dv H_IsP H_f_gens H_IsBr; exact bookINil) (by kernel_rfl) ?_
    intro L lp rr hL hr hf hlp
    conv => cbv
    simp only [stdEqs hL, g1]
    subst H_f0_isBr H_IsIs H_f0_dv H_IsP H_f_gens H_IsBr
    simp only [e1, e3, e5]
    refine ⟨hq, fun h => ?_, fun h => ?_⟩
    · simp only [Bool.not_eq_true'] at h; rw [hr, e2, h]; rfl
    simp only [Bool.not_eq_false'] at h
    have h0 := h
    have hb := br_of h
    have hbq : IsBr a0 := ⟨xs, hxs, hb⟩
    have h1 := hb.len
    have h2 := hb.pos
    have l1 : (I (dv xs)).length = xs.length := by rw [I_length, hb.dlen]
    refine ⟨hbq.isP, hbq, ?_⟩
    obtain ⟨ds, hds⟩ : ∃ ds, ds = I (dv xs) := ⟨_, rfl⟩
    obtain ⟨gs, hgs⟩ : ∃ gs, gs = I (gens xs) := ⟨_, rfl⟩
    rw [← hds] at l1
    refine hlp (List V × Int) _ _ _ [4, 5, 6, 7] (fun x => [(4, none, .val (.slc true 2 (.int .i64 0) ds)), (5, none, .val (.slc true 2 (.int .i64 0) gs)), (6, none, .val (.slc true 22 (.slc true 2 (.int .i64 0) []) x.1)), (7, none, .val (.int .i64 x.2))])
      (fun x => 1 ≤ x.2 ∧ x.2 ≤ xs.length ∧ x.1 = II true (tab' (polRow xs) (x.2 - 1).toNat)) (fun x => (xs.length - x.2).toNat) (([], 1)) (by subst hL hds hgs; rfl) ?_ ?_
    · exact ⟨by simp, by simp only; omega, rfl⟩
    rintro ⟨es, i⟩ ⟨i0, i1, hes⟩ hfx ag hag
    conv => cbv
    simp only at i0 i1 hes
    have hel : es.length = (i - 1).toNat := by rw [hes, II_length, tab_len]
    have w1 : W (i - 1) = i - 1 := wrap_id (by omega) (by omega)
    have gl : (gens xs).length = xs.length := by rw [gens, tab_len]
    have dl : (dv xs).length = xs.length := hb.dlen
    have p1 := hb.dpos i.toNat
    have p2 := hb.dpos (i - 1).toNat
    subst hds hgs
    simp only [stdEqs hL, hel, I_getD, I_length, gl, dl, w1, ok_int, toI_int, imp_self, true_and, decide_eq_true_eq, decide_eq_false_iff_not]
    refine ⟨fun h => ?_, fun h => ?_⟩
    · (repeat' first | (exact solid_one _) | (exact solid1 rfl) | (exact noown_one _) | (apply And.intro) | (intro _)) <;> (try first | exact True.intro | omega | rfl | (simp only [List.length_cons, List.length_nil, I_length]; omega))
      rw [wrap_id (n := i + 1) (by omega) (by omega)]
      refine hag (_, i + 1) ⟨by simp only; omega, by simp only; omega, ?_⟩ (by simp only; omega)
      simp only
      rw [show (i + 1 - 1).toNat = (i - 1).toNat + 1 by omega, tab_succ, II_append, hes]
      congr 1
      obtain ⟨k, hk⟩ : ∃ k : Nat, i = k + 1 := ⟨(i - 1).toNat, by omega⟩
      subst hk
      rw [show ((k : Int) + 1).toNat = k + 1 by omega, show ((k : Int) + 1 - 1).toNat = k by omega, gens, tab_get _ _ _ _ (by omega)]
      rfl
    · rw [hr, e2, h0, hes, show (i - 1).toNat = xs.length - 1 by omega]
      rfl
  · cases h

/-! the law -/
theorem tot_tab (f : Nat → List Int) (c : Nat) (h : ∀ i, (f i).length = c) : ∀ n, tot (tab' f n) = n * c
  | 0 => by simp [tab_zero, tot]
  | n + 1 => by rw [tab_succ, tot_append, tot_tab f c h n, tot, h, tot, Nat.add_mul]; omega
theorem lists_keys (ms : List (List Int)) (h : tot ms ≤ 4611686018427387904) :
    V.noFzs (II true ms) = true ∧ q_eqSS (II false ms) (II false ms) ∧ f0_eqSS (II false ms) (II false ms) = true ∧ q_markO (II true ms) 1 ∧ f0_markSS (II true ms) 1 = 1 + tot ms ∧ f1_markSS (II true ms) 1 = II true (marksGo 1 ms) ∧
    V.frzs (II true ms) = II false ms ∧ V.frzs (II true (marksGo 1 ms)) = II false (marksGo 1 ms) ∧ q_markF (II false (marksGo 1 ms)) 1 ∧ f0_heldSS (II false (marksGo 1 ms)) 1 = 1 + tot ms :=
  ⟨II_noFzs _, ⟨⟨_, rfl⟩, ⟨_, rfl⟩⟩, by simp [f0_eqSS], ⟨⟨_, rfl⟩, by omega, by rw [unII_II]; omega⟩, by rw [f0_markSS, unII_II], by rw [f1_markSS, unII_II], II_frzs _ _, II_frzs _ _,
    ⟨⟨_, rfl⟩, by omega, by rw [unII_II, tot_marksGo]; omega⟩, by rw [f0_heldSS, unII_II, marksGo_idem, if_pos rfl, tot_marksGo]⟩
set_option maxRecDepth 100000 in
theorem s_laws_FnExactPolarInvariants : Sat Try.prog 4 (c_b_law yes1 IsI) := by
  intro args ps r h hp
  unfold c_b_law at h
  split at h
  · rename_i a0
    simp only [Option.some.injEq, Prod.mk.injEq] at h
    obtain ⟨rfl, rfl⟩ := h
    obtain ⟨xs, hxs⟩ : IsI a0 := (alls_cons.1 hp).1
    have hxl : a0.length = xs.length := by rw [hxs, I_length]
    have g1 : V.frzs a0 = a0 := by rw [hxs, I_frzs]
    generalize H_f0_sz : f0_sz = F_f0_sz
    generalize H_noq : noq = F_noq
    generalize H_same : same = F_same
    generalize H_IsIs : IsIs = F_IsIs
    generalize H_f_pol : f_pol = F_f_pol
    generalize H_f0_eqSS : f0_eqSS = F_f0_eqSS
    generalize H_q_eqSS : q_eqSS = F_q_eqSS
    generalize H_f0_eqI : f0_eqI = F_f0_eqI
    generalize H_q_eqI : q_eqI = F_q_eqI
    generalize H_f0_heldSS : f0_heldSS = F_f0_heldSS
    generalize H_q_markF : q_markF = F_q_markF
    generalize H_f0_mark : f0_mark = F_f0_mark
    generalize H_f1_mark : f1_mark = F_f1_mark
    generalize H_q_mark : q_mark = F_q_mark
    generalize H_f0_markSS : f0_markSS = F_f0_markSS
    generalize H_f1_markSS : f1_markSS = F_f1_markSS
    generalize H_q_markO : q_markO = F_q_markO
    refine fnOk_ofI (T := tab) (B := [(20, c_bi_i F_f0_sz F_noq), (22, c_b_b F_same F_IsIs), (21, c_B_mi F_f_pol F_IsIs), (23, c_B_mi F_f_pol F_IsIs), (24, c_eqSS F_f0_eqSS F_q_eqSS), (25, c_bb_bool F_f0_eqI F_q_eqI), (28, c_heldSS F_f0_heldSS F_q_markF)]) (Bi := [(26, 0, false, ic_markBranch F_f0_mark F_f1_mark F_q_mark), (27, 0, false, ic_markSS F_f0_markSS F_f1_markSS F_q_markO)]) [0, 1, 2, 3, 4, 5, 6, 7, 8, 9, 10, 11, 12, 13] Try.func4 rfl rfl (by kernel_rfl) (Nat.le_of_ble_eq_true rfl) mixed tabOk (by subst H_f0_sz H_noq H_same H_IsIs H_f_pol H_f0_eqSS H_q_eqSS H_f0_eqI H_q_eqI H_f0_heldSS H_q_markF H_f0_mark H_f1_mark H_q_mark H_f0_markSS H_f1_markSS H_q_markO; exact (bookCons s_laws_szBranch (bookCons s_laws_toBranch (bookCons s_spec_PolarInvariants (bookCons s_impl_PolarInvariants (bookCons s_laws_eqInt64SS (bookCons s_laws_eqBranch (bookCons s_laws_heldInt64SS bookNil)))))))) (by subst H_f0_sz H_noq H_same H_IsIs H_f_pol H_f0_eqSS H_q_eqSS H_f0_eqI H_q_eqI H_f0_heldSS H_q_markF H_f0_mark H_f1_mark H_q_mark H_f0_markSS H_f1_markSS H_q_markO; exact (bookICons s_laws_markBranch (bookICons s_laws_markInt64SS bookINil))) (by kernel_rfl) ?_
    intro L lp rr hL hr hf hlp
    have hlen := hf.1.1.1
    conv => cbv
    simp only [stdEqs hL, g1]
    subst H_f0_sz H_noq H_same H_IsIs H_f_pol H_f0_eqSS H_q_eqSS H_f0_eqI H_q_eqI H_f0_heldSS H_q_markF H_f0_mark H_f1_mark H_q_mark H_f0_markSS H_f1_markSS H_q_markO
    have hsz : f0_sz a0 1048576 = szL xs.length 1048576 := by rw [f0_sz, hxl]
    simp only [hsz, same, g1]
    refine ⟨trivial, fun h => by rw [hr]; rfl, fun h => ?_⟩
    have hl : xs.length ≤ 1048576 := szL_ok (by omega) h
    obtain ⟨ms, code, e0, ht⟩ : ∃ (ms : List (List Int)) (code : Int), f_pol a0 = (II true ms, code) ∧ tot ms ≤ 4611686018427387904 := by
      refine ⟨bif isBr xs then pol xs else [], bif isBr xs then 0 else 1, ?_, ?_⟩
      · rw [f_pol, hxs, unI_I]
        cases isBr xs <;> rfl
      · cases hh : isBr xs
        · simp [tot]
        · simp only [cond_true, pol]
          rw [tot_tab _ 2 (fun i => rfl)]
          omega
    rw [e0, hxs]
    have ck := lists_keys ms ht
    have dk := ints_keys xs (by omega)
    have hn : ∀ n : Nat, decide ((1 : Int) + n < 0) = false := fun n => by simp; omega
    simp only [ck, dk, hn, hr, yes1]
    simp
  · cases h
end Go.Ax
