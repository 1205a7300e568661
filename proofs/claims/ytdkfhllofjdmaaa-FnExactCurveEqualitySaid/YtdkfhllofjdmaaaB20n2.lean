import Derived.Test.YtdkfhllofjdmaaaB19n2
/-
  CurveEquality, the reference's search. No conditions but those of the contracts.
-/
set_option linter.all false
namespace Go.Ax
open Go.Proofs
set_option maxHeartbeats 2000000

def gdB (base : Bool) (ms ns : List (List Int)) (p : List Int) (i y k : Nat) : Bool := base && (List.range k).all fun t => mm ms i t == mm ns y (p.getD t 0).toNat
theorem gdB_succ (base : Bool) (ms ns : List (List Int)) (p : List Int) (i y k : Nat) : gdB base ms ns p i y (k + 1) = (gdB base ms ns p i y k && (mm ms i k == mm ns y (p.getD k 0).toNat)) := by
  rw [gdB, gdB, List.range_succ, List.all_append, Bool.and_assoc]
  simp
theorem gdB_no {base : Bool} {ms ns : List (List Int)} {p : List Int} {i y : Nat} : ∀ {k j : Nat}, k ≤ j → gdB base ms ns p i y k = false → gdB base ms ns p i y j = false
  | k, 0, h, h0 => by have : k = 0 := by omega
                      rw [this] at h0; exact h0
  | k, j + 1, h, h0 => by
    by_cases e : k = j + 1
    · rw [e] at h0; exact h0
    · rw [gdB_succ, gdB_no (by omega) h0]; rfl
theorem gdB_chk (bs ms ds ns : List (List Int)) (p : List Int) (y : Nat) : gdB (!p.contains (y : Int) && (bs.getD p.length [] == ds.getD y [])) ms ns p p.length y p.length = (!p.contains (y : Int) && chkC bs ms ds ns p y) := by
  rw [gdB, chkC, Bool.and_assoc, Int.toNat_natCast]
def f_mps (a b c d l : List V) : List V := I (mapsF (chkC (unBB a) (unII b) (unBB c) (unII d)) a.length (a.length - l.length) (unI l))
def q_mps (m : Nat) (a b c d l : List V) : Prop := q_cv a b ∧ q_cv c d ∧ a.length = c.length ∧ ∃ p, l = I p ∧ p.length + m = a.length ∧ ∀ x ∈ p, 0 ≤ x ∧ x < a.length
def ic_mps (f : List V → List V → List V → List V → List V → List V) (q : List V → List V → List V → List V → List V → Prop) : IContract := fun
  | [.agg [.slc false 61 (.agg [.slc false 2 (.int .i64 0) []]) a0, .slc false 27 (.slc false 2 (.int .i64 0) []) a1], .agg [.slc false 61 (.agg [.slc false 2 (.int .i64 0) []]) a2, .slc false 27 (.slc false 2 (.int .i64 0) []) a3], .slc true 2 (.int .i64 0) a4] => some ([q a0 a1 a2 a3 a4], .slc true 2 (.int .i64 0) (f a0 a1 a2 a3 a4), .hole 0)
  | _ => none
set_option maxHeartbeats 1000000 in
set_option maxRecDepth 100000 in
theorem s_maps_step (m : Nat) (qq : List V → List V → List V → List V → List V → Prop) (ih : SatM Try.prog 20 2 (ic_mps f_mps qq)) (hqq : ∀ m' a b c d l, m = m' + 1 → q_mps m' a b c d l → qq a b c d l) : SatM Try.prog 20 2 (ic_mps f_mps (q_mps m)) := by
  intro args ps r y h hp
  unfold ic_mps at h
  split at h
  · rename_i a0 a1 a2 a3 a4
    simp only [Option.some.injEq, Prod.mk.injEq] at h
    obtain ⟨rfl, rfl, rfl⟩ := h
    obtain ⟨hqa, hqb, hlen, p, hP, hpm, hin⟩ : q_mps m a0 a1 a2 a3 a4 := (alls_cons.1 hp).1
    obtain ⟨⟨⟨bs, hbs, hb1, hb2⟩, ⟨ms, hms, hm1, hm2⟩⟩, hv1⟩ := id hqa
    obtain ⟨⟨⟨ds, hds, hd1, hd2⟩, ⟨ns, hns, hn1, hn2⟩⟩, hv2⟩ := id hqb
    rw [hbs, hms, unBB_BB, unII_II] at hv1
    rw [hds, hns, unBB_BB, unII_II] at hv2
    have g0 : V.frzs a0 = a0 := by rw [hbs, BB_frzs]
    have g1 : V.frzs a1 = a1 := by rw [hms, II_frzs]
    have g2 : V.frzs a2 = a2 := by rw [hds, BB_frzs]
    have g3 : V.frzs a3 = a3 := by rw [hns, II_frzs]
    have g4 : V.frzs a4 = a4 := by rw [hP, I_frzs]
    have hbl : a0.length = bs.length := by rw [hbs, BB_length]
    have hdl : a2.length = ds.length := by rw [hds, BB_length]
    have hml : a1.length = ms.length := by rw [hms, II_length]
    have hnl : a3.length = ns.length := by rw [hns, II_length]
    have hpl : a4.length = p.length := by rw [hP, I_length]
    rw [hbl] at hpm hin
    rw [hbl, hdl] at hlen
    have gb : ∀ k, a0.getD k (.agg [.slc false 2 (.int .i64 0) []]) = .agg [.slc false 2 (.int .i64 0) (I (bs.getD k []))] := fun k => by rw [hbs, BB_getD]
    have gm : ∀ k, a1.getD k (.slc false 2 (.int .i64 0) []) = .slc false 2 (.int .i64 0) (I (ms.getD k [])) := fun k => by rw [hms, II_getD]
    have gd : ∀ k, a2.getD k (.agg [.slc false 2 (.int .i64 0) []]) = .agg [.slc false 2 (.int .i64 0) (I (ds.getD k []))] := fun k => by rw [hds, BB_getD]
    have gn : ∀ k, a3.getD k (.slc false 2 (.int .i64 0) []) = .slc false 2 (.int .i64 0) (I (ns.getD k [])) := fun k => by rw [hns, II_getD]
    have gp : ∀ k, a4.getD k (.int .i64 0) = .int .i64 (p.getD k 0) := fun k => by rw [hP, I_getD]
    have hf0 : f_mps a0 a1 a2 a3 a4 = I (mapsF (chkC bs ms ds ns) bs.length m p) := by
      rw [f_mps, hbl, hpl, hbs, hms, hds, hns, hP, unBB_BB, unII_II, unBB_BB, unII_II, unI_I, show bs.length - p.length = m by omega]
    obtain ⟨n, hn⟩ : ∃ n : Int, n = bs.length := ⟨_, rfl⟩
    obtain ⟨pl, hpl2⟩ : ∃ pl : Int, pl = p.length := ⟨_, rfl⟩
    have n1 := hv1.n1
    have n6 := hv1.n6
    generalize H_f_has : f_has = F_f_has
    generalize H_q_lI : q_lI = F_q_lI
    generalize H_f0_eqI : f0_eqI = F_f0_eqI
    generalize H_q_II : q_II = F_q_II
    generalize H_same : same = F_same
    generalize H_IsIs : IsIs = F_IsIs
    generalize H_f_mps : f_mps = F_f_mps
    generalize H_qq : qq = F_qq
    refine fnMv_of (T := tab) (B := [(43, c_lxi_b F_f_has F_q_lI), (44, c_ll_b F_f0_eqI F_q_II), (45, c_laws_toInt64S F_same F_IsIs)]) (Bi := [(20, 2, true, ic_mps F_f_mps F_qq)]) 2 [2000013078, 2000013080, 2000013081, 2000013082, 2000013782, 2000013996, 0, 1, 2, 3, 4, 6, 7, 8, 9, 10, 11] Try.func20 rfl rfl (by kernel_rfl) (Nat.le_of_ble_eq_true rfl) mixed tabOk (by subst H_f_has H_q_lI H_f0_eqI H_q_II H_same H_IsIs H_f_mps H_qq; exact (bookCons s_spec_l01Has (bookCons s_spec_l01Same (bookCons s_spec_l01Own bookNil)))) (by subst H_f_has H_q_lI H_f0_eqI H_q_II H_same H_IsIs H_f_mps H_qq; exact (bookMCons ih bookINil)) (by kernel_rfl) (Nat.le_of_ble_eq_true rfl) ?_
    intro L lp rr hL hr hf hlp
    conv => cbv
    simp only [stdEqs hL, imp_self, true_and, and_true, bif_or, bif_and, Bool.or_eq_true, Bool.or_eq_false_iff, Bool.and_eq_true, Bool.and_eq_false_iff, decide_eq_true_eq, decide_eq_false_iff_not, Bool.not_eq_true', Bool.not_eq_false', beq_iff_eq, beq_eq_false_iff_ne, ne_eq, toNat0, toNat1, ok_int, toI_int, I_frzs, I_length, I_getD, ok_ints, toL_slc, g0, g1, g2, g3, g4, hbl, hdl, hml, hnl, hpl, ← hn, ← hpl2]
    refine ⟨fun h => ?_, fun h => ?_⟩
    · rw [hr, ← H_f_mps, hf0, show m = 0 by omega, mapsF, hP]
    obtain ⟨m', rfl⟩ : ∃ m', m = m' + 1 := ⟨m - 1, by omega⟩
    obtain ⟨g, hg⟩ : ∃ g : Nat → List Int, g = fun y : Nat => if !p.contains (y : Int) && chkC bs ms ds ns p y then mapsF (chkC bs ms ds ns) bs.length m' (p ++ [(y : Int)]) else [] := ⟨_, rfl⟩
    have hF : mapsF (chkC bs ms ds ns) bs.length (m' + 1) p = firstNE g bs.length := by rw [hg]; rfl
    have Eh : ∀ x, F_f_has a4 x = p.contains x := fun x => by rw [← H_f_has, f_has, hP, unI_I]
    have Qh : ∀ x, F_q_lI a4 x := fun x => by rw [← H_q_lI]; exact ⟨⟨p, hP⟩, by rw [hpl]; omega⟩
    have Ee : ∀ u v : List Int, F_f0_eqI (I u) (I v) = (u == v) := fun u v => by rw [← H_f0_eqI, f0_eqI, unI_I, unI_I]; cases h : u == v <;> simp_all
    have Qe : ∀ u v : List Int, F_q_II (I u) (I v) := fun u v => by rw [← H_q_II]; exact ⟨⟨u, rfl⟩, ⟨v, rfl⟩⟩
    have Eo : F_same a4 = a4 := by rw [← H_same]; rfl
    have Qo : F_IsIs a4 := by rw [← H_IsIs]; exact ⟨⟨p, hP⟩, by rw [hpl]; omega⟩
    refine hlp (Int) _ _ _ [2, 3, 4, 7, 8] (fun x => [(2, none, .val (.slc true 2 (.int .i64 0) a4)), (3, none, .val (.box 32 (.agg [.slc false 61 (.agg [.slc false 2 (.int .i64 0) []]) a0, .slc false 27 (.slc false 2 (.int .i64 0) []) a1]))), (4, none, .val (.box 32 (.agg [.slc false 61 (.agg [.slc false 2 (.int .i64 0) []]) a2, .slc false 27 (.slc false 2 (.int .i64 0) []) a3]))), (7, none, .val (.int .i64 pl)), (8, none, .val (.int .i64 x))])
      (fun x => 0 ≤ x ∧ x ≤ n ∧ ∀ t : Nat, t < x.toNat → g t = []) (fun x => (n - x).toNat) (0) (by subst hL; rfl) ?_ ?_
    · exact ⟨by simp, by omega, fun t ht => by simp at ht⟩
    rintro y ⟨y0, y1, hY⟩ hfx ag hag
    conv => cbv
    simp only [stdEqs hL, imp_self, true_and, and_true, bif_or, bif_and, Bool.or_eq_true, Bool.or_eq_false_iff, Bool.and_eq_true, Bool.and_eq_false_iff, decide_eq_true_eq, decide_eq_false_iff_not, Bool.not_eq_true', Bool.not_eq_false', beq_iff_eq, beq_eq_false_iff_ne, ne_eq, toNat0, toNat1, ok_int, toI_int, I_frzs, I_length, I_getD, ok_ints, toL_slc, g0, g1, g2, g3, g4, hbl, hdl, hml, hnl, hpl, gb, gd, toL_bran, fld_bran, Eh]
    refine ⟨fun h2 => ?_, fun h2 => ?_⟩
    · refine ⟨Qh y, fun _ => by omega, fun _ => by omega, fun _ => ok_bran _ _ _, fun _ => trivial, fun _ => y0, fun _ => by omega, fun _ => ok_bran _ _ _, fun _ => trivial, fun _ => Qe _ _, ?_⟩
      obtain ⟨bb, hbb⟩ : ∃ bb : Bool, bb = (!p.contains y && F_f0_eqI (I (bs.getD pl.toNat [])) (I (ds.getD y.toNat []))) := ⟨_, rfl⟩
      have hbb2 : bb = (!p.contains y && (bs.getD p.length [] == ds.getD y.toNat [])) := by rw [hbb, Ee, show pl.toNat = p.length by omega]
      refine hlp (Bool × Int) _ _ _ [2, 3, 4, 7, 8, 9, 10] (fun w => [(2, none, .val (.slc true 2 (.int .i64 0) a4)), (3, none, .val (.box 32 (.agg [.slc false 61 (.agg [.slc false 2 (.int .i64 0) []]) a0, .slc false 27 (.slc false 2 (.int .i64 0) []) a1]))), (4, none, .val (.box 32 (.agg [.slc false 61 (.agg [.slc false 2 (.int .i64 0) []]) a2, .slc false 27 (.slc false 2 (.int .i64 0) []) a3]))), (7, none, .val (.int .i64 pl)), (8, none, .val (.int .i64 y)), (9, none, .val (.bool w.1)), (10, none, .val (.int .i64 w.2))])
        (fun w => 0 ≤ w.2 ∧ w.2 ≤ pl ∧ w.1 = gdB bb ms ns p p.length y.toNat w.2.toNat) (fun w => (pl - w.2).toNat) ((bb, 0)) (by subst hL; rw [hbb]; rfl) ?_ ?_
      · exact ⟨by simp, by simp only; omega, by simp [gdB]⟩
      rintro ⟨b, k⟩ ⟨k0, k1, hB⟩ hfx2 ag2 hag2
      simp only at k0 k1 hB
      conv => cbv
      simp only [stdEqs hL, imp_self, true_and, and_true, bif_or, bif_and, Bool.or_eq_true, Bool.or_eq_false_iff, Bool.and_eq_true, Bool.and_eq_false_iff, decide_eq_true_eq, decide_eq_false_iff_not, Bool.not_eq_true', Bool.not_eq_false', beq_iff_eq, beq_eq_false_iff_ne, ne_eq, toNat0, toNat1, ok_int, toI_int, I_frzs, I_length, I_getD, ok_ints, toL_slc, g0, g1, g2, g3, g4, hbl, hdl, hml, hnl, hpl, gm, gn, gp]
      have hplN : pl.toNat = p.length := by omega
      have hyl : y.toNat < bs.length := by omega
      have rlm := (hv1.tab.row p.length (by omega)).1
      have rln := (hv2.tab.row y.toNat (by omega)).1
      have hmsl := hv1.tab.len
      have hnsl := hv2.tab.len
      refine ⟨fun h3 => ?_, fun h3 => ⟨fun h4 => ?_, fun h4 => ?_⟩⟩
      · obtain ⟨h3, h4⟩ := h3
        have hkp : k.toNat < p.length := by omega
        have hpk := hin (p.getD k.toNat 0) (by
          rw [List.getD_eq_getElem?_getD, List.getElem?_eq_getElem hkp]
          exact List.getElem_mem _)
        rw [hplN, rlm, rln]
        rw [wrap_id (n := k + 1) (by omega) (by omega)]
        refine ⟨by omega, by omega, k0, by omega, y0, by omega, k0, by omega, hkp, hpk.1, by omega, ?_⟩
        refine hag2 (_, k + 1) ⟨by simp only; omega, by simp only; omega, ?_⟩ (by simp only; omega)
        simp only [toNat_succ k0]
        rw [gdB_succ, ← hB, h4, Bool.true_and]
        rfl
      · have hkl : k.toNat = p.length := by
          rcases h3 with h3 | h3
          · omega
          · rw [h3] at h4; cases h4
        have hgd := gdB_chk bs ms ds ns p y.toNat
        rw [show ((y.toNat : Nat) : Int) = y by omega, ← hbb2] at hgd
        rw [hkl, hgd, h4] at hB
        have hgy : g y.toNat = mapsF (chkC bs ms ds ns) bs.length m' (p ++ [y]) := by
          rw [hg]
          simp only [show ((y.toNat : Nat) : Int) = y by omega]
          rw [if_pos hB.symm]
        have hB2 := hB.symm
        simp only [Bool.and_eq_true] at hB2
        have hap : F_same a4 ++ [V.int .i64 y] = I (p ++ [y]) := by rw [Eo, hP, ← I_append]; rfl
        rw [hap]
        have hq : q_mps m' a0 a1 a2 a3 (I (p ++ [y])) := ⟨hqa, hqb, by rw [hbl, hdl]; exact hlen, _, rfl, by rw [List.length_append, hbl]; simp only [List.length_cons, List.length_nil]; omega, fun x hx => by
          rw [hbl]
          rcases List.mem_append.1 hx with hx | hx
          · exact hin x hx
          · simp only [List.mem_singleton] at hx
            omega⟩
        have hfr : F_f_mps a0 a1 a2 a3 (I (p ++ [y])) = I (g y.toNat) := by
          rw [← H_f_mps, f_mps, hbl, I_length, List.length_append, hbs, hms, hds, hns, unBB_BB, unII_II, unBB_BB, unII_II, unI_I, hgy]
          simp only [List.length_cons, List.length_nil]
          rw [show bs.length - (p.length + 1) = m' by omega]
        rw [hfr]
        refine ⟨Qo, by rw [Eo, hP]; exact I_noFzs _, rfl, by rw [Eo, hpl]; simp only [List.length_cons, List.length_nil]; omega, solid_one _, by rw [← H_qq]; exact hqq m' _ _ _ _ _ rfl hq, fun h5 => ?_, fun h5 => ?_⟩
        · have hne : g y.toNat ≠ [] := fun e => by rw [e] at h5; simp at h5
          rw [hr, ← H_f_mps, hf0, hF, firstNE_at hyl hY hne]
        · have he : g y.toNat = [] := by
            cases hh : g y.toNat with
            | nil => rfl
            | cons _ _ => rw [hh] at h5; exact absurd (by simp) h5
          rw [wrap_id (n := y + 1) (by omega) (by omega)]
          refine hag (y + 1) ⟨by omega, by omega, fun t ht => ?_⟩ (by omega)
          by_cases e : t = y.toNat
          · rw [e]; exact he
          · exact hY t (by omega)
      · have hB3 : gdB bb ms ns p p.length y.toNat p.length = false := gdB_no (k := k.toNat) (by omega) (by rw [← hB, h4])
        have hgd := gdB_chk bs ms ds ns p y.toNat
        rw [show ((y.toNat : Nat) : Int) = y by omega, ← hbb2] at hgd
        rw [hgd] at hB3
        have he : g y.toNat = [] := by
          rw [hg]
          simp only [show ((y.toNat : Nat) : Int) = y by omega]
          rw [if_neg (by rw [hB3]; simp)]
        rw [wrap_id (n := y + 1) (by omega) (by omega)]
        refine hag (y + 1) ⟨by omega, by omega, fun t ht => ?_⟩ (by omega)
        by_cases e : t = y.toNat
        · rw [e]; exact he
        · exact hY t (by omega)
    · rw [hr, ← H_f_mps, hf0, hF, firstNE_no (fun t ht => hY t (by omega))]
      rfl
  · cases h
def q_none5 (_ _ _ _ _ : List V) : Prop := False
theorem s_maps_none : SatM Try.prog 20 2 (ic_mps f_mps q_none5) := by
  intro args ps r y h hp
  unfold ic_mps at h
  split at h
  · simp only [Option.some.injEq, Prod.mk.injEq] at h
    obtain ⟨rfl, rfl, rfl⟩ := h
    exact ((alls_cons.1 hp).1 : False).elim
  · cases h
theorem s_spec_l10Maps : ∀ m : Nat, SatM Try.prog 20 2 (ic_mps f_mps (q_mps m))
  | 0 => s_maps_step 0 q_none5 s_maps_none fun m' _ _ _ _ _ h => by omega
  | m + 1 => s_maps_step (m + 1) (q_mps m) (s_spec_l10Maps m) fun m' _ _ _ _ _ h hq => by
    have : m' = m := by omega
    rw [this] at hq
    exact hq
def q_maps0 (a b c d l : List V) : Prop := l = [] ∧ q_mps a.length a b c d l
theorem s_maps0 : SatM Try.prog 20 2 (ic_mps f_mps q_maps0) := by
  intro args ps r y h hp
  have h0 := h
  unfold ic_mps at h
  split at h
  · rename_i a0 a1 a2 a3 a4
    simp only [Option.some.injEq, Prod.mk.injEq] at h
    obtain ⟨rfl, rfl, rfl⟩ := h
    obtain ⟨_, hq⟩ : q_maps0 a0 a1 a2 a3 a4 := (alls_cons.1 hp).1
    exact s_spec_l10Maps a0.length _ _ _ _ rfl (alls_cons.2 ⟨hq, fun q hq => by cases hq⟩)
  · cases h
set_option maxHeartbeats 1000000 in
set_option maxRecDepth 100000 in
theorem s_spec_CurveEquality : Sat Try.prog 6 (c_CC_li f_ceq q_CC) := by
  intro args ps r h hp
  unfold c_CC_li at h
  split at h
  · rename_i a0 a1 a2 a3
    simp only [Option.some.injEq, Prod.mk.injEq] at h
    obtain ⟨rfl, rfl⟩ := h
    obtain ⟨hqa, hqb⟩ : q_CC a0 a1 a2 a3 := (alls_cons.1 hp).1
    have g0 := frzs_BB hqa.1.isBB
    have g1 := frzs_II hqa.2.isII
    have g2 := frzs_BB hqb.1.isBB
    have g3 := frzs_II hqb.2.isII
    have hfm : f_mps a0 a1 a2 a3 [] = I (f_map a0 a1 a2 a3) := rfl
    generalize H_f_isCv : f_isCv = F_f_isCv
    generalize H_q_C : q_C = F_q_C
    generalize H_f_mps : f_mps = F_f_mps
    generalize H_q_maps0 : q_maps0 = F_q_maps0
    refine fnOk_ofI (T := tab) (B := [(19, c_C_b F_f_isCv F_q_C)]) (Bi := [(20, 2, true, ic_mps F_f_mps F_q_maps0)]) [0, 1, 2, 3, 4, 5, 6] Try.func6 rfl rfl (by kernel_rfl) (Nat.le_of_ble_eq_true rfl) mixed tabOk (by subst H_f_isCv H_q_C H_f_mps H_q_maps0; exact (bookCons s_spec_l09Is bookNil)) (by subst H_f_isCv H_q_C H_f_mps H_q_maps0; exact (bookMCons s_maps0 bookINil)) (by kernel_rfl) ?_
    intro L lp rr hL hr hf hlp
    have Em : F_f_mps a0 a1 a2 a3 [] = I (f_map a0 a1 a2 a3) := by rw [← H_f_mps, hfm]
    obtain ⟨zs, hzs⟩ : ∃ zs, zs = I (f_map a0 a1 a2 a3) := ⟨_, rfl⟩
    rw [← hzs] at Em
    have hzl : zs.length = (f_map a0 a1 a2 a3).length := by rw [hzs, I_length]
    conv => cbv
    simp only [stdEqs hL, imp_self, true_and, and_true, bif_or, bif_and, Bool.or_eq_true, Bool.or_eq_false_iff, Bool.and_eq_true, Bool.and_eq_false_iff, decide_eq_true_eq, decide_eq_false_iff_not, Bool.not_eq_true', Bool.not_eq_false', beq_iff_eq, beq_eq_false_iff_ne, ne_eq, toNat0, toNat1, ok_int, toI_int, I_frzs, I_length, I_getD, ok_ints, toL_slc, g0, g1, g2, g3, Em]
    refine ⟨by rw [← H_q_C]; exact hqa, fun _ => by rw [← H_q_C]; exact hqb, fun h => ?_, fun h => ⟨fun h2 => ?_, fun h2 => ⟨?_, fun h3 => ?_, fun h3 => ?_⟩⟩⟩
    · rw [hr, f_ceq_no1 (by rw [H_f_isCv]; exact h)]
    · rw [hr, f_ceq_no2 (by rw [H_f_isCv]; exact h.1) (by rw [H_f_isCv]; exact h.2) (by omega)]
    · rw [← H_q_maps0]
      refine ⟨rfl, ⟨hqa, ?_⟩, ⟨hqb, ?_⟩, by omega, [], rfl, by simp, fun x hx => by cases hx⟩
      · exact isCv_iff.1 (by have := h.1; rw [← H_f_isCv] at this; exact this)
      · exact isCv_iff.1 (by have := h.2; rw [← H_f_isCv] at this; exact this)
    · have he : f_map a0 a1 a2 a3 = [] := List.eq_nil_of_length_eq_zero (by omega)
      rw [hr, f_ceq_yes (by rw [H_f_isCv]; exact h.1) (by rw [H_f_isCv]; exact h.2) (by omega), he]
      rfl
    · have he : (f_map a0 a1 a2 a3).isEmpty = false := by
        cases hh : f_map a0 a1 a2 a3 with
        | nil => rw [hh] at hzl; exact absurd (by rw [hzl]; rfl) h3
        | cons _ _ => rfl
      rw [hr, f_ceq_yes (by rw [H_f_isCv]; exact h.1) (by rw [H_f_isCv]; exact h.2) (by omega), he, hzs]
      rfl
  · cases h
end Go.Ax
