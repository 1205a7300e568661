/-
  RenumberCurve: both sides, the law. No conditions but those of the contracts.
-/
import Derived.Test.YtogjbbmndhlfaaaSu
import Derived.Test.YtogjbbmndhlfaaaGf
set_option linter.all false
namespace Go.Ax
open Go.Proofs
set_option maxHeartbeats 1000000

theorem gAtD {l : List Int} {t : Nat} (h : t < l.length) : l.getD t 0 ∈ l := by
  rw [List.getD_eq_getElem?_getD, List.getElem?_eq_getElem h]; exact List.getElem_mem h
def c_lxi_i (f : List V → Int → Int) (q : List V → Int → Prop) : Contract := fun
  | [.slc false 2 (.int .i64 0) a0, .int .i64 a1] => some ([q a0 a1], .int .i64 (f a0 a1))
  | _ => none
def idx (ls : List Int) (x : Int) : Int := match (List.range ls.length).find? fun t => ls.getD t 0 == x with
  | some t => t
  | none => -1
theorem idx_has {ls : List Int} {x : Int} : decide (0 ≤ idx ls x) = ls.contains x := by
  rw [Bool.eq_iff_iff, decide_eq_true_eq, List.contains_iff_mem, idx]
  cases hf : (List.range ls.length).find? fun t => ls.getD t 0 == x with
  | some t =>
    rw [List.find?_range_eq_some] at hf
    simp only [beq_iff_eq, List.mem_range] at hf
    exact ⟨fun _ => by rw [← hf.1]; exact gAtD hf.2.1, fun _ => by simp only; omega⟩
  | none =>
    rw [List.find?_eq_none] at hf
    refine ⟨fun h => by simp only at h; omega, fun h => ?_⟩
    obtain ⟨t, ht, he⟩ := List.mem_iff_getElem.1 h
    refine absurd ?_ (hf t (by simpa using ht))
    rw [List.getD_eq_getElem?_getD, List.getElem?_eq_getElem ht]
    simpa using he
def f_idx (a : List V) (x : Int) : Int := idx (unI a) x
def q_lI (a : List V) (_ : Int) : Prop := IsIs a
set_option maxRecDepth 100000 in
theorem s_spec_l01Index : Sat Try.prog 148 (c_lxi_i f_idx q_lI) := by
  intro args ps r h hp
  unfold c_lxi_i at h
  split at h
  · rename_i a0 a1
    simp only [Option.some.injEq, Prod.mk.injEq] at h
    obtain ⟨rfl, rfl⟩ := h
    obtain ⟨⟨ls, hls⟩, hll⟩ : q_lI a0 a1 := (alls_cons.1 hp).1
    have hal : a0.length = ls.length := by rw [hls, I_length]
    rw [hal] at hll
    have gl : ∀ k, a0.getD k (.int .i64 0) = .int .i64 (ls.getD k 0) := fun k => by rw [hls, I_getD]
    have hf0 : f_idx a0 a1 = idx ls a1 := by rw [f_idx, hls, unI_I]
    refine fnOk_ofI (T := tab) (B := []) (Bi := []) [0, 1, 4, 5] Try.func148 rfl rfl (by kernel_rfl) (Nat.le_of_ble_eq_true rfl) mixed tabOk (by exact bookNil) (by exact bookINil) (by kernel_rfl) ?_
    intro L lp rr hL hr hf hlp
    conv => cbv
    refine hlp (Int) _ _ _ [0, 1, 5] (fun x => [(0, none, .val (.slc false 2 (.int .i64 0) a0)), (1, none, .val (.int .i64 a1)), (5, none, .val (.int .i64 x))])
      (fun x => 0 ≤ x ∧ x ≤ ls.length ∧ ∀ t, t < x.toNat → ls.getD t 0 ≠ a1) (fun x => (ls.length - x).toNat) (0) (by subst hL; rfl) ?_ ?_
    · exact ⟨by simp, by simp, fun t ht => by simp at ht⟩
    rintro i ⟨i0, i1, hI⟩ hfx ag hag
    conv => cbv
    simp only [stdEqs hL, imp_self, true_and, and_true, bif_or, bif_and, Bool.or_eq_true, Bool.or_eq_false_iff, Bool.and_eq_true, Bool.and_eq_false_iff, decide_eq_true_eq, decide_eq_false_iff_not, Bool.not_eq_true', Bool.not_eq_false', beq_iff_eq, beq_eq_false_iff_ne, ne_eq, toNat0, toNat1, ok_int, toI_int, I_frzs, I_length, I_getD, ok_ints, toL_slc, hal, gl]
    refine ⟨fun h2 => ⟨i0, by omega, fun h3 => ?_, fun h3 => ?_⟩, fun h2 => ?_⟩
    · have hfi : ((List.range ls.length).find? fun t => ls.getD t 0 == a1) = some i.toNat := by
        rw [List.find?_range_eq_some]
        refine ⟨by simpa using h3, by simp only [List.mem_range]; omega, fun t ht => ?_⟩
        have := hI t ht
        simpa using this
      rw [hr, hf0, idx, hfi]
      simp only
      rw [show ((i.toNat : Nat) : Int) = i by omega]
    · rw [wrap_id (n := i + 1) (by omega) (by omega)]
      refine hag (i + 1) ⟨by omega, by omega, fun t ht => ?_⟩ (by omega)
      by_cases hti : t = i.toNat
      · rw [hti]; exact h3
      · exact hI t (by omega)
    · have hfi : ((List.range ls.length).find? fun t => ls.getD t 0 == a1) = none := by
        rw [List.find?_eq_none]
        intro t ht
        simp only [List.mem_range] at ht
        have := hI t (by omega)
        simpa using this
      rw [hr, hf0, idx, hfi]
  · cases h
def c_lxi_b (f : List V → Int → Bool) (q : List V → Int → Prop) : Contract := fun
  | [.slc false 2 (.int .i64 0) a0, .int .i64 a1] => some ([q a0 a1], .bool (f a0 a1))
  | _ => none
def f_has (a : List V) (x : Int) : Bool := (unI a).contains x
set_option maxRecDepth 100000 in
theorem s_spec_l01Has : Sat Try.prog 127 (c_lxi_b f_has q_lI) := by
  intro args ps r h hp
  unfold c_lxi_b at h
  split at h
  · rename_i a0 a1
    simp only [Option.some.injEq, Prod.mk.injEq] at h
    obtain ⟨rfl, rfl⟩ := h
    have hq : q_lI a0 a1 := (alls_cons.1 hp).1
    have g0 : V.frzs a0 = a0 := by obtain ⟨⟨ls, hls⟩, _⟩ := hq; rw [hls, I_frzs]
    generalize H_f_idx : f_idx = F_f_idx
    generalize H_q_lI : q_lI = F_q_lI
    refine fnOk_ofI (T := tab) (B := [(148, c_lxi_i F_f_idx F_q_lI)]) (Bi := []) [0, 1, 4] Try.func127 rfl rfl (by kernel_rfl) (Nat.le_of_ble_eq_true rfl) mixed tabOk (by subst H_f_idx H_q_lI; exact (bookCons s_spec_l01Index bookNil)) (by subst H_f_idx H_q_lI; exact bookINil) (by kernel_rfl) ?_
    intro L lp rr hL hr hf hlp
    conv => cbv
    simp only [stdEqs hL, imp_self, true_and, and_true, bif_or, bif_and, Bool.or_eq_true, Bool.or_eq_false_iff, Bool.and_eq_true, Bool.and_eq_false_iff, decide_eq_true_eq, decide_eq_false_iff_not, Bool.not_eq_true', Bool.not_eq_false', beq_iff_eq, beq_eq_false_iff_ne, ne_eq, toNat0, toNat1, ok_int, toI_int, I_frzs, I_length, I_getD, ok_ints, toL_slc, g0]
    subst H_f_idx H_q_lI
    exact ⟨hq, by rw [hr, f_has, ← idx_has]; rfl⟩
  · cases h
def f_pm (a : List V) (n : Int) : Bool := isPm n (unI a)
set_option maxRecDepth 100000 in
theorem s_impl_isPermutation : Sat Try.prog 96 (c_lxi_b f_pm q_lI) := by
  intro args ps r h hp
  unfold c_lxi_b at h
  split at h
  · rename_i a0 a1
    simp only [Option.some.injEq, Prod.mk.injEq] at h
    obtain ⟨rfl, rfl⟩ := h
    obtain ⟨⟨ls, hls⟩, hll⟩ : q_lI a0 a1 := (alls_cons.1 hp).1
    have hq : IsIs a0 := ⟨⟨ls, hls⟩, hll⟩
    have hal : a0.length = ls.length := by rw [hls, I_length]
    rw [hal] at hll
    have g0 : V.frzs a0 = a0 := by rw [hls, I_frzs]
    have hf0 : f_pm a0 a1 = isPm a1 ls := by rw [f_pm, hls, unI_I]
    obtain ⟨ss, hss⟩ : ∃ ss, ss = srt ls := ⟨_, rfl⟩
    obtain ⟨vs, hvs⟩ : ∃ vs, vs = I ss := ⟨_, rfl⟩
    have hvl : vs.length = ls.length := by rw [hvs, I_length, hss, srt_len]
    have gv : ∀ k, vs.getD k (.int .i64 0) = .int .i64 (ss.getD k 0) := fun k => by rw [hvs, I_getD]
    obtain ⟨m, hm⟩ : ∃ m : Int, m = ls.length := ⟨_, rfl⟩
    generalize H_same : same = F_same
    generalize H_IsIs : IsIs = F_IsIs
    generalize H_f_srt : f_srt = F_f_srt
    refine fnOk_ofI (T := tab) (B := [(136, c_laws_toInt64S F_same F_IsIs)]) (Bi := [(137, 0, false, ic_sort F_f_srt F_IsIs)]) [0, 1, 4, 5, 6, 7, 12, 13, 14] Try.func96 rfl rfl (by kernel_rfl) (Nat.le_of_ble_eq_true rfl) mixed tabOk (by subst H_same H_IsIs H_f_srt; exact (bookCons s_clone bookNil)) (by subst H_same H_IsIs H_f_srt; exact (bookICons s_sort bookINil)) (by kernel_rfl) ?_
    intro L lp rr hL hr hf hlp
    have Es : F_f_srt a0 = vs := by rw [← H_f_srt, f_srt, hls, unI_I, hvs, hss]
    have Ec : F_same a0 = a0 := by rw [← H_same]; rfl
    have Qa : F_IsIs a0 := by rw [← H_IsIs]; exact hq
    conv => cbv
    simp only [stdEqs hL, imp_self, true_and, and_true, bif_or, bif_and, Bool.or_eq_true, Bool.or_eq_false_iff, Bool.and_eq_true, Bool.and_eq_false_iff, decide_eq_true_eq, decide_eq_false_iff_not, Bool.not_eq_true', Bool.not_eq_false', beq_iff_eq, beq_eq_false_iff_ne, ne_eq, toNat0, toNat1, ok_int, toI_int, I_frzs, I_length, I_getD, ok_ints, toL_slc, g0, Ec, Es, hvl, ← hm]
    refine ⟨Qa, Qa, ?_⟩
    refine hlp (Int) _ _ _ [0, 1, 5, 12, 13, 14] (fun x => [(0, none, .val (.slc false 2 (.int .i64 0) a0)), (1, none, .val (.int .i64 a1)), (5, none, .val (.slc true 2 (.int .i64 0) vs)), (12, none, .rf 5 0 []), (13, none, .val (.int .i64 m)), (14, none, .val (.int .i64 x))])
      (fun x => 0 ≤ x ∧ x ≤ m ∧ ∀ t : Nat, t < x.toNat → ss.getD t 0 = t) (fun x => (m - x).toNat) (0) (by subst hL; rw [hm, ← hvl]; rfl) ?_ ?_
    · exact ⟨by simp, by omega, fun t ht => by simp at ht⟩
    rintro i ⟨i0, i1, hI⟩ hfx ag hag
    conv => cbv
    simp only [stdEqs hL, imp_self, true_and, and_true, bif_or, bif_and, Bool.or_eq_true, Bool.or_eq_false_iff, Bool.and_eq_true, Bool.and_eq_false_iff, decide_eq_true_eq, decide_eq_false_iff_not, Bool.not_eq_true', Bool.not_eq_false', beq_iff_eq, beq_eq_false_iff_ne, ne_eq, toNat0, toNat1, ok_int, toI_int, I_frzs, I_length, I_getD, ok_ints, toL_slc, hvl, gv, hal]
    refine ⟨fun h2 => ⟨i0, by omega, by omega, fun h3 => ?_, fun h3 => ?_⟩, fun h2 => ?_⟩
    · rw [hr, hf0]
      cases hb : isPm a1 ls with
      | false => rfl
      | true =>
        exfalso
        have hp := (isPm_iff.1 hb).2
        rw [hss, hp.srt, iota_get _ _ (by omega)] at h3
        omega
    · rw [wrap_id (n := i + 1) (by omega) (by omega)]
      refine hag (i + 1) ⟨by omega, by omega, fun t ht => ?_⟩ (by omega)
      by_cases hti : t = i.toNat
      · rw [hti]; omega
      · exact hI t (by omega)
    · have hp : PmP ls := pm_of_srt fun t ht => by rw [← hss]; exact hI t (by omega)
      rw [hr, hf0]
      have : isPm a1 ls = ((ls.length : Int) == a1) := by
        rw [Bool.eq_iff_iff, isPm_iff, beq_iff_eq]
        exact ⟨fun h => h.1.symm, fun h => ⟨h.symm, hp⟩⟩
      rw [this]
  · cases h
def c_il_b (f : Int → List V → Bool) (q : Int → List V → Prop) : Contract := fun
  | [.int .i64 a0, .slc false 2 (.int .i64 0) a1] => some ([q a0 a1], .bool (f a0 a1))
  | _ => none
def f_pm2 (n : Int) (a : List V) : Bool := isPm n (unI a)
def q_Il (n : Int) (a : List V) : Prop := IsIs a ∧ n ≤ 2147483647
set_option maxRecDepth 100000 in
theorem s_spec_l09Permutation : Sat Try.prog 95 (c_il_b f_pm2 q_Il) := by
  intro args ps r h hp
  unfold c_il_b at h
  split at h
  · rename_i a0 a1
    simp only [Option.some.injEq, Prod.mk.injEq] at h
    obtain ⟨rfl, rfl⟩ := h
    obtain ⟨⟨⟨ls, hls⟩, hll⟩, hn⟩ : q_Il a0 a1 := (alls_cons.1 hp).1
    have hq : ∀ x, q_lI a1 x := fun _ => ⟨⟨ls, hls⟩, hll⟩
    have hal : a1.length = ls.length := by rw [hls, I_length]
    rw [hal] at hll
    have g1 : V.frzs a1 = a1 := by rw [hls, I_frzs]
    have hf0 : f_pm2 a0 a1 = isPm a0 ls := by rw [f_pm2, hls, unI_I]
    generalize H_f_has : f_has = F_f_has
    generalize H_q_lI : q_lI = F_q_lI
    refine fnOk_ofI (T := tab) (B := [(127, c_lxi_b F_f_has F_q_lI)]) (Bi := []) [0, 1, 4, 5] Try.func95 rfl rfl (by kernel_rfl) (Nat.le_of_ble_eq_true rfl) mixed tabOk (by subst H_f_has H_q_lI; exact (bookCons s_spec_l01Has bookNil)) (by subst H_f_has H_q_lI; exact bookINil) (by kernel_rfl) ?_
    intro L lp rr hL hr hf hlp
    have Eh : ∀ x, F_f_has a1 x = ls.contains x := fun x => by rw [← H_f_has, f_has, hls, unI_I]
    have Qh : ∀ x, F_q_lI a1 x := by rw [← H_q_lI]; exact hq
    conv => cbv
    refine hlp (Int) _ _ _ [0, 1, 5] (fun x => [(0, none, .val (.int .i64 a0)), (1, none, .val (.slc false 2 (.int .i64 0) a1)), (5, none, .val (.int .i64 x))])
      (fun x => 0 ≤ x ∧ (x = 0 ∨ x ≤ a0) ∧ (∀ t : Nat, t < x.toNat → (t : Int) ∈ ls)) (fun x => (a0 - x).toNat) (0) (by subst hL; rfl) ?_ ?_
    · exact ⟨by simp, .inl rfl, fun t ht => by simp at ht⟩
    rintro i ⟨i0, i1, hI⟩ hfx ag hag
    conv => cbv
    simp only [stdEqs hL, imp_self, true_and, and_true, bif_or, bif_and, Bool.or_eq_true, Bool.or_eq_false_iff, Bool.and_eq_true, Bool.and_eq_false_iff, decide_eq_true_eq, decide_eq_false_iff_not, Bool.not_eq_true', Bool.not_eq_false', beq_iff_eq, beq_eq_false_iff_ne, ne_eq, toNat0, toNat1, ok_int, toI_int, I_frzs, I_length, I_getD, ok_ints, toL_slc, g1, hal, Eh]
    refine ⟨fun h2 => ⟨Qh i, fun h3 => ?_, fun h3 => ?_⟩, fun h2 => ?_⟩
    · rw [hr, hf0]
      cases hb : isPm a0 ls with
      | false => rfl
      | true =>
        exfalso
        obtain ⟨k1, k2⟩ := isPm_iff.1 hb
        have := k2 i.toNat (by omega)
        rw [show ((i.toNat : Nat) : Int) = i by omega] at this
        simp [this] at h3
    · rw [wrap_id (n := i + 1) (by omega) (by omega)]
      refine hag (i + 1) ⟨by omega, by omega, fun t ht => ?_⟩ (by omega)
      by_cases hti : t = i.toNat
      · rw [hti, show ((i.toNat : Nat) : Int) = i by omega]
        simpa using h3
      · exact hI t (by omega)
    · rw [hr, hf0]
      have : isPm a0 ls = ((ls.length : Int) == a0) := by
        rw [Bool.eq_iff_iff, isPm_iff, beq_iff_eq]
        exact ⟨fun h => h.1.symm, fun h => ⟨h.symm, fun t ht => hI t (by omega)⟩⟩
      rw [this]
  · cases h
/-! the curve, renumbered -/
def f_rnm (a b l : List V) : List V × List V := f_part a b (I (ordP (unI l)))
def q_rnm (a b l : List V) : Prop := q_cv a b ∧ ∃ xs, l = I xs ∧ PmP xs ∧ xs.length = a.length
def rowK (ms : List (List Int)) (ls : List Int) (i : Nat) : List Int := putK ls (fun k => mm ms i k) 0 ls.length ls.length
set_option maxRecDepth 100000 in
theorem s_impl_renumbered : Sat Try.prog 91 (c_Cl_C f_rnm q_rnm) := by
  intro args ps r h hp
  unfold c_Cl_C at h
  split at h
  · rename_i a0 a1 a2
    simp only [Option.some.injEq, Prod.mk.injEq] at h
    obtain ⟨rfl, rfl⟩ := h
    obtain ⟨⟨⟨⟨bs, hbs, hb1, hb2⟩, ⟨ms, hms, hm1, hm2⟩⟩, hcv⟩, ⟨ls,hls,hpm,hll⟩⟩ := (alls_cons.1 hp).1
    rw [hbs, hms, unBB_BB, unII_II] at hcv
    have g1 : V.frzs a0 = a0 := by rw [hbs, BB_frzs]
    have g2 : V.frzs a1 = a1 := by rw [hms, II_frzs]
    have hbl : a0.length = bs.length := by rw [hbs, BB_length]
    have hml : a1.length = ms.length := by rw [hms, II_length]
    have gb : ∀ k, a0.getD k (.agg [.slc false 2 (.int .i64 0) []]) = .agg [.slc false 2 (.int .i64 0) (I (bs.getD k []))] := fun k => by rw [hbs, BB_getD]
    have gm : ∀ k, a1.getD k (.slc false 2 (.int .i64 0) []) = .slc false 2 (.int .i64 0) (I (ms.getD k [])) := fun k => by rw [hms, II_getD]
    have hm0 : ∀ x y : Nat, (ms.getD x []).getD y 0 = mm ms x y := fun _ _ => rfl
    obtain ⟨n, hn⟩ : ∃ n : Int, n = bs.length := ⟨_, rfl⟩
    have n1 := hcv.n1
    have n6 := hcv.n6
    have hmn : ms.length = bs.length := hcv.tab.len
    have hbr : ∀ i, i < bs.length → Br (bs.getD i []) := fun i hi => br_of (hcv.br i hi)
    have rl : ∀ k, k < bs.length → (ms.getD k []).length = bs.length := fun k hk => (hcv.tab.row k hk).1
    have mmr : ∀ i k, i < bs.length → k < bs.length → 0 ≤ mm ms i k ∧ mm ms i k ≤ 200 := fun i k hi hk => hcv.tab.range hi hk
    have mmo : ∀ i k, i < bs.length → k < bs.length → i ≠ k → 1 ≤ mm ms i k ∧ mm ms i k ≤ 200 := fun i k hi hk hne => ((hcv.tab.row i hi).2 k hk).2 hne
    rw [hbl] at hll
    have hf0 : f_rnm a0 a1 a2 = (BB true (partB bs (ordP ls)), II true (partM ms (ordP ls))) := by rw [f_rnm, f_part, hbs, hms, hls, unBB_BB, unII_II, unI_I, unI_I]
    have hal : a2.length = ls.length := by rw [hls, I_length]
    have gl : ∀ k, a2.getD k (.int .i64 0) = .int .i64 (ls.getD k 0) := fun k => by rw [hls, I_getD]
    have hin := hpm.inr
    obtain ⟨m, hm⟩ : ∃ m : Int, m = ls.length := ⟨_, rfl⟩
    generalize H_same : same = F_same
    generalize H_IsIs : IsIs = F_IsIs
    generalize H_f0_square : f0_square = F_f0_square
    generalize H_q_n : q_n = F_q_n
    refine fnOk_ofI (T := tab) (B := [(122, c_b_b F_same F_IsIs), (130, c_n_ll F_f0_square F_q_n)]) (Bi := []) [2000001012, 2000001015, 0, 1, 2, 4, 5, 6, 7, 8, 9, 18, 19, 20, 38, 39, 40] Try.func91 rfl rfl (by kernel_rfl) (Nat.le_of_ble_eq_true rfl) mixed tabOk (by subst H_same H_IsIs H_f0_square H_q_n; exact (bookCons s_impl_copyBranch (bookCons s_impl_square bookNil))) (by subst H_same H_IsIs H_f0_square H_q_n; exact bookINil) (by kernel_rfl) ?_
    intro L lp rr hL hr hf hlp
    have qcp : ∀ x, Br x → F_IsIs (I x) := fun x hx => by rw [← H_IsIs]; exact ⟨⟨_, rfl⟩, by rw [I_length]; have := hx.len; omega⟩
    have ecp : ∀ x, F_same (I x) = I x := fun x => by rw [← H_same]; rfl
    have Esq : F_f0_square m = II true (List.replicate ls.length (List.replicate ls.length 0)) := by rw [← H_f0_square, f0_square, hm, Int.toNat_natCast]
    conv => cbv
    simp only [stdEqs hL, imp_self, true_and, and_true, bif_or, bif_and, Bool.or_eq_true, Bool.or_eq_false_iff, Bool.and_eq_true, Bool.and_eq_false_iff, decide_eq_true_eq, decide_eq_false_iff_not, Bool.not_eq_true', Bool.not_eq_false', beq_iff_eq, beq_eq_false_iff_ne, ne_eq, toNat0, toNat1, ok_int, toI_int, I_frzs, I_length, I_getD, ok_ints, toL_slc, hal, ← hm, Esq]
    obtain ⟨fs0, hfs0⟩ : ∃ fs0, fs0 = List.replicate m.toNat (V.agg [V.slc true 2 (V.int IntKind.i64 0) []]) := ⟨_, rfl⟩
    obtain ⟨gs0, hgs0⟩ : ∃ gs0, gs0 = II true (List.replicate ls.length (List.replicate ls.length 0)) := ⟨_, rfl⟩
    have hF0 : fs0 = BB true (putK ls (fun i => bs.getD i []) [] ls.length 0) := by
      rw [hfs0, putK, BB_replicate, hm, Int.toNat_natCast]; rfl
    have hG0 : gs0 = II true (putK ls (rowK ms ls) (List.replicate ls.length 0) ls.length 0) := by rw [hgs0, putK]
    rw [← hfs0, ← hgs0]
    refine ⟨by omega, by omega, by omega, by rw [← H_q_n]; exact ⟨by omega, by omega⟩, ?_⟩
    refine hlp ((List V × List V) × Int) _ _ _ [1, 2, 4, 5, 18, 19, 20] (fun x => [(1, none, .val (.slc false 2 (.int .i64 0) a2)), (2, none, .val (.box 44 (.agg [.slc false 28 (.agg [.slc false 2 (.int .i64 0) []]) a0, .slc false 22 (.slc false 2 (.int .i64 0) []) a1]))), (4, none, .val (.box 44 (.agg [.slc true 28 (.agg [.slc true 2 (.int .i64 0) []]) [], .slc true 22 (.slc true 2 (.int .i64 0) []) []]))), (5, none, .val (.box 44 (.agg [.slc true 28 (.agg [.slc true 2 (.int .i64 0) []]) x.1.1, .slc true 22 (.slc true 2 (.int .i64 0) []) x.1.2]))), (18, none, .val (.slc false 28 (.agg [.slc false 2 (.int .i64 0) []]) a0)), (19, none, .val (.int .i64 n)), (20, none, .val (.int .i64 x.2))])
      (fun x => 0 ≤ x.2 ∧ x.2 ≤ n ∧ x.1.1 = BB true (putK ls (fun i => bs.getD i []) [] ls.length x.2.toNat) ∧ x.1.2 = II true (putK ls (rowK ms ls) (List.replicate ls.length 0) ls.length x.2.toNat)) (fun x => (n - x.2).toNat) (((fs0, gs0), 0)) (by subst hL; rw [hn, ← hbl]; rfl) ?_ ?_
    · exact ⟨by simp, by simp only; omega, hF0, hG0⟩
    rintro ⟨⟨fs, gs⟩, i⟩ ⟨i0, i1, hI, hJ⟩ hfx ag hag
    simp only at i0 i1 hI hJ
    have hfl : fs.length = ls.length := by rw [hI, BB_length, putK_len]
    have hgl : gs.length = ls.length := by rw [hJ, II_length, putK_len]
    obtain ⟨fsg, hfsg⟩ : ∃ fsg : Nat → List Int, ∀ k, fs.getD k (V.agg [V.slc true 2 (V.int IntKind.i64 0) []]) = V.agg [V.slc true 2 (V.int IntKind.i64 0) (I (fsg k))] := ⟨fun k => (putK ls (fun i => bs.getD i []) [] ls.length i.toNat).getD k [], fun k => by rw [hI, BB_getD]⟩
    conv => cbv
    simp only [stdEqs hL, imp_self, true_and, and_true, bif_or, bif_and, Bool.or_eq_true, Bool.or_eq_false_iff, Bool.and_eq_true, Bool.and_eq_false_iff, decide_eq_true_eq, decide_eq_false_iff_not, Bool.not_eq_true', Bool.not_eq_false', beq_iff_eq, beq_eq_false_iff_ne, ne_eq, toNat0, toNat1, ok_int, toI_int, I_frzs, I_length, I_getD, ok_ints, toL_slc, hbl, hml, gb, gm, ok_bran, toL_bran, fld_bran, hal, gl, ecp, hfl, hgl, hfsg, ← hn]
    refine ⟨fun h2 => ?_, fun h2 => ?_⟩
    · have hil : i.toNat < ls.length := by omega
      have hxi := hin _ hil
      have hbx := hbr i.toNat (by omega)
      have hrx := rl i.toNat (by omega)
      have qx := qcp _ hbx
      obtain ⟨fs', hfs'⟩ : ∃ fs', fs' = fs.set (ls.getD i.toNat 0).toNat (V.agg [.slc true 2 (.int .i64 0) (I (bs.getD i.toNat []))]) := ⟨_, rfl⟩
      obtain ⟨vr, hvr⟩ : ∃ vr, vr = I (ms.getD i.toNat []) := ⟨_, rfl⟩
      have hvl : vr.length = ls.length := by rw [hvr, I_length]; omega
      have gv : ∀ k, vr.getD k (.int .i64 0) = .int .i64 (mm ms i.toNat k) := fun k => by rw [hvr, I_getD, hm0]
      obtain ⟨r, hrr⟩ : ∃ r : Int, r = (ms.getD i.toNat []).length := ⟨_, rfl⟩
      have hrn : r = n := by omega
      obtain ⟨G, hG⟩ : ∃ G, G = putK ls (rowK ms ls) (List.replicate ls.length 0) ls.length i.toNat := ⟨_, rfl⟩
      have hGl : G.length = ls.length := by rw [hG, putK_len]
      rw [← hG] at hJ
      rw [← hfs', ← hvr]
      refine ⟨i0, h2, i0, by omega, qx, hxi.1, hxi.2, by omega, .inl (ok_bran _ _ _), i0, by omega, ?_⟩
      obtain ⟨x, hx⟩ : ∃ x, x = ls.getD i.toNat 0 := ⟨_, rfl⟩
      refine hlp (List V × Int) _ _ _ [1, 2, 4, 5, 6, 18, 19, 20, 38, 39, 40] (fun y => [(1, none, .val (.slc false 2 (.int .i64 0) a2)), (2, none, .val (.box 44 (.agg [.slc false 28 (.agg [.slc false 2 (.int .i64 0) []]) a0, .slc false 22 (.slc false 2 (.int .i64 0) []) a1]))), (4, none, .val (.box 44 (.agg [.slc true 28 (.agg [.slc true 2 (.int .i64 0) []]) [], .slc true 22 (.slc true 2 (.int .i64 0) []) []]))), (5, none, .val (.box 44 (.agg [.slc true 28 (.agg [.slc true 2 (.int .i64 0) []]) fs', .slc true 22 (.slc true 2 (.int .i64 0) []) y.1]))), (6, none, .val (.int .i64 i)), (18, none, .val (.slc false 28 (.agg [.slc false 2 (.int .i64 0) []]) a0)), (19, none, .val (.int .i64 n)), (20, none, .val (.int .i64 i)), (38, none, .val (.slc false 2 (.int .i64 0) vr)), (39, none, .val (.int .i64 r)), (40, none, .val (.int .i64 y.2))])
        (fun y => 0 ≤ y.2 ∧ y.2 ≤ n ∧ y.1 = II true (G.set x.toNat (putK ls (fun k => mm ms i.toNat k) 0 ls.length y.2.toNat))) (fun y => (n - y.2).toNat) ((gs, 0)) (by subst hL; rw [hrr]; rfl) ?_ ?_
      · refine ⟨by simp, by simp only; omega, ?_⟩
        simp only
        have e0 : putK ls (fun k => mm ms i.toNat k) 0 ls.length (0 : Int).toNat = List.replicate ls.length 0 := rfl
        rw [hJ, e0, hG, hx, putK_same hpm _ _ hil]
      rintro ⟨ks, k⟩ ⟨k0, k1, hK⟩ hfx2 ag2 hag2
      simp only at k0 k1 hK
      have hln : (ls.length : Int) = n := by omega
      have hn6 : n ≤ 6 := by omega
      have hxn : x.toNat < ls.length := by omega
      have hx0 : 0 ≤ x ∧ x < ls.length := by rw [hx]; exact hxi
      clear hb1 hm1 hb2 hm2 hll n1 n6 hmn hbl hml hn hm hfl hgl hrr hrx hcv mmr mmo hbx rl hbr hxi
      have hkl : ks.length = ls.length := by rw [hK, II_length, List.length_set, hGl]
      obtain ⟨R, hR⟩ : ∃ R, R = putK ls (fun k => mm ms i.toNat k) 0 ls.length k.toNat := ⟨_, rfl⟩
      have hRl : R.length = ls.length := by rw [hR, putK_len]
      rw [← hR] at hK
      have gk : ks.getD x.toNat (.slc true 2 (.int .i64 0) []) = .slc true 2 (.int .i64 0) (I R) := by
        rw [hK, II_getD, set_getD (by omega), if_pos rfl]
      conv => cbv
      simp only [stdEqs hL, imp_self, true_and, and_true, bif_or, bif_and, Bool.or_eq_true, Bool.or_eq_false_iff, Bool.and_eq_true, Bool.and_eq_false_iff, decide_eq_true_eq, decide_eq_false_iff_not, Bool.not_eq_true', Bool.not_eq_false', beq_iff_eq, beq_eq_false_iff_ne, ne_eq, toNat0, toNat1, ok_int, toI_int, I_frzs, I_length, I_getD, ok_ints, toL_slc, hvl, gv, hal, gl, ← hx, hkl, gk]
      refine ⟨fun h3 => ?_, fun h3 => ?_⟩
      · have hkl2 : k.toNat < ls.length := by omega
        have hyk := hin _ hkl2
        rw [wrap_id (n := k + 1) (by omega) (by omega)]
        (repeat' first | (exact solid_one _) | (exact solid1 rfl) | (exact noown_one _) | (apply And.intro) | (intro _)) <;> (try first | exact True.intro | omega | rfl | (simp only [List.length_cons, List.length_nil, I_length]; omega))
        refine hag2 (_, k + 1) ⟨by simp only; omega, by simp only; omega, ?_⟩ (by simp only; omega)
        simp only [toNat_succ k0]
        rw [hK, I_set, II_set, List.set_set, hR, putK]
      · rw [wrap_id (n := i + 1) (by omega) (by omega)]
        refine hag ((fs', ks), i + 1) ⟨by simp only; omega, by simp only; omega, ?_, ?_⟩ (by simp only; omega)
        · simp only [toNat_succ i0]
          rw [hfs', hI, BB_set, putK]
        · simp only [toNat_succ i0]
          rw [hK, hR, putK, ← hG, show k.toNat = ls.length by omega, ← hx]
          rfl
    · rw [hr, hf0, hI, hJ, show i.toNat = ls.length by omega, putK_full hpm, putK_full hpm]
      rw [show (rowK ms ls) = fun i => (ordP ls).map fun k => mm ms i k.toNat from funext fun i => putK_full hpm _ _]
      rfl
  · cases h
/-! both sides -/
noncomputable def f_rc (a b l : List V) : List V × List V × Int := bif f_isCv a b then (bif isPm a.length (unI l) then ((f_rnm a b l).1, (f_rnm a b l).2, 0) else ([], [], 2)) else ([], [], 1)
set_option maxRecDepth 100000 in
theorem s_impl_RenumberCurve : Sat Try.prog 45 (c_Cl_Ci f_rc q_Cl) := by
  intro args ps r h hp
  unfold c_Cl_Ci at h
  split at h
  · rename_i a0 a1 a2
    simp only [Option.some.injEq, Prod.mk.injEq] at h
    obtain ⟨rfl, rfl⟩ := h
    obtain ⟨hq, ⟨ls, hls⟩, hll⟩ : q_Cl a0 a1 a2 := (alls_cons.1 hp).1
    have g1 := frzs_BB hq.1.isBB
    have g2 := frzs_II hq.2.isII
    have g3 : V.frzs a2 = a2 := by rw [hls, I_frzs]
    have hal : a2.length = ls.length := by rw [hls, I_length]
    have e1 : f_pm a2 a0.length = isPm a0.length ls := by rw [f_pm, hls, unI_I]
    generalize H_f_isCv : f_isCv = F_f_isCv
    generalize H_q_C : q_C = F_q_C
    generalize H_f_pm : f_pm = F_f_pm
    generalize H_q_lI : q_lI = F_q_lI
    generalize H_f_rnm : f_rnm = F_f_rnm
    generalize H_q_rnm : q_rnm = F_q_rnm
    refine fnOk_ofI (T := tab) (B := [(70, c_C_b F_f_isCv F_q_C), (96, c_lxi_b F_f_pm F_q_lI), (91, c_Cl_C F_f_rnm F_q_rnm)]) (Bi := []) [0, 1, 2, 4, 5] Try.func45 rfl rfl (by kernel_rfl) (Nat.le_of_ble_eq_true rfl) mixed tabOk (by subst H_f_isCv H_q_C H_f_pm H_q_lI H_f_rnm H_q_rnm; exact (bookCons s_impl_IsCurve (bookCons s_impl_isPermutation (bookCons s_impl_renumbered bookNil)))) (by subst H_f_isCv H_q_C H_f_pm H_q_lI H_f_rnm H_q_rnm; exact bookINil) (by kernel_rfl) ?_
    intro L lp rr hL hr hf hlp
    conv => cbv
    simp only [stdEqs hL, imp_self, true_and, and_true, bif_or, bif_and, Bool.or_eq_true, Bool.or_eq_false_iff, Bool.and_eq_true, Bool.and_eq_false_iff, decide_eq_true_eq, decide_eq_false_iff_not, Bool.not_eq_true', Bool.not_eq_false', beq_iff_eq, beq_eq_false_iff_ne, ne_eq, toNat0, toNat1, ok_int, toI_int, I_frzs, I_length, I_getD, ok_ints, toL_slc, g1, g2, g3]
    subst H_f_isCv H_q_C H_f_pm H_q_lI H_f_rnm H_q_rnm
    simp only [e1]
    refine ⟨hq, fun h => ?_, fun h => ⟨⟨⟨ls, hls⟩, hll⟩, fun h2 => ?_, fun h2 => ⟨⟨q_cv_of hq h, ls, hls, (isPm_iff.1 h2).2, by have := (isPm_iff.1 h2).1; omega⟩, ?_⟩⟩⟩
    · rw [hr, f_rc, h]; rfl
    · rw [hr, f_rc, h, hls, unI_I, h2]; rfl
    · have hx : isPm a0.length (unI a2) = true := by rw [hls, unI_I]; exact h2
      rw [hr, f_rc, h, hx]; rfl
  · cases h
set_option maxRecDepth 100000 in
theorem s_spec_RenumberCurve : Sat Try.prog 44 (c_Cl_Ci f_rc q_Cl) := by
  intro args ps r h hp
  unfold c_Cl_Ci at h
  split at h
  · rename_i a0 a1 a2
    simp only [Option.some.injEq, Prod.mk.injEq] at h
    obtain ⟨rfl, rfl⟩ := h
    obtain ⟨hq, ⟨ls, hls⟩, hll⟩ : q_Cl a0 a1 a2 := (alls_cons.1 hp).1
    have g1 := frzs_BB hq.1.isBB
    have g2 := frzs_II hq.2.isII
    have g3 : V.frzs a2 = a2 := by rw [hls, I_frzs]
    have hal : a2.length = ls.length := by rw [hls, I_length]
    rw [hal] at hll
    have gl : ∀ k, a2.getD k (.int .i64 0) = .int .i64 (ls.getD k 0) := fun k => by rw [hls, I_getD]
    obtain ⟨n, hn⟩ : ∃ n : Int, n = a0.length := ⟨_, rfl⟩
    have hnl : a0.length ≤ 2147483647 := by
      obtain ⟨bs, hbs, h1, _⟩ := hq.1
      rw [hbs, BB_length]; exact h1
    have hf1 : f_isCv a0 a1 = false → f_rc a0 a1 a2 = ([], [], 1) := fun h => by rw [f_rc, h]; rfl
    have hf2 : f_isCv a0 a1 = true → isPm n ls = false → f_rc a0 a1 a2 = ([], [], 2) := fun h h2 => by rw [f_rc, h, hls, unI_I, ← hn, h2]; rfl
    have hf3 : f_isCv a0 a1 = true → isPm n ls = true → f_rc a0 a1 a2 = ((f_part a0 a1 (I (ordP ls))).1, (f_part a0 a1 (I (ordP ls))).2, 0) := fun h h2 => by
      rw [f_rc, h, hls, unI_I, ← hn, h2, f_rnm, unI_I]; rfl
    generalize H_f_isCv : f_isCv = F_f_isCv
    generalize H_q_C : q_C = F_q_C
    generalize H_f_pm2 : f_pm2 = F_f_pm2
    generalize H_q_Il : q_Il = F_q_Il
    generalize H_f_part : f_part = F_f_part
    generalize H_q_part : q_part = F_q_part
    refine fnOk_ofI (T := tab) (B := [(75, c_C_b F_f_isCv F_q_C), (95, c_il_b F_f_pm2 F_q_Il), (77, c_Cl_C F_f_part F_q_part)]) (Bi := []) [0, 1, 2, 4, 5, 6, 7] Try.func44 rfl rfl (by kernel_rfl) (Nat.le_of_ble_eq_true rfl) mixed tabOk (by subst H_f_isCv H_q_C H_f_pm2 H_q_Il H_f_part H_q_part; exact (bookCons s_spec_l09Is (bookCons s_spec_l09Permutation (bookCons s_spec_l09Part bookNil)))) (by subst H_f_isCv H_q_C H_f_pm2 H_q_Il H_f_part H_q_part; exact bookINil) (by kernel_rfl) ?_
    intro L lp rr hL hr hf hlp
    have E1 : F_f_isCv a0 a1 = f_isCv a0 a1 := by rw [H_f_isCv]
    have E2 : F_f_pm2 n a2 = isPm n ls := by rw [← H_f_pm2, f_pm2, hls, unI_I]
    have Ep : ∀ l, F_f_part a0 a1 l = f_part a0 a1 l := fun l => by rw [H_f_part]
    have Qp : ∀ l, q_part a0 a1 l → F_q_part a0 a1 l := fun l h => by rw [← H_q_part]; exact h
    conv => cbv
    simp only [stdEqs hL, imp_self, true_and, and_true, bif_or, bif_and, Bool.or_eq_true, Bool.or_eq_false_iff, Bool.and_eq_true, Bool.and_eq_false_iff, decide_eq_true_eq, decide_eq_false_iff_not, Bool.not_eq_true', Bool.not_eq_false', beq_iff_eq, beq_eq_false_iff_ne, ne_eq, toNat0, toNat1, ok_int, toI_int, I_frzs, I_length, I_getD, ok_ints, toL_slc, g1, g2, g3, hal, ← hn, E1, E2]
    subst H_q_C H_q_Il
    refine ⟨hq, fun h => ?_, fun h => ⟨⟨⟨⟨ls, hls⟩, by omega⟩, by omega⟩, fun h2 => ?_, fun h2 => ⟨by omega, by omega, by omega, ?_⟩⟩⟩
    · rw [hr, hf1 h]
    · rw [hr, hf2 h h2]
    obtain ⟨hnn, hpm⟩ := isPm_iff.1 h2
    have hin := hpm.inr
    obtain ⟨os0, hos0⟩ : ∃ os0 : List V, os0 = List.replicate (ls.length : Int).toNat (V.int IntKind.i64 0) := ⟨_, rfl⟩
    rw [← hos0]
    refine hlp (List V × Int) _ _ _ [1, 2, 4, 6, 7] (fun x => [(1, none, .val (.slc false 2 (.int .i64 0) a2)), (2, none, .val (.box 44 (.agg [.slc false 28 (.agg [.slc false 2 (.int .i64 0) []]) a0, .slc false 22 (.slc false 2 (.int .i64 0) []) a1]))), (4, none, .val (.box 44 (.agg [.slc true 28 (.agg [.slc true 2 (.int .i64 0) []]) [], .slc true 22 (.slc true 2 (.int .i64 0) []) []]))), (6, none, .val (.slc true 2 (.int .i64 0) x.1)), (7, none, .val (.int .i64 x.2))])
      (fun x => 0 ≤ x.2 ∧ x.2 ≤ ls.length ∧ x.1 = I (putK ls (fun k => (k : Int)) 0 ls.length x.2.toNat)) (fun x => (ls.length - x.2).toNat) ((os0, 0)) (by subst hL; rfl) ?_ ?_
    · refine ⟨by simp, by simp, ?_⟩
      simp only
      have e0 : putK ls (fun k => (k : Int)) 0 ls.length (0 : Int).toNat = List.replicate ls.length 0 := rfl
      rw [hos0, Int.toNat_natCast, e0]
      exact I_replicate ls.length 0
    rintro ⟨os, i⟩ ⟨i0, i1, hI⟩ hfx ag hag
    simp only at i0 i1 hI
    have hol : os.length = ls.length := by rw [hI, I_length, putK_len]
    conv => cbv
    have gq : ∀ k, os.getD k (.int .i64 0) = .int .i64 ((unI os).getD k 0) := fun k => by rw [hI, I_getD, unI_I]
    simp only [stdEqs hL, imp_self, true_and, and_true, bif_or, bif_and, Bool.or_eq_true, Bool.or_eq_false_iff, Bool.and_eq_true, Bool.and_eq_false_iff, decide_eq_true_eq, decide_eq_false_iff_not, Bool.not_eq_true', Bool.not_eq_false', beq_iff_eq, beq_eq_false_iff_ne, ne_eq, toNat0, toNat1, ok_int, toI_int, I_frzs, I_length, I_getD, ok_ints, toL_slc, hal, gl, hol, g1, g2, g3, Ep, gq]
    refine ⟨fun h3 => ?_, fun h3 => ?_⟩
    · have hxi := hin i.toNat (by omega)
      rw [wrap_id (n := i + 1) (by omega) (by omega)]
      (repeat' first | (exact solid_one _) | (exact solid1 rfl) | (exact noown_one _) | (apply And.intro) | (intro _)) <;> (try first | exact True.intro | omega | rfl | (simp only [List.length_cons, List.length_nil, I_length]; omega))
      refine hag (_, i + 1) ⟨by simp only; omega, by simp only; omega, ?_⟩ (by simp only; omega)
      simp only [toNat_succ i0]
      rw [putK, hI, I_set, show ((i.toNat : Nat) : Int) = i by omega]
    · have ho : os = I (ordP ls) := by rw [hI, show i.toNat = ls.length by omega]; rfl
      have hfo : V.frzs os = os := by rw [ho, I_frzs]
      have hxl : unI a0 = unI a0 := rfl
      have n6 : ls.length ≤ 6 ∧ f_part a0 a1 (I (ordP ls)) = (BB true (partB (unBB a0) (ordP ls)), II true (partM (unII a1) (ordP ls))) := by
        obtain ⟨bs, hbs, _⟩ := hq.1
        have h6 := (isCv_iff.1 h).n6
        rw [hbs, unBB_BB] at h6
        refine ⟨?_, by rw [f_part, unI_I]⟩
        have : a0.length = bs.length := by rw [hbs, BB_length]
        omega
      rw [hfo, ho, n6.2]
      refine ⟨Qp _ ⟨q_cv_of hq h, ordP ls, rfl, fun k hk => ?_, by rw [ordP_len]; omega⟩, BB_noFzs _, II_noFzs _, ?_⟩
      · have := ordP_in hpm k hk
        omega
      · rw [hr, hf3 h h2, n6.2]
  · cases h
set_option maxRecDepth 100000 in
theorem s_laws_FnExactRenumberCurve : Sat Try.prog 10 (c_law_Dl yesDl q_law_Dl) := by
  intro args ps r h hp
  unfold c_law_Dl at h
  split at h
  · rename_i a0 a1 a2
    simp only [Option.some.injEq, Prod.mk.injEq] at h
    obtain ⟨rfl, rfl⟩ := h
    obtain ⟨hq, ⟨ls, hls⟩⟩ : q_law_Dl a0 a1 a2 := (alls_cons.1 hp).1
    have g0 := frzs_BB hq.1
    have g1 := frzs_II hq.2
    have g2 : V.frzs a2 = a2 := by rw [hls, I_frzs]
    have hal : a2.length = ls.length := by rw [hls, I_length]
    generalize H_f_szC : f_szC = F_f_szC
    generalize H_q_szC : q_szC = F_q_szC
    generalize H_f_cpC : f_cpC = F_f_cpC
    generalize H_q_cpC : q_cpC = F_q_cpC
    generalize H_same : same = F_same
    generalize H_IsIs : IsIs = F_IsIs
    generalize H_f_rc : f_rc = F_f_rc
    generalize H_q_Cl : q_Cl = F_q_Cl
    generalize H_f0_eqC : f0_eqC = F_f0_eqC
    generalize H_q_eqC : q_eqC = F_q_eqC
    generalize H_f0_eqI : f0_eqI = F_f0_eqI
    generalize H_q_eqI : q_eqI = F_q_eqI
    generalize H_f0_heldC : f0_heldC = F_f0_heldC
    generalize H_q_heldC : q_heldC = F_q_heldC
    generalize H_f0_mark : f0_mark = F_f0_mark
    generalize H_f1_mark : f1_mark = F_f1_mark
    generalize H_q_mark : q_mark = F_q_mark
    generalize H_f0_markC : f0_markC = F_f0_markC
    generalize H_f1_markC : f1_markC = F_f1_markC
    generalize H_f2_markC : f2_markC = F_f2_markC
    generalize H_q_markC : q_markC = F_q_markC
    refine fnOk_ofI (T := tab) (B := [(23, c_Di_i F_f_szC F_q_szC), (25, c_D_C F_f_cpC F_q_cpC), (29, c_laws_toInt64S F_same F_IsIs), (44, c_Cl_Ci F_f_rc F_q_Cl), (45, c_Cl_Ci F_f_rc F_q_Cl), (27, c_cc_bool F_f0_eqC F_q_eqC), (18, c_laws_eqInt64S F_f0_eqI F_q_eqI), (32, c_heldC F_f0_heldC F_q_heldC)]) (Bi := [(21, 0, false, ic_markInt64S F_f0_mark F_f1_mark F_q_mark), (31, 0, false, ic_markC F_f0_markC F_f1_markC F_f2_markC F_q_markC)]) [0, 1, 2, 4, 5, 6, 7, 8, 9, 10, 11, 12, 13, 14, 15, 16] Try.func10 rfl rfl (by kernel_rfl) (Nat.le_of_ble_eq_true rfl) mixed tabOk (by subst H_f_szC H_q_szC H_f_cpC H_q_cpC H_same H_IsIs H_f_rc H_q_Cl H_f0_eqC H_q_eqC H_f0_eqI H_q_eqI H_f0_heldC H_q_heldC H_f0_mark H_f1_mark H_q_mark H_f0_markC H_f1_markC H_f2_markC H_q_markC; exact (bookCons s_laws_szCurve (bookCons s_laws_toCurve (bookCons s_laws_toInt64S (bookCons s_spec_RenumberCurve (bookCons s_impl_RenumberCurve (bookCons s_laws_eqCurve (bookCons s_laws_eqInt64S (bookCons s_laws_heldCurve bookNil))))))))) (by subst H_f_szC H_q_szC H_f_cpC H_q_cpC H_same H_IsIs H_f_rc H_q_Cl H_f0_eqC H_q_eqC H_f0_eqI H_q_eqI H_f0_heldC H_q_heldC H_f0_mark H_f1_mark H_q_mark H_f0_markC H_f1_markC H_f2_markC H_q_markC; exact (bookICons s_laws_markInt64S (bookICons s_laws_markCurve bookINil))) (by kernel_rfl) ?_
    intro L lp rr hL hr hf hlp
    have hlen := hf.1
    conv => cbv
    simp only [stdEqs hL, g0, g1, g2, hal]
    subst H_f_szC H_q_szC H_f_cpC H_q_cpC H_same H_IsIs H_f_rc H_q_Cl H_f0_eqC H_q_eqC H_f0_eqI H_q_eqI H_f0_heldC H_q_heldC H_f0_mark H_f1_mark H_q_mark H_f0_markC H_f1_markC H_f2_markC H_q_markC
    refine ⟨fun h => by rw [hr]; rfl, fun hls1 => ⟨hq, fun h => by rw [hr]; rfl, fun h => ?_⟩⟩
    have hll : ls.length ≤ 1048576 := by
      simp only [decide_eq_false_iff_not] at hls1
      omega
    obtain ⟨hc, ht1, ht2, _, _⟩ := szC_ok (by omega) (by omega) hq hlen.1.1 hlen.1.2 hlen.2.1.1 hlen.2.1.2 h
    obtain ⟨⟨bs, hbs⟩, ⟨ms, hms⟩⟩ := hq
    have e0 : f_cpC a0 a1 = (BB true bs, II true ms) := by rw [f_cpC, hbs, hms, unBB_BB, unII_II]
    rw [hbs, unBB_BB] at ht1
    rw [hms, unII_II] at ht2
    have kg := curve_keys bs ms (by omega)
    have hqc : q_C (BB false bs) (II false ms) := by have := q_C_of hc; rwa [hbs, hms] at this
    have kl := ints_keys ls (by omega)
    have hqx : q_Cl (BB false bs) (II false ms) (I ls) := ⟨hqc, kl.1⟩
    have km := ints_keysM ls (1 + tot bs + tot ms) (by omega) (by omega)

    obtain ⟨cs, ns, code, ez, hz1⟩ : ∃ (cs ns : List (List Int)) (code : Int), f_rc (BB false bs) (II false ms) (I ls) = (BB true cs, II true ns, code) ∧ tot cs + tot ns ≤ 4611686018427387904 := by
      rw [f_rc, f_isCv, unBB_BB, unII_II]
      cases hh : isCv bs ms with
      | false => exact ⟨[], [], 1, rfl, by simp [tot]⟩
      | true =>
        rw [cond_true, unI_I, BB_length]
        cases ho : isPm bs.length ls with
        | false => exact ⟨[], [], 2, rfl, by simp [tot]⟩
        | true =>
          obtain ⟨k1, k2⟩ := isPm_iff.1 ho
          have hcv := isCv_iff.1 hh
          have := hcv.n6
          refine ⟨partB bs (ordP ls), partM ms (ordP ls), 0, by rw [f_rnm, f_part, unBB_BB, unII_II, unI_I, unI_I]; rfl, part_tot hcv (fun k hk => by have := ordP_in k2 k hk; omega) (by rw [ordP_len]; omega)⟩
    have kz := curve_keys cs ns hz1
    have hn1 : ∀ n : Nat, decide ((1 : Int) + n < 0) = false := fun n => by simp; omega
    have hn2 : ∀ n m : Nat, decide ((1 : Int) + n + m < 0) = false := fun n m => by simp; omega
    have hn3 : ∀ n m r : Nat, decide ((1 : Int) + n + m + r < 0) = false := fun n m r => by simp; omega
    simp only [hls, same, I_frzs, e0, hc, kg, hqc, hqx, kl, km, ez, kz, hn1, hn2, hn3, hr, yesDl]
    simp
  · cases h
end Go.Ax
