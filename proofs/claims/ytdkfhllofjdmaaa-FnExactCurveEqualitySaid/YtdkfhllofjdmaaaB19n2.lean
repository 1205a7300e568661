import Derived.Test.YtdkfhllofjdmaaaB18n2
import Derived.Test.YtdkfhllofjdmaaaB10n2
/-
  CurveEquality, the program's side. No conditions but those of the contracts.
-/
set_option linter.all false
namespace Go.Ax
open Go.Proofs
set_option maxHeartbeats 2000000

theorem kc_of {bs ms : List (List Int)} (h : CvP bs ms) : KcP bs ms where
  b6 := h.n6
  m6 := by have := h.tab.len; have := h.n6; omega
  bl := fun i hi => by have := (br_of (h.br i hi)).len; omega
  ml := fun i hi => by
    have h1 := h.tab.len
    have h2 := (h.tab.row i (by omega)).1
    have := h.n6
    omega
theorem kc_part {bs ms : List (List Int)} (h : CvP bs ms) {q : List Int} (hq : q.Perm (iota bs.length)) : KcP (partB bs q) (partM ms q) where
  b6 := by rw [partB_len, hq.length_eq, iota_len]; exact h.n6
  m6 := by rw [partM_len, hq.length_eq, iota_len]; exact h.n6
  bl := fun i hi => by
    rw [partB_len] at hi
    rw [partB_get hi]
    obtain ⟨hp, hl⟩ := iota_pm hq
    have h1 := hp.inr i hi
    rw [hl] at h1
    have := (br_of (h.br (q.getD i 0).toNat (by omega))).len
    omega
  ml := fun i hi => by
    have h1 : ((partM ms q).getD i []).length = q.length := by
      refine partM_row (ms := ms) (l := q) ?_
      rw [List.getD_eq_getElem?_getD, List.getElem?_eq_getElem hi]
      exact List.getElem_mem _
    rw [h1, hq.length_eq, iota_len]
    exact h.n6
theorem ord_perm {n : Nat} {q : List Int} (h : q.Perm (iota n)) : (ordP q).Perm (iota n) := by
  obtain ⟨k1, k2⟩ := iota_pm h
  exact pm_iota (ordP_pm k1) (by rw [ordP_len, k2])
def f_map (a b c d : List V) : List Int := mapsF (chkC (unBB a) (unII b) (unBB c) (unII d)) a.length a.length []
noncomputable def f_ceq (a b c d : List V) : List V × Int := bif f_isCv a b && f_isCv c d then (bif decide (a.length = c.length) then (bif (f_map a b c d).isEmpty then ([], 4) else (I (f_map a b c d), 0)) else ([], 4)) else ([], 1)
def q_CC (a b c d : List V) : Prop := q_C a b ∧ q_C c d
def c_CC_li (f : List V → List V → List V → List V → List V × Int) (q : List V → List V → List V → List V → Prop) : Contract := fun
  | [.agg [.slc false 61 (.agg [.slc false 2 (.int .i64 0) []]) a0, .slc false 27 (.slc false 2 (.int .i64 0) []) a1], .agg [.slc false 61 (.agg [.slc false 2 (.int .i64 0) []]) a2, .slc false 27 (.slc false 2 (.int .i64 0) []) a3]] => some ([q a0 a1 a2 a3], .tup [.slc true 2 (.int .i64 0) ((f a0 a1 a2 a3).1), .int .i64 ((f a0 a1 a2 a3).2)])
  | _ => none
theorem f_ceq_no1 {a b c d : List V} (h : f_isCv a b = false ∨ f_isCv c d = false) : f_ceq a b c d = ([], 1) := by
  rw [f_ceq]
  rcases h with h | h
  · rw [h]; rfl
  · rw [h, Bool.and_false]; rfl
theorem f_ceq_no2 {a b c d : List V} (h : f_isCv a b = true) (h2 : f_isCv c d = true) (h3 : a.length ≠ c.length) : f_ceq a b c d = ([], 4) := by
  rw [f_ceq, h, h2, decide_eq_false h3]; rfl
theorem f_ceq_yes {a b c d : List V} (h : f_isCv a b = true) (h2 : f_isCv c d = true) (h3 : a.length = c.length) : f_ceq a b c d = bif (f_map a b c d).isEmpty then ([], 4) else (I (f_map a b c d), 0) := by
  rw [f_ceq, h, h2, decide_eq_true h3]; rfl
set_option maxHeartbeats 1000000 in
set_option maxRecDepth 100000 in
theorem s_impl_CurveEquality : Sat Try.prog 8 (c_CC_li f_ceq q_CC) := by
  intro args ps r h hp
  unfold c_CC_li at h
  split at h
  · rename_i a0 a1 a2 a3
    simp only [Option.some.injEq, Prod.mk.injEq] at h
    obtain ⟨rfl, rfl⟩ := h
    obtain ⟨hqa, hqb⟩ : q_CC a0 a1 a2 a3 := (alls_cons.1 hp).1
    have g0 := frzs_BB hqa.1.isBB
    have g1 := frzs_II hqa.2.isII
    have g2 := frzs_BB hqb.1.isBB
    have g3 := frzs_II hqb.2.isII
    obtain ⟨⟨bs, hbs, hb1, hb2⟩, ⟨ms, hms, hm1, hm2⟩⟩ := id hqa
    obtain ⟨⟨ds, hds, hd1, hd2⟩, ⟨ns, hns, hn1, hn2⟩⟩ := id hqb
    have hbl : a0.length = bs.length := by rw [hbs, BB_length]
    have hdl : a2.length = ds.length := by rw [hds, BB_length]
    obtain ⟨n, hn⟩ : ∃ n : Int, n = bs.length := ⟨_, rfl⟩
    have hkd : f_key a2 a3 = I (keyC ds ns) := by rw [f_key, hds, hns, unBB_BB, unII_II]
    have hqkd : f_isCv a2 a3 = true → q_key a2 a3 := fun h => ⟨ds, ns, hds, hns, kc_of (by rw [f_isCv, hds, hns, unBB_BB, unII_II] at h; exact isCv_iff.1 h)⟩
    have hcv1 : f_isCv a0 a1 = true → CvP bs ms := fun h => by rw [f_isCv, hbs, hms, unBB_BB, unII_II] at h; exact isCv_iff.1 h
    have hcv2 : f_isCv a2 a3 = true → CvP ds ns := fun h => by rw [f_isCv, hds, hns, unBB_BB, unII_II] at h; exact isCv_iff.1 h
    have hfm : f_map a0 a1 a2 a3 = mapsF (chkC bs ms ds ns) bs.length bs.length [] := by rw [f_map, hbl, hbs, hms, hds, hns, unBB_BB, unII_II, unBB_BB, unII_II]
    have hrn : ∀ p : List Int, f_rnm a0 a1 (I p) = (BB true (partB bs (ordP p)), II true (partM ms (ordP p))) := fun p => by rw [f_rnm, f_part, hbs, hms, unI_I, unI_I, unBB_BB, unII_II]
    have hfr : ∀ p : List Int, f_key (BB false (partB bs (ordP p))) (II false (partM ms (ordP p))) = I (kP bs ms (ordP p)) := fun p => by rw [f_key, unBB_BB, unII_II, kP]
    generalize H_f_isCv : f_isCv = F_f_isCv
    generalize H_q_C : q_C = F_q_C
    generalize H_f_key : f_key = F_f_key
    generalize H_q_key : q_key = F_q_key
    generalize H_f_fp0 : f_fp0 = F_f_fp0
    generalize H_q_fp0 : q_fp0 = F_q_fp0
    generalize H_f_rnm : f_rnm = F_f_rnm
    generalize H_q_rnm : q_rnm = F_q_rnm
    generalize H_f0_eqI : f0_eqI = F_f0_eqI
    generalize H_q_II : q_II = F_q_II
    generalize H_f_np0 : f_np0 = F_f_np0
    generalize H_f_np1 : f_np1 = F_f_np1
    generalize H_q_np : q_np = F_q_np
    refine fnOk_ofI (T := tab) (B := [(23, c_C_b F_f_isCv F_q_C), (24, c_C_lk F_f_key F_q_key), (25, c_i_lp F_f_fp0 F_q_fp0), (27, c_Cl_C F_f_rnm F_q_rnm), (26, c_ll_b F_f0_eqI F_q_II)]) (Bi := [(28, 0, false, ic_np F_f_np0 F_f_np1 F_q_np)]) [0, 1, 2, 3, 4, 5, 6, 7] Try.func8 rfl rfl (by kernel_rfl) (Nat.le_of_ble_eq_true rfl) mixed tabOk (by subst H_f_isCv H_q_C H_f_key H_q_key H_f_fp0 H_q_fp0 H_f_rnm H_q_rnm H_f0_eqI H_q_II H_f_np0 H_f_np1 H_q_np; exact (bookCons s_impl_IsCurve (bookCons s_impl_keyOf (bookCons s_firstPerm (bookCons s_impl_renumbered (bookCons s_slicesEqual bookNil)))))) (by subst H_f_isCv H_q_C H_f_key H_q_key H_f_fp0 H_q_fp0 H_f_rnm H_q_rnm H_f0_eqI H_q_II H_f_np0 H_f_np1 H_q_np; exact (bookICons s_next bookINil)) (by kernel_rfl) ?_
    intro L lp rr hL hr hf hlp
    have Ek : F_f_key a2 a3 = I (keyC ds ns) := by rw [← H_f_key, hkd]
    have Ef : F_f_fp0 n = I (iota bs.length) := by rw [← H_f_fp0, f_fp0, hn, Int.toNat_natCast]
    have Er : ∀ p : List Int, F_f_rnm a0 a1 (I p) = (BB true (partB bs (ordP p)), II true (partM ms (ordP p))) := fun p => by rw [← H_f_rnm, hrn]
    have Ekr : ∀ p : List Int, F_f_key (BB false (partB bs (ordP p))) (II false (partM ms (ordP p))) = I (kP bs ms (ordP p)) := fun p => by rw [← H_f_key, hfr]
    have Ee : ∀ u v : List Int, F_f0_eqI (I u) (I v) = decide (u = v) := fun u v => by rw [← H_f0_eqI, f0_eqI, unI_I, unI_I]
    have E0 : ∀ p : List Int, F_f_np0 (I p) = npB p := fun p => by rw [← H_f_np0, f_np0, unI_I]
    have E1 : ∀ p : List Int, F_f_np1 (I p) = I (npL p) := fun p => by rw [← H_f_np1, f_np1, unI_I]
    obtain ⟨wv, hwv⟩ : ∃ wv, wv = I (keyC ds ns) := ⟨_, rfl⟩
    obtain ⟨is0, his0⟩ : ∃ is0, is0 = I (iota bs.length) := ⟨_, rfl⟩
    rw [← hwv] at Ek
    rw [← his0] at Ef
    conv => cbv
    simp only [stdEqs hL, imp_self, true_and, and_true, bif_or, bif_and, Bool.or_eq_true, Bool.or_eq_false_iff, Bool.and_eq_true, Bool.and_eq_false_iff, decide_eq_true_eq, decide_eq_false_iff_not, Bool.not_eq_true', Bool.not_eq_false', beq_iff_eq, beq_eq_false_iff_ne, ne_eq, toNat0, toNat1, ok_int, toI_int, I_frzs, I_length, I_getD, ok_ints, toL_slc, g0, g1, g2, g3, hbl, hdl, ← hn, Ek, Ef]
    have hm1l : ∀ p : List Int, p.Perm (iota bs.length) → p.length = bs.length := fun p h => by rw [h.length_eq, iota_len]
    refine ⟨by rw [← H_q_C]; exact hqa, fun _ => by rw [← H_q_C]; exact hqb, fun h => ?_, fun h => ⟨fun h2 => ?_, fun h2 => ⟨?_, ?_, ?_⟩⟩⟩
    · rw [hr, f_ceq_no1 (by rw [H_f_isCv]; exact h)]
    · obtain ⟨k1, k2⟩ := h
      rw [hr, f_ceq_no2 (by rw [H_f_isCv]; exact k1) (by rw [H_f_isCv]; exact k2) (by rw [hbl, hdl]; omega)]
    · rw [← H_q_key]
      exact hqkd (by rw [H_f_isCv]; exact h.2)
    · rw [← H_q_fp0]
      exact ⟨by omega, by rw [hn]; have := (hcv1 (by rw [H_f_isCv]; exact h.1)).n6; omega⟩
    have k1 : f_isCv a0 a1 = true := by rw [H_f_isCv]; exact h.1
    have k2 : f_isCv a2 a3 = true := by rw [H_f_isCv]; exact h.2
    have v1 := hcv1 k1
    have v2 := hcv2 k2
    have hnd : ds.length = bs.length := by omega
    have n1 := v1.n1
    have n6 := v1.n6
    have hfy := f_ceq_yes k1 k2 (by rw [hbl, hdl, hnd])
    rw [hfm] at hfy
    have v2t := v2.tab
    rw [hnd] at v2t
    refine hlp (List V) _ _ _ [2, 6, 7] (fun x => [(2, none, .val (.box 32 (.agg [.slc false 61 (.agg [.slc false 2 (.int .i64 0) []]) a0, .slc false 27 (.slc false 2 (.int .i64 0) []) a1]))), (6, none, .val (.slc true 2 (.int .i64 0) wv)), (7, none, .val (.slc true 2 (.int .i64 0) x))])
      (fun x => ∃ p : List Int, x = I p ∧ p.Perm (iota bs.length) ∧ ∀ q : List Int, q.Perm (iota bs.length) → lexLt q p = true → ¬ kP bs ms (ordP q) = keyC ds ns) (fun x => toCome bs.length (unI x)) (is0) (by subst hL; rfl) ?_ ?_
    · refine ⟨iota bs.length, his0, .refl _, fun q hq h => ?_⟩
      rw [iota_least hq] at h
      cases h
    rintro os ⟨p, hO, hpp, hlt⟩ hfx ag hag
    have hpl := hm1l p hpp
    obtain ⟨pm, _⟩ := iota_pm hpp
    have gO : V.frzs os = os := by rw [hO, I_frzs]
    have gW : V.frzs wv = wv := by rw [hwv, I_frzs]
    obtain ⟨fs, hfs⟩ : ∃ fs, fs = BB true (partB bs (ordP p)) := ⟨_, rfl⟩
    obtain ⟨gs, hgs⟩ : ∃ gs, gs = II true (partM ms (ordP p)) := ⟨_, rfl⟩
    obtain ⟨kv, hkv⟩ : ∃ kv, kv = I (kP bs ms (ordP p)) := ⟨_, rfl⟩
    obtain ⟨os', hos'⟩ : ∃ os', os' = I (npL p) := ⟨_, rfl⟩
    have Er' : F_f_rnm a0 a1 os = (fs, gs) := by rw [hO, Er, hfs, hgs]
    have Ek' : F_f_key (V.frzs fs) (V.frzs gs) = kv := by rw [hfs, hgs, BB_frzs, II_frzs, Ekr, hkv]
    have gK : V.frzs kv = kv := by rw [hkv, I_frzs]
    have Ee' : F_f0_eqI kv wv = decide (kP bs ms (ordP p) = keyC ds ns) := by rw [hkv, hwv, Ee]
    have E0' : F_f_np0 os = npB p := by rw [hO, E0]
    have E1' : F_f_np1 os = os' := by rw [hO, E1, hos']
    conv => cbv
    simp only [stdEqs hL, imp_self, true_and, and_true, bif_or, bif_and, Bool.or_eq_true, Bool.or_eq_false_iff, Bool.and_eq_true, Bool.and_eq_false_iff, decide_eq_true_eq, decide_eq_false_iff_not, Bool.not_eq_true', Bool.not_eq_false', beq_iff_eq, beq_eq_false_iff_ne, ne_eq, toNat0, toNat1, ok_int, toI_int, I_frzs, I_length, I_getD, ok_ints, toL_slc, g0, g1, gO, gW, gK, Er', Ek', Ee', E0', E1']
    refine ⟨?_, by rw [hfs]; exact BB_noFzs _, by rw [hgs]; exact II_noFzs _, ?_, by rw [hkv]; exact I_noFzs _, ?_, fun he => ?_, fun he => ⟨?_, fun hb => ?_, fun hb => ?_⟩⟩
    · rw [← H_q_rnm]
      refine ⟨⟨hqa, by rw [hbs, hms, unBB_BB, unII_II]; exact v1⟩, p, hO, pm, by rw [hbl]; exact hpl⟩
    · rw [← H_q_key]
      exact ⟨_, _, by rw [hfs, BB_frzs], by rw [hgs, II_frzs], kc_part v1 (ord_perm hpp)⟩
    · rw [← H_q_II]
      exact ⟨⟨_, hkv⟩, ⟨_, hwv⟩⟩
    · have hm := maps_hit rfl hnd v1.tab v2t n1 hpp hlt he
      have hne : p.isEmpty = false := by
        cases p with
        | nil => simp at hpl; omega
        | cons _ _ => rfl
      rw [hr, hfy, hm, hne, hO]
      rfl
    · rw [← H_q_np]
      exact ⟨p, hO, by omega, by omega⟩
    · have hm := maps_no rfl hnd v1.tab v2t n1 hpp (fun q hq h => by
        rcases h with h | rfl
        · exact hlt q hq h
        · exact he) hb
      rw [hr, hfy, hm]
      rfl
    · refine hag os' ⟨npL p, hos', np_perm hpp hb, fun q hq h => ?_⟩ ?_
      · rcases (np_step hpp hb hq).1 h with h | rfl
        · exact hlt q hq h
        · exact he
      · rw [hos', hO, unI_I, unI_I]
        exact toCome_lt hpp hb
  · cases h
end Go.Ax
/-
  Places of numbers in lists: spec.l01Index, spec.l01Has. No conditions but those of the contracts.
-/
set_option linter.all false
namespace Go.Ax
open Go.Proofs

theorem gAtD {l : List Int} {t : Nat} (h : t < l.length) : l.getD t 0 ∈ l := by
  rw [List.getD_eq_getElem?_getD, List.getElem?_eq_getElem h]; exact List.getElem_mem h
def c_lxi_i (f : List V → Int → Int) (q : List V → Int → Prop) : Contract := fun
  | [.slc false 2 (.int .i64 0) a0, .int .i64 a1] => some ([q a0 a1], .int .i64 (f a0 a1))
  | _ => none
def idx (ls : List Int) (x : Int) : Int := match (List.range ls.length).find? fun t => ls.getD t 0 == x with
  | some t => t
  | none => -1
theorem idx_has {ls : List Int} {x : Int} : decide (0 ≤ idx ls x) = ls.contains x := by
  rw [Bool.eq_iff_iff, decide_eq_true_eq, List.contains_iff_mem, idx]
  cases hf : (List.range ls.length).find? fun t => ls.getD t 0 == x with
  | some t =>
    rw [List.find?_range_eq_some] at hf
    simp only [beq_iff_eq, List.mem_range] at hf
    exact ⟨fun _ => by rw [← hf.1]; exact gAtD hf.2.1, fun _ => by simp only; omega⟩
  | none =>
    rw [List.find?_eq_none] at hf
    refine ⟨fun h => by simp only at h; omega, fun h => ?_⟩
    obtain ⟨t, ht, he⟩ := List.mem_iff_getElem.1 h
    refine absurd ?_ (hf t (by simpa using ht))
    rw [List.getD_eq_getElem?_getD, List.getElem?_eq_getElem ht]
    simpa using he
def f_idx (a : List V) (x : Int) : Int := idx (unI a) x
def q_lI (a : List V) (_ : Int) : Prop := IsIs a
set_option maxHeartbeats 1000000 in
set_option maxRecDepth 100000 in
theorem s_spec_l01Index : Sat Try.prog 64 (c_lxi_i f_idx q_lI) := by
  intro args ps r h hp
  unfold c_lxi_i at h
  split at h
  · rename_i a0 a1
    simp only [Option.some.injEq, Prod.mk.injEq] at h
    obtain ⟨rfl, rfl⟩ := h
    obtain ⟨⟨ls, hls⟩, hll⟩ : q_lI a0 a1 := (alls_cons.1 hp).1
    have hal : a0.length = ls.length := by rw [hls, I_length]
    rw [hal] at hll
    have gl : ∀ k, a0.getD k (.int .i64 0) = .int .i64 (ls.getD k 0) := fun k => by rw [hls, I_getD]
    have hf0 : f_idx a0 a1 = idx ls a1 := by rw [f_idx, hls, unI_I]
    refine fnOk_ofI (T := tab) (B := []) (Bi := []) [0, 1, 4, 5] Try.func64 rfl rfl (by kernel_rfl) (Nat.le_of_ble_eq_true rfl) mixed tabOk (by exact bookNil) (by exact bookINil) (by kernel_rfl) ?_
    intro L lp rr hL hr hf hlp
    conv => cbv
    refine hlp (Int) _ _ _ [0, 1, 5] (fun x => [(0, none, .val (.slc false 2 (.int .i64 0) a0)), (1, none, .val (.int .i64 a1)), (5, none, .val (.int .i64 x))])
      (fun x => 0 ≤ x ∧ x ≤ ls.length ∧ ∀ t, t < x.toNat → ls.getD t 0 ≠ a1) (fun x => (ls.length - x).toNat) (0) (by subst hL; rfl) ?_ ?_
    · exact ⟨by simp, by simp, fun t ht => by simp at ht⟩
    rintro i ⟨i0, i1, hI⟩ hfx ag hag
    conv => cbv
    simp only [stdEqs hL, imp_self, true_and, and_true, bif_or, bif_and, Bool.or_eq_true, Bool.or_eq_false_iff, Bool.and_eq_true, Bool.and_eq_false_iff, decide_eq_true_eq, decide_eq_false_iff_not, Bool.not_eq_true', Bool.not_eq_false', beq_iff_eq, beq_eq_false_iff_ne, ne_eq, toNat0, toNat1, ok_int, toI_int, I_frzs, I_length, I_getD, ok_ints, toL_slc, hal, gl]
    refine ⟨fun h2 => ⟨i0, by omega, fun h3 => ?_, fun h3 => ?_⟩, fun h2 => ?_⟩
    · have hfi : ((List.range ls.length).find? fun t => ls.getD t 0 == a1) = some i.toNat := by
        rw [List.find?_range_eq_some]
        refine ⟨by simpa using h3, by simp only [List.mem_range]; omega, fun t ht => ?_⟩
        have := hI t ht
        simpa using this
      rw [hr, hf0, idx, hfi]
      simp only
      rw [show ((i.toNat : Nat) : Int) = i by omega]
    · rw [wrap_id (n := i + 1) (by omega) (by omega)]
      refine hag (i + 1) ⟨by omega, by omega, fun t ht => ?_⟩ (by omega)
      by_cases hti : t = i.toNat
      · rw [hti]; exact h3
      · exact hI t (by omega)
    · have hfi : ((List.range ls.length).find? fun t => ls.getD t 0 == a1) = none := by
        rw [List.find?_eq_none]
        intro t ht
        simp only [List.mem_range] at ht
        have := hI t (by omega)
        simpa using this
      rw [hr, hf0, idx, hfi]
  · cases h
def c_lxi_b (f : List V → Int → Bool) (q : List V → Int → Prop) : Contract := fun
  | [.slc false 2 (.int .i64 0) a0, .int .i64 a1] => some ([q a0 a1], .bool (f a0 a1))
  | _ => none
def f_has (a : List V) (x : Int) : Bool := (unI a).contains x
set_option maxHeartbeats 1000000 in
set_option maxRecDepth 100000 in
theorem s_spec_l01Has : Sat Try.prog 43 (c_lxi_b f_has q_lI) := by
  intro args ps r h hp
  unfold c_lxi_b at h
  split at h
  · rename_i a0 a1
    simp only [Option.some.injEq, Prod.mk.injEq] at h
    obtain ⟨rfl, rfl⟩ := h
    have hq : q_lI a0 a1 := (alls_cons.1 hp).1
    have g0 : V.frzs a0 = a0 := by obtain ⟨⟨ls, hls⟩, _⟩ := hq; rw [hls, I_frzs]
    generalize H_f_idx : f_idx = F_f_idx
    generalize H_q_lI : q_lI = F_q_lI
    refine fnOk_ofI (T := tab) (B := [(64, c_lxi_i F_f_idx F_q_lI)]) (Bi := []) [0, 1, 4] Try.func43 rfl rfl (by kernel_rfl) (Nat.le_of_ble_eq_true rfl) mixed tabOk (by subst H_f_idx H_q_lI; exact (bookCons s_spec_l01Index bookNil)) (by subst H_f_idx H_q_lI; exact bookINil) (by kernel_rfl) ?_
    intro L lp rr hL hr hf hlp
    conv => cbv
    simp only [stdEqs hL, imp_self, true_and, and_true, bif_or, bif_and, Bool.or_eq_true, Bool.or_eq_false_iff, Bool.and_eq_true, Bool.and_eq_false_iff, decide_eq_true_eq, decide_eq_false_iff_not, Bool.not_eq_true', Bool.not_eq_false', beq_iff_eq, beq_eq_false_iff_ne, ne_eq, toNat0, toNat1, ok_int, toI_int, I_frzs, I_length, I_getD, ok_ints, toL_slc, g0]
    subst H_f_idx H_q_lI
    exact ⟨hq, by rw [hr, f_has, ← idx_has]; rfl⟩
  · cases h
end Go.Ax
