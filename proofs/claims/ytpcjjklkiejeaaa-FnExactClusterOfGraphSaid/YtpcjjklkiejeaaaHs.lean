/-
  Vertices that can be contracted, both sides; contracted: spec. No conditions but those of the contracts.
-/
import Derived.Test.YtpcjjklkiejeaaaHm
import Derived.Test.YtpcjjklkiejeaaaSr
set_option linter.all false
namespace Go.Ax
open Go.Proofs

/-- the edges, those that have moved away as holes -/
def hVE (es : List (List Int)) (v : Int) (k : Nat) : List V := tab' (fun i => if i < k ∧ awayE v (es.getD i []) = true then V.hole 1 else .slc true 2 (.int .i64 0) (I (es.getD i []))) es.length
theorem hVE_len (es : List (List Int)) (v : Int) (k : Nat) : (hVE es v k).length = es.length := tab_len _ _
theorem hVE_at {es : List (List Int)} {v : Int} {k : Nat} (h : k < es.length) (d : V) : (hVE es v k).getD k d = .slc true 2 (.int .i64 0) (I (es.getD k [])) := by
  rw [hVE, tab_get _ _ _ _ h, if_neg (fun h => absurd h.1 (Nat.lt_irrefl _))]
theorem hVE_0 (es : List (List Int)) (v : Int) : hVE es v 0 = II true es := by
  apply List.ext_getElem?
  intro j
  by_cases hj : j < es.length
  · rw [hVE, tab_get? _ _ _ hj, if_neg (by omega), II, List.getElem?_map, List.getElem?_eq_getElem hj, List.getD_eq_getElem?_getD, List.getElem?_eq_getElem hj]; rfl
  · rw [List.getElem?_eq_none (by rw [hVE_len]; omega), List.getElem?_eq_none (by rw [II_length]; omega)]
theorem hVE_take {es : List (List Int)} {v : Int} {k : Nat} (h : k < es.length) (ha : awayE v (es.getD k []) = true) : (hVE es v k).set k (.hole 1) = hVE es v (k + 1) := by
  rw [hVE, tab_setG _ _ h, hVE]
  refine tab_congr fun j hj => ?_
  by_cases e : j = k
  · subst e; rw [if_pos rfl, if_pos ⟨by omega, ha⟩]
  · rw [if_neg e]
    by_cases e2 : j < k ∧ awayE v (es.getD j []) = true
    · rw [if_pos e2, if_pos ⟨by omega, e2.2⟩]
    · rw [if_neg e2, if_neg (fun h => e2 ⟨by omega, h.2⟩)]
theorem hVE_keep {es : List (List Int)} {v : Int} {k : Nat} (ha : awayE v (es.getD k []) = false) : hVE es v k = hVE es v (k + 1) := by
  refine tab_congr fun j hj => ?_
  by_cases e : j = k
  · subst e; rw [if_neg (by omega), if_neg (by rw [ha]; simp)]
  · by_cases e2 : j < k ∧ awayE v (es.getD j []) = true
    · rw [if_pos e2, if_pos ⟨by omega, e2.2⟩]
    · rw [if_neg e2, if_neg (fun h => e2 ⟨by omega, h.2⟩)]
def q_ctd (a b : List V) (v : Int) : Prop := q_GrN a b ∧ 0 ≤ v ∧ v < a.length

def f_can (a b : List V) (v : Int) : Bool := decide (1 < a.length) && decide ((unI a).getD v.toNat 0 = -1) && decide ((near (unII b) v).length ≤ 2)
set_option maxRecDepth 100000 in
theorem s_impl_canContract : Sat Try.prog 63 (c_Gi_b f_can q_ctd) := by
  intro args ps r h hp
  unfold c_Gi_b at h
  split at h
  · rename_i a0 a1 v
    simp only [Option.some.injEq, Prod.mk.injEq] at h
    obtain ⟨rfl, rfl⟩ := h
    obtain ⟨hqg, v0, v1⟩ : q_ctd a0 a1 v := (alls_cons.1 hp).1
    obtain ⟨ws, es, hws, hes, g⟩ := id hqg
    have g0 : V.frzs a0 = a0 := by rw [hws, I_frzs]
    have g1 : V.frzs a1 = a1 := by rw [hes, II_frzs]
    have hwl : a0.length = ws.length := by rw [hws, I_length]
    have gws : ∀ k, a0.getD k (.int .i64 0) = .int .i64 (ws.getD k 0) := fun k => by rw [hws, I_getD]
    rw [hwl] at v1
    have n2 := g.n2
    have n3 := g.el
    obtain ⟨n, hn⟩ : ∃ n : Int, n = ws.length := ⟨_, rfl⟩
    obtain ⟨vt, hvt⟩ : ∃ vt, vt = v.toNat := ⟨_, rfl⟩
    have hvn : vt < ws.length := by omega
    obtain ⟨nr, hnr⟩ : ∃ nr, nr = near es v := ⟨_, rfl⟩
    have hf0 : f_can a0 a1 v = (decide (1 < ws.length) && decide (ws.getD vt 0 = -1) && decide (nr.length ≤ 2)) := by rw [f_can, hwl, hws, hes, unI_I, unII_II, hvt, hnr]
    obtain ⟨vn, hvn2⟩ : ∃ vn, vn = II true (nbs ws.length es) := ⟨_, rfl⟩
    have hvnl : vn.length = ws.length := by rw [hvn2, II_length, nbs, tab_len]
    have gvn : vn.getD vt (.slc true 2 (.int .i64 0) []) = .slc true 2 (.int .i64 0) (I nr) := by rw [hvn2, II_getD, nbs, tab_get _ _ _ _ hvn, show (vt : Int) = v by omega, hnr]
    generalize H_f_nbs : f_nbs = F_f_nbs
    generalize H_q_GrN : q_GrN = F_q_GrN
    refine fnOk_ofI (T := tab) (B := [(53, c_G_m F_f_nbs F_q_GrN)]) (Bi := []) [2000001619, 0, 1, 2, 4] Try.func63 rfl rfl (by kernel_rfl) (Nat.le_of_ble_eq_true rfl) mixed tabOk (by subst H_f_nbs H_q_GrN; exact (bookCons s_impl_neighboursOf bookNil)) (by subst H_f_nbs H_q_GrN; exact bookINil) (by kernel_rfl) ?_
    intro L lp rr hL hr hf hlp
    have En : F_f_nbs a0 a1 = vn := by rw [← H_f_nbs, f_nbs, hes, unII_II, hwl, hvn2]
    conv => cbv
    have hfz : V.frzs vn = II false (nbs ws.length es) := by rw [hvn2, II_frzs]
    have hfl : (II false (nbs ws.length es)).length = ws.length := by rw [II_length, nbs, tab_len]
    have hfg : (II false (nbs ws.length es)).getD vt (.slc false 2 (.int .i64 0) []) = .slc false 2 (.int .i64 0) (I nr) := by rw [II_getD, nbs, tab_get _ _ _ _ hvn, show (vt : Int) = v by omega, hnr]
    simp only [stdEqs hL, imp_self, true_and, and_true, bif_or, bif_and, Bool.or_eq_true, Bool.or_eq_false_iff, Bool.and_eq_true, Bool.and_eq_false_iff, decide_eq_true_eq, decide_eq_false_iff_not, Bool.not_eq_true', Bool.not_eq_false', beq_iff_eq, beq_eq_false_iff_ne, ne_eq, toNat0, toNat1, ok_int, toI_int, I_frzs, I_length, I_getD, ok_ints, toL_slc, g0, g1, hwl, gws, En, hfz, ← hvt, hfl, hfg, ← hn, toL_slc, I_length]
    refine ⟨fun _ => v0, fun _ => by omega, fun _ => trivial, fun _ => by rw [← H_q_GrN]; exact hqg, fun _ => v0, fun _ => by omega, fun _ => trivial, ?_⟩
    have e1 : decide (1 < n) = decide (1 < ws.length) := by rw [decide_eq_decide]; omega
    have e2 : decide ((nr.length : Int) ≤ 2) = decide (nr.length ≤ 2) := by rw [decide_eq_decide]; omega
    have e3 : (ws.getD vt 0 == -1) = decide (ws.getD vt 0 = -1) := by rw [Bool.eq_iff_iff]; simp
    rw [hr, hf0, e1, e2, e3]
  · cases h
set_option maxRecDepth 100000 in
theorem s_spec_l11Can : Sat Try.prog 41 (c_Gi_b f_can q_ctd) := by
  intro args ps r h hp
  unfold c_Gi_b at h
  split at h
  · rename_i a0 a1 v
    simp only [Option.some.injEq, Prod.mk.injEq] at h
    obtain ⟨rfl, rfl⟩ := h
    obtain ⟨hqg, v0, v1⟩ : q_ctd a0 a1 v := (alls_cons.1 hp).1
    obtain ⟨ws, es, hws, hes, g⟩ := id hqg
    have g0 : V.frzs a0 = a0 := by rw [hws, I_frzs]
    have g1 : V.frzs a1 = a1 := by rw [hes, II_frzs]
    have hwl : a0.length = ws.length := by rw [hws, I_length]
    have gws : ∀ k, a0.getD k (.int .i64 0) = .int .i64 (ws.getD k 0) := fun k => by rw [hws, I_getD]
    rw [hwl] at v1
    have n2 := g.n2
    have n3 := g.el
    obtain ⟨n, hn⟩ : ∃ n : Int, n = ws.length := ⟨_, rfl⟩
    obtain ⟨vt, hvt⟩ : ∃ vt, vt = v.toNat := ⟨_, rfl⟩
    have hvn : vt < ws.length := by omega
    obtain ⟨nr, hnr⟩ : ∃ nr, nr = near es v := ⟨_, rfl⟩
    have hf0 : f_can a0 a1 v = (decide (1 < ws.length) && decide (ws.getD vt 0 = -1) && decide (nr.length ≤ 2)) := by rw [f_can, hwl, hws, hes, unI_I, unII_II, hvt, hnr]
    generalize H_f_near : f_near = F_f_near
    generalize H_q_near : q_near = F_q_near
    refine fnOk_ofI (T := tab) (B := [(42, c_Gi_l F_f_near F_q_near)]) (Bi := []) [2000001614, 0, 1, 2, 4] Try.func41 rfl rfl (by kernel_rfl) (Nat.le_of_ble_eq_true rfl) mixed tabOk (by subst H_f_near H_q_near; exact (bookCons s_spec_l11Near bookNil)) (by subst H_f_near H_q_near; exact bookINil) (by kernel_rfl) ?_
    intro L lp rr hL hr hf hlp
    have En : F_f_near a0 a1 v = I nr := by rw [← H_f_near, f_near, hes, unII_II, hnr]
    conv => cbv
    simp only [stdEqs hL, imp_self, true_and, and_true, bif_or, bif_and, Bool.or_eq_true, Bool.or_eq_false_iff, Bool.and_eq_true, Bool.and_eq_false_iff, decide_eq_true_eq, decide_eq_false_iff_not, Bool.not_eq_true', Bool.not_eq_false', beq_iff_eq, beq_eq_false_iff_ne, ne_eq, toNat0, toNat1, ok_int, toI_int, I_frzs, I_length, I_getD, ok_ints, toL_slc, g0, g1, hwl, gws, En, ← hvt, ← hn, I_length]
    refine ⟨v0, by omega, fun _ => by rw [← H_q_near]; exact ⟨⟨_, hws⟩, _, hes, by omega, fun e he => (g.ed e he).1⟩, ?_⟩
    have e1 : decide (1 < n) = decide (1 < ws.length) := by rw [decide_eq_decide]; omega
    have e2 : decide ((nr.length : Int) ≤ 2) = decide (nr.length ≤ 2) := by rw [decide_eq_decide]; omega
    have e3 : (ws.getD vt 0 == -1) = decide (ws.getD vt 0 = -1) := by rw [Bool.eq_iff_iff]; simp
    have e4 : ∀ x y z : Bool, (x && y && z) = (z && x && y) := fun x y z => by cases x <;> cases y <;> cases z <;> rfl
    rw [hr, hf0, e1, e2, e3, e4]
  · cases h
def c_Gi_Xb (f : List V → List V → Int → List V × List V × Bool) (q : List V → List V → Int → Prop) : Contract := fun
  | [.agg [.slc false 2 (.int .i64 0) a0, .slc false 22 (.slc false 2 (.int .i64 0) []) a1], .int .i64 a2] => some ([q a0 a1 a2], .tup [.agg [.slc false 2 (.int .i64 0) ((f a0 a1 a2).1), .slc false 22 (.slc false 2 (.int .i64 0) []) ((f a0 a1 a2).2.1)], .bool ((f a0 a1 a2).2.2)])
  | _ => none
def f_lct (a b : List V) (v : Int) : List V × List V × Bool := match incW (unI a) (near (unII b) v) with
  | some ws => (I (delL ws v.toNat (v.toNat + 1)), II false (srtE ((conE (unII b) v).map (decE v))), true)
  | none => ([], [], false)
set_option maxRecDepth 100000 in
theorem s_spec_l11Contract : Sat Try.prog 43 (c_Gi_Xb f_lct q_ctd) := by
  intro args ps r h hp
  unfold c_Gi_Xb at h
  split at h
  · rename_i a0 a1 v
    simp only [Option.some.injEq, Prod.mk.injEq] at h
    obtain ⟨rfl, rfl⟩ := h
    obtain ⟨hqg, v0, v1⟩ : q_ctd a0 a1 v := (alls_cons.1 hp).1
    obtain ⟨ws, es, hws, hes, g⟩ := id hqg
    have g0 : V.frzs a0 = a0 := by rw [hws, I_frzs]
    have g1 : V.frzs a1 = a1 := by rw [hes, II_frzs]
    have hwl : a0.length = ws.length := by rw [hws, I_length]
    have hel : a1.length = es.length := by rw [hes, II_length]
    rw [hwl] at v1
    have n1 := g.n1
    have n2 := g.n2
    have n3 := g.el
    obtain ⟨n, hn⟩ : ∃ n : Int, n = ws.length := ⟨_, rfl⟩
    obtain ⟨vt, hvt⟩ : ∃ vt, vt = v.toNat := ⟨_, rfl⟩
    have hvv : (vt : Int) = v := by omega
    have hvn : vt < ws.length := by omega
    obtain ⟨nr, hnr⟩ : ∃ nr, nr = near es v := ⟨_, rfl⟩
    have hf1 : incW ws nr = none → f_lct a0 a1 v = ([], [], false) := fun h => by rw [f_lct, hws, hes, unI_I, unII_II, ← hnr, h]
    have hf2 : ∀ ws', incW ws nr = some ws' → f_lct a0 a1 v = (I (delL ws' vt (vt + 1)), II false (srtE ((conE es v).map (decE v))), true) := fun ws' h => by rw [f_lct, hws, hes, unI_I, unII_II, ← hnr, h, hvt]
    have hnrl : nr.length ≤ 1000 := by
      rw [hnr, near, List.length_append]
      have := nearA_len es v
      have := nearB_len es v
      omega
    have hnin : ∀ i, i < nr.length → 0 ≤ nr.getD i 0 ∧ nr.getD i 0 < ws.length := fun i hi => by
      refine near_in g.ed (v := v) (x := nr.getD i 0) ?_
      rw [← hnr, List.getD_eq_getElem?_getD, List.getElem?_eq_getElem hi]
      exact List.getElem_mem _
    obtain ⟨vr, hvr⟩ : ∃ vr, vr = I nr := ⟨_, rfl⟩
    have hvrl : vr.length = nr.length := by rw [hvr, I_length]
    have gvr : ∀ k, vr.getD k (.int .i64 0) = .int .i64 (nr.getD k 0) := fun k => by rw [hvr, I_getD]
    generalize H_f_near : f_near = F_f_near
    generalize H_q_near : q_near = F_q_near
    generalize H_same : same = F_same
    generalize H_IsIs : IsIs = F_IsIs
    generalize H_f_cpSS : f_cpSS = F_f_cpSS
    generalize H_IsIIs : IsIIs = F_IsIIs
    generalize H_f_srtF : f_srtF = F_f_srtF
    generalize H_q_srtE : q_srtE = F_q_srtE
    refine fnOk_ofF (T := tab) (B := [(42, c_Gi_l F_f_near F_q_near), (44, c_laws_toInt64S F_same F_IsIs), (58, c_m_m F_f_cpSS F_IsIIs)]) (Bi := [(59, 0, true, ic_srtF F_f_srtF F_q_srtE)]) [1000008007, 2000008047, 2000008052, 0, 1, 2, 4, 5, 6, 7, 8, 9, 10, 11, 12, 13] Try.func43 rfl rfl (by kernel_rfl) (Nat.le_of_ble_eq_true rfl) mixed tabOk (by subst H_f_near H_q_near H_same H_IsIs H_f_cpSS H_IsIIs H_f_srtF H_q_srtE; exact (bookCons s_spec_l11Near (bookCons s_spec_l01Own (bookCons s_spec_l01Own2 bookNil)))) (by subst H_f_near H_q_near H_same H_IsIs H_f_cpSS H_IsIIs H_f_srtF H_q_srtE; exact (bookMCons s_spec_l11Sorted bookINil)) (by kernel_rfl) ?_
    intro L lp rr hL hr hf hlp
    have En : F_f_near a0 a1 v = vr := by rw [← H_f_near, f_near, hes, unII_II, ← hnr, hvr]
    have Eo : F_same a0 = a0 := by rw [← H_same]; rfl
    conv => cbv
    simp only [stdEqs hL, imp_self, true_and, and_true, bif_or, bif_and, Bool.or_eq_true, Bool.or_eq_false_iff, Bool.and_eq_true, Bool.and_eq_false_iff, decide_eq_true_eq, decide_eq_false_iff_not, Bool.not_eq_true', Bool.not_eq_false', beq_iff_eq, beq_eq_false_iff_ne, ne_eq, toNat0, toNat1, ok_int, toI_int, I_frzs, I_length, I_getD, ok_ints, toL_slc, g0, g1, hwl, En, Eo, ← hvt, ← hn]
    refine ⟨by rw [← H_q_near]; exact ⟨⟨_, hws⟩, _, hes, by omega, fun e he => (g.ed e he).1⟩, by rw [← H_IsIs]; exact ⟨⟨_, hws⟩, by omega⟩, ?_⟩
    obtain ⟨m, hm⟩ : ∃ m : Int, m = nr.length := ⟨_, rfl⟩
    refine hlp (List V × Int) _ _ _ [1, 2, 4, 6, 7, 8] (fun x => [(1, none, .val (.int .i64 v)), (2, none, .val (.box 29 (.agg [.slc false 2 (.int .i64 0) a0, .slc false 22 (.slc false 2 (.int .i64 0) []) a1]))), (4, none, .val (.box 29 (.agg [.slc true 2 (.int .i64 0) [], .slc true 22 (.slc true 2 (.int .i64 0) []) []]))), (6, none, .val (.slc true 2 (.int .i64 0) vr)), (7, none, .val (.slc true 2 (.int .i64 0) x.1)), (8, none, .val (.int .i64 x.2))])
      (fun x => 0 ≤ x.2 ∧ x.2 ≤ m ∧ ∃ wx, x.1 = I wx ∧ incW ws (nr.take x.2.toNat) = some wx) (fun x => (m - x.2).toNat) ((a0, 0)) (by subst hL; rfl) ?_ ?_
    · exact ⟨by simp, by simp only; omega, ws, hws, rfl⟩
    rintro ⟨os, i⟩ ⟨i0, i1, wx, hO, hI⟩ hfx ag hag
    simp only at i0 i1 hO hI
    have hxl := incW_len _ _ _ hI
    have hol : os.length = ws.length := by rw [hO, I_length, hxl]
    have gos : ∀ k, os.getD k (.int .i64 0) = .int .i64 (wx.getD k 0) := fun k => by rw [hO, I_getD]
    conv => cbv
    simp only [stdEqs hL, imp_self, true_and, and_true, bif_or, bif_and, Bool.or_eq_true, Bool.or_eq_false_iff, Bool.and_eq_true, Bool.and_eq_false_iff, decide_eq_true_eq, decide_eq_false_iff_not, Bool.not_eq_true', Bool.not_eq_false', beq_iff_eq, beq_eq_false_iff_ne, ne_eq, toNat0, toNat1, ok_int, toI_int, I_frzs, I_length, I_getD, ok_ints, toL_slc, hvrl, gvr, hol, gos, ← hn, ← hm]
    refine ⟨fun h2 => ?_, fun h2 => ?_⟩
    · have hin : i.toNat < nr.length := by omega
      obtain ⟨t, ht⟩ : ∃ t, t = nr.getD i.toNat 0 := ⟨_, rfl⟩
      have htn := hnin i.toNat hin
      rw [← ht] at htn
      simp only [← ht]
      have hs1 : ∀ x, (os.set t.toNat x).getD t.toNat (.int .i64 0) = x := fun x => by rw [set_getD (by omega), if_pos rfl]
      have hsn := incW_snoc _ _ _ t hI
      have htk : nr.take (i.toNat + 1) = nr.take i.toNat ++ [t] := by
        rw [List.take_succ, ht, List.getD_eq_getElem?_getD, List.getElem?_eq_getElem hin]; rfl
      rw [← htk] at hsn
      simp only [hs1, List.length_set, hol, toI_int]
      rw [wrap_id (n := i + 1) (by omega) (by omega)]
      have htt : t.toNat < ws.length := by omega
      refine ⟨i0, by omega, hin, htn.1, by omega, htt, htn.1, by omega, htt, i0, by omega, hin, htn.1, by omega, htt, rfl, fun h3 => ?_, fun h3 => ?_⟩
      · have h4 : incW ws nr = none := by
          have h5 : nr = nr.take (i.toNat + 1) ++ nr.drop (i.toNat + 1) := (List.take_append_drop _ _).symm
          rw [h5]
          refine incW_none _ _ _ ?_
          rw [hsn]
          exact if_pos h3
        rw [hr, hf1 h4]; rfl
      · refine hag (_, i + 1) ⟨by simp only; omega, by simp only; omega, wx.set t.toNat (W (wx.getD t.toNat 0 + 1)), ?_, ?_⟩ (by simp only; omega)
        · rw [hO, I_set]
        · simp only [toNat_succ i0]
          rw [hsn]
          exact if_neg h3
    · have htk : nr.take i.toNat = nr := List.take_of_length_le (by omega)
      rw [htk] at hI
      clear hag hfx ag gos
      have hfo : V.frzs os = I wx := by rw [hO, I_frzs]
      have Es : ∀ l, F_same l = l := fun l => by rw [← H_same]; rfl
      have Qs : ∀ l : List Int, l.length ≤ 1000 → F_IsIs (I l) := fun l hl => by rw [← H_IsIs]; exact ⟨⟨_, rfl⟩, by rw [I_length]; omega⟩
      have Ec : F_f_cpSS a1 = II true es := by rw [← H_f_cpSS, f_cpSS, hes, unII_II]
      have Qc : F_IsIIs a1 := by rw [← H_IsIIs]; exact ⟨es, hes, by omega, fun e he => by rw [(g.ed e he).1]; decide⟩
      have hvf : V.frzs vr = I nr := by rw [hvr, I_frzs]
      rw [wrap_id (n := v + 1) (by omega) (by omega)]
      have ht1 : v.toNat = vt := hvt.symm
      have ht2 : (v + 1).toNat = vt + 1 := by omega
      have ht3 : wx.take wx.length = wx := List.take_length
      have hd0 : I (wx.take vt) ++ I (wx.drop (vt + 1)) = I (delL wx vt (vt + 1)) := by rw [I_append, delL]
      simp only [hfo, hvf, g1, Es, Ec, ht1, ht2, I_take, I_drop, I_frzs, I_length, List.drop_zero, Int.toNat_natCast, ht3, I_owneds, hd0]
      have hwt : (wx.take vt).length = vt := by rw [List.length_take]; omega
      have hwd : (wx.drop (vt + 1)).length = ws.length - (vt + 1) := by rw [List.length_drop, hxl]
      obtain ⟨dw, hdw⟩ : ∃ dw, dw = I (delL wx vt (vt + 1)) := ⟨_, rfl⟩
      obtain ⟨C, hC⟩ : ∃ C, C = es ++ if nr.length = 2 then [nr] else [] := ⟨_, rfl⟩
      have hcn : m = 2 → II true es ++ [V.slc true 2 (.int .i64 0) (I nr)] = II true C := fun h5 => by
        rw [hC, if_pos (by omega), II_append]; rfl
      have hcm : ¬ m = 2 → II true es = II true C := fun h5 => by
        rw [hC, if_neg (by omega), List.append_nil]
      have hCf : C.filter (awayE v) = conE es v := by rw [hC, hnr]; exact conE_eq g v
      have hC2 : ∀ e ∈ C, e.length = 2 := fun e he => by
        rw [hC, List.mem_append] at he
        rcases he with he | he
        · exact (g.ed e he).1
        · split at he
          · rename_i h5
            rw [List.mem_singleton.1 he]; exact h5
          · cases he
      have hC4 : C.length ≤ 401 := by
        rw [hC, List.length_append]
        split <;> simp <;> omega
      obtain ⟨cm, hcm2⟩ : ∃ cm : Int, cm = C.length := ⟨_, rfl⟩
      rw [← hdw]
      have hvc : II true C = hVE C v 0 := (hVE_0 C v).symm
      refine ⟨Int.le_refl _, v0, by omega, Qs _ (by omega), by omega, by omega, Int.le_refl _, trivial, by omega, I_solid _, Qc, fun h5 => ⟨Qs _ hnrl, I_noFzs _, by rw [II_length]; simp only [List.length_singleton]; omega, solid1 (by simp [V.solid]), ?_⟩, fun h5 => ?_⟩
      rw [hcn h5]
      rotate_left
      rw [hcm h5]
      all_goals
        rw [hvc]
        refine hlp ((List V × List V) × Int) _ _ _ [1, 4, 9, 10, 11] (fun x => [(1, none, .val (.int .i64 v)), (4, none, .val (.box 29 (.agg [.slc true 2 (.int .i64 0) [], .slc true 22 (.slc true 2 (.int .i64 0) []) []]))), (9, none, .val (.box 29 (.agg [.slc true 2 (.int .i64 0) dw, .slc true 22 (.slc true 2 (.int .i64 0) []) x.1.2]))), (10, none, .val (.slc true 22 (.slc true 2 (.int .i64 0) []) x.1.1)), (11, none, .val (.int .i64 x.2))])
          (fun x => 0 ≤ x.2 ∧ x.2 ≤ cm ∧ x.1.1 = hVE C v x.2.toNat ∧ x.1.2 = II true (((C.take x.2.toNat).filter (awayE v)).map (decE v))) (fun x => (cm - x.2).toNat) (((hVE C v 0, []), 0)) (by subst hL; rfl) ?_ ?_
        · exact ⟨by simp, by simp only; omega, rfl, rfl⟩
        rintro ⟨⟨hs, fs⟩, k⟩ ⟨k0, k1, hH, hF⟩ hfx ag hag
        simp only at k0 k1 hH hF
        have hhl : hs.length = C.length := by rw [hH, hVE_len]
        have hfl : fs.length ≤ 401 := by
          rw [hF, II_length, List.length_map]
          have := List.length_filter_le (awayE v) (C.take k.toNat)
          rw [List.length_take] at this
          omega
        conv => cbv
        simp only [stdEqs hL, imp_self, true_and, and_true, bif_or, bif_and, Bool.or_eq_true, Bool.or_eq_false_iff, Bool.and_eq_true, Bool.and_eq_false_iff, decide_eq_true_eq, decide_eq_false_iff_not, Bool.not_eq_true', Bool.not_eq_false', beq_iff_eq, beq_eq_false_iff_ne, ne_eq, toNat0, toNat1, ok_int, toI_int, I_frzs, I_length, I_getD, ok_ints, toL_slc, hhl, ← hcm2]
        refine ⟨fun h3 => ?_, fun h3 => ?_⟩
        · obtain ⟨kn, hkn2⟩ : ∃ kn, kn = k.toNat := ⟨_, rfl⟩
          have hkn : kn < C.length := by omega
          have hg := hVE_at (v := v) hkn (.slc true 2 (.int .i64 0) [])
          rw [hkn2, ← hH, ← hkn2] at hg
          obtain ⟨E, hE⟩ : ∃ E, E = C.getD kn [] := ⟨_, rfl⟩
          have hmE := mem_getD hkn
          rw [← hE] at hmE hg
          have hE2 := hC2 _ hmE
          simp only [← hkn2, hg, I_length, I_getD, toL_slc, toI_int]
          rw [wrap_id (n := k + 1) (by omega) (by omega)]
          have hkk : C.take (kn + 1) = C.take kn ++ [E] := by
            rw [List.take_succ, hE, List.getD_eq_getElem?_getD, List.getElem?_eq_getElem hkn]; rfl
          refine ⟨k0, by omega, hkn, rfl, hkn, rfl, by omega, by omega, hkn, rfl, by omega, rfl, fun _ => hkn, fun _ => rfl, fun _ => by omega, fun _ => by omega, fun _ => hkn, fun _ => rfl, fun _ => by omega, fun _ => rfl, fun h4 => ?_, fun h4 => ?_⟩
          · have haw : awayE v E = false := by
              rw [awayE]
              rcases h4 with h4 | h4
              · rw [decide_eq_false (fun h => h h4)]; rfl
              · rw [decide_eq_false (p := E.getD 1 0 ≠ v) (fun h => h h4), Bool.and_false]
            refine hag ((_, _), k + 1) ⟨by simp only; omega, by simp only; omega, ?_, ?_⟩ (by simp only; omega)
            · simp only [toNat_succ k0]
              rw [hH, hVE_keep (by rw [← hkn2, ← hE]; exact haw)]
            · simp only [toNat_succ k0]
              rw [← hkn2, hkk, List.filter_append, hF, ← hkn2, show List.filter (awayE v) [E] = [] by simp [haw], List.append_nil]
          · have haw : awayE v E = true := by rw [awayE, decide_eq_true h4.1, decide_eq_true h4.2]; rfl
            refine hlp (List V × Int) _ _ _ [1, 4, 9, 10, 11, 12, 13] (fun x => [(1, none, .val (.int .i64 v)), (4, none, .val (.box 29 (.agg [.slc true 2 (.int .i64 0) [], .slc true 22 (.slc true 2 (.int .i64 0) []) []]))), (9, none, .val (.box 29 (.agg [.slc true 2 (.int .i64 0) dw, .slc true 22 (.slc true 2 (.int .i64 0) []) fs]))), (10, none, .val (.slc true 22 (.slc true 2 (.int .i64 0) []) x.1)), (11, none, .val (.int .i64 k)), (12, none, .rf 10 0 [kn]), (13, none, .val (.int .i64 x.2))])
              (fun x => 0 ≤ x.2 ∧ x.2 ≤ 2 ∧ x.1 = hs.set kn (.slc true 2 (.int .i64 0) (I (mapK (decI v) x.2.toNat E)))) (fun x => (2 - x.2).toNat) ((hs, 0)) (by subst hL; rfl) ?_ ?_
            · refine ⟨by simp, by simp, ?_⟩
              simp only
              rw [show (0 : Int).toNat = 0 from rfl, mapK_0, ← hg, List.getD_eq_getElem?_getD, List.getElem?_eq_getElem (by omega), Option.getD_some, List.set_getElem_self]
            rintro ⟨ts, q⟩ ⟨q0, q1, hT⟩ hfx2 ag2 hag2
            simp only at q0 q1 hT
            have htl : ts.length = C.length := by rw [hT, List.length_set, hhl]
            have hgt : ts.getD kn (.slc true 2 (.int .i64 0) []) = .slc true 2 (.int .i64 0) (I (mapK (decI v) q.toNat E)) := by
              rw [hT, set_getD (by omega), if_pos rfl]
            conv => cbv
            simp only [stdEqs hL, imp_self, true_and, and_true, bif_or, bif_and, Bool.or_eq_true, Bool.or_eq_false_iff, Bool.and_eq_true, Bool.and_eq_false_iff, decide_eq_true_eq, decide_eq_false_iff_not, Bool.not_eq_true', Bool.not_eq_false', beq_iff_eq, beq_eq_false_iff_ne, ne_eq, toNat0, toNat1, ok_int, toI_int, I_frzs, I_length, I_getD, ok_ints, toL_slc, htl, hgt, toL_slc, I_length, mapK_len, hE2, I_getD, mapK_at]
            refine ⟨fun h7 => ?_, fun h7 => ?_⟩
            · rw [wrap_id (n := q + 1) (by omega) (by omega)]
              have hq2 : q.toNat < E.length := by omega
              refine ⟨hkn, q0, by omega, hkn, by omega, fun h8 => ⟨hkn, q0, by omega, hkn, by omega, hkn, q0, by omega, hkn, by omega, ?_⟩, fun h8 => ?_⟩
              · refine hag2 (_, q + 1) ⟨by simp only; omega, by simp only; omega, ?_⟩ (by simp only; omega)
                simp only [toNat_succ q0]
                rw [hT, List.set_set, I_set, ← mapK_set (decI v) E 0 hq2, decI, if_pos h8]
              · refine hag2 (_, q + 1) ⟨by simp only; omega, by simp only; omega, ?_⟩ (by simp only; omega)
                simp only [toNat_succ q0]
                rw [hT, mapK_keep (decI v) E 0 hq2 (by rw [decI, if_neg h8])]
            · have hma : mapK (decI v) q.toNat E = decE v E := mapK_all _ _ (by omega)
              rw [wrap_id (n := k + 1) (by omega) (by omega), hma]
              refine ⟨hkn, by simp only [List.length_singleton]; omega, solid1 (by simp [V.solid]), ?_⟩
              refine hag ((_, _), k + 1) ⟨by simp only; omega, by simp only; omega, ?_, ?_⟩ (by simp only; omega)
              · simp only [toNat_succ k0]
                rw [hT, List.set_set, hH, ← hkn2, hVE_take hkn (by rw [← hE]; exact haw)]
              · simp only [toNat_succ k0]
                rw [← hkn2, hkk, List.filter_append, hF, ← hkn2, show List.filter (awayE v) [E] = [E] by simp [haw], List.map_append, II_append]
                rfl
        · have hkt : C.take k.toNat = C := List.take_of_length_le (by omega)
          rw [hkt, hCf] at hF
          clear hag hfx ag
          have Ef : F_f_srtF fs = II false (srtE ((conE es v).map (decE v))) := by rw [← H_f_srtF, f_srtF, hF, unII_II]
          rw [Ef, hdw, II_frzs, I_frzs]
          refine ⟨?_, ?_⟩
          · rw [← H_q_srtE]
            exact ⟨_, hF, by rw [hF, II_length] at hfl; omega⟩
          · rw [hr, hf2 _ hI]
  · cases h
end Go.Ax
