/-
  ComponentLabels: labels by going through components; both sides, the law. No conditions but those of the contracts.
-/
import Derived.Test.YtpcjjklkiejeaaaGr
set_option linter.all false
namespace Go.Ax
open Go.Proofs

def outL (lab : List Int) (i : Nat) (x : Nat) : Int := if lab.getD x 0 < i then (cntR lab (lab.getD x 0).toNat : Int) else -1
def outK (lab : List Int) (i : Nat) (l : List Int) (x : Nat) : Int := if (x : Int) ∈ l then (cntR lab i : Int) else outL lab i x
theorem tab_setG {α : Type} (f : Nat → α) {n i : Nat} (x : α) (h : i < n) : (tab' f n).set i x = tab' (fun t => if t = i then x else f t) n := by
  apply List.ext_getElem?
  intro j
  rw [List.getElem?_set]
  by_cases hj : j < n
  · rw [tab_get? _ _ _ hj, tab_get? _ _ _ hj]
    by_cases h1 : i = j
    · rw [if_pos h1, if_pos (by rw [tab_len]; exact h), if_pos h1.symm]
    · rw [if_neg h1, if_neg (Ne.symm h1)]
  · rw [if_neg (by omega), List.getElem?_eq_none (by rw [tab_len]; omega), List.getElem?_eq_none (by rw [tab_len]; omega)]
theorem outK_set (lab : List Int) (i n : Nat) (l : List Int) (v : Int) (h0 : 0 ≤ v) (h1 : v < n) : (tab' (outK lab i l) n).set v.toNat (cntR lab i : Int) = tab' (outK lab i (l ++ [v])) n := by
  rw [tab_setG _ _ (by omega)]
  refine tab_congr fun x _ => ?_
  simp only [outK, List.mem_append, List.mem_singleton]
  by_cases h : x = v.toNat
  · rw [if_pos h, if_pos (.inr (by omega))]
  · rw [if_neg h]
    by_cases h2 : (x : Int) ∈ l
    · rw [if_pos h2, if_pos (.inl h2)]
    · rw [if_neg h2, if_neg (fun h3 => h3.elim h2 (fun h4 => h (by omega)))]
theorem outL_next {n : Nat} {lab : List Int} (h : LabOk n lab) {i : Nat} (hi : i < n) (hne : lab.getD i 0 ≠ i) : tab' (outL lab (i + 1)) n = tab' (outL lab i) n ∧ cntR lab (i + 1) = cntR lab i := by
  refine ⟨tab_congr fun x hx => ?_, by simp only [cntR, if_neg hne]; omega⟩
  have h1 := h.idem x hx
  have h2 := h.nn x hx
  have h3 : lab.getD x 0 ≠ i := fun e => by
    rw [e] at h1
    exact hne h1
  simp only [outL]
  by_cases h4 : lab.getD x 0 < i
  · rw [if_pos (by omega), if_pos h4]
  · rw [if_neg (by omega), if_neg h4]
theorem outK_full {ws : List Int} {es : List (List Int)} (g : Gr ws es) {i : Nat} (hi : i < ws.length) (he : (lbl ws.length es).getD i 0 = i) {ord : List Int} (ho : ∀ x : Int, x ∈ ord ↔ Cn es i x) :
    tab' (outK (lbl ws.length es) i ord) ws.length = tab' (outL (lbl ws.length es) (i + 1)) ws.length ∧ cntR (lbl ws.length es) (i + 1) = cntR (lbl ws.length es) i + 1 := by
  refine ⟨tab_congr fun x hx => ?_, by simp only [cntR, if_pos he]⟩
  have h1 := lbl_cn g.ed hi hx
  rw [he] at h1
  simp only [outK, outL]
  by_cases h2 : (x : Int) ∈ ord
  · have h3 := h1.2 ((ho x).1 h2)
    rw [if_pos h2, if_pos (by omega), ← h3]
    simp
  · have h3 : (lbl ws.length es).getD x 0 ≠ i := fun e => h2 ((ho x).2 (h1.1 e.symm))
    rw [if_neg h2]
    by_cases h4 : (lbl ws.length es).getD x 0 < i
    · rw [if_pos h4, if_pos (by omega)]
    · rw [if_neg h4, if_neg (by omega)]
theorem outL_0 (lab : List Int) {n : Nat} (h : LabOk n lab) : tab' (outL lab 0) n = List.replicate n (-1) := by
  rw [List.eq_replicate_iff]
  refine ⟨tab_len _ _, fun b hb => ?_⟩
  simp only [tab', List.mem_map, List.mem_range] at hb
  obtain ⟨x, hx, rfl⟩ := hb
  have := h.nn x hx
  rw [outL, if_neg (by omega)]
theorem outL_n {n : Nat} {es : List (List Int)} (h : LabOk n (lbl n es)) : tab' (outL (lbl n es) n) n = labs n es := by
  have e : labs n es = rn (lbl n es) := rfl
  rw [e, list_tab (rn (lbl n es)) 0, rn_len, h.len]
  refine tab_congr fun x hx => ?_
  have h1 := h.le x hx
  rw [rn_get _ _ (by rw [h.len]; exact hx), outL, if_pos (by omega)]
def c_G_l (f : List V → List V → List V) (q : List V → List V → Prop) : Contract := fun
  | [.agg [.slc false 2 (.int .i64 0) a0, .slc false 22 (.slc false 2 (.int .i64 0) []) a1]] => some ([q a0 a1], .slc true 2 (.int .i64 0) (f a0 a1))
  | _ => none
def f_lab2 (ws es : List V) : List V := I (labs ws.length (unII es))
set_option maxRecDepth 100000 in
theorem s_spec_l11Labels : Sat Try.prog 33 (c_G_l f_lab2 q_Gr) := by
  intro args ps r h hp
  unfold c_G_l at h
  split at h
  · rename_i a0 a1
    simp only [Option.some.injEq, Prod.mk.injEq] at h
    obtain ⟨rfl, rfl⟩ := h
    have hqg : q_Gr a0 a1 := (alls_cons.1 hp).1
    obtain ⟨ws, es, hws, hes, g⟩ := id hqg
    have g1 : V.frzs a0 = a0 := by rw [hws, I_frzs]
    have g2 : V.frzs a1 = a1 := by rw [hes, II_frzs]
    have hwl : a0.length = ws.length := by rw [hws, I_length]
    have n1 := g.n1
    have n2 := g.n2
    obtain ⟨lab, hlab⟩ : ∃ lab, lab = lbl ws.length es := ⟨_, rfl⟩
    have hok : LabOk ws.length lab := by rw [hlab]; exact lbl_ok g.ed
    have hf0 : f_lab2 a0 a1 = I (labs ws.length es) := by rw [f_lab2, hes, unII_II, hwl]
    have hfo : ∀ r, f_ord a0 a1 r = (I (bfsE es ws.length r).1, I (bfsE es ws.length r).2) := fun r => by rw [f_ord, hes, unII_II, hwl]
    obtain ⟨n, hn⟩ : ∃ n : Int, n = ws.length := ⟨_, rfl⟩
    generalize H_f_ord : f_ord = F_f_ord
    generalize H_q_ord : q_ord = F_q_ord
    refine fnOk_ofI (T := tab) (B := [(55, c_Gi_ll F_f_ord F_q_ord)]) (Bi := []) [0, 1, 2, 3, 4, 5, 6, 7, 9] Try.func33 rfl rfl (by kernel_rfl) (Nat.le_of_ble_eq_true rfl) mixed tabOk (by subst H_f_ord H_q_ord; exact (bookCons s_spec_l11Order bookNil)) (by subst H_f_ord H_q_ord; exact bookINil) (by kernel_rfl) ?_
    intro L lp rr hL hr hf hlp
    have Eo : ∀ r, F_f_ord a0 a1 r = (I (bfsE es ws.length r).1, I (bfsE es ws.length r).2) := by rw [← H_f_ord]; exact hfo
    have Qo : ∀ r, 0 ≤ r → r < n → F_q_ord a0 a1 r := by rw [← H_q_ord]; exact fun r h0 h1 => ⟨hqg, h0, by omega⟩
    conv => cbv
    refine hlp (List V × Int) _ _ _ [1, 3, 4, 5] (fun x => [(1, none, .val (.box 29 (.agg [.slc false 2 (.int .i64 0) a0, .slc false 22 (.slc false 2 (.int .i64 0) []) a1]))), (3, none, .val (.slc true 2 (.int .i64 0) x.1)), (4, none, .val (.int .i64 0)), (5, none, .val (.int .i64 x.2))])
      (fun x => 0 ≤ x.2 ∧ x.2 ≤ n ∧ x.1 = I (List.replicate x.2.toNat (-1))) (fun x => (n - x.2).toNat) (([], 0)) (by subst hL; rfl) ?_ ?_
    · exact ⟨by simp, by simp only; omega, rfl⟩
    rintro ⟨fs, i⟩ ⟨i0, i1, hI⟩ hfx ag hag
    simp only at i0 i1 hI
    conv => cbv
    simp only [stdEqs hL, imp_self, true_and, and_true, bif_or, bif_and, Bool.or_eq_true, Bool.or_eq_false_iff, Bool.and_eq_true, Bool.and_eq_false_iff, decide_eq_true_eq, decide_eq_false_iff_not, Bool.not_eq_true', Bool.not_eq_false', beq_iff_eq, beq_eq_false_iff_ne, ne_eq, toNat0, toNat1, ok_int, toI_int, I_frzs, I_length, I_getD, ok_ints, toL_slc, hwl, ← hn]
    refine ⟨fun h2 => ?_, fun h2 => ?_⟩
    · have hfl : fs.length ≤ 40 := by rw [hI, I_length, List.length_replicate]; omega
      rw [wrap_id (n := i + 1) (by omega) (by omega)]
      (repeat' first | (exact solid_one _) | (exact solid1 rfl) | (exact noown_one _) | (apply And.intro) | (intro _)) <;> (try first | exact True.intro | omega | rfl | (simp only [List.length_cons, List.length_nil, I_length]; omega))
      refine hag (_, i + 1) ⟨by simp only; omega, by simp only; omega, ?_⟩ (by simp only; omega)
      simp only [toNat_succ i0]
      rw [List.replicate_succ', hI, ← I_append]
      rfl
    have hfs : fs = I (tab' (outL lab 0) ws.length) := by rw [hI, show i.toNat = ws.length by omega, outL_0 _ hok]
    clear hag hfx ag
    refine hlp (List V × Int × Int) _ _ _ [1, 3, 4, 6] (fun x => [(1, none, .val (.box 29 (.agg [.slc false 2 (.int .i64 0) a0, .slc false 22 (.slc false 2 (.int .i64 0) []) a1]))), (3, none, .val (.slc true 2 (.int .i64 0) x.1)), (4, none, .val (.int .i64 x.2.1)), (6, none, .val (.int .i64 x.2.2))])
      (fun x => 0 ≤ x.2.2 ∧ x.2.2 ≤ n ∧ x.1 = I (tab' (outL lab x.2.2.toNat) ws.length) ∧ x.2.1 = cntR lab x.2.2.toNat) (fun x => (n - x.2.2).toNat) ((fs, 0, 0)) (by subst hL; rfl) ?_ ?_
    · exact ⟨by simp, by simp only; omega, hfs, rfl⟩
    rintro ⟨os, c, j⟩ ⟨j0, j1, hO, hC⟩ hfx ag hag
    simp only at j0 j1 hO hC
    have hol : os.length = ws.length := by rw [hO, I_length, tab_len]
    have go : ∀ k, k < ws.length → os.getD k (.int .i64 0) = .int .i64 (outL lab j.toNat k) := fun k hk => by rw [hO, I_getD, tab_get _ _ _ _ hk]
    conv => cbv
    simp only [stdEqs hL, imp_self, true_and, and_true, bif_or, bif_and, Bool.or_eq_true, Bool.or_eq_false_iff, Bool.and_eq_true, Bool.and_eq_false_iff, decide_eq_true_eq, decide_eq_false_iff_not, Bool.not_eq_true', Bool.not_eq_false', beq_iff_eq, beq_eq_false_iff_ne, ne_eq, toNat0, toNat1, ok_int, toI_int, I_frzs, I_length, I_getD, ok_ints, toL_slc, g1, g2, hol, ← hn, Eo]
    refine ⟨fun h3 => ?_, fun h3 => ?_⟩
    · have hjl : j.toNat < ws.length := by omega
      have hle := hok.le _ hjl
      have goj := go _ hjl
      simp only [stdEqs hL, imp_self, true_and, and_true, bif_or, bif_and, Bool.or_eq_true, Bool.or_eq_false_iff, Bool.and_eq_true, Bool.and_eq_false_iff, decide_eq_true_eq, decide_eq_false_iff_not, Bool.not_eq_true', Bool.not_eq_false', beq_iff_eq, beq_eq_false_iff_ne, ne_eq, toNat0, toNat1, ok_int, toI_int, I_frzs, I_length, I_getD, ok_ints, toL_slc, goj]
      have hov : (0 ≤ outL lab j.toNat j.toNat) ↔ lab.getD j.toNat 0 ≠ j.toNat := by
        rw [outL]
        split <;> omega
      refine ⟨by omega, by omega, hjl, fun h4 => ?_, fun h4 => ?_⟩
      · obtain ⟨x1, x2⟩ := outL_next hok hjl (hov.1 h4)
        rw [wrap_id (n := j + 1) (by omega) (by omega)]
        refine hag (os, c, j + 1) ⟨by simp only; omega, by simp only; omega, ?_, ?_⟩ (by simp only; omega)
        · simp only [toNat_succ j0]; rw [x1]; exact hO
        · simp only [toNat_succ j0]; rw [x2]; exact hC
      · have hlj : lab.getD j.toNat 0 = j.toNat := Classical.not_not.1 (fun h => h4 (hov.2 h))
        refine ⟨Qo j j0 h3, ?_⟩
        obtain ⟨t, hB, hfull⟩ := bfsE_full g (root := j) (by omega)
        obtain ⟨ord, hord⟩ : ∃ ord, ord = (bfsE es ws.length j).1 := ⟨_, rfl⟩
        rw [← hord] at hB hfull
        obtain ⟨vo, hvo⟩ : ∃ vo, vo = I ord := ⟨_, rfl⟩
        rw [← hord, ← hvo]
        have hvl : vo.length = ord.length := by rw [hvo, I_length]
        have gv : ∀ k, vo.getD k (.int .i64 0) = .int .i64 (ord.getD k 0) := fun k => by rw [hvo, I_getD]
        have hol1 := nodup_len ord hB.nd hB.inr
        obtain ⟨os', hos'⟩ : ∃ os', os' = os := ⟨_, rfl⟩
        refine hlp (List V × Int) _ _ _ [1, 3, 4, 6, 7, 9] (fun x => [(1, none, .val (.box 29 (.agg [.slc false 2 (.int .i64 0) a0, .slc false 22 (.slc false 2 (.int .i64 0) []) a1]))), (3, none, .val (.slc true 2 (.int .i64 0) x.1)), (4, none, .val (.int .i64 c)), (6, none, .val (.int .i64 j)), (7, none, .val (.slc true 2 (.int .i64 0) vo)), (9, none, .val (.int .i64 x.2))])
          (fun x => 0 ≤ x.2 ∧ x.2 ≤ ord.length ∧ x.1 = I (tab' (outK lab j.toNat (ord.take x.2.toNat)) ws.length)) (fun x => (ord.length - x.2).toNat) ((os, 0)) (by subst hL; rfl) ?_ ?_
        · exact ⟨by simp, by simp, by simp only; rw [hO]; rfl⟩
        rintro ⟨qs, k⟩ ⟨k0, k1, hK⟩ hfx2 ag2 hag2
        simp only at k0 k1 hK
        have hql : qs.length = ws.length := by rw [hK, I_length, tab_len]
        have gq : ∀ k, qs.getD k (.int .i64 0) = .int .i64 ((unI qs).getD k 0) := fun k => by rw [hK, I_getD, unI_I]
        conv => cbv
        simp only [stdEqs hL, imp_self, true_and, and_true, bif_or, bif_and, Bool.or_eq_true, Bool.or_eq_false_iff, Bool.and_eq_true, Bool.and_eq_false_iff, decide_eq_true_eq, decide_eq_false_iff_not, Bool.not_eq_true', Bool.not_eq_false', beq_iff_eq, beq_eq_false_iff_ne, ne_eq, toNat0, toNat1, ok_int, toI_int, I_frzs, I_length, I_getD, ok_ints, toL_slc, hvl, gv, hql, gq]
        refine ⟨fun h5 => ?_, fun h5 => ?_⟩
        · have hkl : k.toNat < ord.length := by omega
          have hv := hB.inr _ (getD_mem hkl)
          rw [wrap_id (n := k + 1) (by omega) (by omega)]
          (repeat' first | (exact solid_one _) | (exact solid1 rfl) | (exact noown_one _) | (apply And.intro) | (intro _)) <;> (try first | exact True.intro | omega | rfl | (simp only [List.length_cons, List.length_nil, I_length]; omega))
          refine hag2 (_, k + 1) ⟨by simp only; omega, by simp only; omega, ?_⟩ (by simp only; omega)
          simp only [toNat_succ k0]
          rw [hK, hC, I_set, outK_set _ _ _ _ _ hv.1 hv.2, List.take_succ_eq_append_getElem hkl, getD_at hkl]
        · obtain ⟨x1, x2⟩ := outK_full g hjl (by rw [← hlab]; exact hlj) (fun x => by rw [hB.full hfull x, show ((j.toNat : Nat) : Int) = j by omega])
          rw [← hlab] at x1 x2
          have hcb : c ≤ 40 := by have := cntR_bound lab j.toNat; omega
          rw [wrap_id (n := j + 1) (by omega) (by omega), wrap_id (n := c + 1) (by omega) (by omega)]
          refine hag (qs, c + 1, j + 1) ⟨by simp only; omega, by simp only; omega, ?_, ?_⟩ (by simp only; omega)
          · simp only [toNat_succ j0]
            rw [hK, List.take_of_length_le (by omega), x1]
          · simp only [toNat_succ j0]
            rw [x2, hC]
            simp
    · rw [hr, hf0, hO, show j.toNat = ws.length by omega, hlab, outL_n (by rw [← hlab]; exact hok)]
  · cases h
def c_G_li (f : List V → List V → List V × Int) (q : List V → List V → Prop) : Contract := fun
  | [.agg [.slc false 2 (.int .i64 0) a0, .slc false 22 (.slc false 2 (.int .i64 0) []) a1]] => some ([q a0 a1], .tup [.slc true 2 (.int .i64 0) ((f a0 a1).1), .int .i64 ((f a0 a1).2)])
  | _ => none
def f_cl (ws es : List V) : List V × Int := bif isGr (unI ws) (unII es) then (f_lab2 ws es, 0) else ([], 1)
def c_lawg_G (f : List V → List V → Bool) (q : List V → List V → Prop) : Contract := fun
  | [.agg [.slc false 2 (.int .i64 0) a0, .slc false 22 (.slc false 2 (.int .i64 0) []) a1]] => some ([q a0 a1], .bool (f a0 a1))
  | _ => none
def q_lawg_G (x y : List V) : Prop := q_G x y
def yesg_G : List V → List V → Bool := fun _ _  => true
end Go.Ax
