/-
  CornersOf: both sides, the law. No conditions but those of the contracts.
-/
import Derived.Test.YtkidnnlplpocdaaGv
set_option linter.all false
namespace Go.Ax
open Go.Proofs

def c_Gl_b (f : List V → List V → List V → Bool) (q : List V → List V → List V → Prop) : Contract := fun
  | [.agg [.slc false 2 (.int .i64 0) a0, .slc false 27 (.slc false 2 (.int .i64 0) []) a1], .slc false 2 (.int .i64 0) a2] => some ([q a0 a1 a2], .bool (f a0 a1 a2))
  | _ => none
def c_Gl_i (f : List V → List V → List V → Int) (q : List V → List V → List V → Prop) : Contract := fun
  | [.agg [.slc false 2 (.int .i64 0) a0, .slc false 27 (.slc false 2 (.int .i64 0) []) a1], .slc false 2 (.int .i64 0) a2] => some ([q a0 a1 a2], .int .i64 (f a0 a1 a2))
  | _ => none
def c_Gl_l (f : List V → List V → List V → List V) (q : List V → List V → List V → Prop) : Contract := fun
  | [.agg [.slc false 2 (.int .i64 0) a0, .slc false 27 (.slc false 2 (.int .i64 0) []) a1], .slc false 2 (.int .i64 0) a2] => some ([q a0 a1 a2], .slc true 2 (.int .i64 0) (f a0 a1 a2))
  | _ => none
def c_Gl_li (f : List V → List V → List V → List V × Int) (q : List V → List V → List V → Prop) : Contract := fun
  | [.agg [.slc false 2 (.int .i64 0) a0, .slc false 27 (.slc false 2 (.int .i64 0) []) a1], .slc false 2 (.int .i64 0) a2] => some ([q a0 a1 a2], .tup [.slc true 2 (.int .i64 0) ((f a0 a1 a2).1), .int .i64 ((f a0 a1 a2).2)])
  | _ => none
def q_Gl (a b l : List V) : Prop := q_G a b ∧ IsI l
def f_arr (a _ l : List V) : Bool := decide (l.length = a.length) && within (unI l) 0 1000
set_option maxRecDepth 100000 in
theorem s_impl_areArrows : Sat Try.prog 145 (c_Gl_b f_arr q_Gl) := by
  intro args ps r h hp
  unfold c_Gl_b at h
  split at h
  · rename_i a0 a1 a2
    simp only [Option.some.injEq, Prod.mk.injEq] at h
    obtain ⟨rfl, rfl⟩ := h
    obtain ⟨hq, hq2⟩ : q_Gl a0 a1 a2 := (alls_cons.1 hp).1
    have g0 := hq.1.frz
    have g1 := frzs_II hq.2
    have g2 := hq2.frz
    have hf0 : f_arr a0 a1 a2 = (decide (a2.length = a0.length) && within (unI a2) 0 1000) := rfl
    generalize H_f_within : f_within = F_f_within
    generalize H_IsI : IsI = F_IsI
    refine fnOk_ofI (T := tab) (B := [(137, c_impl_within F_f_within F_IsI)]) (Bi := []) [0, 1, 2, 4] Try.func145 rfl rfl (by kernel_rfl) (Nat.le_of_ble_eq_true rfl) mixed tabOk (by subst H_f_within H_IsI; exact (bookCons s_impl_within bookNil)) (by subst H_f_within H_IsI; exact bookINil) (by kernel_rfl) ?_
    intro L lp rr hL hr hf hlp
    conv => cbv
    simp only [stdEqs hL, imp_self, true_and, and_true, bif_or, bif_and, Bool.or_eq_true, Bool.or_eq_false_iff, Bool.and_eq_true, Bool.and_eq_false_iff, decide_eq_true_eq, decide_eq_false_iff_not, Bool.not_eq_true', Bool.not_eq_false', beq_iff_eq, beq_eq_false_iff_ne, ne_eq, toNat0, toNat1, ok_int, toI_int, I_frzs, I_length, I_getD, ok_ints, toL_slc, g0, g1, g2]
    subst H_f_within H_IsI
    refine ⟨fun _ => hq2, ?_⟩
    rw [hr, hf0]
    have e : ((a2.length : Int) == (a0.length : Int)) = decide (a2.length = a0.length) := by
      rw [Bool.eq_iff_iff]; simp only [beq_iff_eq, decide_eq_true_eq]; omega
    rw [e]
    rfl
  · cases h
def f_chA (a b l : List V) : Int := bif isGr (unI a) (unII b) then (bif f_arr a b l then 0 else 2) else 1
set_option maxRecDepth 100000 in
theorem s_impl_checkArrows : Sat Try.prog 86 (c_Gl_i f_chA q_Gl) := by
  intro args ps r h hp
  unfold c_Gl_i at h
  split at h
  · rename_i a0 a1 a2
    simp only [Option.some.injEq, Prod.mk.injEq] at h
    obtain ⟨rfl, rfl⟩ := h
    obtain ⟨hq, hq2⟩ : q_Gl a0 a1 a2 := (alls_cons.1 hp).1
    have g0 := hq.1.frz
    have g1 := frzs_II hq.2
    have g2 := hq2.frz
    have hf0 : f_chA a0 a1 a2 = bif f_isGr a0 a1 then (bif f_arr a0 a1 a2 then 0 else 2) else 1 := rfl
    generalize H_f_isGr : f_isGr = F_f_isGr
    generalize H_q_G : q_G = F_q_G
    generalize H_f_arr : f_arr = F_f_arr
    generalize H_q_Gl : q_Gl = F_q_Gl
    refine fnOk_ofI (T := tab) (B := [(108, c_G_b F_f_isGr F_q_G), (145, c_Gl_b F_f_arr F_q_Gl)]) (Bi := []) [0, 1, 2, 4] Try.func86 rfl rfl (by kernel_rfl) (Nat.le_of_ble_eq_true rfl) mixed tabOk (by subst H_f_isGr H_q_G H_f_arr H_q_Gl; exact (bookCons s_impl_IsGraph (bookCons s_impl_areArrows bookNil))) (by subst H_f_isGr H_q_G H_f_arr H_q_Gl; exact bookINil) (by kernel_rfl) ?_
    intro L lp rr hL hr hf hlp
    conv => cbv
    simp only [stdEqs hL, imp_self, true_and, and_true, bif_or, bif_and, Bool.or_eq_true, Bool.or_eq_false_iff, Bool.and_eq_true, Bool.and_eq_false_iff, decide_eq_true_eq, decide_eq_false_iff_not, Bool.not_eq_true', Bool.not_eq_false', beq_iff_eq, beq_eq_false_iff_ne, ne_eq, toNat0, toNat1, ok_int, toI_int, I_frzs, I_length, I_getD, ok_ints, toL_slc, g0, g1, g2]
    subst H_f_isGr H_q_G H_f_arr H_q_Gl
    refine ⟨hq, fun h => ?_, fun h => ⟨⟨hq, hq2⟩, fun h2 => ?_, fun h2 => ?_⟩⟩
    · rw [hr, hf0, h]; rfl
    · rw [hr, hf0, h, h2]; rfl
    · rw [hr, hf0, h, h2]; rfl
  · cases h
set_option maxRecDepth 100000 in
theorem s_spec_l13Arrows : Sat Try.prog 84 (c_Gl_b f_arr q_Gl) := by
  intro args ps r h hp
  unfold c_Gl_b at h
  split at h
  · rename_i a0 a1 a2
    simp only [Option.some.injEq, Prod.mk.injEq] at h
    obtain ⟨rfl, rfl⟩ := h
    obtain ⟨hq, ⟨ls, hls⟩⟩ : q_Gl a0 a1 a2 := (alls_cons.1 hp).1
    have g0 := hq.1.frz
    have g1 := frzs_II hq.2
    have g2 : V.frzs a2 = a2 := by rw [hls, I_frzs]
    have hll : a2.length = ls.length := by rw [hls, I_length]
    have gls : ∀ k, a2.getD k (.int .i64 0) = .int .i64 (ls.getD k 0) := fun k => by rw [hls, I_getD]
    have hf0 : f_arr a0 a1 a2 = (decide (ls.length = a0.length) && within ls 0 1000) := by rw [f_arr, hll, hls, unI_I]
    obtain ⟨n, hn⟩ : ∃ n : Int, n = ls.length := ⟨_, rfl⟩
    obtain ⟨m, hm⟩ : ∃ m : Int, m = a0.length := ⟨_, rfl⟩
    generalize H_inRange : inRange = F_inRange
    refine fnOk_ofI (T := tab) (B := [(88, c_impl_inRange F_inRange)]) (Bi := []) [0, 1, 2, 4, 5] Try.func84 rfl rfl (by kernel_rfl) (Nat.le_of_ble_eq_true rfl) mixed tabOk (by subst H_inRange; exact (bookCons s_spec_l01In bookNil)) (by subst H_inRange; exact bookINil) (by kernel_rfl) ?_
    intro L lp rr hL hr hf hlp
    have Er : ∀ x y z, F_inRange x y z = inRange x y z := fun x y z => by rw [← H_inRange]
    have hlen := hf.2.1.1
    conv => cbv
    refine hlp (Int) _ _ _ [1, 2, 5] (fun x => [(1, none, .val (.slc false 2 (.int .i64 0) a2)), (2, none, .val (.box 48 (.agg [.slc false 2 (.int .i64 0) a0, .slc false 27 (.slc false 2 (.int .i64 0) []) a1]))), (5, none, .val (.int .i64 x))])
      (fun x => 0 ≤ x ∧ x ≤ n ∧ ∀ k, k < x.toNat → inRange (ls.getD k 0) 0 1000 = true) (fun x => (n - x).toNat) (0) (by subst hL; rfl) ?_ ?_
    · exact ⟨by omega, by omega, fun k hk => by simp at hk⟩
    intro i ⟨i0, i1, hI⟩ hfx ag hag
    conv => cbv
    simp only [stdEqs hL, imp_self, true_and, and_true, bif_or, bif_and, Bool.or_eq_true, Bool.or_eq_false_iff, Bool.and_eq_true, Bool.and_eq_false_iff, decide_eq_true_eq, decide_eq_false_iff_not, Bool.not_eq_true', Bool.not_eq_false', beq_iff_eq, beq_eq_false_iff_ne, ne_eq, toNat0, toNat1, ok_int, toI_int, I_frzs, I_length, I_getD, ok_ints, toL_slc, g0, g1, g2, hll, gls, Er, ← hn]
    refine ⟨fun h2 => ?_, fun h2 => ?_⟩
    · have hin : i.toNat < ls.length := by omega
      rw [wrap_id (n := i + 1) (by omega) (by omega)]
      refine ⟨i0, h2, fun h3 => ?_, fun h3 => ?_⟩
      · rw [hr, hf0, within_false hin h3, Bool.and_false]
      · refine hag (i + 1) ⟨by omega, by omega, fun k hk => ?_⟩ (by omega)
        rw [toNat_succ i0] at hk
        by_cases e : k = i.toNat
        · rw [e]; exact h3
        · exact hI k (by omega)
    · have hw : within ls 0 1000 = true := by
        rw [within, List.all_eq_true]
        intro x hx
        obtain ⟨k, hk, rfl⟩ := List.mem_iff_getElem.1 hx
        have := hI k (by omega)
        rwa [List.getD_eq_getElem?_getD, List.getElem?_eq_getElem hk] at this
      have e : (n == (a0.length : Int)) = decide (ls.length = a0.length) := by
        rw [Bool.eq_iff_iff]; simp only [beq_iff_eq, decide_eq_true_eq]; omega
      rw [hr, hf0, hw, Bool.and_true, e]
  · cases h
/-! corners -/
def corB (es : List (List Int)) (l : List Int) (i : Nat) : Bool := !decide (W (((near es i).length : Int) + l.getD i 0) = 2)
def corK (es : List (List Int)) (l : List Int) (k : Nat) : List Int := ((List.range k).filter (corB es l)).map fun i : Nat => (i : Int)
theorem corK_succ (es : List (List Int)) (l : List Int) (k : Nat) : corK es l (k + 1) = corK es l k ++ if corB es l k = true then [(k : Int)] else [] := by
  rw [corK, corK, List.range_succ, List.filter_append, List.map_append]
  congr 1
  by_cases h : corB es l k = true
  · rw [if_pos h]; simp [h]
  · rw [if_neg h]; simp [h]
theorem corK_len (es : List (List Int)) (l : List Int) (k : Nat) : (corK es l k).length ≤ k := by
  rw [corK, List.length_map]
  exact Nat.le_trans (List.length_filter_le _ _) (by simp)
def f_cor (a b l : List V) : List V := I (corK (unII b) (unI l) a.length)
def q_cor (a b l : List V) : Prop := q_GrN a b ∧ IsI l ∧ l.length = a.length
set_option maxRecDepth 100000 in
theorem s_impl_cornersOf : Sat Try.prog 87 (c_Gl_l f_cor q_cor) := by
  intro args ps r h hp
  unfold c_Gl_l at h
  split at h
  · rename_i a0 a1 a2
    simp only [Option.some.injEq, Prod.mk.injEq] at h
    obtain ⟨rfl, rfl⟩ := h
    obtain ⟨hqg, ⟨ls, hls⟩, hlen⟩ : q_cor a0 a1 a2 := (alls_cons.1 hp).1
    obtain ⟨ws, es, hws, hes, g⟩ := id hqg
    have g0 : V.frzs a0 = a0 := by rw [hws, I_frzs]
    have g1 : V.frzs a1 = a1 := by rw [hes, II_frzs]
    have g2 : V.frzs a2 = a2 := by rw [hls, I_frzs]
    have hwl : a0.length = ws.length := by rw [hws, I_length]
    have hll : a2.length = ws.length := by rw [hlen, hwl]
    have gls : ∀ k, a2.getD k (.int .i64 0) = .int .i64 (ls.getD k 0) := fun k => by rw [hls, I_getD]
    have hf0 : f_cor a0 a1 a2 = I (corK es ls ws.length) := by rw [f_cor, hes, hls, unII_II, unI_I, hwl]
    have n1 := g.n1
    have n2 := g.n2
    obtain ⟨n, hn⟩ : ∃ n : Int, n = ws.length := ⟨_, rfl⟩
    obtain ⟨vv, hvv⟩ : ∃ vv, vv = I (valG ws.length es) := ⟨_, rfl⟩
    have hvl : vv.length = ws.length := by rw [hvv, I_length, valG, tab_len]
    have gvv : ∀ k, vv.getD k (.int .i64 0) = .int .i64 ((valG ws.length es).getD k 0) := fun k => by rw [hvv, I_getD]
    have gva : ∀ k, k < ws.length → (valG ws.length es).getD k 0 = ((near es k).length : Int) := fun k hk => by rw [valG, tab_get _ _ _ _ hk]
    generalize H_f_val : f_val = F_f_val
    generalize H_q_GrN : q_GrN = F_q_GrN
    refine fnOk_ofI (T := tab) (B := [(141, c_G_l F_f_val F_q_GrN)]) (Bi := []) [0, 1, 2, 4, 5, 6, 7, 10, 11, 12] Try.func87 rfl rfl (by kernel_rfl) (Nat.le_of_ble_eq_true rfl) mixed tabOk (by subst H_f_val H_q_GrN; exact (bookCons s_impl_valences bookNil)) (by subst H_f_val H_q_GrN; exact bookINil) (by kernel_rfl) ?_
    intro L lp rr hL hr hf hlp
    have Ev : F_f_val a0 a1 = vv := by rw [← H_f_val, f_val, hes, unII_II, hwl, hvv]
    conv => cbv
    simp only [stdEqs hL, imp_self, true_and, and_true, bif_or, bif_and, Bool.or_eq_true, Bool.or_eq_false_iff, Bool.and_eq_true, Bool.and_eq_false_iff, decide_eq_true_eq, decide_eq_false_iff_not, Bool.not_eq_true', Bool.not_eq_false', beq_iff_eq, beq_eq_false_iff_ne, ne_eq, toNat0, toNat1, ok_int, toI_int, I_frzs, I_length, I_getD, ok_ints, toL_slc, g0, g1, g2, Ev, hvl, ← hn]
    refine ⟨by rw [← H_q_GrN]; exact hqg, ?_⟩
    refine hlp (List V × Int) _ _ _ [1, 5, 10, 11, 12] (fun x => [(1, none, .val (.slc false 2 (.int .i64 0) a2)), (5, none, .val (.slc true 2 (.int .i64 0) x.1)), (10, none, .val (.slc true 2 (.int .i64 0) vv)), (11, none, .val (.int .i64 n)), (12, none, .val (.int .i64 x.2))])
      (fun x => 0 ≤ x.2 ∧ x.2 ≤ n ∧ x.1 = I (corK es ls x.2.toNat)) (fun x => (n - x.2).toNat) (([], 0)) (by subst hL; rw [hn, ← hvl]; rfl) ?_ ?_
    · exact ⟨by simp, by simp only; omega, rfl⟩
    rintro ⟨os, i⟩ ⟨i0, i1, hI⟩ hfx ag hag
    simp only at i0 i1 hI
    have hol : os.length ≤ 40 := by rw [hI, I_length]; have := corK_len es ls i.toNat; omega
    conv => cbv
    simp only [stdEqs hL, imp_self, true_and, and_true, bif_or, bif_and, Bool.or_eq_true, Bool.or_eq_false_iff, Bool.and_eq_true, Bool.and_eq_false_iff, decide_eq_true_eq, decide_eq_false_iff_not, Bool.not_eq_true', Bool.not_eq_false', beq_iff_eq, beq_eq_false_iff_ne, ne_eq, toNat0, toNat1, ok_int, toI_int, I_frzs, I_length, I_getD, ok_ints, toL_slc, hvl, gvv, hll, gls]
    refine ⟨fun h2 => ?_, fun h2 => ?_⟩
    · have hin : i.toNat < ws.length := by omega
      have hii : ((i.toNat : Nat) : Int) = i := by omega
      have hdec : (n - (i + 1)).toNat < (n - i).toNat := by omega
      rw [wrap_id (n := i + 1) (by omega) (by omega), gva _ hin]
      refine ⟨i0, by omega, hin, i0, by omega, fun h3 => ⟨rfl, by simp only [List.length_cons, List.length_nil]; omega, solid_one _, ?_⟩, fun h3 => ?_⟩
      · refine hag (_, i + 1) ⟨by simp only; omega, by simp only; omega, ?_⟩ hdec
        simp only [toNat_succ i0]
        have hc : corB es ls i.toNat = true := by rw [corB, decide_eq_false h3]; rfl
        rw [hI, corK_succ, if_pos hc, hii]
        simp [I]
      · refine hag (os, i + 1) ⟨by simp only; omega, by simp only; omega, ?_⟩ hdec
        simp only [toNat_succ i0]
        have hc : ¬ corB es ls i.toNat = true := by rw [corB, decide_eq_true h3]; simp
        rw [hI, corK_succ, if_neg hc, List.append_nil]
    · rw [hr, hf0, hI, show i.toNat = ws.length by omega]
  · cases h
set_option maxRecDepth 100000 in
theorem s_spec_l13Corners : Sat Try.prog 85 (c_Gl_l f_cor q_cor) := by
  intro args ps r h hp
  unfold c_Gl_l at h
  split at h
  · rename_i a0 a1 a2
    simp only [Option.some.injEq, Prod.mk.injEq] at h
    obtain ⟨rfl, rfl⟩ := h
    obtain ⟨hqg, ⟨ls, hls⟩, hlen⟩ : q_cor a0 a1 a2 := (alls_cons.1 hp).1
    obtain ⟨ws, es, hws, hes, g⟩ := id hqg
    have g0 : V.frzs a0 = a0 := by rw [hws, I_frzs]
    have g1 : V.frzs a1 = a1 := by rw [hes, II_frzs]
    have g2 : V.frzs a2 = a2 := by rw [hls, I_frzs]
    have hwl : a0.length = ws.length := by rw [hws, I_length]
    have hll : a2.length = ws.length := by rw [hlen, hwl]
    have gls : ∀ k, a2.getD k (.int .i64 0) = .int .i64 (ls.getD k 0) := fun k => by rw [hls, I_getD]
    have hf0 : f_cor a0 a1 a2 = I (corK es ls ws.length) := by rw [f_cor, hes, hls, unII_II, unI_I, hwl]
    have n1 := g.n1
    have n2 := g.n2
    obtain ⟨n, hn⟩ : ∃ n : Int, n = ws.length := ⟨_, rfl⟩
    generalize H_f_near : f_near = F_f_near
    generalize H_q_near : q_near = F_q_near
    refine fnOk_ofI (T := tab) (B := [(142, c_Gi_l F_f_near F_q_near)]) (Bi := []) [0, 1, 2, 4, 5, 6] Try.func85 rfl rfl (by kernel_rfl) (Nat.le_of_ble_eq_true rfl) mixed tabOk (by subst H_f_near H_q_near; exact (bookCons s_spec_l11Near bookNil)) (by subst H_f_near H_q_near; exact bookINil) (by kernel_rfl) ?_
    intro L lp rr hL hr hf hlp
    have En : ∀ v, F_f_near a0 a1 v = I (near es v) := fun v => by rw [← H_f_near, f_near, hes, unII_II]
    have Qn : ∀ v, F_q_near a0 a1 v := fun v => by
      rw [← H_q_near]
      exact ⟨⟨ws, hws⟩, es, hes, by have := g.el; omega, fun e he => (g.ed e he).1⟩
    conv => cbv
    refine hlp (List V × Int) _ _ _ [1, 2, 5, 6] (fun x => [(1, none, .val (.slc false 2 (.int .i64 0) a2)), (2, none, .val (.box 48 (.agg [.slc false 2 (.int .i64 0) a0, .slc false 27 (.slc false 2 (.int .i64 0) []) a1]))), (5, none, .val (.slc true 2 (.int .i64 0) x.1)), (6, none, .val (.int .i64 x.2))])
      (fun x => 0 ≤ x.2 ∧ x.2 ≤ n ∧ x.1 = I (corK es ls x.2.toNat)) (fun x => (n - x.2).toNat) (([], 0)) (by subst hL; rfl) ?_ ?_
    · exact ⟨by simp, by simp only; omega, rfl⟩
    rintro ⟨os, i⟩ ⟨i0, i1, hI⟩ hfx ag hag
    simp only at i0 i1 hI
    have hol : os.length ≤ 40 := by rw [hI, I_length]; have := corK_len es ls i.toNat; omega
    conv => cbv
    simp only [stdEqs hL, imp_self, true_and, and_true, bif_or, bif_and, Bool.or_eq_true, Bool.or_eq_false_iff, Bool.and_eq_true, Bool.and_eq_false_iff, decide_eq_true_eq, decide_eq_false_iff_not, Bool.not_eq_true', Bool.not_eq_false', beq_iff_eq, beq_eq_false_iff_ne, ne_eq, toNat0, toNat1, ok_int, toI_int, I_frzs, I_length, I_getD, ok_ints, toL_slc, g0, g1, g2, hll, gls, En, ← hn]
    refine ⟨fun h2 => ?_, fun h2 => ?_⟩
    · have hin : i.toNat < ws.length := by omega
      have hii : ((i.toNat : Nat) : Int) = i := by omega
      have hdec : (n - (i + 1)).toNat < (n - i).toNat := by omega
      rw [wrap_id (n := i + 1) (by omega) (by omega)]
      refine ⟨Qn i, i0, h2, fun h3 => ⟨rfl, by simp only [List.length_cons, List.length_nil]; omega, solid_one _, ?_⟩, fun h3 => ?_⟩
      · refine hag (_, i + 1) ⟨by simp only; omega, by simp only; omega, ?_⟩ hdec
        simp only [toNat_succ i0]
        have hc : corB es ls i.toNat = true := by rw [← hii] at h3; rw [Int.toNat_natCast] at h3; rw [corB, decide_eq_false h3]; rfl
        rw [hI, corK_succ, if_pos hc, hii]
        simp [I]
      · refine hag (os, i + 1) ⟨by simp only; omega, by simp only; omega, ?_⟩ hdec
        simp only [toNat_succ i0]
        have hc : ¬ corB es ls i.toNat = true := by rw [← hii] at h3; rw [Int.toNat_natCast] at h3; rw [corB, decide_eq_true h3]; simp
        rw [hI, corK_succ, if_neg hc, List.append_nil]
    · rw [hr, hf0, hI, show i.toNat = ws.length by omega]
  · cases h
def f_cno (a b l : List V) : List V × Int := bif isGr (unI a) (unII b) then (bif f_arr a b l then (f_cor a b l, 0) else ([], 2)) else ([], 1)
theorem arr_len {a b l : List V} (h : f_arr a b l = true) : l.length = a.length := by
  rw [f_arr, Bool.and_eq_true, decide_eq_true_eq] at h
  exact h.1
set_option maxRecDepth 100000 in
theorem s_impl_CornersOf : Sat Try.prog 46 (c_Gl_li f_cno q_Gl) := by
  intro args ps r h hp
  unfold c_Gl_li at h
  split at h
  · rename_i a0 a1 a2
    simp only [Option.some.injEq, Prod.mk.injEq] at h
    obtain ⟨rfl, rfl⟩ := h
    have hqq : q_Gl a0 a1 a2 := (alls_cons.1 hp).1
    obtain ⟨hq, hq2⟩ := id hqq
    have g0 := hq.1.frz
    have g1 := frzs_II hq.2
    have g2 := hq2.frz
    have hf0 : f_cno a0 a1 a2 = bif f_isGr a0 a1 then (bif f_arr a0 a1 a2 then (f_cor a0 a1 a2, 0) else ([], 2)) else ([], 1) := rfl
    have hf1 : f_chA a0 a1 a2 = bif f_isGr a0 a1 then (bif f_arr a0 a1 a2 then 0 else 2) else 1 := rfl
    generalize H_f_chA : f_chA = F_f_chA
    generalize H_q_Gl : q_Gl = F_q_Gl
    generalize H_f_cor : f_cor = F_f_cor
    generalize H_q_cor : q_cor = F_q_cor
    refine fnOk_ofI (T := tab) (B := [(86, c_Gl_i F_f_chA F_q_Gl), (87, c_Gl_l F_f_cor F_q_cor)]) (Bi := []) [0, 1, 2, 4, 5, 6] Try.func46 rfl rfl (by kernel_rfl) (Nat.le_of_ble_eq_true rfl) mixed tabOk (by subst H_f_chA H_q_Gl H_f_cor H_q_cor; exact (bookCons s_impl_checkArrows (bookCons s_impl_cornersOf bookNil))) (by subst H_f_chA H_q_Gl H_f_cor H_q_cor; exact bookINil) (by kernel_rfl) ?_
    intro L lp rr hL hr hf hlp
    conv => cbv
    simp only [stdEqs hL, imp_self, true_and, and_true, bif_or, bif_and, Bool.or_eq_true, Bool.or_eq_false_iff, Bool.and_eq_true, Bool.and_eq_false_iff, decide_eq_true_eq, decide_eq_false_iff_not, Bool.not_eq_true', Bool.not_eq_false', beq_iff_eq, beq_eq_false_iff_ne, ne_eq, toNat0, toNat1, ok_int, toI_int, I_frzs, I_length, I_getD, ok_ints, toL_slc, g0, g1, g2]
    subst H_f_chA H_q_Gl H_f_cor H_q_cor
    refine ⟨hqq, fun h => ?_, fun h => ?_⟩
    · rw [hr, hf0, hf1]
      rw [hf1] at h
      cases h1 : f_isGr a0 a1 with
      | false => rfl
      | true =>
        cases h2 : f_arr a0 a1 a2 with
        | false => rfl
        | true => rw [h1, h2] at h; exact absurd rfl h
    · rw [hf1] at h
      cases h1 : f_isGr a0 a1 with
      | false => rw [h1] at h; cases h
      | true =>
        cases h2 : f_arr a0 a1 a2 with
        | false => rw [h1, h2] at h; cases h
        | true =>
          obtain ⟨⟨ws, hws⟩, es, hes⟩ := hq
          rw [f_isGr, hws, hes, unI_I, unII_II] at h1
          refine ⟨⟨⟨ws, es, hws, hes, (gr_of h1).toN⟩, hq2, arr_len h2⟩, ?_⟩
          rw [hr, hf0, h2, f_isGr, hws, hes, unI_I, unII_II, h1]; rfl
  · cases h
set_option maxRecDepth 100000 in
theorem s_spec_CornersOf : Sat Try.prog 43 (c_Gl_li f_cno q_Gl) := by
  intro args ps r h hp
  unfold c_Gl_li at h
  split at h
  · rename_i a0 a1 a2
    simp only [Option.some.injEq, Prod.mk.injEq] at h
    obtain ⟨rfl, rfl⟩ := h
    have hqq : q_Gl a0 a1 a2 := (alls_cons.1 hp).1
    obtain ⟨hq, hq2⟩ := id hqq
    have g0 := hq.1.frz
    have g1 := frzs_II hq.2
    have g2 := hq2.frz
    have hf0 : f_cno a0 a1 a2 = bif f_isGr a0 a1 then (bif f_arr a0 a1 a2 then (f_cor a0 a1 a2, 0) else ([], 2)) else ([], 1) := rfl
    generalize H_f_isGr : f_isGr = F_f_isGr
    generalize H_q_G : q_G = F_q_G
    generalize H_f_arr : f_arr = F_f_arr
    generalize H_q_Gl : q_Gl = F_q_Gl
    generalize H_f_cor : f_cor = F_f_cor
    generalize H_q_cor : q_cor = F_q_cor
    refine fnOk_ofI (T := tab) (B := [(83, c_G_b F_f_isGr F_q_G), (84, c_Gl_b F_f_arr F_q_Gl), (85, c_Gl_l F_f_cor F_q_cor)]) (Bi := []) [0, 1, 2, 4, 5] Try.func43 rfl rfl (by kernel_rfl) (Nat.le_of_ble_eq_true rfl) mixed tabOk (by subst H_f_isGr H_q_G H_f_arr H_q_Gl H_f_cor H_q_cor; exact (bookCons s_spec_l11Is (bookCons s_spec_l13Arrows (bookCons s_spec_l13Corners bookNil)))) (by subst H_f_isGr H_q_G H_f_arr H_q_Gl H_f_cor H_q_cor; exact bookINil) (by kernel_rfl) ?_
    intro L lp rr hL hr hf hlp
    conv => cbv
    simp only [stdEqs hL, imp_self, true_and, and_true, bif_or, bif_and, Bool.or_eq_true, Bool.or_eq_false_iff, Bool.and_eq_true, Bool.and_eq_false_iff, decide_eq_true_eq, decide_eq_false_iff_not, Bool.not_eq_true', Bool.not_eq_false', beq_iff_eq, beq_eq_false_iff_ne, ne_eq, toNat0, toNat1, ok_int, toI_int, I_frzs, I_length, I_getD, ok_ints, toL_slc, g0, g1, g2]
    subst H_f_isGr H_q_G H_f_arr H_q_Gl H_f_cor H_q_cor
    refine ⟨hq, fun h => ?_, fun h => ⟨hqq, fun h2 => ?_, fun h2 => ?_⟩⟩
    · rw [hr, hf0, h]; rfl
    · rw [hr, hf0, h, h2]; rfl
    · obtain ⟨⟨ws, hws⟩, es, hes⟩ := hq
      have h1 := h
      rw [f_isGr, hws, hes, unI_I, unII_II] at h1
      refine ⟨⟨⟨ws, es, hws, hes, (gr_of h1).toN⟩, hq2, arr_len h2⟩, ?_⟩
      rw [hr, hf0, h, h2]; rfl
  · cases h
def c_lawg_Gl (f : List V → List V → List V → Bool) (q : List V → List V → List V → Prop) : Contract := fun
  | [.agg [.slc false 2 (.int .i64 0) a0, .slc false 27 (.slc false 2 (.int .i64 0) []) a1], .slc false 2 (.int .i64 0) a2] => some ([q a0 a1 a2], .bool (f a0 a1 a2))
  | _ => none
def yesGl (_ _ _ : List V) : Bool := true
def q_law_Gl (a b l : List V) : Prop := q_G a b ∧ IsI l
set_option maxRecDepth 100000 in
theorem s_laws_FnExactCornersOf : Sat Try.prog 9 (c_lawg_Gl yesGl q_law_Gl) := by
  intro args ps r h hp
  unfold c_lawg_Gl at h
  split at h
  · rename_i a0 a1 a2
    simp only [Option.some.injEq, Prod.mk.injEq] at h
    obtain ⟨rfl, rfl⟩ := h
    obtain ⟨hq, ⟨ls, hls⟩⟩ : q_law_Gl a0 a1 a2 := (alls_cons.1 hp).1
    obtain ⟨hq0, hq1⟩ := id hq
    have g0 := hq0.frz
    have g1 := frzs_II hq1
    have g2 : V.frzs a2 = a2 := by rw [hls, I_frzs]
    have hal : a2.length = ls.length := by rw [hls, I_length]
    generalize H_f_szG : f_szG = F_f_szG
    generalize H_q_szG : q_szG = F_q_szG
    generalize H_f_cpG : f_cpG = F_f_cpG
    generalize H_q_cpG : q_cpG = F_q_cpG
    generalize H_same : same = F_same
    generalize H_IsIs : IsIs = F_IsIs
    generalize H_f_cno : f_cno = F_f_cno
    generalize H_q_Gl : q_Gl = F_q_Gl
    generalize H_f_eqG : f_eqG = F_f_eqG
    generalize H_q_eqG : q_eqG = F_q_eqG
    generalize H_f0_eqI : f0_eqI = F_f0_eqI
    generalize H_q_eqI : q_eqI = F_q_eqI
    generalize H_f0_held : f0_held = F_f0_held
    generalize H_q_mark : q_mark = F_q_mark
    generalize H_f0_mark : f0_mark = F_f0_mark
    generalize H_f1_mark : f1_mark = F_f1_mark
    generalize H_f0_markG : f0_markG = F_f0_markG
    generalize H_f1_markG : f1_markG = F_f1_markG
    generalize H_f2_markG : f2_markG = F_f2_markG
    generalize H_q_markG : q_markG = F_q_markG
    refine fnOk_ofI (T := tab) (B := [(42, c_Gi_i F_f_szG F_q_szG), (44, c_G_G F_f_cpG F_q_cpG), (45, c_laws_toInt64S F_same F_IsIs), (43, c_Gl_li F_f_cno F_q_Gl), (46, c_Gl_li F_f_cno F_q_Gl), (33, c_GG_b F_f_eqG F_q_eqG), (19, c_laws_eqInt64S F_f0_eqI F_q_eqI), (23, c_heldInt64S F_f0_held F_q_mark)]) (Bi := [(22, 0, false, ic_markInt64S F_f0_mark F_f1_mark F_q_mark), (34, 0, false, ic_markG F_f0_markG F_f1_markG F_f2_markG F_q_markG)]) [0, 1, 2, 4, 5, 6, 7, 8, 9, 10, 11, 12, 13, 14, 15, 16] Try.func9 rfl rfl (by kernel_rfl) (Nat.le_of_ble_eq_true rfl) mixed tabOk (by subst H_f_szG H_q_szG H_f_cpG H_q_cpG H_same H_IsIs H_f_cno H_q_Gl H_f_eqG H_q_eqG H_f0_eqI H_q_eqI H_f0_held H_q_mark H_f0_mark H_f1_mark H_f0_markG H_f1_markG H_f2_markG H_q_markG; exact (bookCons s_laws_szGraph (bookCons s_laws_toGraph (bookCons s_laws_toInt64S (bookCons s_spec_CornersOf (bookCons s_impl_CornersOf (bookCons s_laws_eqGraph (bookCons s_laws_eqInt64S (bookCons s_laws_heldInt64S bookNil))))))))) (by subst H_f_szG H_q_szG H_f_cpG H_q_cpG H_same H_IsIs H_f_cno H_q_Gl H_f_eqG H_q_eqG H_f0_eqI H_q_eqI H_f0_held H_q_mark H_f0_mark H_f1_mark H_f0_markG H_f1_markG H_f2_markG H_q_markG; exact (bookICons s_laws_markInt64S (bookICons s_laws_markGraph bookINil))) (by kernel_rfl) ?_
    intro L lp rr hL hr hf hlp
    have hlen := hf.1
    conv => cbv
    simp only [stdEqs hL, g0, g1, g2, hal]
    subst H_f_szG H_q_szG H_f_cpG H_q_cpG H_same H_IsIs H_f_cno H_q_Gl H_f_eqG H_q_eqG H_f0_eqI H_q_eqI H_f0_held H_q_mark H_f0_mark H_f1_mark H_f0_markG H_f1_markG H_f2_markG H_q_markG
    refine ⟨fun h => by rw [hr]; rfl, fun hls1 => ⟨hq1, fun h => by rw [hr]; rfl, fun h => ?_⟩⟩
    have hll : ls.length ≤ 1048576 := by
      simp only [decide_eq_false_iff_not] at hls1
      omega
    obtain ⟨hc, hb0, hb1⟩ := szG_ok hq1 hlen.1.1 hlen.2.1.1 hlen.2.1.2 hq0 h
    obtain ⟨ws, hws⟩ := hq0
    obtain ⟨es, hes⟩ := hq1
    rw [hws, I_length] at hb0
    rw [hes, unII_II] at hb1
    have e0 : f_cpG a0 a1 = (I ws, II true es) := by rw [f_cpG, hes, hws, unII_II]
    have kg := graph_keys ws es
    have mg := markG_keys ws es (by omega)
    have hqg : q_G (I ws) (II false es) := ⟨⟨_, rfl⟩, ⟨_, rfl⟩⟩
    have kl := ints_keys ls (by omega)
    have hqx : q_Gl (I ws) (II false es) (I ls) := ⟨hqg, ⟨_, rfl⟩⟩
    have km : q_mark (I ls) (1 + ws.length + tot es) ∧ f0_mark (I ls) (1 + ws.length + tot es) = 1 + ws.length + tot es + ls.length ∧ f1_mark (I ls) (1 + ws.length + tot es) = I (marks ls.length (1 + ws.length + tot es)) := ⟨⟨⟨_, rfl⟩, by omega, by rw [I_length]; omega⟩, by rw [f0_mark, I_length], by rw [f1_mark, I_length]⟩

    obtain ⟨zs, code, ez, hzl⟩ : ∃ (zs : List Int) (code : Int), f_cno (I ws) (II false es) (I ls) = (I zs, code) ∧ zs.length ≤ 40 := by
      rw [f_cno, unI_I, unII_II]
      cases hh : isGr ws es with
      | false => exact ⟨[], 1, rfl, by simp⟩
      | true =>
        cases h2 : f_arr (I ws) (II false es) (I ls) with
        | false => exact ⟨[], 2, rfl, by simp⟩
        | true => exact ⟨_, _, rfl, Nat.le_trans (corK_len _ _ _) (by rw [I_length]; exact (gr_of hh).n2)⟩
    have ck := ints_keys zs (by omega)
    have hn1 : ∀ n : Nat, decide ((1 : Int) + n < 0) = false := fun n => by simp; omega
    have hn2 : ∀ n m : Nat, decide ((1 : Int) + n + m < 0) = false := fun n m => by simp; omega
    have hn3 : ∀ n m r : Nat, decide ((1 : Int) + n + m + r < 0) = false := fun n m r => by simp; omega
    simp only [hls, same, I_frzs, e0, hc, II_frzs, kg, mg, hqg, hqx, kl, km, ez, ck, hn1, hn2, hn3, hr, yesGl]
    simp
  · cases h
end Go.Ax
