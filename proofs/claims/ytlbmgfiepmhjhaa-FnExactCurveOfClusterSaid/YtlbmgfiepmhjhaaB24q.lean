import Derived.Test.YtlbmgfiepmhjhaaB16q
import Derived.Test.YtlbmgfiepmhjhaaB22q
import Derived.Test.YtlbmgfiepmhjhaaB07q
import Derived.Test.YtlbmgfiepmhjhaaB11q
/-
  Consistent clusters, factors, shared points. No conditions but those of the contracts.
-/
set_option linter.all false
namespace Go.Ax
open Go.Proofs

def minGo : List Int → Int → Int
  | [], m => m
  | x :: l, m => minGo l (min m x)
def minL : List Int → Int
  | [] => 0
  | x :: l => minGo l x
theorem minGo_nn : ∀ (l : List Int) (m : Int), 0 ≤ minGo l m ↔ 0 ≤ m ∧ ∀ x ∈ l, 0 ≤ x
  | [], m => by simp [minGo]
  | x :: l, m => by
    rw [minGo, minGo_nn l]
    simp only [List.mem_cons, forall_eq_or_imp]
    constructor
    · rintro ⟨h1, h2⟩; exact ⟨by omega, by omega, h2⟩
    · rintro ⟨h1, h2, h3⟩; exact ⟨by omega, h3⟩
theorem minL_nn {l : List Int} (h : l ≠ []) : 0 ≤ minL l ↔ ∀ x ∈ l, 0 ≤ x := by
  cases l with
  | nil => exact absurd rfl h
  | cons x l => rw [minL, minGo_nn]; simp
def f_minL (a : List V) : Int := minL (unI a)
set_option maxHeartbeats 1000000 in
set_option maxRecDepth 100000 in
theorem s_slicesMin : Sat Try.prog 94 (c_l_i f_minL q_ne) := by
  intro args ps r h hp
  unfold c_l_i at h
  split at h
  · rename_i a0
    simp only [Option.some.injEq, Prod.mk.injEq] at h
    obtain ⟨rfl, rfl⟩ := h
    obtain ⟨⟨xs, hxs⟩, hne⟩ : q_ne a0 := (alls_cons.1 hp).1
    have hxl : a0.length = xs.length := by rw [hxs, I_length]
    have hf0 : f_minL a0 = minL xs := by rw [f_minL, hxs, unI_I]
    have hpos : 0 < xs.length := by
      cases xs with
      | nil => exact absurd hxs hne
      | cons x l => simp
    have hmx : minL xs = minGo (xs.drop 1) (xs.getD 0 0) := by
      cases xs with
      | nil => simp at hpos
      | cons x l => rfl
    refine fnOk_ofI (T := tab) (B := []) (Bi := []) [0, 2, 3, 4] Try.func94 rfl rfl (by kernel_rfl) (Nat.le_of_ble_eq_true rfl) mixed tabOk (by exact bookNil) (by exact bookINil) (by kernel_rfl) ?_
    intro L lp rr hL hr hf hlp
    have hlen := hf.1.1
    conv => cbv
    simp only [stdEqs hL, hxl]
    refine ⟨fun h => ?_, fun h => ⟨by omega, by omega, ?_⟩⟩
    · simp only [decide_eq_true_eq] at h; omega
    obtain ⟨m0, hm0⟩ : ∃ m0, a0.getD (Int.toNat 0) (.int .i64 0) = .int .i64 m0 ∧ m0 = xs.getD 0 0 := ⟨_, by rw [hxs, I_getD]; rfl, rfl⟩
    simp only [hm0.1, ok_int, toI_int, true_and]
    refine hlp (Int × Int) _ _ _ [0, 3, 4] (fun x => [(0, none, .val (.slc false 2 (.int .i64 0) a0)), (3, none, .val (.int .i64 x.1)), (4, none, .val (.int .i64 x.2))])
      (fun x => 0 ≤ x.2 ∧ x.2 ≤ xs.length ∧ minL xs = minGo (xs.drop x.2.toNat) x.1) (fun x => (xs.length - x.2).toNat) ((m0, 1)) (by subst hL; rfl) ?_ ?_
    · exact ⟨by simp, by simp only; omega, by rw [hmx, hm0.2]; rfl⟩
    rintro ⟨m, i⟩ ⟨i0, i1, hI⟩ hfx ag hag
    conv => cbv
    simp only at i0 i1 hI
    rw [hxl] at hlen
    subst hxs
    simp only [stdEqs hL, I_length, I_getD, ok_int, toI_int, imp_self, true_and, decide_eq_true_eq, decide_eq_false_iff_not]
    refine ⟨fun h => ⟨i0, by omega, ?_⟩, fun h => ?_⟩
    · rw [wrap_id (n := i + 1) (by omega) (by omega)]
      refine hag (_, i + 1) ⟨by simp only; omega, by simp only; omega, ?_⟩ (by simp only; omega)
      simp only [toNat_succ i0]
      rw [hI, drop_cons 0 (show i.toNat < xs.length by omega), minGo]
    · rw [hr, hf0, hI, List.drop_eq_nil_of_le (by omega)]; rfl
  · cases h
def exsL (P S Q : List Int) : List Int := tab' (exL P S Q) P.length
def consB (P S Q : List Int) : Bool := (exsL P S Q).all fun x => decide (0 ≤ x)
def f_cons (a b c : List V) : Bool := consB (unI a) (unI b) (unI c)
theorem exA_small {pm : List (List Int)} {w : List Int} (hw : ∀ i, -100000 ≤ w.getD i 0 ∧ w.getD i 0 ≤ 100000) : ∀ (j : Nat) (a : Nat), j ≤ 24 → -(100000 * ((j : Int) + 1)) ≤ exA pm w j a ∧ exA pm w j a ≤ 100000 * ((j : Int) + 1)
  | 0, a, _ => by
    have := hw a
    rw [exA]; omega
  | j + 1, a, hj => by
    have h1 := exA_small (pm := pm) hw j a (by omega)
    have h2 := hw j
    rw [exA]
    split
    · have e : W (exA pm w j a - w.getD j 0) = exA pm w j a - w.getD j 0 := wrap_id (by omega) (by omega)
      rw [e]
      omega
    · omega
theorem exL_small {P S Q : List Int} (h : ClP P S Q) (a : Nat) : -2500000 ≤ exL P S Q a ∧ exL P S Q a ≤ 2500000 := by
  have n24 := h.n24
  have hw : ∀ i, -100000 ≤ Q.getD i 0 ∧ Q.getD i 0 ≤ 100000 := fun i => by
    by_cases hi : i < P.length
    · exact h.q i hi
    · rw [List.getD_eq_getElem?_getD, List.getElem?_eq_none (by rw [h.ql]; omega)]
      simp
  have := exA_small (pm := cpx P S P.length P.length) hw P.length a (by omega)
  rw [exL]
  omega
set_option maxHeartbeats 1000000 in
set_option maxRecDepth 100000 in
theorem s_impl_consistent : Sat Try.prog 58 (c_K_b f_cons q_Kv) := by
  intro args ps r h hp
  unfold c_K_b at h
  split at h
  · rename_i a0 a1 a2
    simp only [Option.some.injEq, Prod.mk.injEq] at h
    obtain ⟨rfl, rfl⟩ := h
    have hqv : q_Kv a0 a1 a2 := (alls_cons.1 hp).1
    obtain ⟨⟨⟨P, hP⟩, ⟨S, hS⟩, ⟨Q, hQ⟩⟩, hcl⟩ := id hqv
    rw [hP, hS, hQ, unI_I, unI_I, unI_I] at hcl
    have g0 : V.frzs a0 = a0 := by rw [hP, I_frzs]
    have g1 : V.frzs a1 = a1 := by rw [hS, I_frzs]
    have g2 : V.frzs a2 = a2 := by rw [hQ, I_frzs]
    have hpl : a0.length = P.length := by rw [hP, I_length]
    have hsl : a1.length = P.length := by rw [hS, I_length, hcl.sl]
    have hql : a2.length = P.length := by rw [hQ, I_length, hcl.ql]
    have gp : ∀ k, a0.getD k (.int .i64 0) = .int .i64 (P.getD k 0) := fun k => by rw [hP, I_getD]
    have gs : ∀ k, a1.getD k (.int .i64 0) = .int .i64 (S.getD k 0) := fun k => by rw [hS, I_getD]
    have gq : ∀ k, a2.getD k (.int .i64 0) = .int .i64 (Q.getD k 0) := fun k => by rw [hQ, I_getD]
    obtain ⟨n, hn⟩ : ∃ n : Int, n = P.length := ⟨_, rfl⟩
    have n1 := hcl.n1
    have n24 := hcl.n24
    have low := fun t ht => hcl.low (i := t) ht
    have hf0 : f_cons a0 a1 a2 = consB P S Q := by rw [f_cons, hP, hS, hQ, unI_I, unI_I, unI_I]
    have hfe : f_exc1 a0 a1 a2 = I (exsL P S Q) := by rw [f_exc1, hpl, hP, hS, hQ, unI_I, unI_I, unI_I]; rfl
    have hne : exsL P S Q ≠ [] := List.length_pos_iff.1 (by rw [exsL, tab_len]; omega)
    generalize H_f_exc1 : f_exc1 = F_f_exc1
    generalize H_q_Kv : q_Kv = F_q_Kv
    generalize H_f_minL : f_minL = F_f_minL
    generalize H_q_ne : q_ne = F_q_ne
    refine fnOk_ofI (T := tab) (B := [(95, c_K_l F_f_exc1 F_q_Kv), (94, c_l_i F_f_minL F_q_ne)]) (Bi := []) [0, 1, 2] Try.func58 rfl rfl (by kernel_rfl) (Nat.le_of_ble_eq_true rfl) mixed tabOk (by subst H_f_exc1 H_q_Kv H_f_minL H_q_ne; exact (bookCons s_impl_excesses (bookCons s_slicesMin bookNil))) (by subst H_f_exc1 H_q_Kv H_f_minL H_q_ne; exact bookINil) (by kernel_rfl) ?_
    intro L lp rr hL hr hf hlp
    conv => cbv
    simp only [stdEqs hL, imp_self, true_and, and_true, bif_or, bif_and, Bool.or_eq_true, Bool.or_eq_false_iff, Bool.and_eq_true, Bool.and_eq_false_iff, decide_eq_true_eq, decide_eq_false_iff_not, Bool.not_eq_true', Bool.not_eq_false', beq_iff_eq, beq_eq_false_iff_ne, ne_eq, toNat0, toNat1, ok_int, toI_int, I_frzs, I_length, I_getD, ok_ints, toL_slc, g0, g1, g2]
    subst H_f_exc1 H_q_Kv H_f_minL H_q_ne
    rw [hfe, I_frzs]
    refine ⟨hqv, ⟨⟨_, rfl⟩, ?_⟩, ?_⟩
    · intro h
      exact hne (by rw [← unI_I (exsL P S Q), h]; rfl)
    · rw [hr, hf0, f_minL, unI_I, consB]
      congr 1
      rw [Bool.eq_iff_iff, decide_eq_true_eq, minL_nn hne, List.all_eq_true]
      simp
  · cases h
set_option maxHeartbeats 1000000 in
set_option maxRecDepth 100000 in
theorem s_spec_l07Consistent : Sat Try.prog 53 (c_K_b f_cons q_Kv) := by
  intro args ps r h hp
  unfold c_K_b at h
  split at h
  · rename_i a0 a1 a2
    simp only [Option.some.injEq, Prod.mk.injEq] at h
    obtain ⟨rfl, rfl⟩ := h
    have hqv : q_Kv a0 a1 a2 := (alls_cons.1 hp).1
    obtain ⟨⟨⟨P, hP⟩, ⟨S, hS⟩, ⟨Q, hQ⟩⟩, hcl⟩ := id hqv
    rw [hP, hS, hQ, unI_I, unI_I, unI_I] at hcl
    have g0 : V.frzs a0 = a0 := by rw [hP, I_frzs]
    have g1 : V.frzs a1 = a1 := by rw [hS, I_frzs]
    have g2 : V.frzs a2 = a2 := by rw [hQ, I_frzs]
    have hpl : a0.length = P.length := by rw [hP, I_length]
    have hsl : a1.length = P.length := by rw [hS, I_length, hcl.sl]
    have hql : a2.length = P.length := by rw [hQ, I_length, hcl.ql]
    have gp : ∀ k, a0.getD k (.int .i64 0) = .int .i64 (P.getD k 0) := fun k => by rw [hP, I_getD]
    have gs : ∀ k, a1.getD k (.int .i64 0) = .int .i64 (S.getD k 0) := fun k => by rw [hS, I_getD]
    have gq : ∀ k, a2.getD k (.int .i64 0) = .int .i64 (Q.getD k 0) := fun k => by rw [hQ, I_getD]
    obtain ⟨n, hn⟩ : ∃ n : Int, n = P.length := ⟨_, rfl⟩
    have n1 := hcl.n1
    have n24 := hcl.n24
    have low := fun t ht => hcl.low (i := t) ht
    have hf0 : f_cons a0 a1 a2 = consB P S Q := by rw [f_cons, hP, hS, hQ, unI_I, unI_I, unI_I]
    have hfe : f_exc2 a0 a1 a2 a2 = I (exsL P S Q) := by rw [f_exc2, hpl, hP, hS, hQ, unI_I, unI_I, unI_I]; rfl
    obtain ⟨vs, hvs⟩ : ∃ vs, vs = I (exsL P S Q) := ⟨_, rfl⟩
    rw [← hvs] at hfe
    have hvl : vs.length = P.length := by rw [hvs, I_length, exsL, tab_len]
    have gv : ∀ k, vs.getD k (.int .i64 0) = .int .i64 ((exsL P S Q).getD k 0) := fun k => by rw [hvs, I_getD]
    have hel : (exsL P S Q).length = P.length := tab_len _ _
    generalize H_f_exc2 : f_exc2 = F_f_exc2
    generalize H_q_Kvl : q_Kvl = F_q_Kvl
    refine fnOk_ofI (T := tab) (B := [(89, c_Kl_l F_f_exc2 F_q_Kvl)]) (Bi := []) [0, 1, 2, 3, 4] Try.func53 rfl rfl (by kernel_rfl) (Nat.le_of_ble_eq_true rfl) mixed tabOk (by subst H_f_exc2 H_q_Kvl; exact (bookCons s_spec_l07Excess bookNil)) (by subst H_f_exc2 H_q_Kvl; exact bookINil) (by kernel_rfl) ?_
    intro L lp rr hL hr hf hlp
    have Ee : F_f_exc2 a0 a1 a2 a2 = vs := by rw [← H_f_exc2]; exact hfe
    have Qe : F_q_Kvl a0 a1 a2 a2 := by rw [← H_q_Kvl]; exact ⟨hqv, rfl⟩
    conv => cbv
    simp only [stdEqs hL, imp_self, true_and, and_true, bif_or, bif_and, Bool.or_eq_true, Bool.or_eq_false_iff, Bool.and_eq_true, Bool.and_eq_false_iff, decide_eq_true_eq, decide_eq_false_iff_not, Bool.not_eq_true', Bool.not_eq_false', beq_iff_eq, beq_eq_false_iff_ne, ne_eq, toNat0, toNat1, ok_int, toI_int, I_frzs, I_length, I_getD, ok_ints, toL_slc, g0, g1, g2, Ee]
    refine ⟨Qe, ?_⟩
    refine hlp (Int) _ _ _ [3, 4] (fun x => [(3, none, .val (.slc true 2 (.int .i64 0) vs)), (4, none, .val (.int .i64 x))])
      (fun x => 0 ≤ x ∧ x ≤ P.length ∧ ∀ t, t < x.toNat → 0 ≤ (exsL P S Q).getD t 0) (fun x => (P.length - x).toNat) (0) (by subst hL; rfl) ?_ ?_
    · exact ⟨by simp, by simp, fun t ht => by simp at ht⟩
    rintro i ⟨i0, i1, hI⟩ hfx ag hag
    conv => cbv
    simp only [stdEqs hL, imp_self, true_and, and_true, bif_or, bif_and, Bool.or_eq_true, Bool.or_eq_false_iff, Bool.and_eq_true, Bool.and_eq_false_iff, decide_eq_true_eq, decide_eq_false_iff_not, Bool.not_eq_true', Bool.not_eq_false', beq_iff_eq, beq_eq_false_iff_ne, ne_eq, toNat0, toNat1, ok_int, toI_int, I_frzs, I_length, I_getD, ok_ints, toL_slc, hvl, gv]
    refine ⟨fun h2 => ⟨i0, h2, by omega, fun h3 => ?_, fun h3 => ?_⟩, fun h2 => ?_⟩
    · rw [hr, hf0, consB]
      have : (exsL P S Q).all (fun x => decide (0 ≤ x)) = false := by
        rw [List.all_eq_false]
        refine ⟨_, getD_mem (l := exsL P S Q) (t := i.toNat) (by omega), ?_⟩
        simpa using h3
      rw [this]
    · rw [wrap_id (n := i + 1) (by omega) (by omega)]
      refine hag (i + 1) ⟨by omega, by omega, fun t ht => ?_⟩ (by omega)
      by_cases h4 : t < i.toNat
      · exact hI t h4
      · rw [show t = i.toNat by omega]; omega
    · rw [hr, hf0, consB]
      have : (exsL P S Q).all (fun x => decide (0 ≤ x)) = true := by
        rw [List.all_eq_true]
        intro x hx
        obtain ⟨t, ht, rfl⟩ := mem_at hx
        simpa using hI t (by omega)
      rw [this]
  · cases h
def facA (l : List Int) : Nat → List (List Int)
  | 0 => []
  | i + 1 => facA l i ++ if 0 < l.getD i 0 then [[(i : Int), l.getD i 0]] else []
theorem facA_len (l : List Int) : ∀ i, (facA l i).length ≤ i
  | 0 => by simp [facA]
  | i + 1 => by
    have := facA_len l i
    rw [facA, List.length_append]
    split <;> simp <;> omega
def f_facs (a b c : List V) : List V := II true (facA (exsL (unI a) (unI b) (unI c)) a.length)
theorem II_one (xs : List Int) : II true [xs] = [.slc true 2 (.int .i64 0) (I xs)] := rfl
set_option maxHeartbeats 1000000 in
set_option maxRecDepth 100000 in
theorem s_impl_factors : Sat Try.prog 59 (c_K_m f_facs q_Kv) := by
  intro args ps r h hp
  unfold c_K_m at h
  split at h
  · rename_i a0 a1 a2
    simp only [Option.some.injEq, Prod.mk.injEq] at h
    obtain ⟨rfl, rfl⟩ := h
    have hqv : q_Kv a0 a1 a2 := (alls_cons.1 hp).1
    obtain ⟨⟨⟨P, hP⟩, ⟨S, hS⟩, ⟨Q, hQ⟩⟩, hcl⟩ := id hqv
    rw [hP, hS, hQ, unI_I, unI_I, unI_I] at hcl
    have g0 : V.frzs a0 = a0 := by rw [hP, I_frzs]
    have g1 : V.frzs a1 = a1 := by rw [hS, I_frzs]
    have g2 : V.frzs a2 = a2 := by rw [hQ, I_frzs]
    have hpl : a0.length = P.length := by rw [hP, I_length]
    have hsl : a1.length = P.length := by rw [hS, I_length, hcl.sl]
    have hql : a2.length = P.length := by rw [hQ, I_length, hcl.ql]
    have gp : ∀ k, a0.getD k (.int .i64 0) = .int .i64 (P.getD k 0) := fun k => by rw [hP, I_getD]
    have gs : ∀ k, a1.getD k (.int .i64 0) = .int .i64 (S.getD k 0) := fun k => by rw [hS, I_getD]
    have gq : ∀ k, a2.getD k (.int .i64 0) = .int .i64 (Q.getD k 0) := fun k => by rw [hQ, I_getD]
    obtain ⟨n, hn⟩ : ∃ n : Int, n = P.length := ⟨_, rfl⟩
    have n1 := hcl.n1
    have n24 := hcl.n24
    have low := fun t ht => hcl.low (i := t) ht
    have hf0 : f_facs a0 a1 a2 = II true (facA (exsL P S Q) P.length) := by rw [f_facs, hpl, hP, hS, hQ, unI_I, unI_I, unI_I]
    have hfe : f_exc1 a0 a1 a2 = I (exsL P S Q) := by rw [f_exc1, hpl, hP, hS, hQ, unI_I, unI_I, unI_I]; rfl
    obtain ⟨E, hE⟩ : ∃ E, E = exsL P S Q := ⟨_, rfl⟩
    rw [← hE] at hf0 hfe
    obtain ⟨vs, hvs⟩ : ∃ vs, vs = I E := ⟨_, rfl⟩
    rw [← hvs] at hfe
    have hvl : vs.length = P.length := by rw [hvs, I_length, hE, exsL, tab_len]
    have gv : ∀ k, vs.getD k (.int .i64 0) = .int .i64 (E.getD k 0) := fun k => by rw [hvs, I_getD]
    generalize H_f_exc1 : f_exc1 = F_f_exc1
    generalize H_q_Kv : q_Kv = F_q_Kv
    refine fnOk_ofI (T := tab) (B := [(95, c_K_l F_f_exc1 F_q_Kv)]) (Bi := []) [0, 1, 2, 3, 4, 5, 8, 9, 10] Try.func59 rfl rfl (by kernel_rfl) (Nat.le_of_ble_eq_true rfl) mixed tabOk (by subst H_f_exc1 H_q_Kv; exact (bookCons s_impl_excesses bookNil)) (by subst H_f_exc1 H_q_Kv; exact bookINil) (by kernel_rfl) ?_
    intro L lp rr hL hr hf hlp
    have Ee : F_f_exc1 a0 a1 a2 = vs := by rw [← H_f_exc1]; exact hfe
    have Qe : F_q_Kv a0 a1 a2 := by rw [← H_q_Kv]; exact hqv
    conv => cbv
    simp only [stdEqs hL, imp_self, true_and, and_true, bif_or, bif_and, Bool.or_eq_true, Bool.or_eq_false_iff, Bool.and_eq_true, Bool.and_eq_false_iff, decide_eq_true_eq, decide_eq_false_iff_not, Bool.not_eq_true', Bool.not_eq_false', beq_iff_eq, beq_eq_false_iff_ne, ne_eq, toNat0, toNat1, ok_int, toI_int, I_frzs, I_length, I_getD, ok_ints, toL_slc, g0, g1, g2, Ee, hvl, ← hn]
    refine ⟨Qe, ?_⟩
    refine hlp (List V × Int) _ _ _ [3, 8, 9, 10] (fun x => [(3, none, .val (.slc true 22 (.slc true 2 (.int .i64 0) []) x.1)), (8, none, .val (.slc true 2 (.int .i64 0) vs)), (9, none, .val (.int .i64 n)), (10, none, .val (.int .i64 x.2))])
      (fun x => 0 ≤ x.2 ∧ x.2 ≤ n ∧ x.1 = II true (facA E x.2.toNat)) (fun x => (n - x.2).toNat) (([], 0)) (by subst hL; rw [hn, ← hvl]; rfl) ?_ ?_
    · exact ⟨by simp, by simp only; omega, rfl⟩
    rintro ⟨os, i⟩ ⟨i0, i1, hO⟩ hfx ag hag
    simp only at i0 i1 hO
    have hol : os.length ≤ 24 := by
      have := facA_len E i.toNat
      rw [hO, II_length]; omega
    conv => cbv
    simp only [stdEqs hL, imp_self, true_and, and_true, bif_or, bif_and, Bool.or_eq_true, Bool.or_eq_false_iff, Bool.and_eq_true, Bool.and_eq_false_iff, decide_eq_true_eq, decide_eq_false_iff_not, Bool.not_eq_true', Bool.not_eq_false', beq_iff_eq, beq_eq_false_iff_ne, ne_eq, toNat0, toNat1, ok_int, toI_int, I_frzs, I_length, I_getD, ok_ints, toL_slc, gv, hvl]
    refine ⟨fun h2 => ?_, fun h2 => ?_⟩
    · rw [wrap_id (n := i + 1) (by omega) (by omega)]
      refine ⟨i0, by omega, by omega, fun h3 => ?_, fun h3 => ?_⟩
      · have hnx : os ++ [V.slc true 2 (.int .i64 0) [V.int .i64 i, V.int .i64 (E.getD i.toNat 0)]] = II true (facA E (i.toNat + 1)) := by
          rw [facA, if_pos h3, hO, show ((i.toNat : Nat) : Int) = i by omega, II_append, II_one]
          rfl
        (repeat' first | (exact solid_one _) | (exact solid1 rfl) | (exact noown_one _) | (apply And.intro) | (intro _)) <;> (try first | exact True.intro | omega | rfl | (simp only [List.length_cons, List.length_nil, I_length]; omega))
        refine hag (_, i + 1) ⟨by simp only; omega, by simp only; omega, ?_⟩ (by simp only; omega)
        simp only [toNat_succ i0]
        exact hnx
      · refine hag (os, i + 1) ⟨by simp only; omega, by simp only; omega, ?_⟩ (by simp only; omega)
        simp only [toNat_succ i0]
        rw [facA, if_neg h3, List.append_nil]; exact hO
    · rw [hr, hf0, hO, show i.toNat = P.length by omega]
  · cases h
set_option maxHeartbeats 1000000 in
set_option maxRecDepth 100000 in
theorem s_spec_l08Factors : Sat Try.prog 54 (c_K_m f_facs q_Kv) := by
  intro args ps r h hp
  unfold c_K_m at h
  split at h
  · rename_i a0 a1 a2
    simp only [Option.some.injEq, Prod.mk.injEq] at h
    obtain ⟨rfl, rfl⟩ := h
    have hqv : q_Kv a0 a1 a2 := (alls_cons.1 hp).1
    obtain ⟨⟨⟨P, hP⟩, ⟨S, hS⟩, ⟨Q, hQ⟩⟩, hcl⟩ := id hqv
    rw [hP, hS, hQ, unI_I, unI_I, unI_I] at hcl
    have g0 : V.frzs a0 = a0 := by rw [hP, I_frzs]
    have g1 : V.frzs a1 = a1 := by rw [hS, I_frzs]
    have g2 : V.frzs a2 = a2 := by rw [hQ, I_frzs]
    have hpl : a0.length = P.length := by rw [hP, I_length]
    have hsl : a1.length = P.length := by rw [hS, I_length, hcl.sl]
    have hql : a2.length = P.length := by rw [hQ, I_length, hcl.ql]
    have gp : ∀ k, a0.getD k (.int .i64 0) = .int .i64 (P.getD k 0) := fun k => by rw [hP, I_getD]
    have gs : ∀ k, a1.getD k (.int .i64 0) = .int .i64 (S.getD k 0) := fun k => by rw [hS, I_getD]
    have gq : ∀ k, a2.getD k (.int .i64 0) = .int .i64 (Q.getD k 0) := fun k => by rw [hQ, I_getD]
    obtain ⟨n, hn⟩ : ∃ n : Int, n = P.length := ⟨_, rfl⟩
    have n1 := hcl.n1
    have n24 := hcl.n24
    have low := fun t ht => hcl.low (i := t) ht
    have hf0 : f_facs a0 a1 a2 = II true (facA (exsL P S Q) P.length) := by rw [f_facs, hpl, hP, hS, hQ, unI_I, unI_I, unI_I]
    have hfe : f_exc2 a0 a1 a2 a2 = I (exsL P S Q) := by rw [f_exc2, hpl, hP, hS, hQ, unI_I, unI_I, unI_I]; rfl
    obtain ⟨E, hE⟩ : ∃ E, E = exsL P S Q := ⟨_, rfl⟩
    rw [← hE] at hf0 hfe
    obtain ⟨vs, hvs⟩ : ∃ vs, vs = I E := ⟨_, rfl⟩
    rw [← hvs] at hfe
    have hvl : vs.length = P.length := by rw [hvs, I_length, hE, exsL, tab_len]
    have gv : ∀ k, vs.getD k (.int .i64 0) = .int .i64 (E.getD k 0) := fun k => by rw [hvs, I_getD]
    generalize H_f_exc2 : f_exc2 = F_f_exc2
    generalize H_q_Kvl : q_Kvl = F_q_Kvl
    refine fnOk_ofI (T := tab) (B := [(89, c_Kl_l F_f_exc2 F_q_Kvl)]) (Bi := []) [0, 1, 2, 3, 4, 5] Try.func54 rfl rfl (by kernel_rfl) (Nat.le_of_ble_eq_true rfl) mixed tabOk (by subst H_f_exc2 H_q_Kvl; exact (bookCons s_spec_l07Excess bookNil)) (by subst H_f_exc2 H_q_Kvl; exact bookINil) (by kernel_rfl) ?_
    intro L lp rr hL hr hf hlp
    have Ee : F_f_exc2 a0 a1 a2 a2 = vs := by rw [← H_f_exc2]; exact hfe
    have Qe : F_q_Kvl a0 a1 a2 a2 := by rw [← H_q_Kvl]; exact ⟨hqv, rfl⟩
    conv => cbv
    simp only [stdEqs hL, imp_self, true_and, and_true, bif_or, bif_and, Bool.or_eq_true, Bool.or_eq_false_iff, Bool.and_eq_true, Bool.and_eq_false_iff, decide_eq_true_eq, decide_eq_false_iff_not, Bool.not_eq_true', Bool.not_eq_false', beq_iff_eq, beq_eq_false_iff_ne, ne_eq, toNat0, toNat1, ok_int, toI_int, I_frzs, I_length, I_getD, ok_ints, toL_slc, g0, g1, g2, Ee, hvl, ← hn]
    refine ⟨Qe, ?_⟩
    refine hlp (List V × Int) _ _ _ [3, 4, 5] (fun x => [(3, none, .val (.slc true 2 (.int .i64 0) vs)), (4, none, .val (.slc true 22 (.slc true 2 (.int .i64 0) []) x.1)), (5, none, .val (.int .i64 x.2))])
      (fun x => 0 ≤ x.2 ∧ x.2 ≤ n ∧ x.1 = II true (facA E x.2.toNat)) (fun x => (n - x.2).toNat) (([], 0)) (by subst hL; rfl) ?_ ?_
    · exact ⟨by simp, by simp only; omega, rfl⟩
    rintro ⟨os, i⟩ ⟨i0, i1, hO⟩ hfx ag hag
    simp only at i0 i1 hO
    have hol : os.length ≤ 24 := by
      have := facA_len E i.toNat
      rw [hO, II_length]; omega
    conv => cbv
    simp only [stdEqs hL, imp_self, true_and, and_true, bif_or, bif_and, Bool.or_eq_true, Bool.or_eq_false_iff, Bool.and_eq_true, Bool.and_eq_false_iff, decide_eq_true_eq, decide_eq_false_iff_not, Bool.not_eq_true', Bool.not_eq_false', beq_iff_eq, beq_eq_false_iff_ne, ne_eq, toNat0, toNat1, ok_int, toI_int, I_frzs, I_length, I_getD, ok_ints, toL_slc, gv, hvl, ← hn]
    refine ⟨fun h2 => ?_, fun h2 => ?_⟩
    · rw [wrap_id (n := i + 1) (by omega) (by omega)]
      refine ⟨i0, by omega, by omega, fun h3 => ?_, fun h3 => ?_⟩
      · have hnx : os ++ [V.slc true 2 (.int .i64 0) [V.int .i64 i, V.int .i64 (E.getD i.toNat 0)]] = II true (facA E (i.toNat + 1)) := by
          rw [facA, if_pos h3, hO, show ((i.toNat : Nat) : Int) = i by omega, II_append, II_one]
          rfl
        (repeat' first | (exact solid_one _) | (exact solid1 rfl) | (exact noown_one _) | (apply And.intro) | (intro _)) <;> (try first | exact True.intro | omega | rfl | (simp only [List.length_cons, List.length_nil, I_length]; omega))
        refine hag (_, i + 1) ⟨by simp only; omega, by simp only; omega, ?_⟩ (by simp only; omega)
        simp only [toNat_succ i0]
        exact hnx
      · refine hag (os, i + 1) ⟨by simp only; omega, by simp only; omega, ?_⟩ (by simp only; omega)
        simp only [toNat_succ i0]
        rw [facA, if_neg h3, List.append_nil]; exact hO
    · rw [hr, hf0, hO, show i.toNat = P.length by omega]
  · cases h
def shN (a b : List Int) : Nat := (a.filter fun x => decide (x ∈ b)).length
theorem shN_take {a b : List Int} {i : Nat} (h : i < a.length) : shN (a.take (i + 1)) b = shN (a.take i) b + if a.getD i 0 ∈ b then 1 else 0 := by
  rw [shN, shN, List.take_succ_eq_append_getElem h, List.filter_append, List.length_append, getD_at h]
  congr 1
  by_cases hb : a.getD i 0 ∈ b
  · rw [List.filter_cons_of_pos (by simpa using hb), if_pos hb]; rfl
  · rw [List.filter_cons_of_neg (by simpa using hb), if_neg hb]; rfl
theorem shN_le (a b : List Int) : shN a b ≤ a.length := List.length_filter_le _ _
theorem shN_comm {a b : List Int} (ha : a.Nodup) (hb : b.Nodup) : shN a b = shN b a := by
  have hp : (a.filter fun x => decide (x ∈ b)).Perm (b.filter fun x => decide (x ∈ a)) := by
    rw [List.perm_ext_iff_of_nodup (ha.filter _) (hb.filter _)]
    intro x
    simp only [List.mem_filter, decide_eq_true_eq]
    exact ⟨fun h => ⟨h.2, h.1⟩, fun h => ⟨h.2, h.1⟩⟩
  exact hp.length_eq
def c_ll_i9 (f : List V → List V → Int) (q : List V → List V → Prop) : Contract := fun
  | [.slc false 2 (.int .i64 0) a0, .slc false 2 (.int .i64 0) a1] => some ([q a0 a1], .int .i64 (f a0 a1))
  | _ => none
def f_sh (a b : List V) : Int := shN (unI a) (unI b)
def q_sh (a b : List V) : Prop := IsIs a ∧ IsIs b
set_option maxHeartbeats 1000000 in
set_option maxRecDepth 100000 in
theorem s_impl_shared : Sat Try.prog 65 (c_ll_i9 f_sh q_sh) := by
  intro args ps r h hp
  unfold c_ll_i9 at h
  split at h
  · rename_i a0 a1
    simp only [Option.some.injEq, Prod.mk.injEq] at h
    obtain ⟨rfl, rfl⟩ := h
    obtain ⟨⟨⟨xs, hxs⟩, hxl1⟩, ⟨⟨ys, hys⟩, hyl1⟩⟩ : q_sh a0 a1 := (alls_cons.1 hp).1
    have g0 : V.frzs a0 = a0 := by rw [hxs, I_frzs]
    have g1 : V.frzs a1 = a1 := by rw [hys, I_frzs]
    have hxl : a0.length = xs.length := by rw [hxs, I_length]
    have gx : ∀ k, a0.getD k (.int .i64 0) = .int .i64 (xs.getD k 0) := fun k => by rw [hxs, I_getD]
    have hf0 : f_sh a0 a1 = shN xs ys := by rw [f_sh, hxs, hys, unI_I, unI_I]
    have hfh : ∀ x, f_has a1 x = decide (x ∈ ys) := fun x => by rw [f_has, hys, unI_I]; rw [Bool.eq_iff_iff]; simp
    rw [hxl] at hxl1
    obtain ⟨n, hn⟩ : ∃ n : Int, n = xs.length := ⟨_, rfl⟩
    generalize H_f_has : f_has = F_f_has
    generalize H_q_lI : q_lI = F_q_lI
    refine fnOk_ofI (T := tab) (B := [(99, c_lxi_b F_f_has F_q_lI)]) (Bi := []) [0, 1, 4, 5, 7, 8, 9, 10] Try.func65 rfl rfl (by kernel_rfl) (Nat.le_of_ble_eq_true rfl) mixed tabOk (by subst H_f_has H_q_lI; exact (bookCons s_slicesContains bookNil)) (by subst H_f_has H_q_lI; exact bookINil) (by kernel_rfl) ?_
    intro L lp rr hL hr hf hlp
    have Eh : ∀ x, F_f_has a1 x = decide (x ∈ ys) := by rw [← H_f_has]; exact hfh
    have Qh : ∀ x, F_q_lI a1 x := by rw [← H_q_lI]; exact fun x => ⟨⟨ys, hys⟩, hyl1⟩
    conv => cbv
    simp only [stdEqs hL, imp_self, true_and, and_true, bif_or, bif_and, Bool.or_eq_true, Bool.or_eq_false_iff, Bool.and_eq_true, Bool.and_eq_false_iff, decide_eq_true_eq, decide_eq_false_iff_not, Bool.not_eq_true', Bool.not_eq_false', beq_iff_eq, beq_eq_false_iff_ne, ne_eq, toNat0, toNat1, ok_int, toI_int, I_frzs, I_length, I_getD, ok_ints, toL_slc, g0, g1, hxl, ← hn]
    refine hlp (Int × Int) _ _ _ [1, 5, 8, 9, 10] (fun x => [(1, none, .val (.slc false 2 (.int .i64 0) a1)), (5, none, .val (.int .i64 x.1)), (8, none, .val (.slc false 2 (.int .i64 0) a0)), (9, none, .val (.int .i64 n)), (10, none, .val (.int .i64 x.2))])
      (fun x => 0 ≤ x.2 ∧ x.2 ≤ n ∧ x.1 = (shN (xs.take x.2.toNat) ys : Nat)) (fun x => (n - x.2).toNat) ((0, 0)) (by subst hL; rw [hn, ← hxl]; rfl) ?_ ?_
    · exact ⟨by simp, by simp only; omega, rfl⟩
    rintro ⟨m, i⟩ ⟨i0, i1, hM⟩ hfx ag hag
    simp only at i0 i1 hM
    have hml : shN (xs.take i.toNat) ys ≤ i.toNat := by
      have := shN_le (xs.take i.toNat) ys
      rw [List.length_take] at this
      omega
    conv => cbv
    simp only [stdEqs hL, imp_self, true_and, and_true, bif_or, bif_and, Bool.or_eq_true, Bool.or_eq_false_iff, Bool.and_eq_true, Bool.and_eq_false_iff, decide_eq_true_eq, decide_eq_false_iff_not, Bool.not_eq_true', Bool.not_eq_false', beq_iff_eq, beq_eq_false_iff_ne, ne_eq, toNat0, toNat1, ok_int, toI_int, I_frzs, I_length, I_getD, ok_ints, toL_slc, g0, g1, gx, hxl, Eh, decide_eq_true_eq, decide_eq_false_iff_not]
    refine ⟨fun h2 => ?_, fun h2 => ?_⟩
    · have hst := shN_take (b := ys) (show i.toNat < xs.length by omega)
      rw [wrap_id (n := i + 1) (by omega) (by omega), wrap_id (n := m + 1) (by omega) (by omega)]
      refine ⟨i0, by omega, Qh _, fun h3 => ?_, fun h3 => ?_⟩
      · refine hag (m + 1, i + 1) ⟨by simp only; omega, by simp only; omega, ?_⟩ (by simp only; omega)
        simp only [toNat_succ i0]
        rw [hst, if_pos h3]
        omega
      · refine hag (m, i + 1) ⟨by simp only; omega, by simp only; omega, ?_⟩ (by simp only; omega)
        simp only [toNat_succ i0]
        rw [hst, if_neg h3]
        omega
    · rw [hr, hf0, hM, List.take_of_length_le (by omega)]
  · cases h
end Go.Ax
