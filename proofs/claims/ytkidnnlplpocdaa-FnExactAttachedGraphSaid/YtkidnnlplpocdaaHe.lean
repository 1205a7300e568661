/-
  Graphs of clusters, both sides. No conditions but those of the contracts.
-/
import Derived.Test.YtkidnnlplpocdaaHd
set_option linter.all false
namespace Go.Ax
open Go.Proofs

def gwC (M : Nat → Nat → Int) (n : Nat) : List Int := tab' (fun i => M i i) n
def rowE (M : Nat → Nat → Int) (i k : Nat) : List (List Int) := ((List.range k).filter fun t => decide (i < t) && decide (M i t = 1)).map fun t : Nat => [(i : Int), (t : Int)]
def esC (M : Nat → Nat → Int) (n k : Nat) : List (List Int) := (List.range k).flatMap fun i => rowE M i n
theorem rowE_lo {M : Nat → Nat → Int} {i k : Nat} (h : k ≤ i + 1) : rowE M i k = [] := by
  rw [rowE, List.map_eq_nil_iff, List.filter_eq_nil_iff]
  intro t ht
  have := List.mem_range.1 ht
  simp only [Bool.and_eq_true, decide_eq_true_eq, not_and]
  omega
theorem rowE_succ {M : Nat → Nat → Int} {i k : Nat} (h : i < k) : rowE M i (k + 1) = rowE M i k ++ if M i k = 1 then [[(i : Int), (k : Int)]] else [] := by
  rw [rowE, rowE, List.range_succ, List.filter_append, List.map_append]
  congr 1
  by_cases h1 : M i k = 1
  · rw [if_pos h1]; simp [h, h1]
  · rw [if_neg h1]; simp [h1]
theorem esC_succ {M : Nat → Nat → Int} {n k : Nat} : esC M n (k + 1) = esC M n k ++ rowE M k n := by
  rw [esC, esC, List.range_succ, List.flatMap_append]
  simp
theorem rowE_len (M : Nat → Nat → Int) (i k : Nat) : (rowE M i k).length ≤ k := by
  rw [rowE, List.length_map]
  exact Nat.le_trans (List.length_filter_le _ _) (by simp)
theorem esC_len (M : Nat → Nat → Int) (n : Nat) : ∀ k, (esC M n k).length ≤ k * n
  | 0 => by simp [esC]
  | k + 1 => by
    rw [esC_succ, List.length_append, Nat.add_mul, Nat.one_mul]
    exact Nat.add_le_add (esC_len M n k) (rowE_len M k n)
def gM (P S : List Int) : Nat → Nat → Int := exc (prm P S) P.length
def f_gr (a b _ : List V) : List V × List V := (I (gwC (gM (unI a) (unI b)) a.length), II true (esC (gM (unI a) (unI b)) a.length a.length))
def c_K_G (f : List V → List V → List V → List V × List V) (q : List V → List V → List V → Prop) : Contract := fun
  | [.agg [.slc false 2 (.int .i64 0) a0, .slc false 2 (.int .i64 0) a1, .slc false 2 (.int .i64 0) a2]] => some ([q a0 a1 a2], .agg [.slc true 2 (.int .i64 0) ((f a0 a1 a2).1), .slc true 27 (.slc true 2 (.int .i64 0) []) ((f a0 a1 a2).2)])
  | _ => none
set_option maxRecDepth 100000 in
theorem s_impl_graphOf : Sat Try.prog 74 (c_K_G f_gr q_Kv) := by
  intro args ps r h hp
  unfold c_K_G at h
  split at h
  · rename_i a0 a1 a2
    simp only [Option.some.injEq, Prod.mk.injEq] at h
    obtain ⟨rfl, rfl⟩ := h
    have hqv : q_Kv a0 a1 a2 := (alls_cons.1 hp).1
    obtain ⟨⟨⟨P, hP⟩, ⟨S, hS⟩, ⟨Q, hQ⟩⟩, hcl⟩ := id hqv
    rw [hP, hS, hQ, unI_I, unI_I, unI_I] at hcl
    have g0 : V.frzs a0 = a0 := by rw [hP, I_frzs]
    have g1 : V.frzs a1 = a1 := by rw [hS, I_frzs]
    have g2 : V.frzs a2 = a2 := by rw [hQ, I_frzs]
    have hpl : a0.length = P.length := by rw [hP, I_length]
    have hsl : a1.length = P.length := by rw [hS, I_length, hcl.sl]
    have hql : a2.length = P.length := by rw [hQ, I_length, hcl.ql]
    have gp : ∀ k, a0.getD k (.int .i64 0) = .int .i64 (P.getD k 0) := fun k => by rw [hP, I_getD]
    have gs : ∀ k, a1.getD k (.int .i64 0) = .int .i64 (S.getD k 0) := fun k => by rw [hS, I_getD]
    have gq : ∀ k, a2.getD k (.int .i64 0) = .int .i64 (Q.getD k 0) := fun k => by rw [hQ, I_getD]
    obtain ⟨n, hn⟩ : ∃ n : Int, n = P.length := ⟨_, rfl⟩
    have n1 := hcl.n1
    have n24 := hcl.n24
    have low := fun t ht => hcl.low (i := t) ht
    obtain ⟨M, hM⟩ : ∃ M, M = gM P S := ⟨_, rfl⟩
    have hf0 : f_gr a0 a1 a2 = (I (gwC M P.length), II true (esC M P.length P.length)) := by rw [f_gr, hpl, hP, hS, unI_I, unI_I, hM]
    obtain ⟨vm, hvm⟩ : ∃ vm, vm = II true (T2 P.length M) := ⟨_, rfl⟩
    have hvml : vm.length = P.length := by rw [hvm, II_length, T2_len]
    have gvm : ∀ j, vm.getD j (.slc true 2 (.int .i64 0) []) = .slc true 2 (.int .i64 0) (I ((T2 P.length M).getD j [])) := fun j => by rw [hvm, II_getD]
    have grow : ∀ j, j < P.length → ((T2 P.length M).getD j []).length = P.length := fun j hj => by rw [T2_row _ hj, tab_len]
    have ggt : ∀ j k, j < P.length → k < P.length → ((T2 P.length M).getD j []).getD k 0 = M j k := fun j k hj hk => T2_get M hj hk
    generalize H_f_exc : f_exc = F_f_exc
    generalize H_q_Kv : q_Kv = F_q_Kv
    refine fnOk_ofI (T := tab) (B := [(139, c_K_m F_f_exc F_q_Kv)]) (Bi := []) [0, 1, 2, 3, 4, 5, 6, 11, 12, 13] Try.func74 rfl rfl (by kernel_rfl) (Nat.le_of_ble_eq_true rfl) mixed tabOk (by subst H_f_exc H_q_Kv; exact (bookCons s_impl_exceptionalMatrix bookNil)) (by subst H_f_exc H_q_Kv; exact bookINil) (by kernel_rfl) ?_
    intro L lp rr hL hr hf hlp
    have Em : F_f_exc a0 a1 a2 = vm := by rw [← H_f_exc, f_exc, hpl, hP, hS, unI_I, unI_I, hvm, hM]; rfl
    conv => cbv
    simp only [stdEqs hL, imp_self, true_and, and_true, bif_or, bif_and, Bool.or_eq_true, Bool.or_eq_false_iff, Bool.and_eq_true, Bool.and_eq_false_iff, decide_eq_true_eq, decide_eq_false_iff_not, Bool.not_eq_true', Bool.not_eq_false', beq_iff_eq, beq_eq_false_iff_ne, ne_eq, toNat0, toNat1, ok_int, toI_int, I_frzs, I_length, I_getD, ok_ints, toL_slc, g0, g1, g2, hpl, Em, hvml, ← hn]
    refine ⟨by rw [← H_q_Kv]; exact hqv, ?_⟩
    refine hlp ((List V × List V) × Int) _ _ _ [2, 3, 11, 12, 13] (fun x => [(2, none, .val (.box 48 (.agg [.slc true 2 (.int .i64 0) [], .slc true 27 (.slc true 2 (.int .i64 0) []) []]))), (3, none, .val (.box 48 (.agg [.slc true 2 (.int .i64 0) x.1.1, .slc true 27 (.slc true 2 (.int .i64 0) []) x.1.2]))), (11, none, .val (.slc true 27 (.slc true 2 (.int .i64 0) []) vm)), (12, none, .val (.int .i64 n)), (13, none, .val (.int .i64 x.2))])
      (fun x => 0 ≤ x.2 ∧ x.2 ≤ n ∧ x.1.1 = I (gwC M x.2.toNat) ∧ x.1.2 = II true (esC M P.length x.2.toNat)) (fun x => (n - x.2).toNat) ((([], []), 0)) (by subst hL; rw [hn, ← hvml]; rfl) ?_ ?_
    · exact ⟨by simp, by simp only; omega, rfl, rfl⟩
    rintro ⟨⟨ws, es⟩, i⟩ ⟨i0, i1, hW, hE⟩ hfx ag hag
    simp only at i0 i1 hW hE
    have hwl : ws.length = i.toNat := by rw [hW, I_length, gwC, tab_len]
    have hel : es.length ≤ 600 := by
      rw [hE, II_length]
      have h1 := esC_len M P.length i.toNat
      have h2 : i.toNat * P.length ≤ 24 * 24 := Nat.mul_le_mul (by omega) (by omega)
      omega
    conv => cbv
    simp only [stdEqs hL, imp_self, true_and, and_true, bif_or, bif_and, Bool.or_eq_true, Bool.or_eq_false_iff, Bool.and_eq_true, Bool.and_eq_false_iff, decide_eq_true_eq, decide_eq_false_iff_not, Bool.not_eq_true', Bool.not_eq_false', beq_iff_eq, beq_eq_false_iff_ne, ne_eq, toNat0, toNat1, ok_int, toI_int, I_frzs, I_length, I_getD, ok_ints, toL_slc, hvml, gvm, hwl]
    refine ⟨fun h2 => ?_, fun h2 => ?_⟩
    · obtain ⟨it, hit⟩ : ∃ it, it = i.toNat := ⟨_, rfl⟩
      have hin : it < P.length := by omega
      have hip : i < (P.length : Int) := by omega
      simp only [← hit, grow _ hin, ggt _ _ hin hin]
      rw [wrap_id (n := i + 1) (by omega) (by omega)]
      obtain ⟨w2, hw2⟩ : ∃ w2, w2 = ws ++ [V.int .i64 (M it it)] := ⟨_, rfl⟩
      have hw22 : w2 = I (gwC M (it + 1)) := by rw [hw2, hW, ← hit, gwC, gwC, tab_succ]; simp [I]
      rw [← hw2]
      refine ⟨i0, hip, hin, hin, i0, hip, hin, hin, rfl, by simp only [List.length_cons, List.length_nil]; omega, solid_one _, ?_⟩
      have hre : II true (esC M P.length it) = es := by rw [hE, hit]
      refine hlp (List V × Int) _ _ _ [2, 3, 4, 5, 6, 11, 12, 13] (fun x => [(2, none, .val (.box 48 (.agg [.slc true 2 (.int .i64 0) [], .slc true 27 (.slc true 2 (.int .i64 0) []) []]))), (3, none, .val (.box 48 (.agg [.slc true 2 (.int .i64 0) w2, .slc true 27 (.slc true 2 (.int .i64 0) []) x.1]))), (4, none, .val (.int .i64 i)), (5, none, .rf 11 0 [it]), (6, none, .val (.int .i64 x.2)), (11, none, .val (.slc true 27 (.slc true 2 (.int .i64 0) []) vm)), (12, none, .val (.int .i64 n)), (13, none, .val (.int .i64 i))])
        (fun x => i < x.2 ∧ x.2 ≤ n ∧ x.1 = II true (esC M P.length it ++ rowE M it x.2.toNat)) (fun x => (n - x.2).toNat) ((es, i + 1)) (by subst hL; rw [hn]; rfl) ?_ ?_
      · refine ⟨by simp only; omega, by simp only; omega, ?_⟩
        simp only [toNat_succ i0]
        rw [← hit, rowE_lo (Nat.le_refl _), List.append_nil, hre]
      rintro ⟨fs, k⟩ ⟨k0, k1, hF⟩ hfx2 ag2 hag2
      simp only at k0 k1 hF
      have hfl : fs.length ≤ 700 := by
        rw [hF, II_length, List.length_append]
        have h1 := rowE_len M it k.toNat
        have h2 := esC_len M P.length it
        have h3 : it * P.length ≤ 24 * 24 := Nat.mul_le_mul (by omega) (by omega)
        omega
      conv => cbv
      simp only [stdEqs hL, imp_self, true_and, and_true, bif_or, bif_and, Bool.or_eq_true, Bool.or_eq_false_iff, Bool.and_eq_true, Bool.and_eq_false_iff, decide_eq_true_eq, decide_eq_false_iff_not, Bool.not_eq_true', Bool.not_eq_false', beq_iff_eq, beq_eq_false_iff_ne, ne_eq, toNat0, toNat1, ok_int, toI_int, I_frzs, I_length, I_getD, ok_ints, toL_slc, hvml, gvm, hwl, ← hn, ← hit, grow _ hin]
      refine ⟨hin, fun h3 => ?_, fun h3 => ?_⟩
      · obtain ⟨kt, hkt⟩ : ∃ kt, kt = k.toNat := ⟨_, rfl⟩
        have hkn : kt < P.length := by omega
        have hkp : k < (P.length : Int) := by omega
        have hk0 : 0 ≤ k := by omega
        have hki : (kt : Int) = k := by omega
        have hii : (it : Int) = i := by omega
        simp only [← hkt, ggt _ _ hin hkn]
        rw [wrap_id (n := k + 1) (by omega) (by omega)]
        have hdec : (n - (k + 1)).toNat < (n - k).toNat := by omega
        have hre2 := rowE_succ (M := M) (i := it) (k := kt) (by omega)
        have q1 : ∀ v : V, (fs.length : Int) + ([v].length : Int) ≤ 2147483647 := fun v => by simp only [List.length_cons, List.length_nil]; omega
        refine ⟨hin, hk0, by omega, hin, hkn, fun h4 => ⟨q1 _, solid1 (by simp [V.solid, V.solids]), ?_⟩, fun h4 => ?_⟩
        · refine hag2 (_, k + 1) ⟨by simp only; omega, by simp only; omega, ?_⟩ hdec
          simp only [toNat_succ hk0]
          rw [← hkt, hre2, if_pos h4, hF, ← hkt, ← List.append_assoc, II_append (a := _ ++ _), hki, hii]
          rfl
        · refine hag2 (fs, k + 1) ⟨by simp only; omega, by simp only; omega, ?_⟩ hdec
          simp only [toNat_succ hk0]
          rw [← hkt, hre2, if_neg h4, List.append_nil, hF, ← hkt]
      · try rw [wrap_id (n := i + 1) (by omega) (by omega)]
        refine hag ((w2, fs), i + 1) ⟨by simp only; omega, by simp only; omega, ?_, ?_⟩ (by simp only; omega)
        · simp only [toNat_succ i0]; rw [← hit]; exact hw22
        · simp only [toNat_succ i0]; rw [← hit, hF, esC_succ, show k.toNat = P.length by omega]
    · rw [hr, hf0, hW, hE, show i.toNat = P.length by omega]
  · cases h
set_option maxRecDepth 100000 in
theorem s_spec_l12Graph : Sat Try.prog 72 (c_K_G f_gr q_Kv) := by
  intro args ps r h hp
  unfold c_K_G at h
  split at h
  · rename_i a0 a1 a2
    simp only [Option.some.injEq, Prod.mk.injEq] at h
    obtain ⟨rfl, rfl⟩ := h
    have hqv : q_Kv a0 a1 a2 := (alls_cons.1 hp).1
    obtain ⟨⟨⟨P, hP⟩, ⟨S, hS⟩, ⟨Q, hQ⟩⟩, hcl⟩ := id hqv
    rw [hP, hS, hQ, unI_I, unI_I, unI_I] at hcl
    have g0 : V.frzs a0 = a0 := by rw [hP, I_frzs]
    have g1 : V.frzs a1 = a1 := by rw [hS, I_frzs]
    have g2 : V.frzs a2 = a2 := by rw [hQ, I_frzs]
    have hpl : a0.length = P.length := by rw [hP, I_length]
    have hsl : a1.length = P.length := by rw [hS, I_length, hcl.sl]
    have hql : a2.length = P.length := by rw [hQ, I_length, hcl.ql]
    have gp : ∀ k, a0.getD k (.int .i64 0) = .int .i64 (P.getD k 0) := fun k => by rw [hP, I_getD]
    have gs : ∀ k, a1.getD k (.int .i64 0) = .int .i64 (S.getD k 0) := fun k => by rw [hS, I_getD]
    have gq : ∀ k, a2.getD k (.int .i64 0) = .int .i64 (Q.getD k 0) := fun k => by rw [hQ, I_getD]
    obtain ⟨n, hn⟩ : ∃ n : Int, n = P.length := ⟨_, rfl⟩
    have n1 := hcl.n1
    have n24 := hcl.n24
    have low := fun t ht => hcl.low (i := t) ht
    obtain ⟨M, hM⟩ : ∃ M, M = gM P S := ⟨_, rfl⟩
    have hf0 : f_gr a0 a1 a2 = (I (gwC M P.length), II true (esC M P.length P.length)) := by rw [f_gr, hpl, hP, hS, unI_I, unI_I, hM]
    obtain ⟨vm, hvm⟩ : ∃ vm, vm = II true (T2 P.length M) := ⟨_, rfl⟩
    have hvml : vm.length = P.length := by rw [hvm, II_length, T2_len]
    have gvm : ∀ j, vm.getD j (.slc true 2 (.int .i64 0) []) = .slc true 2 (.int .i64 0) (I ((T2 P.length M).getD j [])) := fun j => by rw [hvm, II_getD]
    have grow : ∀ j, j < P.length → ((T2 P.length M).getD j []).length = P.length := fun j hj => by rw [T2_row _ hj, tab_len]
    have ggt : ∀ j k, j < P.length → k < P.length → ((T2 P.length M).getD j []).getD k 0 = M j k := fun j k hj hk => T2_get M hj hk
    generalize H_f_exc : f_exc = F_f_exc
    generalize H_q_Kv : q_Kv = F_q_Kv
    refine fnOk_ofI (T := tab) (B := [(136, c_K_m F_f_exc F_q_Kv)]) (Bi := []) [0, 1, 2, 3, 4, 5, 6] Try.func72 rfl rfl (by kernel_rfl) (Nat.le_of_ble_eq_true rfl) mixed tabOk (by subst H_f_exc H_q_Kv; exact (bookCons s_spec_l07Meet bookNil)) (by subst H_f_exc H_q_Kv; exact bookINil) (by kernel_rfl) ?_
    intro L lp rr hL hr hf hlp
    have Em : F_f_exc a0 a1 a2 = vm := by rw [← H_f_exc, f_exc, hpl, hP, hS, unI_I, unI_I, hvm, hM]; rfl
    conv => cbv
    simp only [stdEqs hL, imp_self, true_and, and_true, bif_or, bif_and, Bool.or_eq_true, Bool.or_eq_false_iff, Bool.and_eq_true, Bool.and_eq_false_iff, decide_eq_true_eq, decide_eq_false_iff_not, Bool.not_eq_true', Bool.not_eq_false', beq_iff_eq, beq_eq_false_iff_ne, ne_eq, toNat0, toNat1, ok_int, toI_int, I_frzs, I_length, I_getD, ok_ints, toL_slc, g0, g1, g2, hpl, Em, hvml, ← hn]
    refine ⟨by rw [← H_q_Kv]; exact hqv, ?_⟩
    refine hlp ((List V × List V) × Int) _ _ _ [2, 3, 4, 5] (fun x => [(2, none, .val (.box 48 (.agg [.slc true 2 (.int .i64 0) [], .slc true 27 (.slc true 2 (.int .i64 0) []) []]))), (3, none, .val (.box 48 (.agg [.slc true 2 (.int .i64 0) x.1.1, .slc true 27 (.slc true 2 (.int .i64 0) []) x.1.2]))), (4, none, .val (.slc true 27 (.slc true 2 (.int .i64 0) []) vm)), (5, none, .val (.int .i64 x.2))])
      (fun x => 0 ≤ x.2 ∧ x.2 ≤ n ∧ x.1.1 = I (gwC M x.2.toNat) ∧ x.1.2 = II true (esC M P.length x.2.toNat)) (fun x => (n - x.2).toNat) ((([], []), 0)) (by subst hL; rfl) ?_ ?_
    · exact ⟨by simp, by simp only; omega, rfl, rfl⟩
    rintro ⟨⟨ws, es⟩, i⟩ ⟨i0, i1, hW, hE⟩ hfx ag hag
    simp only at i0 i1 hW hE
    have hwl : ws.length = i.toNat := by rw [hW, I_length, gwC, tab_len]
    have hel : es.length ≤ 600 := by
      rw [hE, II_length]
      have h1 := esC_len M P.length i.toNat
      have h2 : i.toNat * P.length ≤ 24 * 24 := Nat.mul_le_mul (by omega) (by omega)
      omega
    conv => cbv
    simp only [stdEqs hL, imp_self, true_and, and_true, bif_or, bif_and, Bool.or_eq_true, Bool.or_eq_false_iff, Bool.and_eq_true, Bool.and_eq_false_iff, decide_eq_true_eq, decide_eq_false_iff_not, Bool.not_eq_true', Bool.not_eq_false', beq_iff_eq, beq_eq_false_iff_ne, ne_eq, toNat0, toNat1, ok_int, toI_int, I_frzs, I_length, I_getD, ok_ints, toL_slc, hvml, gvm, hwl, ← hn]
    refine ⟨fun h2 => ?_, fun h2 => ?_⟩
    · obtain ⟨it, hit⟩ : ∃ it, it = i.toNat := ⟨_, rfl⟩
      have hin : it < P.length := by omega
      have hip : i < (P.length : Int) := by omega
      simp only [← hit, grow _ hin, ggt _ _ hin hin]
      rw [wrap_id (n := i + 1) (by omega) (by omega)]
      obtain ⟨w2, hw2⟩ : ∃ w2, w2 = ws ++ [V.int .i64 (M it it)] := ⟨_, rfl⟩
      have hw22 : w2 = I (gwC M (it + 1)) := by rw [hw2, hW, ← hit, gwC, gwC, tab_succ]; simp [I]
      rw [← hw2]
      refine ⟨i0, h2, hin, hin, i0, hip, hin, hin, rfl, by simp only [List.length_cons, List.length_nil]; omega, solid_one _, ?_⟩
      have hre : II true (esC M P.length it) = es := by rw [hE, hit]
      refine hlp (List V × Int) _ _ _ [2, 3, 4, 5, 6] (fun x => [(2, none, .val (.box 48 (.agg [.slc true 2 (.int .i64 0) [], .slc true 27 (.slc true 2 (.int .i64 0) []) []]))), (3, none, .val (.box 48 (.agg [.slc true 2 (.int .i64 0) w2, .slc true 27 (.slc true 2 (.int .i64 0) []) x.1]))), (4, none, .val (.slc true 27 (.slc true 2 (.int .i64 0) []) vm)), (5, none, .val (.int .i64 i)), (6, none, .val (.int .i64 x.2))])
        (fun x => i < x.2 ∧ x.2 ≤ n ∧ x.1 = II true (esC M P.length it ++ rowE M it x.2.toNat)) (fun x => (n - x.2).toNat) ((es, i + 1)) (by subst hL; rfl) ?_ ?_
      · refine ⟨by simp only; omega, by simp only; omega, ?_⟩
        simp only [toNat_succ i0]
        rw [← hit, rowE_lo (Nat.le_refl _), List.append_nil, hre]
      rintro ⟨fs, k⟩ ⟨k0, k1, hF⟩ hfx2 ag2 hag2
      simp only at k0 k1 hF
      have hfl : fs.length ≤ 700 := by
        rw [hF, II_length, List.length_append]
        have h1 := rowE_len M it k.toNat
        have h2 := esC_len M P.length it
        have h3 : it * P.length ≤ 24 * 24 := Nat.mul_le_mul (by omega) (by omega)
        omega
      conv => cbv
      simp only [stdEqs hL, imp_self, true_and, and_true, bif_or, bif_and, Bool.or_eq_true, Bool.or_eq_false_iff, Bool.and_eq_true, Bool.and_eq_false_iff, decide_eq_true_eq, decide_eq_false_iff_not, Bool.not_eq_true', Bool.not_eq_false', beq_iff_eq, beq_eq_false_iff_ne, ne_eq, toNat0, toNat1, ok_int, toI_int, I_frzs, I_length, I_getD, ok_ints, toL_slc, hvml, gvm, hwl, ← hn, ← hit, grow _ hin]
      refine ⟨fun h3 => ?_, fun h3 => ?_⟩
      · obtain ⟨kt, hkt⟩ : ∃ kt, kt = k.toNat := ⟨_, rfl⟩
        have hkn : kt < P.length := by omega
        have hkp : k < (P.length : Int) := by omega
        have hk0 : 0 ≤ k := by omega
        have hki : (kt : Int) = k := by omega
        have hii : (it : Int) = i := by omega
        simp only [← hkt, ggt _ _ hin hkn]
        rw [wrap_id (n := k + 1) (by omega) (by omega)]
        have hdec : (n - (k + 1)).toNat < (n - k).toNat := by omega
        have hre2 := rowE_succ (M := M) (i := it) (k := kt) (by omega)
        have q1 : ∀ v : V, (fs.length : Int) + ([v].length : Int) ≤ 2147483647 := fun v => by simp only [List.length_cons, List.length_nil]; omega
        refine ⟨i0, h2, hin, hin, hk0, h3, hin, hkn, fun h4 => ⟨q1 _, solid1 (by simp [V.solid, V.solids]), ?_⟩, fun h4 => ?_⟩
        · refine hag2 (_, k + 1) ⟨by simp only; omega, by simp only; omega, ?_⟩ hdec
          simp only [toNat_succ hk0]
          rw [← hkt, hre2, if_pos h4, hF, ← hkt, ← List.append_assoc, II_append (a := _ ++ _), hki, hii]
          rfl
        · refine hag2 (fs, k + 1) ⟨by simp only; omega, by simp only; omega, ?_⟩ hdec
          simp only [toNat_succ hk0]
          rw [← hkt, hre2, if_neg h4, List.append_nil, hF, ← hkt]
      · try rw [wrap_id (n := i + 1) (by omega) (by omega)]
        refine hag ((w2, fs), i + 1) ⟨by simp only; omega, by simp only; omega, ?_, ?_⟩ (by simp only; omega)
        · simp only [toNat_succ i0]; rw [← hit]; exact hw22
        · simp only [toNat_succ i0]; rw [← hit, hF, esC_succ, show k.toNat = P.length by omega]
    · rw [hr, hf0, hW, hE, show i.toNat = P.length by omega]
  · cases h
end Go.Ax
