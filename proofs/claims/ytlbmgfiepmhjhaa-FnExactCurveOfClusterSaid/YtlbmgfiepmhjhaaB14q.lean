import Derived.Test.YtlbmgfiepmhjhaaB09q
import Derived.Test.YtlbmgfiepmhjhaaB07q
/-
  Multiplicities of curvettes: impl.curvetteMultiplicities, spec.l06Curvette. No conditions but those of the contracts.
-/
set_option linter.all false
namespace Go.Ax
open Go.Proofs

theorem natL_set (l : List Nat) (i n : Nat) : (natL l).set i (n : Int) = natL (l.set i n) := by
  simp only [natL, List.map_set]
theorem natL_get (l : List Nat) (i : Nat) : (natL l).getD i 0 = ((l.getD i 0 : Nat) : Int) := natL_getD l i 0
theorem set_getK {α : Type} {l : List α} {i j : Nat} {x z : α} (hi : i < l.length) : (l.set i x).getD j z = if j = i then x else l.getD j z := by
  simp only [List.getD_eq_getElem?_getD, List.getElem?_set]
  by_cases h : j = i
  · rw [h, if_pos rfl, if_pos rfl, if_pos hi]; rfl
  · rw [if_neg (Ne.symm h), if_neg h]
theorem rep_nat (m : Nat) : List.replicate m (V.int .i64 0) = I (natL (List.replicate m 0)) := by
  rw [I, natL, List.map_replicate, List.map_replicate]
  rfl
theorem rep_getD (m k : Nat) : (List.replicate m (V.int .i64 0)).getD k (V.int .i64 0) = V.int .i64 0 := by
  rw [List.getD_eq_getElem?_getD, List.getElem?_replicate]
  split <;> rfl
def c_l_lb (f : List V → List V × Bool) (q : List V → Prop) : Contract := fun
  | [.slc false 2 (.int .i64 0) a0] => some ([q a0], .tup [.slc true 2 (.int .i64 0) ((f a0).1), .bool ((f a0).2)])
  | _ => none
def cvm (cs : List Nat) : List V × Bool := if (mC cs).tail.all (fun x => decide (x ≤ 64)) = true then (I (natL (mC cs)), decide (hdM cs ≤ 64)) else ([], false)
def f_cvm (a : List V) : List V × Bool := cvm (intL (unI a))
def q_cvm (a : List V) : Prop := ∃ cs, a = I (natL cs) ∧ VC cs ∧ cs.length ≤ 30
theorem cvm_bad {cs : List Nat} {j : Nat} (h1 : 1 ≤ j) (h2 : j ≤ cs.length) (h : 64 < hdM (cs.drop j)) : cvm cs = ([], false) := by
  rw [cvm, if_neg]
  intro ha
  rw [List.all_eq_true] at ha
  have hl := mC_len cs
  have h3 := mC_drop cs j h2
  obtain ⟨t, rfl⟩ : ∃ t, j = t + 1 := ⟨j - 1, by omega⟩
  rw [mC_head, List.getD_cons_succ] at h3
  have ht : t < (mC cs).tail.length := by rw [List.length_tail]; omega
  have h4 := ha _ (List.getElem_mem ht)
  rw [List.getD_eq_getElem?_getD, List.getElem?_eq_getElem ht] at h3
  simp only [Option.getD_some] at h3
  simp only [decide_eq_true_eq] at h4
  omega
theorem cvm_good {cs : List Nat} (h : ∀ i, 1 ≤ i → i ≤ cs.length → hdM (cs.drop i) ≤ 64) : cvm cs = (I (natL (mC cs)), decide (hdM cs ≤ 64)) := by
  rw [cvm, if_pos]
  rw [List.all_eq_true]
  intro x hx
  obtain ⟨t, ht, rfl⟩ := List.mem_iff_getElem.1 hx
  have hl := mC_len cs
  rw [List.length_tail] at ht
  have h1 := mC_drop cs (t + 1) (by omega)
  have h2 := h (t + 1) (by omega) (by omega)
  rw [← h1, mC_head, List.getD_cons_succ, List.getD_eq_getElem?_getD, List.getElem?_eq_getElem (by rw [List.length_tail]; omega)] at h2
  simpa using h2
set_option maxHeartbeats 1000000 in
set_option maxRecDepth 100000 in
theorem s_impl_curvetteMultiplicities : Sat Try.prog 111 (c_l_lb f_cvm q_cvm) := by
  intro args ps r h hp
  unfold c_l_lb at h
  split at h
  · rename_i a0
    simp only [Option.some.injEq, Prod.mk.injEq] at h
    obtain ⟨rfl, rfl⟩ := h
    obtain ⟨cs, hcs, hv, hl⟩ : q_cvm a0 := (alls_cons.1 hp).1
    have g0 : V.frzs a0 = a0 := by rw [hcs, I_frzs]
    have hal : a0.length = cs.length := by rw [hcs, I_length, natL_len]
    have ga : ∀ k, a0.getD k (.int .i64 0) = .int .i64 ((cs.getD k 0 : Nat) : Int) := fun k => by rw [hcs, I_getD, natL_get]
    have hf0 : f_cvm a0 = cvm cs := by rw [f_cvm, hcs, unI_I, int_nat]
    obtain ⟨n, hn⟩ : ∃ n : Int, n = cs.length := ⟨_, rfl⟩
    refine fnOk_ofI (T := tab) (B := [(1000000002, c_alias)]) (Bi := []) [2000012056, 0, 3, 4, 5, 6] Try.func111 rfl rfl (by kernel_rfl) (Nat.le_of_ble_eq_true rfl) mixed tabOk (by exact (bookCons s_alias bookNil)) (by exact bookINil) (by kernel_rfl) ?_
    intro L lp rr hL hr hf hlp
    conv => cbv
    simp only [stdEqs hL, imp_self, true_and, and_true, bif_or, bif_and, Bool.or_eq_true, Bool.or_eq_false_iff, Bool.and_eq_true, Bool.and_eq_false_iff, decide_eq_true_eq, decide_eq_false_iff_not, Bool.not_eq_true', Bool.not_eq_false', beq_iff_eq, beq_eq_false_iff_ne, ne_eq, toNat0, toNat1, ok_int, toI_int, I_frzs, I_length, I_getD, ok_ints, toL_slc, g0, hal, ← hn]
    rw [wrap_id (n := n + 1) (by omega) (by omega)]
    obtain ⟨s0, hs0⟩ : ∃ s0, s0 = (List.replicate (n + 1).toNat (V.int IntKind.i64 0)).set n.toNat (V.int IntKind.i64 1) := ⟨_, rfl⟩
    have hs00 : s0 = I (natL (mulA cs cs.length)) := by
      rw [hs0, mulA_start, show (n + 1).toNat = cs.length + 1 by omega, show n.toNat = cs.length by omega]
      have e := rep_nat (cs.length + 1)
      have e2 : (List.replicate (cs.length + 1) 0).set cs.length 1 = List.replicate cs.length 0 ++ [1] := by
        rw [List.replicate_succ', List.set_append_right _ _ (by simp)]
        simp
      rw [e, I_set, show (1 : Int) = ((1 : Nat) : Int) from rfl, natL_set, e2]
    rw [← hs0]
    rw [rep_getD, List.length_replicate]
    refine ⟨by omega, by omega, by omega, by omega, by omega, by omega, rfl, ?_⟩
    refine hlp (List V × Int) _ _ _ [0, 4, 5] (fun x => [(0, none, .val (.slc false 2 (.int .i64 0) a0)), (4, none, .val (.slc true 2 (.int .i64 0) x.1)), (5, none, .val (.int .i64 x.2))])
      (fun x => 0 ≤ x.2 ∧ x.2 ≤ n ∧ x.1 = I (natL (mulA cs x.2.toNat)) ∧ ∀ i : Nat, x.2 < i → i ≤ cs.length → hdM (cs.drop i) ≤ 64) (fun x => x.2.toNat) ((s0, n)) (by subst hL; rfl) ?_ ?_
    · exact ⟨by omega, by simp, by rw [hs00, hn]; rfl, fun i h1 h2 => by simp only at h1; omega⟩
    rintro ⟨ms, j⟩ ⟨j0, j1, hM, hbd⟩ hfx ag hag
    simp only at j0 j1 hM hbd
    have hml : ms.length = cs.length + 1 := by rw [hM, I_length, natL_len, mulA_len]
    have gm : ∀ k, ms.getD k (.int .i64 0) = .int .i64 (((mulA cs j.toNat).getD k 0 : Nat) : Int) := fun k => by rw [hM, I_getD, natL_get]
    conv => cbv
    simp only [stdEqs hL, imp_self, true_and, and_true, bif_or, bif_and, Bool.or_eq_true, Bool.or_eq_false_iff, Bool.and_eq_true, Bool.and_eq_false_iff, decide_eq_true_eq, decide_eq_false_iff_not, Bool.not_eq_true', Bool.not_eq_false', beq_iff_eq, beq_eq_false_iff_ne, ne_eq, toNat0, toNat1, ok_int, toI_int, I_frzs, I_length, I_getD, ok_ints, toL_slc, hal, ga, gm, hml]
    refine ⟨fun h2 => ?_, fun h2 => ?_⟩
    · obtain ⟨t, ht⟩ : ∃ t : Nat, j = t + 1 := ⟨(j - 1).toNat, by omega⟩
      have he : j.toNat = t + 1 := by omega
      have e1 : IntKind.wrap .i64 (j - 1) = (t : Int) := by rw [wrap_id (by omega) (by omega)]; omega
      obtain ⟨A, hA⟩ : ∃ A, A = mulA cs (t + 1) := ⟨_, rfl⟩
      rw [he, ← hA] at hM gm
      have hsm : ∀ i, i ≤ cs.length → A.getD i 0 ≤ 1984 := fun i hi => by
        rw [hA]
        have := mulA_small (cs := cs) (j := t + 1) (by omega) (fun i h1 h2 => hbd i (by omega) h2) i hi
        omega
      have hA1 : A.getD (t + 1) 0 = hdM (cs.drop (t + 1)) := by rw [hA, mulA_get (by omega), if_neg (by omega)]
      have hAl : A.length = cs.length + 1 := by rw [hA, mulA_len]
      have e3 : IntKind.wrap .i64 (((A.getD t 0 : Nat) : Int) + ((A.getD (t + 1) 0 : Nat) : Int)) = ((A.getD t 0 + A.getD (t + 1) 0 : Nat) : Int) := by
        have h1 := hsm t (by omega)
        have h2 := hsm (t + 1) (by omega)
        rw [wrap_id (by omega) (by omega)]; omega
      obtain ⟨c, hc⟩ : ∃ c, c = cs.getD t 0 := ⟨_, rfl⟩
      simp only [e1, he, ← hA, Int.toNat_natCast, e3, ← hc]
      refine ⟨j0, by omega, by omega, fun h3 => ?_, fun h3 => ⟨by omega, by omega, by omega, by omega, by omega, by omega, by omega, by omega, by omega, by omega, by omega, fun h4 => ?_, fun h4 => ?_⟩⟩
      · rw [hr, hf0, cvm_bad (j := t + 1) (by omega) (by omega) (by rw [← hA1]; omega)]
      · have hsat := mulA_sat hv (j := t) (c := c) (by omega) hc.symm (by omega)
        rw [← hA] at hsat
        obtain ⟨hs1, hs2, hs3⟩ := hsat
        have e4 : IntKind.wrap .i64 (j - (c : Int)) = ((t + 1 - c : Nat) : Int) := by rw [wrap_id (by omega) (by omega)]; omega
        have hset : ∀ i, i ≠ t → i < cs.length + 1 → (ms.set t (V.int .i64 ((A.getD t 0 + A.getD (t + 1) 0 : Nat) : Int))).getD i (.int .i64 0) = .int .i64 ((A.getD i 0 : Nat) : Int) := fun i hi hi2 => by
          rw [set_getK (by rw [hml]; omega), if_neg hi, gm]
        simp only [e4, Int.toNat_natCast, List.length_set, hml, hset (t + 1 - c) (by omega) (by omega), hset (t + 1) (by omega) (by omega)]
        have e5 : IntKind.wrap .i64 (((A.getD (t + 1 - c) 0 : Nat) : Int) + ((A.getD (t + 1) 0 : Nat) : Int)) = ((A.getD (t + 1 - c) 0 + A.getD (t + 1) 0 : Nat) : Int) := by
          have h1 := hsm (t + 1 - c) (by omega)
          have h2 := hsm (t + 1) (by omega)
          rw [wrap_id (by omega) (by omega)]; omega
        refine ⟨by omega, by omega, by omega, rfl, by omega, by omega, by omega, rfl, by omega, by omega, by omega, rfl, ?_⟩
        refine hag (_, (t : Int)) ⟨by simp only; omega, by simp only; omega, ?_, fun i h5 h6 => ?_⟩ (by simp only; omega)
        · show (ms.set t _).set (t + 1 - c) (V.int .i64 (IntKind.wrap .i64 (((A.getD (t + 1 - c) 0 : Nat) : Int) + ((A.getD (t + 1) 0 : Nat) : Int)))) = _
          rw [e5, hM, I_set, I_set, natL_set, natL_set, hs1]
          rfl
        · simp only at h5
          by_cases h7 : i = t + 1
          · rw [h7, ← hA1]; omega
          · exact hbd i (by omega) h6
      · have hfr := mulA_free hv (j := t) (by omega) (by rw [← hc]; omega)
        rw [← hA] at hfr
        refine hag (_, (t : Int)) ⟨by simp only; omega, by simp only; omega, ?_, fun i h5 h6 => ?_⟩ (by simp only; omega)
        · simp only
          rw [hM, I_set, natL_set, hfr]
          rfl
        · simp only at h5
          by_cases h7 : i = t + 1
          · rw [h7, ← hA1]; omega
          · exact hbd i (by omega) h6
    · have h3 : j = 0 := by omega
      refine ⟨by omega, by omega, by omega, ?_⟩
      have e0 : j.toNat = 0 := by omega
      rw [e0] at hM
      rw [hr, hf0, cvm_good (fun i h1 h2 => hbd i (by omega) h2), hM, e0, mulA_end]
      have e6 : decide ((((mC cs).getD 0 0 : Nat) : Int) ≤ 64) = decide (hdM cs ≤ 64) := by
        rw [hdM]
        exact decide_eq_decide.2 (by omega)
      rw [e6]
  · cases h
def nearC (cs : List Nat) (j : Nat) : List Nat := if j = 0 then [] else if cs.getD (j - 1) 0 = 0 then [j - 1] else [j - cs.getD (j - 1) 0, j - 1]
def c_lix_l (f : List V → Int → List V) (q : List V → Int → Prop) : Contract := fun
  | [.slc false 2 (.int .i64 0) a0, .int .i64 a1] => some ([q a0 a1], .slc true 2 (.int .i64 0) (f a0 a1))
  | _ => none
def f_px6 (a : List V) (j : Int) : List V := I (natL (nearC (intL (unI a)) j.toNat))
def q_px6 (a : List V) (j : Int) : Prop := ∃ cs, a = I (natL cs) ∧ VC cs ∧ cs.length ≤ 30 ∧ 0 ≤ j ∧ j ≤ cs.length
set_option maxHeartbeats 1000000 in
set_option maxRecDepth 100000 in
theorem s_spec_l06Proximates : Sat Try.prog 133 (c_lix_l f_px6 q_px6) := by
  intro args ps r h hp
  unfold c_lix_l at h
  split at h
  · rename_i a0 j
    simp only [Option.some.injEq, Prod.mk.injEq] at h
    obtain ⟨rfl, rfl⟩ := h
    obtain ⟨cs, hcs, hv, hl, j0, j1⟩ : q_px6 a0 j := (alls_cons.1 hp).1
    have g0 : V.frzs a0 = a0 := by rw [hcs, I_frzs]
    have hal : a0.length = cs.length := by rw [hcs, I_length, natL_len]
    have ga : ∀ k, a0.getD k (.int .i64 0) = .int .i64 ((cs.getD k 0 : Nat) : Int) := fun k => by rw [hcs, I_getD, natL_get]
    have hf0 : f_px6 a0 j = I (natL (nearC cs j.toNat)) := by rw [f_px6, hcs, unI_I, int_nat]
    refine fnOk_ofI (T := tab) (B := []) (Bi := []) [0, 1, 4] Try.func133 rfl rfl (by kernel_rfl) (Nat.le_of_ble_eq_true rfl) mixed tabOk (by exact bookNil) (by exact bookINil) (by kernel_rfl) ?_
    intro L lp rr hL hr hf hlp
    conv => cbv
    simp only [stdEqs hL, imp_self, true_and, and_true, bif_or, bif_and, Bool.or_eq_true, Bool.or_eq_false_iff, Bool.and_eq_true, Bool.and_eq_false_iff, decide_eq_true_eq, decide_eq_false_iff_not, Bool.not_eq_true', Bool.not_eq_false', beq_iff_eq, beq_eq_false_iff_ne, ne_eq, toNat0, toNat1, ok_int, toI_int, I_frzs, I_length, I_getD, ok_ints, toL_slc, g0, hal, ga]
    refine ⟨fun h1 => ?_, fun h1 => ?_⟩
    · rw [hr, hf0, nearC, if_pos (by omega)]
      rfl
    · obtain ⟨t, ht⟩ : ∃ t : Nat, j = t + 1 := ⟨(j - 1).toNat, by omega⟩
      have he : j.toNat = t + 1 := by omega
      have e1 : IntKind.wrap .i64 (j - 1) = (t : Int) := by rw [wrap_id (by omega) (by omega)]; omega
      have hle := hv.le t (by omega)
      rw [hr, hf0, nearC, if_neg (by omega), he, Nat.add_sub_cancel]
      simp only [e1, Int.toNat_natCast]
      refine ⟨by omega, by omega, fun h2 => ?_, fun h2 => ⟨by omega, by omega, ?_⟩⟩
      · rw [if_pos (by omega)]
        rfl
      · have e4 : IntKind.wrap .i64 (j - ((cs.getD t 0 : Nat) : Int)) = ((t + 1 - cs.getD t 0 : Nat) : Int) := by rw [wrap_id (by omega) (by omega)]; omega
        rw [if_neg (by omega), e4]
        rfl
  · cases h
def addI (A : List Nat) (j : Nat) (nl : List Nat) : Nat → List Nat
  | 0 => A
  | i + 1 => (addI A j nl i).set (nl.getD i 0) ((addI A j nl i).getD (nl.getD i 0) 0 + (addI A j nl i).getD j 0)
theorem addI_ok {A : List Nat} {j : Nat} {nl : List Nat} (h : ∀ i, i < nl.length → nl.getD i 0 ≠ j ∧ nl.getD i 0 < A.length) : ∀ i, i ≤ nl.length → (addI A j nl i).length = A.length ∧ (addI A j nl i).getD j 0 = A.getD j 0 ∧ ∀ x, (addI A j nl i).getD x 0 ≤ A.getD x 0 + i * A.getD j 0
  | 0, _ => ⟨rfl, rfl, fun x => by simp [addI]⟩
  | i + 1, hi => by
    obtain ⟨h1, h2, h3⟩ := addI_ok h i (by omega)
    obtain ⟨h4, h5⟩ := h i (by omega)
    refine ⟨by rw [addI, List.length_set, h1], ?_, fun x => ?_⟩
    · rw [addI, set_getK (by rw [h1]; exact h5), if_neg (Ne.symm h4)]; exact h2
    · rw [addI, set_getK (by rw [h1]; exact h5), Nat.add_mul]
      have := h3 x
      split
      · rename_i hx
        rw [← hx, h2]
        omega
      · omega
theorem addI_end {cs : List Nat} (hv : VC cs) {t : Nat} (h : t < cs.length) : addI (mulA cs (t + 1)) (t + 1) (nearC cs (t + 1)) (nearC cs (t + 1)).length = mulA cs t := by
  rw [nearC, if_neg (by omega), Nat.add_sub_cancel]
  by_cases hc : cs.getD t 0 = 0
  · rw [if_pos hc]
    exact mulA_free hv h hc
  · rw [if_neg hc]
    obtain ⟨h1, h2, h3⟩ := mulA_sat hv h rfl hc
    have hl := mulA_len cs (t + 1)
    simp only [List.length_cons, List.length_nil, addI, List.getD_cons_zero, List.getD_cons_succ]
    rw [set_getK (by omega), if_neg (by omega), set_getK (by omega), if_neg (by omega), List.set_comm _ _ (by omega)]
    exact h1
set_option maxHeartbeats 1000000 in
set_option maxRecDepth 100000 in
theorem s_spec_l06Curvette : Sat Try.prog 106 (c_l_lb f_cvm q_cvm) := by
  intro args ps r h hp
  unfold c_l_lb at h
  split at h
  · rename_i a0
    simp only [Option.some.injEq, Prod.mk.injEq] at h
    obtain ⟨rfl, rfl⟩ := h
    obtain ⟨cs, hcs, hv, hl⟩ : q_cvm a0 := (alls_cons.1 hp).1
    have g0 : V.frzs a0 = a0 := by rw [hcs, I_frzs]
    have hal : a0.length = cs.length := by rw [hcs, I_length, natL_len]
    have ga : ∀ k, a0.getD k (.int .i64 0) = .int .i64 ((cs.getD k 0 : Nat) : Int) := fun k => by rw [hcs, I_getD, natL_get]
    have hf0 : f_cvm a0 = cvm cs := by rw [f_cvm, hcs, unI_I, int_nat]
    have hfp : ∀ j, f_px6 a0 j = I (natL (nearC cs j.toNat)) := fun j => by rw [f_px6, hcs, unI_I, int_nat]
    have hqp : ∀ j : Int, 0 ≤ j → j ≤ cs.length → q_px6 a0 j := fun j h0 h1 => ⟨cs, hcs, hv, hl, h0, h1⟩
    obtain ⟨n, hn⟩ : ∃ n : Int, n = cs.length := ⟨_, rfl⟩
    generalize H_f_px6 : f_px6 = F_f_px6
    generalize H_q_px6 : q_px6 = F_q_px6
    refine fnOk_ofI (T := tab) (B := [(1000000002, c_alias), (133, c_lix_l F_f_px6 F_q_px6)]) (Bi := []) [2000014056, 0, 3, 4, 5, 6, 7, 8] Try.func106 rfl rfl (by kernel_rfl) (Nat.le_of_ble_eq_true rfl) mixed tabOk (by subst H_f_px6 H_q_px6; exact (bookCons s_alias (bookCons s_spec_l06Proximates bookNil))) (by subst H_f_px6 H_q_px6; exact bookINil) (by kernel_rfl) ?_
    intro L lp rr hL hr hf hlp
    have Ep : ∀ j, F_f_px6 a0 j = I (natL (nearC cs j.toNat)) := by rw [← H_f_px6]; exact hfp
    have Qp : ∀ j : Int, 0 ≤ j → j ≤ cs.length → F_q_px6 a0 j := by rw [← H_q_px6]; exact hqp
    conv => cbv
    simp only [stdEqs hL, imp_self, true_and, and_true, bif_or, bif_and, Bool.or_eq_true, Bool.or_eq_false_iff, Bool.and_eq_true, Bool.and_eq_false_iff, decide_eq_true_eq, decide_eq_false_iff_not, Bool.not_eq_true', Bool.not_eq_false', beq_iff_eq, beq_eq_false_iff_ne, ne_eq, toNat0, toNat1, ok_int, toI_int, I_frzs, I_length, I_getD, ok_ints, toL_slc, g0, hal, ← hn]
    rw [wrap_id (n := n + 1) (by omega) (by omega), wrap_id (n := n + 1 - 1) (by omega) (by omega), show n + 1 - 1 = n by omega]
    obtain ⟨s0, hs0⟩ : ∃ s0, s0 = (List.replicate (n + 1).toNat (V.int IntKind.i64 0)).set n.toNat (V.int IntKind.i64 1) := ⟨_, rfl⟩
    have hs00 : s0 = I (natL (mulA cs cs.length)) := by
      rw [hs0, mulA_start, show (n + 1).toNat = cs.length + 1 by omega, show n.toNat = cs.length by omega]
      have e := rep_nat (cs.length + 1)
      have e2 : (List.replicate (cs.length + 1) 0).set cs.length 1 = List.replicate cs.length 0 ++ [1] := by
        rw [List.replicate_succ', List.set_append_right _ _ (by simp)]
        simp
      rw [e, I_set, show (1 : Int) = ((1 : Nat) : Int) from rfl, natL_set, e2]
    rw [← hs0, rep_getD, List.length_replicate]
    refine ⟨by omega, by omega, by omega, by omega, by omega, by omega, rfl, ?_⟩
    refine hlp (List V × Int) _ _ _ [0, 5, 6] (fun x => [(0, none, .val (.slc false 2 (.int .i64 0) a0)), (5, none, .val (.slc true 2 (.int .i64 0) x.1)), (6, none, .val (.int .i64 x.2))])
      (fun x => 0 ≤ x.2 ∧ x.2 ≤ n ∧ x.1 = I (natL (mulA cs x.2.toNat)) ∧ ∀ i : Nat, x.2 < i → i ≤ cs.length → hdM (cs.drop i) ≤ 64) (fun x => x.2.toNat) ((s0, n)) (by subst hL; rfl) ?_ ?_
    · exact ⟨by omega, by simp, by rw [hs00, hn]; rfl, fun i h1 h2 => by simp only at h1; omega⟩
    rintro ⟨ms, j⟩ ⟨j0, j1, hM, hbd⟩ hfx ag hag
    simp only at j0 j1 hM hbd
    have hml : ms.length = cs.length + 1 := by rw [hM, I_length, natL_len, mulA_len]
    have gm : ∀ k, ms.getD k (.int .i64 0) = .int .i64 (((mulA cs j.toNat).getD k 0 : Nat) : Int) := fun k => by rw [hM, I_getD, natL_get]
    conv => cbv
    simp only [stdEqs hL, imp_self, true_and, and_true, bif_or, bif_and, Bool.or_eq_true, Bool.or_eq_false_iff, Bool.and_eq_true, Bool.and_eq_false_iff, decide_eq_true_eq, decide_eq_false_iff_not, Bool.not_eq_true', Bool.not_eq_false', beq_iff_eq, beq_eq_false_iff_ne, ne_eq, toNat0, toNat1, ok_int, toI_int, I_frzs, I_length, I_getD, ok_ints, toL_slc, g0, hal, ga, gm, hml, Ep]
    refine ⟨fun h2 => ?_, fun h2 => ?_⟩
    · obtain ⟨t, ht⟩ : ∃ t : Nat, j = t + 1 := ⟨(j - 1).toNat, by omega⟩
      have he : j.toNat = t + 1 := by omega
      obtain ⟨A, hA⟩ : ∃ A, A = mulA cs (t + 1) := ⟨_, rfl⟩
      rw [he, ← hA] at hM gm
      have hsm : ∀ i, A.getD i 0 ≤ 1984 := fun i => by
        by_cases hi : i ≤ cs.length
        · rw [hA]
          have := mulA_small (cs := cs) (j := t + 1) (by omega) (fun i h1 h2 => hbd i (by omega) h2) i hi
          omega
        · rw [List.getD_eq_getElem?_getD, List.getElem?_eq_none (by rw [hA, mulA_len]; omega)]
          exact Nat.zero_le _
      have hA1 : A.getD (t + 1) 0 = hdM (cs.drop (t + 1)) := by rw [hA, mulA_get (by omega), if_neg (by omega)]
      have hAl : A.length = cs.length + 1 := by rw [hA, mulA_len]
      obtain ⟨nl, hnl⟩ : ∃ nl, nl = nearC cs (t + 1) := ⟨_, rfl⟩
      obtain ⟨vn, hvn⟩ : ∃ vn, vn = I (natL nl) := ⟨_, rfl⟩
      have hnok : nl.length ≤ 2 ∧ ∀ i, i < nl.length → nl.getD i 0 ≠ t + 1 ∧ nl.getD i 0 < A.length := by
        have hle := hv.le t (by omega)
        rw [hnl, nearC, if_neg (by omega), Nat.add_sub_cancel]
        split
        · refine ⟨by simp, fun i hi => ?_⟩
          have : i = 0 := by simp at hi; omega
          subst this
          simp only [List.getD_cons_zero]
          omega
        · refine ⟨by simp, fun i hi => ?_⟩
          have : i = 0 ∨ i = 1 := by simp at hi; omega
          rcases this with rfl | rfl
          · simp only [List.getD_cons_zero]
            omega
          · simp only [List.getD_cons_succ, List.getD_cons_zero]
            omega
      have hvl : vn.length = nl.length := by rw [hvn, I_length, natL_len]
      have gvn : ∀ k, vn.getD k (.int .i64 0) = .int .i64 ((nl.getD k 0 : Nat) : Int) := fun k => by rw [hvn, I_getD, natL_get]
      have hend := addI_end hv (t := t) (by omega)
      rw [← hA, ← hnl] at hend
      simp only [he, ← hA, ← hnl, ← hvn]
      refine ⟨j0, by omega, by omega, fun h3 => ?_, fun h3 => ⟨Qp j j0 (by omega), ?_⟩⟩
      · rw [hr, hf0, cvm_bad (j := t + 1) (by omega) (by omega) (by rw [← hA1]; omega)]
      have h3' : A.getD (t + 1) 0 ≤ 64 := by omega
      refine hlp (List V × Int) _ _ _ [0, 5, 6, 7, 8] (fun x => [(0, none, .val (.slc false 2 (.int .i64 0) a0)), (5, none, .val (.slc true 2 (.int .i64 0) x.1)), (6, none, .val (.int .i64 j)), (7, none, .val (.slc true 2 (.int .i64 0) vn)), (8, none, .val (.int .i64 x.2))])
        (fun x => 0 ≤ x.2 ∧ x.2 ≤ nl.length ∧ x.1 = I (natL (addI A (t + 1) nl x.2.toNat))) (fun x => (nl.length - x.2).toNat) ((ms, 0)) (by subst hL; rfl) ?_ ?_
      · exact ⟨by simp, by simp, hM⟩
      rintro ⟨bs, i⟩ ⟨i0, i1, hB⟩ hfx2 ag2 hag2
      simp only at i0 i1 hB
      obtain ⟨B, hBB⟩ : ∃ B, B = addI A (t + 1) nl i.toNat := ⟨_, rfl⟩
      obtain ⟨b1, b2, b3⟩ := addI_ok hnok.2 i.toNat (by omega)
      rw [← hBB] at hB b1 b2 b3
      have hbl : bs.length = cs.length + 1 := by rw [hB, I_length, natL_len, b1, hAl]
      have gb : ∀ k, bs.getD k (.int .i64 0) = .int .i64 ((B.getD k 0 : Nat) : Int) := fun k => by rw [hB, I_getD, natL_get]
      have hBs : ∀ k, B.getD k 0 ≤ 2112 := fun k => by
        have h4 := b3 k
        have h5 := hsm k
        have h6 : i.toNat * A.getD (t + 1) 0 ≤ 2 * 64 := Nat.mul_le_mul (by omega) h3'
        omega
      conv => cbv
      simp only [stdEqs hL, imp_self, true_and, and_true, bif_or, bif_and, Bool.or_eq_true, Bool.or_eq_false_iff, Bool.and_eq_true, Bool.and_eq_false_iff, decide_eq_true_eq, decide_eq_false_iff_not, Bool.not_eq_true', Bool.not_eq_false', beq_iff_eq, beq_eq_false_iff_ne, ne_eq, toNat0, toNat1, ok_int, toI_int, I_frzs, I_length, I_getD, ok_ints, toL_slc, gvn, hvl, gb, hbl]
      refine ⟨fun h4 => ?_, fun h4 => ?_⟩
      · obtain ⟨k, hk⟩ : ∃ k, k = nl.getD i.toNat 0 := ⟨_, rfl⟩
        obtain ⟨k1, k2⟩ := hnok.2 i.toNat (by omega)
        rw [← hk] at k1 k2
        simp only [← hk, he, Int.toNat_natCast]
        have hk2 := hBs k
        have hk3 := hBs (t + 1)
        have e5 : IntKind.wrap .i64 (((B.getD k 0 : Nat) : Int) + ((B.getD (t + 1) 0 : Nat) : Int)) = ((B.getD k 0 + B.getD (t + 1) 0 : Nat) : Int) := by
          rw [wrap_id (by omega) (by omega)]; omega
        rw [e5, wrap_id (n := i + 1) (by omega) (by omega)]
        refine ⟨by omega, by omega, by omega, by omega, by omega, by omega, by omega, by omega, by omega, by omega, by omega, by omega, by omega, by omega, by omega, ?_⟩
        refine hag2 (_, i + 1) ⟨by simp only; omega, by simp only; omega, ?_⟩ (by simp only; omega)
        simp only [toNat_succ i0]
        rw [addI, ← hBB, ← hk, hB, I_set, natL_set]
      · rw [wrap_id (n := j - 1) (by omega) (by omega)]
        refine hag (bs, j - 1) ⟨by simp only; omega, by simp only; omega, ?_, fun q h5 h6 => ?_⟩ (by simp only; omega)
        · simp only
          rw [hB, hBB, show i.toNat = nl.length by omega, hend, show (j - 1).toNat = t by omega]
        · simp only at h5
          by_cases h7 : q = t + 1
          · rw [h7, ← hA1]; omega
          · exact hbd q (by omega) h6
    · have h3 : j = 0 := by omega
      have e0 : j.toNat = 0 := by omega
      rw [e0] at hM
      refine ⟨by omega, by omega, by omega, ?_⟩
      rw [hr, hf0, cvm_good (fun i h1 h2 => hbd i (by omega) h2), hM, e0, mulA_end]
      have e6 : decide ((((mC cs).getD 0 0 : Nat) : Int) ≤ 64) = decide (hdM cs ≤ 64) := by
        rw [hdM]
        exact decide_eq_decide.2 (by omega)
      rw [e6]
  · cases h
def c_l_b6 (f : List V → Bool) (q : List V → Prop) : Contract := fun
  | [.slc false 2 (.int .i64 0) a0] => some ([q a0], .bool (f a0))
  | _ => none
def f_yes6 (_ : List V) : Bool := true
set_option maxHeartbeats 1000000 in
set_option maxRecDepth 100000 in
theorem s_spec_l06Is : Sat Try.prog 105 (c_l_b6 f_yes6 q_cvm) := by
  intro args ps r h hp
  unfold c_l_b6 at h
  split at h
  · rename_i a0
    simp only [Option.some.injEq, Prod.mk.injEq] at h
    obtain ⟨rfl, rfl⟩ := h
    obtain ⟨cs, hcs, hv, hl⟩ : q_cvm a0 := (alls_cons.1 hp).1
    have g0 : V.frzs a0 = a0 := by rw [hcs, I_frzs]
    have hal : a0.length = cs.length := by rw [hcs, I_length, natL_len]
    have ga : ∀ k, a0.getD k (.int .i64 0) = .int .i64 ((cs.getD k 0 : Nat) : Int) := fun k => by rw [hcs, I_getD, natL_get]
    refine fnOk_ofI (T := tab) (B := []) (Bi := []) [0, 2, 3] Try.func105 rfl rfl (by kernel_rfl) (Nat.le_of_ble_eq_true rfl) mixed tabOk (by exact bookNil) (by exact bookINil) (by kernel_rfl) ?_
    intro L lp rr hL hr hf hlp
    conv => cbv
    refine hlp (Int) _ _ _ [0, 3] (fun x => [(0, none, .val (.slc false 2 (.int .i64 0) a0)), (3, none, .val (.int .i64 x))])
      (fun x => 0 ≤ x ∧ x ≤ cs.length) (fun x => (cs.length - x).toNat) (0) (by subst hL; rfl) ?_ ?_
    · exact ⟨by simp, by simp⟩
    rintro i ⟨i0, i1⟩ hfx ag hag
    conv => cbv
    simp only [stdEqs hL, imp_self, true_and, and_true, bif_or, bif_and, Bool.or_eq_true, Bool.or_eq_false_iff, Bool.and_eq_true, Bool.and_eq_false_iff, decide_eq_true_eq, decide_eq_false_iff_not, Bool.not_eq_true', Bool.not_eq_false', beq_iff_eq, beq_eq_false_iff_ne, ne_eq, toNat0, toNat1, ok_int, toI_int, I_frzs, I_length, I_getD, ok_ints, toL_slc, g0, hal, ga]
    have hnx : i < cs.length → ag [(0, none, A.val (V.slc false 2 (V.int .i64 0) a0)), (3, none, A.val (V.int .i64 (IntKind.wrap .i64 (i + 1))))] := fun h => by
      rw [wrap_id (n := i + 1) (by omega) (by omega)]
      exact hag (i + 1) ⟨by omega, by omega⟩ (by omega)
    refine ⟨fun h2 => ⟨i0, h2, fun h3 => hnx h2, fun h3 => ?_⟩, fun h2 => ?_⟩
    · have hvi := hv i.toNat (by omega)
      have e1 : i ≠ 0 → IntKind.wrap .i64 (i - 1) = i - 1 := fun h => wrap_id (by omega) (by omega)
      rcases hvi with h4 | ⟨h4, h5⟩
      · omega
      · rw [e1 (by omega), show (i - 1).toNat = i.toNat - 1 by omega]
        refine ⟨fun h6 => by omega, fun h6 => ⟨i0, h2, fun h7 => hnx h2, fun h7 => ?_⟩⟩
        rcases h5 with h5 | ⟨h5, h8⟩
        · omega
        have hle := hv.le i.toNat (by omega)
        have e2 : IntKind.wrap .i64 (((cs.getD (i.toNat - 1) 0 : Nat) : Int) + 1) = ((cs.getD i.toNat 0 : Nat) : Int) := by
          rw [wrap_id (by omega) (by omega)]; omega
        rw [e2]
        refine ⟨by omega, by omega, fun _ => i0, fun _ => h2, fun _ => trivial, fun _ => by omega, fun _ => by omega, fun _ => trivial, fun h9 => ?_, fun h9 => hnx h2⟩
        rcases h9 with h9 | h9
        · omega
        · exact absurd rfl h9
    · rw [hr, f_yes6]
      have : decide ((cs.length : Int) < 400) = true := by rw [decide_eq_true_eq]; omega
      rw [this]
  · cases h
def c_i_l6 (f : Int → List V) (q : Int → Prop) : Contract := fun
  | [.int .i64 a0] => some ([q a0], .slc true 2 (.int .i64 0) (f a0))
  | _ => none
def f_one6 (k : Int) : List V := I (natL (List.replicate k.toNat 1))
def q_one6 (k : Int) : Prop := 0 ≤ k ∧ k ≤ 1000
set_option maxHeartbeats 1000000 in
set_option maxRecDepth 100000 in
theorem s_spec_l06Ones : Sat Try.prog 108 (c_i_l6 f_one6 q_one6) := by
  intro args ps r h hp
  unfold c_i_l6 at h
  split at h
  · rename_i k
    simp only [Option.some.injEq, Prod.mk.injEq] at h
    obtain ⟨rfl, rfl⟩ := h
    obtain ⟨k0, k1⟩ : q_one6 k := (alls_cons.1 hp).1
    refine fnOk_ofI (T := tab) (B := []) (Bi := []) [0, 2, 3] Try.func108 rfl rfl (by kernel_rfl) (Nat.le_of_ble_eq_true rfl) mixed tabOk (by exact bookNil) (by exact bookINil) (by kernel_rfl) ?_
    intro L lp rr hL hr hf hlp
    conv => cbv
    refine hlp (List V × Int) _ _ _ [0, 3] (fun x => [(0, none, .val (.int .i64 x.2)), (3, none, .val (.slc true 2 (.int .i64 0) x.1))])
      (fun x => 0 ≤ x.2 ∧ x.2 ≤ k ∧ x.1 = I (natL (List.replicate (k - x.2).toNat 1))) (fun x => x.2.toNat) (([], k)) (by subst hL; rfl) ?_ ?_
    · exact ⟨by simp only; omega, by simp, by simp [natL, I]⟩
    rintro ⟨os, j⟩ ⟨j0, j1, hO⟩ hfx ag hag
    simp only at j0 j1 hO
    have hol : os.length ≤ 1000 := by rw [hO, I_length, natL_len, List.length_replicate]; omega
    conv => cbv
    simp only [stdEqs hL, imp_self, true_and, and_true, bif_or, bif_and, Bool.or_eq_true, Bool.or_eq_false_iff, Bool.and_eq_true, Bool.and_eq_false_iff, decide_eq_true_eq, decide_eq_false_iff_not, Bool.not_eq_true', Bool.not_eq_false', beq_iff_eq, beq_eq_false_iff_ne, ne_eq, toNat0, toNat1, ok_int, toI_int, I_frzs, I_length, I_getD, ok_ints, toL_slc, true_and]
    refine ⟨fun h2 => ?_, fun h2 => ?_⟩
    · rw [wrap_id (n := j - 1) (by omega) (by omega)]
      (repeat' first | (exact solid_one _) | (exact solid1 rfl) | (exact noown_one _) | (apply And.intro) | (intro _)) <;> (try first | exact True.intro | omega | rfl | (simp only [List.length_cons, List.length_nil, I_length]; omega))
      refine hag (_, j - 1) ⟨by simp only; omega, by simp only; omega, ?_⟩ (by simp only; omega)
      simp only
      rw [hO, show (k - (j - 1)).toNat = (k - j).toNat + 1 by omega, List.replicate_succ', natL_append, ← I_append]
      rfl
    · rw [hr, f_one6, hO, show (k - j).toNat = k.toNat by omega]
  · cases h
end Go.Ax
