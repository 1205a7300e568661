import Derived.Test.YtlbmgfiepmhjhaaB14q
import Derived.Test.YtlbmgfiepmhjhaaB19q
import Derived.Test.YtlbmgfiepmhjhaaB21q
import Derived.Test.YtlbmgfiepmhjhaaB06q
import Derived.Test.YtlbmgfiepmhjhaaB18q
import Derived.Test.YtlbmgfiepmhjhaaB20q
import Derived.Test.YtlbmgfiepmhjhaaB17q
import Derived.Test.YtlbmgfiepmhjhaaB12q
/-
  Curvettes of codes: impl.curvette, spec.CurvetteOfCode. No conditions but those of the contracts.
-/
set_option linter.all false
namespace Go.Ax
open Go.Proofs

def okC (cs : List Nat) : Bool := (mC cs).all fun x => decide (x ≤ 64)
def curB (cs : List Nat) : List Int := bosI (natL (mC cs))
def f_cur (a : List V) : List V × Int := bif okC (intL (unI a)) then (I (curB (intL (unI a))), 0) else ([], 5)
theorem cvm_yes {cs : List Nat} (h : okC cs = true) : cvm cs = (I (natL (mC cs)), true) := by
  rw [okC, mC_head, List.all_cons, Bool.and_eq_true, decide_eq_true_eq] at h
  rw [cvm, if_pos h.2, decide_eq_true h.1]
theorem cvm_no {cs : List Nat} (h : okC cs = false) : (cvm cs).2 = false := by
  rw [okC, mC_head, List.all_cons, Bool.and_eq_false_iff, decide_eq_false_iff_not] at h
  rw [cvm]
  split
  · rename_i h2
    rcases h with h | h
    · exact decide_eq_false h
    · rw [h2] at h; cases h
  · rfl
theorem okC_seq {cs : List Nat} (hl : cs.length ≤ 30) (h : okC cs = true) : ∃ n l m, BrN n l ∧ mC cs = chN 0 n l ++ List.replicate m 1 := by
  obtain ⟨n, l, m, h1, h2, _, _⟩ := mC_seq cs hl (fun x hx => by
    rw [okC, List.all_eq_true] at h
    simpa using h x hx)
  exact ⟨n, l, m, h1, h2⟩
theorem mC_ne (cs : List Nat) : mC cs ≠ [] := by rw [mC_head]; simp
theorem seq_more {cs : List Nat} (hl : cs.length ≤ 30) (h : okC cs = true) (k : Nat) : (∃ n l, SeqB n l (natL (mC cs ++ List.replicate k 1))) ∧ bosI (natL (mC cs ++ List.replicate k 1)) = curB cs := by
  obtain ⟨n, l, m, h1, h2⟩ := okC_seq hl h
  have hne : ∀ k, natL (mC cs ++ List.replicate k 1) ≠ [] := fun k => by
    rw [natL]
    simp [mC_ne]
  have hs : ∀ k, SeqB n l (natL (mC cs ++ List.replicate k 1)) := fun k => ⟨h1, hne k, m + k, by rw [h2, List.append_assoc, List.replicate_append_replicate]⟩
  refine ⟨⟨n, l, hs k⟩, ?_⟩
  have h0 := hs 0
  rw [List.replicate_zero, List.append_nil] at h0
  rw [curB, bosI_eq (hs k), bosI_eq h0]
set_option maxHeartbeats 1000000 in
set_option maxRecDepth 100000 in
theorem s_impl_curvette : Sat Try.prog 97 (c_l_Bi f_cur q_cvm) := by
  intro args ps r h hp
  unfold c_l_Bi at h
  split at h
  · rename_i a0
    simp only [Option.some.injEq, Prod.mk.injEq] at h
    obtain ⟨rfl, rfl⟩ := h
    have hq : q_cvm a0 := (alls_cons.1 hp).1
    obtain ⟨cs, hcs, hv, hl⟩ := id hq
    have g0 : V.frzs a0 = a0 := by rw [hcs, I_frzs]
    have hf0 : f_cur a0 = bif okC cs then (I (curB cs), 0) else ([], 5) := by rw [f_cur, hcs, unI_I, int_nat]
    have hfm : f_cvm a0 = cvm cs := by rw [f_cvm, hcs, unI_I, int_nat]
    have hbos : f_bos (I (natL (mC cs))) = (I (curB cs), true) := by rw [f_bos, unI_I, curB]
    have hqb : okC cs = true → q_bos (I (natL (mC cs))) := fun h => by
      obtain ⟨⟨n, l, hs⟩, _⟩ := seq_more hl h 0
      rw [List.replicate_zero, List.append_nil] at hs
      exact ⟨n, l, _, rfl, hs, by rw [natL_len, mC_len]; omega⟩
    generalize H_f_cvm : f_cvm = F_f_cvm
    generalize H_q_cvm : q_cvm = F_q_cvm
    generalize H_f_bos : f_bos = F_f_bos
    generalize H_q_bos : q_bos = F_q_bos
    refine fnOk_ofI (T := tab) (B := [(111, c_l_lb F_f_cvm F_q_cvm), (112, c_l_Bb F_f_bos F_q_bos)]) (Bi := []) [0, 2, 3, 4, 5, 6] Try.func97 rfl rfl (by kernel_rfl) (Nat.le_of_ble_eq_true rfl) mixed tabOk (by subst H_f_cvm H_q_cvm H_f_bos H_q_bos; exact (bookCons s_impl_curvetteMultiplicities (bookCons s_impl_branchOfSequence bookNil))) (by subst H_f_cvm H_q_cvm H_f_bos H_q_bos; exact bookINil) (by kernel_rfl) ?_
    intro L lp rr hL hr hf hlp
    conv => cbv
    simp only [stdEqs hL, imp_self, true_and, and_true, bif_or, bif_and, Bool.or_eq_true, Bool.or_eq_false_iff, Bool.and_eq_true, Bool.and_eq_false_iff, decide_eq_true_eq, decide_eq_false_iff_not, Bool.not_eq_true', Bool.not_eq_false', beq_iff_eq, beq_eq_false_iff_ne, ne_eq, toNat0, toNat1, ok_int, toI_int, I_frzs, I_length, I_getD, ok_ints, toL_slc, g0]
    subst H_f_cvm H_q_cvm H_f_bos H_q_bos
    rw [hfm]
    cases hok : okC cs with
    | true =>
      rw [cvm_yes hok]
      dsimp only
      rw [I_frzs, hbos]
      refine ⟨hq, fun h => (by cases h), fun _ => ⟨hqb hok, I_noFzs _, fun h => (by cases h), fun _ => ?_⟩⟩
      rw [hr, hf0, hok]
      rfl
    | false =>
      have h2 := cvm_no hok
      refine ⟨hq, fun _ => ?_, fun h => (nomatch (h.symm.trans h2 : true = false))⟩
      rw [hr, hf0, hok]
      rfl
  · cases h
set_option maxHeartbeats 1000000 in
set_option maxRecDepth 100000 in
theorem s_spec_CurvetteOfCode : Sat Try.prog 91 (c_l_Bi f_cur q_cvm) := by
  intro args ps r h hp
  unfold c_l_Bi at h
  split at h
  · rename_i a0
    simp only [Option.some.injEq, Prod.mk.injEq] at h
    obtain ⟨rfl, rfl⟩ := h
    have hq : q_cvm a0 := (alls_cons.1 hp).1
    obtain ⟨cs, hcs, hv, hl⟩ := id hq
    have g0 : V.frzs a0 = a0 := by rw [hcs, I_frzs]
    have hf0 : f_cur a0 = bif okC cs then (I (curB cs), 0) else ([], 5) := by rw [f_cur, hcs, unI_I, int_nat]
    have hfm : f_cvm a0 = cvm cs := by rw [f_cvm, hcs, unI_I, int_nat]
    generalize H_f_yes6 : f_yes6 = F_f_yes6
    generalize H_q_cvm : q_cvm = F_q_cvm
    generalize H_f_cvm : f_cvm = F_f_cvm
    generalize H_f_one6 : f_one6 = F_f_one6
    generalize H_q_one6 : q_one6 = F_q_one6
    generalize H_f_bos : f_bos = F_f_bos
    generalize H_q_l4b : q_l4b = F_q_l4b
    refine fnOk_ofI (T := tab) (B := [(105, c_l_b6 F_f_yes6 F_q_cvm), (106, c_l_lb F_f_cvm F_q_cvm), (108, c_i_l6 F_f_one6 F_q_one6), (107, c_l_Bb F_f_bos F_q_l4b)]) (Bi := []) [0, 2, 3, 4, 5, 6, 7] Try.func91 rfl rfl (by kernel_rfl) (Nat.le_of_ble_eq_true rfl) mixed tabOk (by subst H_f_yes6 H_q_cvm H_f_cvm H_f_one6 H_q_one6 H_f_bos H_q_l4b; exact (bookCons s_spec_l06Is (bookCons s_spec_l06Curvette (bookCons s_spec_l06Ones (bookCons s_spec_l04Branch bookNil))))) (by subst H_f_yes6 H_q_cvm H_f_cvm H_f_one6 H_q_one6 H_f_bos H_q_l4b; exact bookINil) (by kernel_rfl) ?_
    intro L lp rr hL hr hf hlp
    conv => cbv
    simp only [stdEqs hL, imp_self, true_and, and_true, bif_or, bif_and, Bool.or_eq_true, Bool.or_eq_false_iff, Bool.and_eq_true, Bool.and_eq_false_iff, decide_eq_true_eq, decide_eq_false_iff_not, Bool.not_eq_true', Bool.not_eq_false', beq_iff_eq, beq_eq_false_iff_ne, ne_eq, toNat0, toNat1, ok_int, toI_int, I_frzs, I_length, I_getD, ok_ints, toL_slc, g0]
    subst H_f_cvm H_q_cvm H_f_bos H_q_l4b H_f_one6 H_q_one6 H_f_yes6
    rw [hfm]
    cases hok : okC cs with
    | true =>
      rw [cvm_yes hok]
      have e1 : I (natL (mC cs)) ++ f_one6 64 = I (natL (mC cs ++ List.replicate 64 1)) := by
        rw [f_one6, I_append, ← natL_append]
        rfl
      obtain ⟨⟨n, l, hs⟩, hb⟩ := seq_more hl hok 64
      have e2 : f_bos (I (natL (mC cs ++ List.replicate 64 1))) = (I (curB cs), true) := by rw [f_bos, unI_I, hb]
      dsimp only
      rw [e1, I_frzs, e2]
      have hone : f_one6 64 = I (natL (List.replicate 64 1)) := rfl
      refine ⟨hq, fun h => (by cases h), fun _ => ⟨hq, fun h => (by cases h), fun _ => ⟨⟨by omega, by omega⟩, (by rw [hone]; exact I_owneds _), ?_, (by rw [hone]; exact I_solid _), ⟨n, l, _, rfl, hs, ?_⟩, I_noFzs _, fun h => (by cases h), fun _ => ?_⟩⟩⟩
      · rw [hone, I_length, I_length, natL_len, natL_len, mC_len, List.length_replicate]
        omega
      · rw [natL_len, List.length_append, mC_len, List.length_replicate]
        omega
      · rw [hr, hf0, hok]
        rfl
    | false =>
      have h2 := cvm_no hok
      refine ⟨hq, fun h => (by cases h), fun _ => ⟨hq, fun _ => ?_, fun h => (nomatch (h.symm.trans h2 : true = false))⟩⟩
      rw [hr, hf0, hok]
      rfl
  · cases h
end Go.Ax
/-
  What the laws do with curves: sizes, copies. No conditions but those of the contracts.
-/
set_option linter.all false
namespace Go.Ax
open Go.Proofs

end Go.Ax
/-
  What a curve is: the matrix of common points, IsCurve on both sides. No conditions but those of the contracts.
-/
set_option linter.all false
namespace Go.Ax
open Go.Proofs

def mm (ms : List (List Int)) (i k : Nat) : Int := (ms.getD i []).getD k 0
def EntP (i k : Nat) (c : Int) : Prop := (i = k → c = 0) ∧ (i ≠ k → 1 ≤ c ∧ c ≤ 200)
def RowP (ms : List (List Int)) (n i : Nat) : Prop := (ms.getD i []).length = n ∧ ∀ k, k < n → EntP i k (mm ms i k)
def SymP (ms : List (List Int)) (n i : Nat) : Prop := ∀ k, k < n → mm ms k i = mm ms i k
structure TabP (ms : List (List Int)) (n : Nat) : Prop where
  len : ms.length = n
  row : ∀ i, i < n → RowP ms n i
  sym : ∀ i, i < n → SymP ms n i
structure CvP (bs ms : List (List Int)) : Prop where
  n1 : 1 ≤ bs.length
  n6 : bs.length ≤ 6
  tab : TabP ms bs.length
  br : ∀ i, i < bs.length → isBr (bs.getD i []) = true
  shr : ∀ i k, i < bs.length → k < bs.length → i ≠ k → shr (bs.getD i []) (bs.getD k []) (mm ms i k).toNat = true
  ult : ∀ i k j, i < bs.length → k < bs.length → j < bs.length → i ≠ k → j ≠ i → j ≠ k → ¬ mm ms i k < min (mm ms i j) (mm ms j k)
end Go.Ax
/-
  IsCurve of the reference, and its law. No conditions but those of the contracts.
-/
set_option linter.all false
namespace Go.Ax
open Go.Proofs

def BRow (bs ms : List (List Int)) (i k : Nat) : Prop := EntP i k (mm ms i k) ∧ (i ≠ k → mm ms i k = mm ms k i) ∧ (i < k → shr (bs.getD i []) (bs.getD k []) (mm ms i k).toNat = true)
def URow (bs ms : List (List Int)) (i k : Nat) : Prop := ∀ j, j < bs.length → i ≠ k → i ≠ j → j ≠ k → ¬ mm ms i k < min (mm ms i j) (mm ms j k)
theorem CvP.of {bs ms : List (List Int)} (h1 : 1 ≤ bs.length) (h6 : bs.length ≤ 6) (hl : ms.length = bs.length) (hA : ∀ t, t < bs.length → isBr (bs.getD t []) = true ∧ (ms.getD t []).length = bs.length)
    (hB : ∀ t, t < bs.length → ∀ k, k < bs.length → BRow bs ms t k) (hC : ∀ t, t < bs.length → ∀ k, k < bs.length → URow bs ms t k) : CvP bs ms := by
  refine ⟨h1, h6, ⟨hl, fun i hi => ⟨(hA i hi).2, fun k hk => (hB i hi k hk).1⟩, fun i hi k hk => ?_⟩, fun i hi => (hA i hi).1, fun i k hi hk hne => ?_, fun i k j hi hk hj hne h1 h2 => hC i hi k hk j hj hne (Ne.symm h1) h2⟩
  · by_cases h : i = k
    · rw [h]
    · exact ((hB i hi k hk).2.1 h).symm
  · by_cases h : i < k
    · exact (hB i hi k hk).2.2 h
    · have := (hB k hk i hi).2.2 (by omega)
      rw [shr_comm, (hB i hi k hk).2.1 hne]
      exact this
end Go.Ax
/-
  Numbers of curves: multiplicity, intersection numbers. No conditions but those of the contracts.
-/
set_option linter.all false
namespace Go.Ax
open Go.Proofs

theorem TabP.range {ms : List (List Int)} {n : Nat} (h : TabP ms n) {i k : Nat} (hi : i < n) (hk : k < n) : 0 ≤ mm ms i k ∧ mm ms i k ≤ 200 := by
  have hE := (h.row i hi).2 k hk
  by_cases he : i = k
  · have := hE.1 he; omega
  · have := hE.2 he; omega
end Go.Ax
/-
  Delta invariants, Milnor numbers, lengths and tangents of curves, distances. No conditions but those of the contracts.
-/
set_option linter.all false
namespace Go.Ax
open Go.Proofs

end Go.Ax
/-
  Lengths and tangents of curves, distances. No conditions but those of the contracts.
-/
set_option linter.all false
namespace Go.Ax
open Go.Proofs

end Go.Ax
/-
  Polar numbers, parts of curves. No conditions but those of the contracts.
-/
set_option linter.all false
namespace Go.Ax
open Go.Proofs

def InL (n : Nat) (l : List Int) : Prop := ∀ k, k < l.length → 0 ≤ l.getD k 0 ∧ l.getD k 0 < n
theorem InL.take {n : Nat} {l : List Int} (h : InL n l) (k : Nat) : InL n (l.take k) := fun i hi => by
  rw [List.length_take] at hi
  rw [List.getD_eq_getElem?_getD, List.getElem?_take, if_pos (by omega), ← List.getD_eq_getElem?_getD]
  exact h i (by omega)
def okp (n : Nat) (l : List Int) : Bool := !(l.length == 0) && asc l && within l 0 ((n : Int) - 1)
end Go.Ax
/-
  Tangents of curves. No conditions but those of the contracts.
-/
set_option linter.all false
namespace Go.Ax
open Go.Proofs

def tk (ms : List (List Int)) (i : Nat) : Option Nat := (List.range i).find? fun k => decide (2 ≤ mm ms i k)
def tanS (ms : List (List Int)) : Nat → List Int × Int
  | 0 => ([], 0)
  | i + 1 => match tk ms i with
    | some k => ((tanS ms i).1 ++ [(tanS ms i).1.getD k 0], (tanS ms i).2)
    | none => ((tanS ms i).1 ++ [(tanS ms i).2], (tanS ms i).2 + 1)
end Go.Ax
/-
  Blown up curves, pure; slices.Index, slices.Contains. No conditions but those of the contracts.
-/
set_option linter.all false
namespace Go.Ax
open Go.Proofs

set_option maxHeartbeats 1000000 in
set_option maxRecDepth 100000 in
theorem s_slicesIndex : Sat Try.prog 96 (c_lxi_i f_idx q_lI) := by
  intro args ps r h hp
  unfold c_lxi_i at h
  split at h
  · rename_i a0 a1
    simp only [Option.some.injEq, Prod.mk.injEq] at h
    obtain ⟨rfl, rfl⟩ := h
    obtain ⟨⟨ls, hls⟩, hll⟩ : q_lI a0 a1 := (alls_cons.1 hp).1
    have hal : a0.length = ls.length := by rw [hls, I_length]
    rw [hal] at hll
    have gl : ∀ k, a0.getD k (.int .i64 0) = .int .i64 (ls.getD k 0) := fun k => by rw [hls, I_getD]
    have hf0 : f_idx a0 a1 = idx ls a1 := by rw [f_idx, hls, unI_I]
    obtain ⟨n, hn⟩ : ∃ n : Int, n = ls.length := ⟨_, rfl⟩
    refine fnOk_ofI (T := tab) (B := []) (Bi := []) [0, 1, 4, 5, 7, 8] Try.func96 rfl rfl (by kernel_rfl) (Nat.le_of_ble_eq_true rfl) mixed tabOk (by exact bookNil) (by exact bookINil) (by kernel_rfl) ?_
    intro L lp rr hL hr hf hlp
    conv => cbv
    refine hlp (Int) _ _ _ [0, 1, 7, 8] (fun x => [(0, none, .val (.slc false 2 (.int .i64 0) a0)), (1, none, .val (.int .i64 a1)), (7, none, .val (.int .i64 n)), (8, none, .val (.int .i64 x))])
      (fun x => 0 ≤ x ∧ x ≤ n ∧ ∀ t, t < x.toNat → ls.getD t 0 ≠ a1) (fun x => (n - x).toNat) (0) (by subst hL; rw [hn, ← hal]; rfl) ?_ ?_
    · exact ⟨by simp, by omega, fun t ht => by simp at ht⟩
    rintro i ⟨i0, i1, hI⟩ hfx ag hag
    conv => cbv
    simp only [stdEqs hL, imp_self, true_and, and_true, bif_or, bif_and, Bool.or_eq_true, Bool.or_eq_false_iff, Bool.and_eq_true, Bool.and_eq_false_iff, decide_eq_true_eq, decide_eq_false_iff_not, Bool.not_eq_true', Bool.not_eq_false', beq_iff_eq, beq_eq_false_iff_ne, ne_eq, toNat0, toNat1, ok_int, toI_int, I_frzs, I_length, I_getD, ok_ints, toL_slc, hal, gl]
    refine ⟨fun h2 => ⟨i0, by omega, fun h3 => ?_, fun h3 => ?_⟩, fun h2 => ?_⟩
    · have hfi : ((List.range ls.length).find? fun t => ls.getD t 0 == a1) = some i.toNat := by
        rw [List.find?_range_eq_some]
        refine ⟨by simpa using h3.symm, by simp only [List.mem_range]; omega, fun t ht => ?_⟩
        have := hI t ht
        simpa using this
      rw [hr, hf0, idx, hfi]
      simp only
      rw [show ((i.toNat : Nat) : Int) = i by omega]
    · rw [wrap_id (n := i + 1) (by omega) (by omega)]
      refine hag (i + 1) ⟨by omega, by omega, fun t ht => ?_⟩ (by omega)
      by_cases hti : t = i.toNat
      · rw [hti]; exact fun h => h3 h.symm
      · exact hI t (by omega)
    · have hfi : ((List.range ls.length).find? fun t => ls.getD t 0 == a1) = none := by
        rw [List.find?_eq_none]
        intro t ht
        simp only [List.mem_range] at ht
        have := hI t (by omega)
        simpa using this
      rw [hr, hf0, idx, hfi]
  · cases h
set_option maxHeartbeats 1000000 in
set_option maxRecDepth 100000 in
theorem s_slicesContains : Sat Try.prog 99 (c_lxi_b f_has q_lI) := by
  intro args ps r h hp
  unfold c_lxi_b at h
  split at h
  · rename_i a0 a1
    simp only [Option.some.injEq, Prod.mk.injEq] at h
    obtain ⟨rfl, rfl⟩ := h
    have hq : q_lI a0 a1 := (alls_cons.1 hp).1
    have g0 : V.frzs a0 = a0 := by obtain ⟨⟨ls, hls⟩, _⟩ := hq; rw [hls, I_frzs]
    generalize H_f_idx : f_idx = F_f_idx
    generalize H_q_lI : q_lI = F_q_lI
    refine fnOk_ofI (T := tab) (B := [(96, c_lxi_i F_f_idx F_q_lI)]) (Bi := []) [0, 1, 4] Try.func99 rfl rfl (by kernel_rfl) (Nat.le_of_ble_eq_true rfl) mixed tabOk (by subst H_f_idx H_q_lI; exact (bookCons s_slicesIndex bookNil)) (by subst H_f_idx H_q_lI; exact bookINil) (by kernel_rfl) ?_
    intro L lp rr hL hr hf hlp
    conv => cbv
    simp only [stdEqs hL, imp_self, true_and, and_true, bif_or, bif_and, Bool.or_eq_true, Bool.or_eq_false_iff, Bool.and_eq_true, Bool.and_eq_false_iff, decide_eq_true_eq, decide_eq_false_iff_not, Bool.not_eq_true', Bool.not_eq_false', beq_iff_eq, beq_eq_false_iff_ne, ne_eq, toNat0, toNat1, ok_int, toI_int, I_frzs, I_length, I_getD, ok_ints, toL_slc, g0]
    subst H_f_idx H_q_lI
    exact ⟨hq, by rw [hr, f_has, ← idx_has]; rfl⟩
  · cases h
def plN (L : List Int) (x : Int) : Nat → List Int
  | 0 => []
  | n + 1 => if L.getD n 0 = x then plN L x n ++ [(n : Int)] else plN L x n
def okS (x : List Int) : Bool := decide ((sq1 x).length ≤ 399)
def stB (bs : List (List Int)) (ls : List Int) (j : Nat) : List (List Int) := tab' (fun k => if k < j then strI (bs.getD (ls.getD k 0).toNat []) else bs.getD (ls.getD k 0).toNat []) ls.length
def dcR (ms : List (List Int)) (ls : List Int) (i c : Nat) : List Int := tab' (fun k => if k < c ∧ k ≠ i then mm ms (ls.getD i 0).toNat (ls.getD k 0).toNat - 1 else mm ms (ls.getD i 0).toNat (ls.getD k 0).toNat) ls.length
def stM (ms : List (List Int)) (ls : List Int) (j c : Nat) : List (List Int) := tab' (fun i => dcR ms ls i (if i < j then ls.length else if i = j then c else 0)) ls.length
abbrev Cur : Type := List (List Int) × List (List Int)
def blS (bs ms : List (List Int)) (L : List Int) : Nat → Option (List Cur)
  | 0 => some []
  | t + 1 => (blS bs ms L t).bind fun o => if (plN L t L.length).all (fun i => okS (bs.getD i.toNat [])) then some (o ++ [(stB bs (plN L t L.length) (plN L t L.length).length, stM ms (plN L t L.length) (plN L t L.length).length 0)]) else none
def bl (bs ms : List (List Int)) (n : Nat) : Option (List Cur) := blS bs ms (tanS ms n).1 (tanS ms n).2.toNat
end Go.Ax
