/-
  Blown up curves, pure; slices.Index, slices.Contains. No conditions but those of the contracts.
-/
import Derived.Test.YtpbkkbjgmlfloaaGfp
import Derived.Test.YtpbkkbjgmlfloaaGdp
import Derived.Test.YtpbkkbjgmlfloaaJbp
import Derived.Test.YtpbkkbjgmlfloaaIqp
set_option linter.all false
namespace Go.Ax
open Go.Proofs

set_option maxRecDepth 100000 in
theorem s_slicesIndex : Sat Try.prog 79 (c_lxi_i f_idx q_lI) := by
  intro args ps r h hp
  unfold c_lxi_i at h
  split at h
  · rename_i a0 a1
    simp only [Option.some.injEq, Prod.mk.injEq] at h
    obtain ⟨rfl, rfl⟩ := h
    obtain ⟨⟨ls, hls⟩, hll⟩ : q_lI a0 a1 := (alls_cons.1 hp).1
    have hal : a0.length = ls.length := by rw [hls, I_length]
    rw [hal] at hll
    have gl : ∀ k, a0.getD k (.int .i64 0) = .int .i64 (ls.getD k 0) := fun k => by rw [hls, I_getD]
    have hf0 : f_idx a0 a1 = idx ls a1 := by rw [f_idx, hls, unI_I]
    obtain ⟨n, hn⟩ : ∃ n : Int, n = ls.length := ⟨_, rfl⟩
    refine fnOk_ofI (T := tab) (B := []) (Bi := []) [0, 1, 4, 5, 7, 8] Try.func79 rfl rfl (by kernel_rfl) (Nat.le_of_ble_eq_true rfl) mixed tabOk (by exact bookNil) (by exact bookINil) (by kernel_rfl) ?_
    intro L lp rr hL hr hf hlp
    conv => cbv
    refine hlp (Int) _ _ _ [0, 1, 7, 8] (fun x => [(0, none, .val (.slc false 2 (.int .i64 0) a0)), (1, none, .val (.int .i64 a1)), (7, none, .val (.int .i64 n)), (8, none, .val (.int .i64 x))])
      (fun x => 0 ≤ x ∧ x ≤ n ∧ ∀ t, t < x.toNat → ls.getD t 0 ≠ a1) (fun x => (n - x).toNat) (0) (by subst hL; rw [hn, ← hal]; rfl) ?_ ?_
    · exact ⟨by simp, by omega, fun t ht => by simp at ht⟩
    rintro i ⟨i0, i1, hI⟩ hfx ag hag
    conv => cbv
    simp only [stdEqs hL, imp_self, true_and, and_true, bif_or, bif_and, Bool.or_eq_true, Bool.or_eq_false_iff, Bool.and_eq_true, Bool.and_eq_false_iff, decide_eq_true_eq, decide_eq_false_iff_not, Bool.not_eq_true', Bool.not_eq_false', beq_iff_eq, beq_eq_false_iff_ne, ne_eq, toNat0, toNat1, ok_int, toI_int, I_frzs, I_length, I_getD, ok_ints, toL_slc, hal, gl]
    refine ⟨fun h2 => ⟨i0, by omega, fun h3 => ?_, fun h3 => ?_⟩, fun h2 => ?_⟩
    · have hfi : ((List.range ls.length).find? fun t => ls.getD t 0 == a1) = some i.toNat := by
        rw [List.find?_range_eq_some]
        refine ⟨by simpa using h3.symm, by simp only [List.mem_range]; omega, fun t ht => ?_⟩
        have := hI t ht
        simpa using this
      rw [hr, hf0, idx, hfi]
      simp only
      rw [show ((i.toNat : Nat) : Int) = i by omega]
    · rw [wrap_id (n := i + 1) (by omega) (by omega)]
      refine hag (i + 1) ⟨by omega, by omega, fun t ht => ?_⟩ (by omega)
      by_cases hti : t = i.toNat
      · rw [hti]; exact fun h => h3 h.symm
      · exact hI t (by omega)
    · have hfi : ((List.range ls.length).find? fun t => ls.getD t 0 == a1) = none := by
        rw [List.find?_eq_none]
        intro t ht
        simp only [List.mem_range] at ht
        have := hI t (by omega)
        simpa using this
      rw [hr, hf0, idx, hfi]
  · cases h
set_option maxRecDepth 100000 in
theorem s_slicesContains : Sat Try.prog 51 (c_lxi_b f_has q_lI) := by
  intro args ps r h hp
  unfold c_lxi_b at h
  split at h
  · rename_i a0 a1
    simp only [Option.some.injEq, Prod.mk.injEq] at h
    obtain ⟨rfl, rfl⟩ := h
    have hq : q_lI a0 a1 := (alls_cons.1 hp).1
    have g0 : V.frzs a0 = a0 := by obtain ⟨⟨ls, hls⟩, _⟩ := hq; rw [hls, I_frzs]
    generalize H_f_idx : f_idx = F_f_idx
    generalize H_q_lI : q_lI = F_q_lI
    refine fnOk_ofI (T := tab) (B := [(79, c_lxi_i F_f_idx F_q_lI)]) (Bi := []) [0, 1, 4] Try.func51 rfl rfl (by kernel_rfl) (Nat.le_of_ble_eq_true rfl) mixed tabOk (by subst H_f_idx H_q_lI; exact (bookCons s_slicesIndex bookNil)) (by subst H_f_idx H_q_lI; exact bookINil) (by kernel_rfl) ?_
    intro L lp rr hL hr hf hlp
    conv => cbv
    simp only [stdEqs hL, imp_self, true_and, and_true, bif_or, bif_and, Bool.or_eq_true, Bool.or_eq_false_iff, Bool.and_eq_true, Bool.and_eq_false_iff, decide_eq_true_eq, decide_eq_false_iff_not, Bool.not_eq_true', Bool.not_eq_false', beq_iff_eq, beq_eq_false_iff_ne, ne_eq, toNat0, toNat1, ok_int, toI_int, I_frzs, I_length, I_getD, ok_ints, toL_slc, g0]
    subst H_f_idx H_q_lI
    exact ⟨hq, by rw [hr, f_has, ← idx_has]; rfl⟩
  · cases h
def plN (L : List Int) (x : Int) : Nat → List Int
  | 0 => []
  | n + 1 => if L.getD n 0 = x then plN L x n ++ [(n : Int)] else plN L x n
theorem plN_in (L : List Int) (x : Int) : ∀ n, InL n (plN L x n) ∧ (plN L x n).length ≤ n
  | 0 => ⟨fun k hk => by simp [plN] at hk, by simp [plN]⟩
  | n + 1 => by
    obtain ⟨h1, h2⟩ := plN_in L x n
    rw [plN]
    split
    · refine ⟨fun k hk => ?_, by simp; omega⟩
      rw [List.length_append, List.length_singleton] at hk
      by_cases hkn : k < (plN L x n).length
      · have := h1 k hkn
        rw [List.getD_eq_getElem?_getD, List.getElem?_append_left hkn, ← List.getD_eq_getElem?_getD]
        omega
      · rw [List.getD_eq_getElem?_getD, List.getElem?_append_right (by omega), show k - (plN L x n).length = 0 by omega]
        simp
        omega
    · exact ⟨fun k hk => by have := h1 k hk; omega, by omega⟩
theorem tanS_has (ms : List (List Int)) : ∀ i (x : Int), 0 ≤ x → x < (tanS ms i).2 → x ∈ (tanS ms i).1
  | 0, x, h0, h1 => by simp [tanS] at h1; omega
  | i + 1, x, h0, h1 => by
    cases ht : tk ms i with
    | some k =>
      simp only [tanS, ht] at h1 ⊢
      exact List.mem_append_left _ (tanS_has ms i x h0 h1)
    | none =>
      simp only [tanS, ht] at h1 ⊢
      by_cases hx : x < (tanS ms i).2
      · exact List.mem_append_left _ (tanS_has ms i x h0 hx)
      · exact List.mem_append_right _ (by simp; omega)
theorem tanS_contains (ms : List (List Int)) (i : Nat) (x : Int) (h : 0 ≤ x) : (tanS ms i).1.contains x = decide (x < (tanS ms i).2) := by
  rw [Bool.eq_iff_iff, List.contains_iff_mem, decide_eq_true_eq]
  refine ⟨fun hm => ?_, tanS_has ms i x h⟩
  obtain ⟨h1, _, _, h4⟩ := tanS_in ms i
  obtain ⟨k, hk, he⟩ := List.mem_iff_getElem.1 hm
  rw [gAt hk] at he
  have := h4 k (by omega)
  omega
def okS (x : List Int) : Bool := decide ((sq1 x).length ≤ 399)
def stB (bs : List (List Int)) (ls : List Int) (j : Nat) : List (List Int) := tab' (fun k => if k < j then strI (bs.getD (ls.getD k 0).toNat []) else bs.getD (ls.getD k 0).toNat []) ls.length
def dcR (ms : List (List Int)) (ls : List Int) (i c : Nat) : List Int := tab' (fun k => if k < c ∧ k ≠ i then mm ms (ls.getD i 0).toNat (ls.getD k 0).toNat - 1 else mm ms (ls.getD i 0).toNat (ls.getD k 0).toNat) ls.length
def stM (ms : List (List Int)) (ls : List Int) (j c : Nat) : List (List Int) := tab' (fun i => dcR ms ls i (if i < j then ls.length else if i = j then c else 0)) ls.length
theorem map_tab {α : Type} (f : Int → α) (l : List Int) : l.map f = tab' (fun k => f (l.getD k 0)) l.length := by
  apply List.ext_getElem?
  intro j
  by_cases hj : j < l.length
  · rw [tab_get? _ _ _ hj, List.getElem?_map, List.getElem?_eq_getElem hj, gAt hj]; rfl
  · rw [List.getElem?_eq_none (by rw [List.length_map]; omega), List.getElem?_eq_none (by rw [tab_len]; omega)]
theorem stB_zero (bs : List (List Int)) (ls : List Int) : partB bs ls = stB bs ls 0 := by
  rw [partB, map_tab, stB]
  exact tab_congr fun i _ => by rw [if_neg (by omega)]
theorem stM_zero (ms : List (List Int)) (ls : List Int) : partM ms ls = stM ms ls 0 0 := by
  rw [partM, map_tab, stM]
  refine tab_congr fun i _ => ?_
  rw [map_tab, dcR]
  refine tab_congr fun k _ => ?_
  rw [if_neg (by split <;> (try split) <;> omega)]
theorem stB_get {bs : List (List Int)} {ls : List Int} {j : Nat} (h : j < ls.length) : (stB bs ls j).getD j [] = bs.getD (ls.getD j 0).toNat [] := by
  rw [stB, tab_get _ _ _ _ h, if_neg (by omega)]
theorem stB_len (bs : List (List Int)) (ls : List Int) (j : Nat) : (stB bs ls j).length = ls.length := tab_len _ _
theorem stM_len (ms : List (List Int)) (ls : List Int) (j c : Nat) : (stM ms ls j c).length = ls.length := tab_len _ _
theorem dcR_len (ms : List (List Int)) (ls : List Int) (j c : Nat) : (dcR ms ls j c).length = ls.length := tab_len _ _
theorem stB_set {bs : List (List Int)} {ls : List Int} {j : Nat} : (stB bs ls j).set j (strI (bs.getD (ls.getD j 0).toNat [])) = stB bs ls (j + 1) := by
  rw [stB, tab_set, stB]
  refine tab_congr fun i _ => ?_
  by_cases hij : i = j
  · rw [if_pos hij, hij, if_pos (by omega)]
  · rw [if_neg hij]
    by_cases h2 : i < j
    · rw [if_pos h2, if_pos (by omega)]
    · rw [if_neg h2, if_neg (by omega)]
theorem stM_get {ms : List (List Int)} {ls : List Int} {j c : Nat} (h : j < ls.length) : (stM ms ls j c).getD j [] = dcR ms ls j c := by
  rw [stM, tab_get _ _ _ _ h, if_neg (by omega), if_pos rfl]
theorem dcR_get {ms : List (List Int)} {ls : List Int} {j c : Nat} (h : c < ls.length) : (dcR ms ls j c).getD c 0 = mm ms (ls.getD j 0).toNat (ls.getD c 0).toNat := by
  rw [dcR, tab_get _ _ _ _ h, if_neg (by omega)]
theorem dcR_set {ms : List (List Int)} {ls : List Int} {j c : Nat} (hc : c ≠ j) : (dcR ms ls j c).set c (mm ms (ls.getD j 0).toNat (ls.getD c 0).toNat - 1) = dcR ms ls j (c + 1) := by
  rw [dcR, tab_set, dcR]
  refine tab_congr fun k _ => ?_
  by_cases hkc : k = c
  · rw [if_pos hkc, hkc, if_pos ⟨by omega, hc⟩]
  · rw [if_neg hkc]
    by_cases h2 : k < c ∧ k ≠ j
    · rw [if_pos h2, if_pos ⟨by omega, h2.2⟩]
    · rw [if_neg h2, if_neg (by omega)]
theorem stM_set {ms : List (List Int)} {ls : List Int} {j c : Nat} (hc : c ≠ j) : (stM ms ls j c).set j ((dcR ms ls j c).set c (mm ms (ls.getD j 0).toNat (ls.getD c 0).toNat - 1)) = stM ms ls j (c + 1) := by
  rw [dcR_set hc, stM, tab_set, stM]
  refine tab_congr fun i _ => ?_
  by_cases hij : i = j
  · rw [if_pos hij, hij, if_neg (by omega), if_pos rfl]
  · rw [if_neg hij]
    by_cases h2 : i < j
    · rw [if_pos h2, if_pos h2]
    · rw [if_neg h2, if_neg h2, if_neg hij, if_neg hij]
theorem dcR_skip (ms : List (List Int)) (ls : List Int) (j : Nat) : dcR ms ls j j = dcR ms ls j (j + 1) := by
  rw [dcR, dcR]
  refine tab_congr fun k _ => ?_
  by_cases h2 : k < j ∧ k ≠ j
  · rw [if_pos h2, if_pos ⟨by omega, h2.2⟩]
  · rw [if_neg h2, if_neg (by omega)]
theorem stM_skip (ms : List (List Int)) (ls : List Int) (j : Nat) : stM ms ls j j = stM ms ls j (j + 1) := by
  rw [stM, stM]
  refine tab_congr fun i _ => ?_
  by_cases hij : i = j
  · rw [hij]; simp only [Nat.lt_irrefl, if_false, if_true]; exact dcR_skip ms ls j
  · rw [if_neg hij, if_neg hij]
theorem stM_next (ms : List (List Int)) (ls : List Int) (j : Nat) : stM ms ls j ls.length = stM ms ls (j + 1) 0 := by
  rw [stM, stM]
  refine tab_congr fun i _ => ?_
  by_cases hij : i = j
  · rw [hij, if_neg (by omega), if_pos rfl, if_pos (by omega)]
  · rw [if_neg hij]
    by_cases h2 : i < j
    · rw [if_pos h2, if_pos (by omega)]
    · rw [if_neg h2, if_neg (by omega)]
      split <;> rfl
abbrev Cur : Type := List (List Int) × List (List Int)
def CC (o : Bool) (l : List Cur) : List V := l.map fun p => .agg [.slc o 58 (.agg [.slc o 2 (.int .i64 0) []]) (BB o p.1), .slc o 53 (.slc o 2 (.int .i64 0) []) (II o p.2)]
theorem CC_append (o : Bool) (a b : List Cur) : CC o (a ++ b) = CC o a ++ CC o b := by simp [CC]
theorem CC_length (o : Bool) (a : List Cur) : (CC o a).length = a.length := by simp [CC]
def blS (bs ms : List (List Int)) (L : List Int) : Nat → Option (List Cur)
  | 0 => some []
  | t + 1 => (blS bs ms L t).bind fun o => if (plN L t L.length).all (fun i => okS (bs.getD i.toNat [])) then some (o ++ [(stB bs (plN L t L.length) (plN L t L.length).length, stM ms (plN L t L.length) (plN L t L.length).length 0)]) else none
theorem blS_none {bs ms : List (List Int)} {L : List Int} {t : Nat} (h : blS bs ms L t = none) : ∀ k, blS bs ms L (t + k) = none
  | 0 => h
  | k + 1 => by rw [← Nat.add_assoc, blS, blS_none h k]; rfl
theorem blS_len {bs ms : List (List Int)} {L : List Int} : ∀ (t : Nat) {o : List Cur}, blS bs ms L t = some o → o.length = t
  | 0, o, h => by simp only [blS, Option.some.injEq] at h; subst h; rfl
  | t + 1, o, h => by
    rw [blS] at h
    cases h1 : blS bs ms L t with
    | none => rw [h1] at h; cases h
    | some o' =>
      rw [h1, Option.bind_some] at h
      split at h
      · simp only [Option.some.injEq] at h
        subst h
        rw [List.length_append, blS_len t h1]; rfl
      · cases h
theorem blS_bad {bs ms : List (List Int)} {L : List Int} {t : Nat} {j : Nat} (hj : j < (plN L t L.length).length) (hb : 399 < (sq1 (bs.getD ((plN L t L.length).getD j 0).toNat [])).length) : blS bs ms L (t + 1) = none := by
  rw [blS]
  cases blS bs ms L t with
  | none => rfl
  | some o =>
    rw [Option.bind_some, if_neg]
    intro h
    rw [List.all_eq_true] at h
    have := h _ (List.getElem_mem hj)
    rw [gAt hj, okS, decide_eq_true_eq] at this
    omega
theorem blS_good {bs ms : List (List Int)} {L : List Int} {t : Nat} {o : List Cur} (h : blS bs ms L t = some o) (hb : ∀ j, j < (plN L t L.length).length → (sq1 (bs.getD ((plN L t L.length).getD j 0).toNat [])).length ≤ 399) :
    blS bs ms L (t + 1) = some (o ++ [(stB bs (plN L t L.length) (plN L t L.length).length, stM ms (plN L t L.length) (plN L t L.length).length 0)]) := by
  rw [blS, h, Option.bind_some, if_pos]
  rw [List.all_eq_true]
  intro x hx
  obtain ⟨j, hj, rfl⟩ := List.mem_iff_getElem.1 hx
  rw [gAt hj, okS, decide_eq_true_eq]
  exact hb j hj
def bl (bs ms : List (List Int)) (n : Nat) : Option (List Cur) := blS bs ms (tanS ms n).1 (tanS ms n).2.toNat
def bupR : Option (List Cur) → List V × Int
  | some o => (CC true o, 0)
  | none => ([], 3)
def bupB : Option (List Cur) → List V × Bool
  | some o => (CC true o, true)
  | none => ([], false)
def f_bup (a b : List V) : List V × Int := bupR (bl (unBB a) (unII b) a.length)
def f_bupB (a b : List V) : List V × Bool := bupB (bl (unBB a) (unII b) a.length)
end Go.Ax
