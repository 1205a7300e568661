/-
  Clusters of curves: impl.curvePoints. No conditions but those of the contracts.
-/
import Derived.Test.YtkidnnlplpocdaaGg
import Derived.Test.YtkidnnlplpocdaaFk
set_option linter.all false
namespace Go.Ax
open Go.Proofs
set_option maxHeartbeats 1000000

theorem ex_one {a b : Nat} (ha : 1 ≤ a) (hb : 1 ≤ b) : 1 ≤ (ex a b).length := by
  rw [ex_pos hb, List.length_append, List.length_replicate]
  by_cases h : b ≤ a
  · have := Nat.div_pos h hb
    omega
  · rw [Nat.mod_eq_of_lt (by omega), ex_pos ha, List.length_append, List.length_replicate]
    have := Nat.div_pos (show a ≤ b by omega) ha
    generalize b / a = q at *
    generalize a / b = q' at *
    omega
theorem sq1_pos {xs : List Int} (h : Br xs) : 1 ≤ (sq1 xs).length := by
  rw [sq1]
  split
  · simp
  · rename_i hne
    have h0 := h.pos
    have hk := kkI_in h (i := 0) (by omega)
    have hd := h.dpos 0 h0
    have hx : 1 ≤ (runI xs 0).length := by rw [runI, exI, List.length_map]; exact ex_one (by omega) (by omega)
    obtain ⟨n, hn⟩ : ∃ n, xs.length - 1 = n + 1 := ⟨xs.length - 2, by omega⟩
    rw [seqI, seqP, hn, List.range_succ_eq_map, List.flatMap_cons, List.length_append]
    omega
theorem lenAt_pos {bs ms : List (List Int)} (h : CvP bs ms) {i : Nat} (hi : i < bs.length) : 1 ≤ lenAt bs ms i := by
  have := sq1_pos (br_of (h.br i hi))
  rw [lenAt]; omega
def leavL (names : List (List Int)) : List Int := names.map fun l => l.getD (l.length - 1) 0
theorem leav_snoc (names : List (List Int)) (l : List Int) : leavL (names ++ [l]) = leavL names ++ [l.getD (l.length - 1) 0] := by simp [leavL]
/-- where a point is looked for -/
def AtP (ms names : List (List Int)) (z : Int) (i j k : Nat) (a : Int) : Prop :=
  (a = z ∧ ∀ t, t < k → ¬ (j : Int) < mm ms i t) ∨ ∃ t, t < k ∧ (j : Int) < mm ms i t ∧ a = (names.getD t []).getD j 0
theorem AtP.fin {bs ms names : List (List Int)} (hc : CvP bs ms) {s : PSt} {z : Int} {i j : Nat} {a : Int} (hi : i < bs.length) (hk : ClOk bs ms i s names) (h : AtP ms names z i j i a) :
    (nmK ms i j = none ∧ a = z) ∨ ∃ k, nmK ms i j = some k ∧ k < i ∧ (j : Int) < mm ms i k ∧ a = (names.getD k []).getD j 0 := by
  rcases h with ⟨h1, h2⟩ | ⟨t, ht, hm, ha⟩
  · exact .inl ⟨nmK_of_none h2, h1⟩
  · refine .inr ?_
    cases hn : nmK ms i j with
    | none => exact absurd hm (nmK_none hn t ht)
    | some k =>
      obtain ⟨h1, h2⟩ := nmK_some hn
      refine ⟨k, rfl, h1, h2, ?_⟩
      rw [ha]
      by_cases hkt : k = t
      · rw [hkt]
      · refine (hk.cmp k t j h1 ht hkt ?_).symm
        have hsym := hc.tab.sym i hi k (by omega)
        have hu := hc.ult k t i (by omega) (by omega) hi hkt (by omega) (by omega)
        rw [hsym] at hu
        omega
theorem stJ_some {xs : List Int} {ms names : List (List Int)} {i j k : Nat} {s : PSt} (h : nmK ms i j = some k) : stJ xs ms names i s j = ⟨s.P, s.S, s.Q.set ((names.getD k []).getD j 0).toNat (W (s.Q.getD ((names.getD k []).getD j 0).toNat 0 + mul xs j)), s.own ++ [(names.getD k []).getD j 0]⟩ := by rw [stJ, h]
theorem stJ_none {xs : List Int} {ms names : List (List Int)} {i j : Nat} {s : PSt} (h : nmK ms i j = none) : stJ xs ms names i s j = ⟨s.P ++ [parJ s.own j], s.S ++ [secJ xs s.own j], s.Q ++ [(mul xs j : Int)], s.own ++ [(s.P.length : Int)]⟩ := by rw [stJ, h]
theorem secJ_prs {xs : List Int} (h : Br xs) (own : List Int) (j : Nat) : secJ xs own j = if 1 < (prs (mul xs) j j).length then own.getD ((prs (mul xs) j j).getD 0 0) 0 else -1 := by
  rw [secJ]
  by_cases hj : 0 < j
  · rw [cd_code (mul_good h).1 (by omega) (Nat.le_refl _)]
    by_cases h1 : 1 < (prs (mul xs) j j).length
    · have hm : (prs (mul xs) j j).getD 0 0 ∈ prs (mul xs) j j := by
        rw [List.getD_eq_getElem?_getD, List.getElem?_eq_getElem (by omega)]; exact List.getElem_mem _
      have h2 := prs_lt _ hm
      rw [if_pos h1, if_pos h1, if_pos ⟨hj, by omega⟩]
      congr 1
      omega
    · rw [if_neg h1, if_neg h1, if_neg (fun h => h.2 rfl)]
  · have : j = 0 := by omega
    subst this
    rw [if_neg (fun h => hj h.1), if_neg (by have := prs_len (mul xs) 0 0; omega)]
def c_C_Kli (f : List V → List V → List V × List V × List V × List V × Int) (q : List V → List V → Prop) : Contract := fun
  | [.agg [.slc false 99 (.agg [.slc false 2 (.int .i64 0) []]) a0, .slc false 27 (.slc false 2 (.int .i64 0) []) a1]] => some ([q a0 a1], .tup [.agg [.slc true 2 (.int .i64 0) ((f a0 a1).1), .slc true 2 (.int .i64 0) ((f a0 a1).2.1), .slc true 2 (.int .i64 0) ((f a0 a1).2.2.1)], .slc true 2 (.int .i64 0) ((f a0 a1).2.2.2.1), .int .i64 ((f a0 a1).2.2.2.2)])
  | _ => none
noncomputable def tooB (bs ms : List (List Int)) : Bool := @decide (TooBig bs ms) (Classical.propDecidable _)
theorem tooB_iff {bs ms : List (List Int)} : tooB bs ms = true ↔ TooBig bs ms := by
  rw [tooB]
  exact @decide_eq_true_iff _ (Classical.propDecidable _)
noncomputable def f_cpt (a b : List V) : List V × List V × List V × List V × Int := bif tooB (unBB a) (unII b) then ([], [], [], [], 3) else
  (I (clS (unBB a) (unII b) a.length).1.P, I (clS (unBB a) (unII b) a.length).1.S, I (clS (unBB a) (unII b) a.length).1.Q, I (leavL (clS (unBB a) (unII b) a.length).2), 0)
set_option maxRecDepth 100000 in
theorem s_impl_curvePoints : Sat Try.prog 65 (c_C_Kli f_cpt q_cv) := by
  intro args ps r h hp
  unfold c_C_Kli at h
  split at h
  · rename_i a0 a1
    simp only [Option.some.injEq, Prod.mk.injEq] at h
    obtain ⟨rfl, rfl⟩ := h
    obtain ⟨⟨⟨bs, hbs, hb1, hb2⟩, ⟨ms, hms, hm1, hm2⟩⟩, hcv⟩ := (alls_cons.1 hp).1
    rw [hbs, hms, unBB_BB, unII_II] at hcv
    have g1 : V.frzs a0 = a0 := by rw [hbs, BB_frzs]
    have g2 : V.frzs a1 = a1 := by rw [hms, II_frzs]
    have hbl : a0.length = bs.length := by rw [hbs, BB_length]
    have hml : a1.length = ms.length := by rw [hms, II_length]
    have gb : ∀ k, a0.getD k (.agg [.slc false 2 (.int .i64 0) []]) = .agg [.slc false 2 (.int .i64 0) (I (bs.getD k []))] := fun k => by rw [hbs, BB_getD]
    have gm : ∀ k, a1.getD k (.slc false 2 (.int .i64 0) []) = .slc false 2 (.int .i64 0) (I (ms.getD k [])) := fun k => by rw [hms, II_getD]
    have hm0 : ∀ x y : Nat, (ms.getD x []).getD y 0 = mm ms x y := fun _ _ => rfl
    obtain ⟨n, hn⟩ : ∃ n : Int, n = bs.length := ⟨_, rfl⟩
    have n1 := hcv.n1
    have n6 := hcv.n6
    have hmn : ms.length = bs.length := hcv.tab.len
    have hbr : ∀ i, i < bs.length → Br (bs.getD i []) := fun i hi => br_of (hcv.br i hi)
    have rl : ∀ k, k < bs.length → (ms.getD k []).length = bs.length := fun k hk => (hcv.tab.row k hk).1
    have mmr : ∀ i k, i < bs.length → k < bs.length → 0 ≤ mm ms i k ∧ mm ms i k ≤ 200 := fun i k hi hk => hcv.tab.range hi hk
    have mmo : ∀ i k, i < bs.length → k < bs.length → i ≠ k → 1 ≤ mm ms i k ∧ mm ms i k ≤ 200 := fun i k hi hk hne => ((hcv.tab.row i hi).2 k hk).2 hne
    have hqv : q_cv a0 a1 := (alls_cons.1 hp).1
    have hf1 : tooB bs ms = true → f_cpt a0 a1 = ([], [], [], [], 3) := fun h => by rw [f_cpt, hbs, hms, unBB_BB, unII_II, h]; rfl
    have hf2 : tooB bs ms = false → f_cpt a0 a1 = (I (clS bs ms bs.length).1.P, I (clS bs ms bs.length).1.S, I (clS bs ms bs.length).1.Q, I (leavL (clS bs ms bs.length).2), 0) := fun h => by
      rw [f_cpt, hbl, hbs, hms, unBB_BB, unII_II, h]; rfl
    obtain ⟨vl, hvl⟩ : ∃ vl, vl = I (lenL bs ms bs.length) := ⟨_, rfl⟩
    have efl : f_len a0 a1 = vl := by rw [f_len, hbl, hbs, hms, unBB_BB, unII_II, hvl]
    have hvll : vl.length = bs.length := by rw [hvl, I_length, lenL, tab_len]
    obtain ⟨ll, hll⟩ : ∃ ll, ll = lenL bs ms bs.length := ⟨_, rfl⟩
    have gvl : ∀ k, vl.getD k (.int .i64 0) = .int .i64 (ll.getD k 0) := fun k => by rw [hvl, I_getD, hll]
    have gll : ∀ k, k < bs.length → ll.getD k 0 = lenAt bs ms k := fun k hk => by rw [hll, lenL, tab_get _ _ _ _ hk]
    generalize H_f_len : f_len = F_f_len
    generalize H_q_cv : q_cv = F_q_cv
    generalize H_f_first : f_first = F_f_first
    generalize H_q_first : q_first = F_q_first
    generalize H_f_prox : f_prox = F_f_prox
    generalize H_q_prox : q_prox = F_q_prox
    refine fnOk_ofI (T := tab) (B := [(131, c_C_l F_f_len F_q_cv), (132, c_Bi_L F_f_first F_q_first), (133, c_l_m F_f_prox F_q_prox)]) (Bi := []) [1000003507, 1000034011, 0, 1, 2, 3, 4, 5, 6, 7, 8, 9, 10, 11, 12, 13, 14, 15, 16, 17, 22, 23, 24, 41, 42, 43, 51, 52] Try.func65 rfl rfl (by kernel_rfl) (Nat.le_of_ble_eq_true rfl) mixed tabOk (by subst H_f_len H_q_cv H_f_first H_q_first H_f_prox H_q_prox; exact (bookCons s_impl_lengths (bookCons s_impl_firstOf (bookCons s_impl_proximates bookNil)))) (by subst H_f_len H_q_cv H_f_first H_q_first H_f_prox H_q_prox; exact bookINil) (by kernel_rfl) ?_
    intro L lp rr hL hr hf hlp
    have Ef : F_f_len a0 a1 = vl := by rw [← H_f_len, efl]
    have E1 : ∀ xs k, F_f_first (I xs) k = I (firstK xs k.toNat) := fun xs k => by rw [← H_f_first, f_first, unI_I]
    have Q1 : ∀ xs k, Br xs → 1 ≤ k → k ≤ 1000000 → F_q_first (I xs) k := fun xs k h h1 h2 => by rw [← H_q_first]; exact ⟨⟨xs, rfl, h⟩, h1, h2⟩
    conv => cbv
    simp only [stdEqs hL, imp_self, true_and, and_true, bif_or, bif_and, Bool.or_eq_true, Bool.or_eq_false_iff, Bool.and_eq_true, Bool.and_eq_false_iff, decide_eq_true_eq, decide_eq_false_iff_not, Bool.not_eq_true', Bool.not_eq_false', beq_iff_eq, beq_eq_false_iff_ne, ne_eq, toNat0, toNat1, ok_int, toI_int, I_frzs, I_length, I_getD, ok_ints, toL_slc, g1, g2, Ef, hvll, ← hn]
    refine ⟨by rw [← H_q_cv]; exact hqv, ?_⟩
    refine hlp ((List V × List V × List V) × (List V × List V) × Int) _ _ _ [1, 2, 5, 6, 7, 22, 23, 24] (fun x => [(1, none, .val (.box 32 (.agg [.slc false 99 (.agg [.slc false 2 (.int .i64 0) []]) a0, .slc false 27 (.slc false 2 (.int .i64 0) []) a1]))), (2, none, .val (.box 40 (.agg [.slc true 2 (.int .i64 0) [], .slc true 2 (.int .i64 0) [], .slc true 2 (.int .i64 0) []]))), (5, none, .val (.box 40 (.agg [.slc true 2 (.int .i64 0) x.1.1, .slc true 2 (.int .i64 0) x.1.2.1, .slc true 2 (.int .i64 0) x.1.2.2]))), (6, none, .val (.slc true 2 (.int .i64 0) x.2.1.1)), (7, none, .val (.slc true 27 (.slc false 2 (.int .i64 0) []) x.2.1.2)), (22, none, .val (.slc true 2 (.int .i64 0) vl)), (23, none, .val (.int .i64 n)), (24, none, .val (.int .i64 x.2.2))])
      (fun x => 0 ≤ x.2.2 ∧ x.2.2 ≤ n ∧ x.1.1 = I (clS bs ms x.2.2.toNat).1.P ∧ x.1.2.1 = I (clS bs ms x.2.2.toNat).1.S ∧ x.1.2.2 = I (clS bs ms x.2.2.toNat).1.Q ∧ x.2.1.1 = I (leavL (clS bs ms x.2.2.toNat).2) ∧ x.2.1.2 = II false (clS bs ms x.2.2.toNat).2 ∧ (clS bs ms x.2.2.toNat).1.P.length ≤ 24 ∧ (∀ k, k < x.2.2.toNat → lenAt bs ms k ≤ 24)) (fun x => (n - x.2.2).toNat) ((([], [], []), ([], []), 0)) (by subst hL; rw [hn, ← hvll]; rfl) ?_ ?_
    · exact ⟨by simp, by simp only; omega, rfl, rfl, rfl, rfl, rfl, by simp [clS], fun k hk => by simp at hk⟩
    rintro ⟨⟨ps, ss, qs⟩, ⟨vs, ns⟩, i⟩ ⟨i0, i1, hP, hS, hQ, hV, hN, hle, hln⟩ hfx ag hag
    simp only at i0 i1 hP hS hQ hV hN hle hln
    have Ep : ∀ xs k, F_f_prox (I (firstK xs k)) = II true (tab' (fun j => nat2 (prs (mul xs) j j)) k) := fun xs k => by rw [← H_f_prox, f_prox, unI_I, proxL_first]
    have Qp : ∀ xs k, Br xs → k ≤ 1000000 → F_q_prox (I (firstK xs k)) := fun xs k h1 h2 => by rw [← H_q_prox]; exact ⟨xs, k, h1, rfl, h2⟩
    conv => cbv
    simp only [stdEqs hL, imp_self, true_and, and_true, bif_or, bif_and, Bool.or_eq_true, Bool.or_eq_false_iff, Bool.and_eq_true, Bool.and_eq_false_iff, decide_eq_true_eq, decide_eq_false_iff_not, Bool.not_eq_true', Bool.not_eq_false', beq_iff_eq, beq_eq_false_iff_ne, ne_eq, toNat0, toNat1, ok_int, toI_int, I_frzs, I_length, I_getD, ok_ints, toL_slc, hbl, gb, gvl, hvll, E1, ok_bran, toL_bran, fld_bran, Ep]
    refine ⟨fun h2 => ?_, fun h2 => ?_⟩
    · have hil : i.toNat < bs.length := by omega
      have hls := gll _ hil
      obtain ⟨l, hl⟩ : ∃ l, l = ll.getD i.toNat 0 := ⟨_, rfl⟩
      rw [← hl] at hls ⊢
      have hl1 : 1 ≤ l := by rw [hls]; exact lenAt_pos hcv hil
      obtain ⟨xs, hxs⟩ : ∃ xs, xs = bs.getD i.toNat [] := ⟨_, rfl⟩
      have hbx : Br xs := by rw [hxs]; exact hbr _ hil
      have hok := clS_ok hcv i.toNat (by omega)
      obtain ⟨s, hs⟩ : ∃ s, s = (clS bs ms i.toNat).1 := ⟨_, rfl⟩
      obtain ⟨nm, hnm⟩ : ∃ nm, nm = (clS bs ms i.toNat).2 := ⟨_, rfl⟩
      rw [← hs] at hP hS hQ hle hok
      rw [← hnm] at hV hN hok
      rw [← hxs]
      have hlN : lenN bs ms i.toNat = l.toNat := by rw [lenN, hls]
      refine ⟨i0, by omega, hil, fun h3 => ?_, fun h3 => ?_⟩
      · rw [hr, hf1 (tooB_iff.2 (.inl ⟨i.toNat, hil, by rw [hlN]; omega⟩))]
      obtain ⟨row, hrow⟩ : ∃ row, row = I (firstK xs l.toNat) := ⟨_, rfl⟩
      have hrl : row.length = l.toNat := by rw [hrow, I_length, firstK_len]
      have grow : ∀ k, row.getD k (.int .i64 0) = .int .i64 ((firstK xs l.toNat).getD k 0) := fun k => by rw [hrow, I_getD]
      obtain ⟨px, hpx⟩ : ∃ px, px = II true (tab' (fun j => nat2 (prs (mul xs) j j)) l.toNat) := ⟨_, rfl⟩
      have hpxl : px.length = l.toNat := by rw [hpx, II_length, tab_len]
      have gpx : ∀ k, px.getD k (.slc true 2 (.int .i64 0) []) = .slc true 2 (.int .i64 0) (I ((tab' (fun j => nat2 (prs (mul xs) j j)) l.toNat).getD k [])) := fun k => by rw [hpx, II_getD]
      have qpx := Qp xs l.toNat hbx (by omega)
      rw [← hrow] at qpx ⊢
      rw [← hpx]
      refine ⟨i0, by omega, Q1 xs l hbx hl1 (by omega), qpx, ?_⟩
      have hpl : (px.length : Int) = l := by omega
      refine hlp (((List V × List V × List V) × List V) × Int) _ _ _ [1, 2, 5, 6, 7, 8, 10, 11, 22, 23, 24, 41, 42, 43] (fun y => [(1, none, .val (.box 32 (.agg [.slc false 99 (.agg [.slc false 2 (.int .i64 0) []]) a0, .slc false 27 (.slc false 2 (.int .i64 0) []) a1]))), (2, none, .val (.box 40 (.agg [.slc true 2 (.int .i64 0) [], .slc true 2 (.int .i64 0) [], .slc true 2 (.int .i64 0) []]))), (5, none, .val (.box 40 (.agg [.slc true 2 (.int .i64 0) y.1.1.1, .slc true 2 (.int .i64 0) y.1.1.2.1, .slc true 2 (.int .i64 0) y.1.1.2.2]))), (6, none, .val (.slc true 2 (.int .i64 0) vs)), (7, none, .val (.slc true 27 (.slc false 2 (.int .i64 0) []) ns)), (8, none, .val (.int .i64 i)), (10, none, .val (.slc false 2 (.int .i64 0) row)), (11, none, .val (.slc true 2 (.int .i64 0) y.1.2)), (22, none, .val (.slc true 2 (.int .i64 0) vl)), (23, none, .val (.int .i64 n)), (24, none, .val (.int .i64 i)), (41, none, .val (.slc true 27 (.slc true 2 (.int .i64 0) []) px)), (42, none, .val (.int .i64 l)), (43, none, .val (.int .i64 y.2))])
        (fun y => 0 ≤ y.2 ∧ y.2 ≤ l ∧ y.1.1.1 = I (rowS xs ms nm i.toNat s y.2.toNat).P ∧ y.1.1.2.1 = I (rowS xs ms nm i.toNat s y.2.toNat).S ∧ y.1.1.2.2 = I (rowS xs ms nm i.toNat s y.2.toNat).Q ∧ y.1.2 = I (rowS xs ms nm i.toNat s y.2.toNat).own ∧ (rowS xs ms nm i.toNat s y.2.toNat).P.length ≤ 24) (fun y => (l - y.2).toNat) ((((ps, ss, qs), []), 0)) (by subst hL; rw [← hpl]; rfl) ?_ ?_
      · exact ⟨by simp, by simp only; omega, hP, hS, hQ, rfl, hle⟩
      rintro ⟨⟨⟨ps2, ss2, qs2⟩, os⟩, j⟩ ⟨j0, j1, hP2, hS2, hQ2, hO2, hle2⟩ hfx2 ag2 hag2
      simp only at j0 j1 hP2 hS2 hQ2 hO2 hle2
      conv => cbv
      simp only [stdEqs hL, imp_self, true_and, and_true, bif_or, bif_and, Bool.or_eq_true, Bool.or_eq_false_iff, Bool.and_eq_true, Bool.and_eq_false_iff, decide_eq_true_eq, decide_eq_false_iff_not, Bool.not_eq_true', Bool.not_eq_false', beq_iff_eq, beq_eq_false_iff_ne, ne_eq, toNat0, toNat1, ok_int, toI_int, I_frzs, I_length, I_getD, ok_ints, toL_slc, hpxl, gpx]
      refine ⟨fun h4 => ?_, fun h4 => ?_⟩
      · obtain ⟨u, hu⟩ : ∃ u, u = rowS xs ms nm i.toNat s j.toNat := ⟨_, rfl⟩
        obtain ⟨hcu, hou, hmu⟩ := rowS_ok hcv hil hok j.toNat (by omega)
        rw [← hxs, ← hu] at hcu hou hmu
        obtain ⟨jt, hjt⟩ : ∃ jt, jt = j.toNat := ⟨_, rfl⟩
        have hjj : (jt : Int) = j := by omega
        have hjl : jt < l.toNat := by omega
        have hpr : (tab' (fun j => nat2 (prs (mul xs) j j)) l.toNat).getD jt [] = nat2 (prs (mul xs) jt jt) := tab_get _ _ _ _ hjl
        have hfm : (firstK xs l.toNat).getD jt 0 = mul xs jt := by rw [firstK_mul, tab_get _ _ _ _ hjl]
        have hjN : jt < lenN bs ms i.toNat := by omega
        have ho0 : ∀ t, t < jt → 0 ≤ u.own.getD t 0 ∧ u.own.getD t 0 < u.P.length := fun t ht => hou.oin t (by omega)
        have hsu : rowS xs ms nm i.toNat s (j.toNat + 1) = stJ xs ms nm i.toNat u j.toNat := by rw [rowS, ← hu]
        rw [← hu] at hP2 hS2 hQ2 hO2 hle2
        have hpl2 : ps2.length = u.P.length := by rw [hP2, I_length]
        have hsl2 : ss2.length = u.P.length := by rw [hS2, I_length, hcu.sl]
        have hql2 : qs2.length = u.P.length := by rw [hQ2, I_length, hcu.ql]
        have hol2 : os.length = j.toNat := by rw [hO2, I_length, hou.ol]
        have gq2 : ∀ k, qs2.getD k (.int .i64 0) = .int .i64 (u.Q.getD k 0) := fun k => by rw [hQ2, I_getD]
        have go2 : ∀ k, os.getD k (.int .i64 0) = .int .i64 (u.own.getD k 0) := fun k => by rw [hO2, I_getD]
        have hnl : ns.length = i.toNat := by rw [hN, II_length, hok.nl]
        have gn : ∀ k, ns.getD k (.slc false 2 (.int .i64 0) []) = .slc false 2 (.int .i64 0) (I (nm.getD k [])) := fun k => by rw [hN, II_getD]
        obtain ⟨z, hz⟩ : ∃ z : Int, z = u.P.length := ⟨_, rfl⟩
        have hqz : (qs2.length : Int) = z := by omega
        refine ⟨j0, by omega, by omega, ?_⟩
        refine hlp (Int × Int) _ _ _ [1, 2, 5, 6, 7, 8, 10, 11, 12, 13, 14, 22, 23, 24, 41, 42, 43, 51, 52] (fun w => [(1, none, .val (.box 32 (.agg [.slc false 99 (.agg [.slc false 2 (.int .i64 0) []]) a0, .slc false 27 (.slc false 2 (.int .i64 0) []) a1]))), (2, none, .val (.box 40 (.agg [.slc true 2 (.int .i64 0) [], .slc true 2 (.int .i64 0) [], .slc true 2 (.int .i64 0) []]))), (5, none, .val (.box 40 (.agg [.slc true 2 (.int .i64 0) ps2, .slc true 2 (.int .i64 0) ss2, .slc true 2 (.int .i64 0) qs2]))), (6, none, .val (.slc true 2 (.int .i64 0) vs)), (7, none, .val (.slc true 27 (.slc false 2 (.int .i64 0) []) ns)), (8, none, .val (.int .i64 i)), (10, none, .val (.slc false 2 (.int .i64 0) row)), (11, none, .val (.slc true 2 (.int .i64 0) os)), (12, none, .val (.int .i64 j)), (13, none, .rf 41 0 [jt]), (14, none, .val (.int .i64 w.1)), (22, none, .val (.slc true 2 (.int .i64 0) vl)), (23, none, .val (.int .i64 n)), (24, none, .val (.int .i64 i)), (41, none, .val (.slc true 27 (.slc true 2 (.int .i64 0) []) px)), (42, none, .val (.int .i64 l)), (43, none, .val (.int .i64 j)), (51, none, .val (.int .i64 i)), (52, none, .val (.int .i64 w.2))])
          (fun w => 0 ≤ w.2 ∧ w.2 ≤ i ∧ AtP ms nm z i.toNat jt w.2.toNat w.1) (fun w => (i - w.2).toNat) ((z, 0)) (by subst hL; rw [← hqz, hjt]; rfl) ?_ ?_
        · exact ⟨by simp, i0, .inl ⟨rfl, fun t ht => by simp at ht⟩⟩
        rintro ⟨a, k⟩ ⟨k0, k1, hA⟩ hfx3 ag3 hag3
        simp only at k0 k1 hA
        have snoc : ∀ (l : List Int) (x : Int), I l ++ [V.int .i64 x] = I (l ++ [x]) := fun l x => by simp [I]
        have gos : ∀ k, (os ++ [V.int .i64 a]).getD k (.int .i64 0) = .int .i64 ((u.own ++ [a]).getD k 0) := fun k => by rw [hO2, snoc, I_getD]
        have hosl : (os ++ [V.int .i64 a]).length = jt + 1 := by rw [List.length_append, hol2, hjt]; rfl
        conv => cbv
        simp only [stdEqs hL, imp_self, true_and, and_true, bif_or, bif_and, Bool.or_eq_true, Bool.or_eq_false_iff, Bool.and_eq_true, Bool.and_eq_false_iff, decide_eq_true_eq, decide_eq_false_iff_not, Bool.not_eq_true', Bool.not_eq_false', beq_iff_eq, beq_eq_false_iff_ne, ne_eq, toNat0, toNat1, ok_int, toI_int, I_frzs, I_length, I_getD, ok_ints, toL_slc, hml, gm, hm0, hnl, gn, hpxl, gpx, hol2, hql2, hpl2, hsl2, gq2, hrl, grow, ← hjt, hpr, hfm, gos, hosl, ok_int]
        have sol : ∀ n : Int, ∀ x : V, x ∈ [V.int .i64 n] → x.solid = true := fun n x hx => by
          simp only [List.mem_singleton] at hx
          subst hx; rfl
        refine ⟨fun h5 => ?_, fun h5 => ?_⟩
        · have hkn : k.toNat < i.toNat := by omega
          have hrw := rl _ hil
          have hnlk := hok.rl _ hkn
          clear hfx3 gos hosl hpr hfm hqz hz hll hvl hls hpl2 hsl2 hql2 hol2
          refine ⟨i0, by omega, k0, by omega, fun h6 => ?_, fun h6 => ?_⟩
          · have hsym := hcv.tab.sym i.toNat hil k.toNat (by omega)
            have hml2 := mm_len hcv (i := k.toNat) (k := i.toNat) (by omega) hil
            rw [wrap_id (n := k + 1) (by omega) (by omega)]
            refine ⟨k0, by omega, hkn, j0, by omega, hag3 (_, k + 1) ⟨by simp only; omega, by simp only; omega, ?_⟩ (by simp only; omega)⟩
            simp only [toNat_succ k0]
            exact .inr ⟨k.toNat, by omega, by omega, rfl⟩
          · rw [wrap_id (n := k + 1) (by omega) (by omega)]
            refine hag3 (a, k + 1) ⟨by simp only; omega, by simp only; omega, ?_⟩ (by simp only; omega)
            simp only [toNat_succ k0]
            rcases hA with ⟨h7, h8⟩ | ⟨t, h7, h8, h9⟩
            · refine .inl ⟨h7, fun t ht => ?_⟩
              by_cases htk : t = k.toNat
              · rw [htk, hjj]; exact h6
              · exact h8 t (by omega)
            · exact .inr ⟨t, by omega, h8, h9⟩
        · have hA' := AtP.fin hcv hil hok (by rwa [show k.toNat = i.toNat by omega] at hA)
          rcases hA' with ⟨hn0, haz⟩ | ⟨k0', hn1, hk0, hmk, haz⟩
          · have hst := stJ_none (xs := xs) (names := nm) (s := u) hn0
            refine ⟨rfl, by simp only [List.length_cons, List.length_nil]; omega, sol _, fun h6 => absurd h6 (by omega), fun _ => ⟨fun h7 => ?_, fun h7 => ?_⟩⟩
            · rw [hr, hf1 (tooB_iff.2 ?_)]
              refine tooBig_at hcv hil (j := j.toNat + 1) (by omega) ?_
              rw [← hxs, ← hnm, ← hs, hsu, ← hjt, hst]
              simp only [List.length_append, List.length_cons, List.length_nil]
              omega
            have hu24 : u.P.length < 24 := by omega
            have hsj := secJ_prs hbx u.own jt
            have hprl : (nat2 (prs (mul xs) jt jt)).length = (prs (mul xs) jt jt).length := by rw [nat2, List.length_map]
            have hprg : (nat2 (prs (mul xs) jt jt)).getD 0 0 = ((prs (mul xs) jt jt).getD 0 0 : Nat) := nat2_getD _ _
            have hprm : 1 < (prs (mul xs) jt jt).length → (prs (mul xs) jt jt).getD 0 0 < jt := fun h => prs_lt _ (by
              rw [List.getD_eq_getElem?_getD, List.getElem?_eq_getElem (by omega)]; exact List.getElem_mem _)
            have gsn : ∀ t, t < jt → (u.own ++ [a]).getD t 0 = u.own.getD t 0 := fun t ht => by
              rw [getD_snoc (by rw [hou.ol]; omega), if_neg (by rw [hou.ol]; omega)]
            have hw1 : 0 < j → IntKind.wrap .i64 (j - 1) = j - 1 := fun h => wrap_id (by omega) (by omega)
            have hwn : (j - 1).toNat = jt - 1 := by omega
            have hmul := mul_le hbx jt
            simp only [hprl, hprg]
            obtain ⟨pr, hprr⟩ : ∃ pr, pr = prs (mul xs) jt jt := ⟨_, rfl⟩
            rw [← hprr] at hsj hprm ⊢
            have fin : ∀ p q : Int, p = parJ u.own jt → q = secJ xs u.own jt → (0 ≤ j + 1 ∧ j + 1 ≤ l ∧ ps2 ++ [V.int .i64 p] = I (rowS xs ms nm i.toNat s (j + 1).toNat).P ∧ ss2 ++ [V.int .i64 q] = I (rowS xs ms nm i.toNat s (j + 1).toNat).S ∧ qs2 ++ [V.int .i64 (mul xs jt : Int)] = I (rowS xs ms nm i.toNat s (j + 1).toNat).Q ∧ os ++ [V.int .i64 a] = I (rowS xs ms nm i.toNat s (j + 1).toNat).own ∧ (rowS xs ms nm i.toNat s (j + 1).toNat).P.length ≤ 24) := fun p q hp hq => by
              rw [toNat_succ j0, hsu, ← hjt, hst]
              refine ⟨by omega, by omega, by rw [hP2, snoc, hp], by rw [hS2, snoc, hq], by rw [hQ2, snoc], by rw [hO2, snoc, haz, hz], ?_⟩
              simp only [List.length_append, List.length_cons, List.length_nil]
              omega
            have hl1 : ∀ v : V, (u.P.length : Int) + ([v].length : Int) ≤ 2147483647 := fun v => by
              simp only [List.length_cons, List.length_nil]; omega
            have hpl0 := prs_len (mul xs) jt jt
            rw [← hprr] at hpl0
            have hwj : IntKind.wrap .i64 (j + 1) = j + 1 := wrap_id (by omega) (by omega)
            rw [hwj]
            have hdec : (l - (j + 1)).toNat < (l - j).toNat := by omega
            have hjl2 : j < (l.toNat : Int) := by omega
            clear hpr hfm gos hosl hqz hll hvl hls hql2 hsl2 hpl2 hprl hprg hfx3 hu24 hmul hol2 hpxl hrl hml hbl n6 n1 hmn hn hnl hpl
            refine ⟨fun h8 => ?_, fun h8 => ?_⟩
            · have hpj : parJ u.own jt = u.own.getD (jt - 1) 0 := by rw [parJ, if_pos (by omega)]
              rw [hw1 h8, hwn, gsn (jt - 1) (by omega)]
              refine ⟨by omega, by omega, by omega, hjl, fun h9 => ?_, fun h9 => ?_⟩
              · have h10 := hprm (by omega)
                rw [if_pos (by omega)] at hsj
                rw [Int.toNat_natCast, gsn _ h10]
                exact ⟨hjl, by omega, by omega, hjl, by omega, by omega, by omega, by omega, rfl, hl1 _, sol _, rfl, hl1 _, sol _, j0, hjl2, rfl, hl1 _, sol _, hag2 (((_, _, _), _), j + 1) (fin _ _ hpj.symm hsj.symm) hdec⟩
              · rw [if_neg (by omega)] at hsj
                exact ⟨rfl, hl1 _, sol _, rfl, hl1 _, sol _, j0, hjl2, rfl, hl1 _, sol _, hag2 (((_, _, _), _), j + 1) (fin _ _ hpj.symm hsj.symm) hdec⟩
            · have hpj : parJ u.own jt = -1 := by rw [parJ, if_neg (by omega)]
              rw [if_neg (by omega)] at hsj
              refine ⟨hjl, fun h9 => absurd h9 (by omega), fun h9 => ?_⟩
              exact ⟨rfl, hl1 _, sol _, rfl, hl1 _, sol _, j0, hjl2, rfl, hl1 _, sol _, hag2 (((_, _, _), _), j + 1) (fin _ _ hpj.symm hsj.symm) hdec⟩
          · have hst := stJ_some (xs := xs) (names := nm) (s := u) hn1
            have hsym := hcv.tab.sym i.toNat hil k0' (by omega)
            have hml2 := mm_len hcv (i := k0') (k := i.toNat) (by omega) hil
            have hin := hok.rin k0' jt hk0 (by omega)
            rw [← haz] at hst hin
            have ha0 : 0 ≤ a := hin.1
            have ha1 : a < u.P.length := by omega
            have hal : a.toNat < u.P.length := by omega
            have ha2 : 0 ≤ a := ha0
            clear hfx3 gos hosl hpr hql2 hsl2 hpl2 hqz hll hvl hls
            refine ⟨rfl, by simp only [List.length_cons, List.length_nil]; omega, sol _, fun _ => ?_, fun h6 => absurd ha1 h6⟩
            rw [wrap_id (n := j + 1) (by omega) (by omega)]
            refine ⟨ha0, ha1, hal, j0, by omega, ha0, ha1, hal, ?_⟩
            refine hag2 (((ps2, ss2, _), _), j + 1) ⟨by simp only; omega, by simp only; omega, ?_, ?_, ?_, ?_, ?_⟩ (by simp only; omega)
            · simp only [toNat_succ j0]; rw [hsu, ← hjt, hst]; exact hP2
            · simp only [toNat_succ j0]; rw [hsu, ← hjt, hst]; exact hS2
            · simp only [toNat_succ j0]; rw [hsu, ← hjt, hst]; simp only; rw [hQ2, I_set]
            · simp only [toNat_succ j0]; rw [hsu, ← hjt, hst]; simp only; rw [hO2, snoc]
            · simp only [toNat_succ j0]; rw [hsu, ← hjt, hst]; exact hle2
      · have hjl0 : j.toNat = lenN bs ms i.toNat := by omega
        obtain ⟨hcu, hou, hmu⟩ := rowS_ok hcv hil hok j.toNat (by omega)
        rw [← hxs] at hcu hou hmu
        have hcl : clS bs ms (i.toNat + 1) = (rowS xs ms nm i.toNat s j.toNat, nm ++ [(rowS xs ms nm i.toNat s j.toNat).own]) := by
          rw [clS, ← hxs, ← hs, ← hnm, ← hjl0]
        obtain ⟨u, hu⟩ : ∃ u, u = rowS xs ms nm i.toNat s j.toNat := ⟨_, rfl⟩
        rw [← hu] at hcl hcu hou hmu hP2 hS2 hQ2 hO2 hle2
        have hfo : V.frzs os = os := by rw [hO2, I_frzs]
        have hol : os.length = l.toNat := by rw [hO2, I_length, hou.ol]; omega
        have go : ∀ k, os.getD k (.int .i64 0) = .int .i64 (u.own.getD k 0) := fun k => by rw [hO2, I_getD]
        have hnl : ns.length = i.toNat := by rw [hN, II_length, hok.nl]
        have hvsl : vs.length = i.toNat := by rw [hV, I_length, leavL, List.length_map, hok.nl]
        have hw1 : IntKind.wrap .i64 ((l.toNat : Int) - 1) = l - 1 := by rw [wrap_id (by omega) (by omega)]; omega
        simp only [hfo, hol, hw1, go, stdEqs hL, imp_self, true_and, and_true, bif_or, bif_and, Bool.or_eq_true, Bool.or_eq_false_iff, Bool.and_eq_true, Bool.and_eq_false_iff, decide_eq_true_eq, decide_eq_false_iff_not, Bool.not_eq_true', Bool.not_eq_false', beq_iff_eq, beq_eq_false_iff_ne, ne_eq, toNat0, toNat1, ok_int, toI_int, I_frzs, I_length, I_getD, ok_ints, toL_slc, ok_int]
        have sol : ∀ n : Int, ∀ x : V, x ∈ [V.int .i64 n] → x.solid = true := fun n x hx => by
          simp only [List.mem_singleton] at hx
          subst hx; rfl
        have sol2 : ∀ x : V, x ∈ [V.slc false 2 (.int .i64 0) os] → x.solid = true := fun x hx => by
          simp only [List.mem_singleton] at hx
          subst hx; rfl
        have hvq : (vs ++ [V.int .i64 (u.own.getD (l - 1).toNat 0)]) = I (leavL (clS bs ms (i.toNat + 1)).2) := by
          rw [hcl, leav_snoc, hou.ol, hV, show (l - 1).toNat = j.toNat - 1 by omega]
          simp [I]
        have hnq : (ns ++ [V.slc false 2 (.int .i64 0) os]) = II false (clS bs ms (i.toNat + 1)).2 := by
          rw [hcl, II_append, hN, hO2]; rfl
        have hl1 : ∀ v : V, (ns.length : Int) + ([v].length : Int) ≤ 2147483647 := fun v => by
          simp only [List.length_cons, List.length_nil]; omega
        have hl2 : ∀ v : V, (vs.length : Int) + ([v].length : Int) ≤ 2147483647 := fun v => by
          simp only [List.length_cons, List.length_nil]; omega
        rw [hvq, hnq, wrap_id (n := i + 1) (by omega) (by omega)]
        refine ⟨hl1 _, sol2, by omega, by omega, rfl, hl2 _, sol _, hag ((_, _, _), (_, _), i + 1) ⟨by simp only; omega, by simp only; omega, ?_, ?_, ?_, ?_, ?_, ?_, ?_⟩ (by simp only; omega)⟩
        · simp only [toNat_succ i0]; rw [hcl]; exact hP2
        · simp only [toNat_succ i0]; rw [hcl]; exact hS2
        · simp only [toNat_succ i0]; rw [hcl]; exact hQ2
        · simp only [toNat_succ i0]; rfl
        · simp only [toNat_succ i0]; rfl
        · simp only [toNat_succ i0]; rw [hcl]; exact hle2
        · intro k hk
          simp only [toNat_succ i0] at hk
          by_cases hki : k = i.toNat
          · rw [hki, ← hls]; omega
          · exact hln k (by omega)
    · have hin : i.toNat = bs.length := by omega
      have hnb : tooB bs ms = false := by
        cases hb : tooB bs ms with
        | false => rfl
        | true =>
          exfalso
          rcases tooB_iff.1 hb with ⟨k, h3, h4⟩ | h3
          · have := hln k (by omega)
            rw [lenN] at h4
            omega
          · rw [hin] at hle; omega
      rw [hr, hf2 hnb, hP, hS, hQ, hV, hin]
  · cases h
end Go.Ax
