/-
  Clusters of curves: spec.l09Cluster; LeavingPoints, both sides, the law. No conditions but those of the contracts.
-/
import Derived.Test.YtkidnnlplpocdaaGh
set_option linter.all false
namespace Go.Ax
open Go.Proofs
set_option maxHeartbeats 1000000

def c_C_JLb (f : List V → List V → List V × List V × List V × List V × Bool) (q : List V → List V → Prop) : Contract := fun
  | [.agg [.slc false 99 (.agg [.slc false 2 (.int .i64 0) []]) a0, .slc false 27 (.slc false 2 (.int .i64 0) []) a1]] => some ([q a0 a1], .tup [.agg [.slc false 2 (.int .i64 0) ((f a0 a1).1), .slc false 2 (.int .i64 0) ((f a0 a1).2.1), .slc false 2 (.int .i64 0) ((f a0 a1).2.2.1)], .slc false 2 (.int .i64 0) ((f a0 a1).2.2.2.1), .bool ((f a0 a1).2.2.2.2)])
  | _ => none
def anyL (bs ms : List (List Int)) : Bool := (List.range bs.length).any fun i => decide (24 < lenAt bs ms i)
theorem anyL_false {bs ms : List (List Int)} (h : ∀ i, i < bs.length → lenAt bs ms i ≤ 24) : anyL bs ms = false := by
  rw [anyL, List.any_eq_false]
  intro i hi
  have := h i (by simpa using hi)
  simp only [decide_eq_true_eq]
  omega
theorem anyL_true {bs ms : List (List Int)} {i : Nat} (hi : i < bs.length) (h : 24 < lenAt bs ms i) : anyL bs ms = true := by
  rw [anyL, List.any_eq_true]
  exact ⟨i, by simpa using hi, by simpa using h⟩
theorem tooB_eq {bs ms : List (List Int)} : tooB bs ms = (anyL bs ms || !decide ((clS bs ms bs.length).1.P.length ≤ 24)) := by
  rw [Bool.eq_iff_iff, tooB_iff, Bool.or_eq_true, TooBig]
  have e1 : (∃ i, i < bs.length ∧ 24 < lenN bs ms i) ↔ anyL bs ms = true := by
    rw [anyL, List.any_eq_true]
    constructor
    · rintro ⟨i, h1, h2⟩
      exact ⟨i, by simpa using h1, by rw [lenN] at h2; simp only [decide_eq_true_eq]; omega⟩
    · rintro ⟨i, h1, h2⟩
      exact ⟨i, by simpa using h1, by rw [lenN]; simp only [decide_eq_true_eq] at h2; omega⟩
  rw [e1]
  constructor
  · rintro (h | h)
    · exact .inl h
    · exact .inr (by simp only [Bool.not_eq_true', decide_eq_false_iff_not]; omega)
  · rintro (h | h)
    · exact .inl h
    · refine .inr ?_
      simp only [Bool.not_eq_true', decide_eq_false_iff_not] at h
      omega
def f_spc (a b : List V) : List V × List V × List V × List V × Bool := bif anyL (unBB a) (unII b) then ([], [], [], [], false) else
  (I (clS (unBB a) (unII b) a.length).1.P, I (clS (unBB a) (unII b) a.length).1.S, I (clS (unBB a) (unII b) a.length).1.Q, I (leavL (clS (unBB a) (unII b) a.length).2), decide ((clS (unBB a) (unII b) a.length).1.P.length ≤ 24))
theorem stJ_len {xs : List Int} {ms names : List (List Int)} {i j : Nat} {s : PSt} : (stJ xs ms names i s j).P.length ≤ s.P.length + 1 := by
  rw [stJ]
  split
  · simp
  · simp
/-- the name found so far -/
def NmP (ms names : List (List Int)) (i j k : Nat) (a : Int) : Prop :=
  (a = -1 ∧ ∀ t, t < k → ¬ (j : Int) < mm ms i t) ∨ ∃ t, nmK ms i j = some t ∧ 0 ≤ a ∧ a = (names.getD t []).getD j 0
set_option maxRecDepth 100000 in
theorem s_spec_l09Cluster : Sat Try.prog 61 (c_C_JLb f_spc q_cv) := by
  intro args ps r h hp
  unfold c_C_JLb at h
  split at h
  · rename_i a0 a1
    simp only [Option.some.injEq, Prod.mk.injEq] at h
    obtain ⟨rfl, rfl⟩ := h
    obtain ⟨⟨⟨bs, hbs, hb1, hb2⟩, ⟨ms, hms, hm1, hm2⟩⟩, hcv⟩ := (alls_cons.1 hp).1
    rw [hbs, hms, unBB_BB, unII_II] at hcv
    have g1 : V.frzs a0 = a0 := by rw [hbs, BB_frzs]
    have g2 : V.frzs a1 = a1 := by rw [hms, II_frzs]
    have hbl : a0.length = bs.length := by rw [hbs, BB_length]
    have hml : a1.length = ms.length := by rw [hms, II_length]
    have gb : ∀ k, a0.getD k (.agg [.slc false 2 (.int .i64 0) []]) = .agg [.slc false 2 (.int .i64 0) (I (bs.getD k []))] := fun k => by rw [hbs, BB_getD]
    have gm : ∀ k, a1.getD k (.slc false 2 (.int .i64 0) []) = .slc false 2 (.int .i64 0) (I (ms.getD k [])) := fun k => by rw [hms, II_getD]
    have hm0 : ∀ x y : Nat, (ms.getD x []).getD y 0 = mm ms x y := fun _ _ => rfl
    obtain ⟨n, hn⟩ : ∃ n : Int, n = bs.length := ⟨_, rfl⟩
    have n1 := hcv.n1
    have n6 := hcv.n6
    have hmn : ms.length = bs.length := hcv.tab.len
    have hbr : ∀ i, i < bs.length → Br (bs.getD i []) := fun i hi => br_of (hcv.br i hi)
    have rl : ∀ k, k < bs.length → (ms.getD k []).length = bs.length := fun k hk => (hcv.tab.row k hk).1
    have mmr : ∀ i k, i < bs.length → k < bs.length → 0 ≤ mm ms i k ∧ mm ms i k ≤ 200 := fun i k hi hk => hcv.tab.range hi hk
    have mmo : ∀ i k, i < bs.length → k < bs.length → i ≠ k → 1 ≤ mm ms i k ∧ mm ms i k ≤ 200 := fun i k hi hk hne => ((hcv.tab.row i hi).2 k hk).2 hne
    have hqv : q_cv a0 a1 := (alls_cons.1 hp).1
    have hf1 : anyL bs ms = true → f_spc a0 a1 = ([], [], [], [], false) := fun h => by rw [f_spc, hbs, hms, unBB_BB, unII_II, h]; rfl
    have hf2 : anyL bs ms = false → f_spc a0 a1 = (I (clS bs ms bs.length).1.P, I (clS bs ms bs.length).1.S, I (clS bs ms bs.length).1.Q, I (leavL (clS bs ms bs.length).2), decide ((clS bs ms bs.length).1.P.length ≤ 24)) := fun h => by
      rw [f_spc, hbl, hbs, hms, unBB_BB, unII_II, h]; rfl
    obtain ⟨vl, hvl⟩ : ∃ vl, vl = I (lenL bs ms bs.length) := ⟨_, rfl⟩
    have efl : f_len a0 a1 = vl := by rw [f_len, hbl, hbs, hms, unBB_BB, unII_II, hvl]
    have hvll : vl.length = bs.length := by rw [hvl, I_length, lenL, tab_len]
    obtain ⟨ll, hll⟩ : ∃ ll, ll = lenL bs ms bs.length := ⟨_, rfl⟩
    have gvl : ∀ k, vl.getD k (.int .i64 0) = .int .i64 (ll.getD k 0) := fun k => by rw [hvl, I_getD, hll]
    have gll : ∀ k, k < bs.length → ll.getD k 0 = lenAt bs ms k := fun k hk => by rw [hll, lenL, tab_get _ _ _ _ hk]
    generalize H_f_len : f_len = F_f_len
    generalize H_q_cv : q_cv = F_q_cv
    generalize H_f_first : f_first = F_f_first
    generalize H_q_first : q_first = F_q_first
    generalize H_f_codeK : f_codeK = F_f_codeK
    refine fnOk_ofF (T := tab) (B := [(122, c_C_l F_f_len F_q_cv), (123, c_Bi_l F_f_first F_q_first), (124, c_Bi_l F_f_codeK F_q_first)]) (Bi := []) [1000003508, 1000030012, 1000032003, 1000032006, 1000032007, 2000008045, 2000008055, 2000008056, 2000032168, 2000032802, 2000032969, 2000032970, 2000032971, 2000032972, 2000032998, 3000032001, 0, 1, 2, 3, 4, 5, 6, 7, 8, 9, 10, 11, 12, 13, 14, 15, 16, 17] Try.func61 rfl rfl (by kernel_rfl) (Nat.le_of_ble_eq_true rfl) mixed tabOk (by subst H_f_len H_q_cv H_f_first H_q_first H_f_codeK; exact (bookCons s_spec_l09Lengths (bookCons s_spec_l06Sequence (bookCons s_spec_l06Code bookNil)))) (by subst H_f_len H_q_cv H_f_first H_q_first H_f_codeK; exact bookINil) (by kernel_rfl) ?_
    intro L lp rr hL hr hf hlp
    have Ef : F_f_len a0 a1 = vl := by rw [← H_f_len, efl]
    have E1 : ∀ xs k, F_f_first (I xs) k = I (firstK xs k.toNat) := fun xs k => by rw [← H_f_first, f_first, unI_I]
    have E2 : ∀ xs k, F_f_codeK (I xs) k = I (codeK xs k.toNat) := fun xs k => by rw [← H_f_codeK, f_codeK, unI_I]
    have Q1 : ∀ xs k, Br xs → 1 ≤ k → k ≤ 1000000 → F_q_first (I xs) k := fun xs k h h1 h2 => by rw [← H_q_first]; exact ⟨⟨xs, rfl, h⟩, h1, h2⟩
    conv => cbv
    simp only [stdEqs hL, imp_self, true_and, and_true, bif_or, bif_and, Bool.or_eq_true, Bool.or_eq_false_iff, Bool.and_eq_true, Bool.and_eq_false_iff, decide_eq_true_eq, decide_eq_false_iff_not, Bool.not_eq_true', Bool.not_eq_false', beq_iff_eq, beq_eq_false_iff_ne, ne_eq, toNat0, toNat1, ok_int, toI_int, I_frzs, I_length, I_getD, ok_ints, toL_slc, g1, g2, Ef]
    refine ⟨by rw [← H_q_cv]; exact hqv, ?_⟩
    refine hlp ((List V × List V × List V) × (List V × List V) × Int) _ _ _ [1, 2, 5, 6, 7, 8, 9] (fun x => [(1, none, .val (.box 32 (.agg [.slc false 99 (.agg [.slc false 2 (.int .i64 0) []]) a0, .slc false 27 (.slc false 2 (.int .i64 0) []) a1]))), (2, none, .val (.box 40 (.agg [.slc true 2 (.int .i64 0) [], .slc true 2 (.int .i64 0) [], .slc true 2 (.int .i64 0) []]))), (5, none, .val (.slc true 2 (.int .i64 0) vl)), (6, none, .val (.box 40 (.agg [.slc true 2 (.int .i64 0) x.1.1, .slc true 2 (.int .i64 0) x.1.2.1, .slc true 2 (.int .i64 0) x.1.2.2]))), (7, none, .val (.slc true 2 (.int .i64 0) x.2.1.1)), (8, none, .val (.slc true 27 (.slc false 2 (.int .i64 0) []) x.2.1.2)), (9, none, .val (.int .i64 x.2.2))])
      (fun x => 0 ≤ x.2.2 ∧ x.2.2 ≤ n ∧ x.1.1 = I (clS bs ms x.2.2.toNat).1.P ∧ x.1.2.1 = I (clS bs ms x.2.2.toNat).1.S ∧ x.1.2.2 = I (clS bs ms x.2.2.toNat).1.Q ∧ x.2.1.1 = I (leavL (clS bs ms x.2.2.toNat).2) ∧ x.2.1.2 = II false (clS bs ms x.2.2.toNat).2 ∧ (clS bs ms x.2.2.toNat).1.P.length ≤ 24 * x.2.2 ∧ (∀ k, k < x.2.2.toNat → lenAt bs ms k ≤ 24)) (fun x => (n - x.2.2).toNat) ((([], [], []), ([], []), 0)) (by subst hL; rfl) ?_ ?_
    · exact ⟨by simp, by simp only; omega, rfl, rfl, rfl, rfl, rfl, by simp [clS], fun k hk => by simp at hk⟩
    rintro ⟨⟨ps, ss, qs⟩, ⟨vs, ns⟩, i⟩ ⟨i0, i1, hP, hS, hQ, hV, hN, hle, hln⟩ hfx ag hag
    simp only at i0 i1 hP hS hQ hV hN hle hln
    have hpl0 : ps.length = (clS bs ms i.toNat).1.P.length := by rw [hP, I_length]
    conv => cbv
    simp only [stdEqs hL, imp_self, true_and, and_true, bif_or, bif_and, Bool.or_eq_true, Bool.or_eq_false_iff, Bool.and_eq_true, Bool.and_eq_false_iff, decide_eq_true_eq, decide_eq_false_iff_not, Bool.not_eq_true', Bool.not_eq_false', beq_iff_eq, beq_eq_false_iff_ne, ne_eq, toNat0, toNat1, ok_int, toI_int, I_frzs, I_length, I_getD, ok_ints, toL_slc, hbl, gb, gvl, hvll, E1, E2, ok_bran, toL_bran, fld_bran, ← hn, hpl0]
    refine ⟨fun h2 => ?_, fun h2 => ?_⟩
    · have hil : i.toNat < bs.length := by omega
      have hls := gll _ hil
      obtain ⟨l, hl⟩ : ∃ l, l = ll.getD i.toNat 0 := ⟨_, rfl⟩
      rw [← hl] at hls ⊢
      have hl1 : 1 ≤ l := by rw [hls]; exact lenAt_pos hcv hil
      obtain ⟨xs, hxs⟩ : ∃ xs, xs = bs.getD i.toNat [] := ⟨_, rfl⟩
      have hbx : Br xs := by rw [hxs]; exact hbr _ hil
      have hok := clS_ok hcv i.toNat (by omega)
      obtain ⟨s, hs⟩ : ∃ s, s = (clS bs ms i.toNat).1 := ⟨_, rfl⟩
      obtain ⟨nm, hnm⟩ : ∃ nm, nm = (clS bs ms i.toNat).2 := ⟨_, rfl⟩
      rw [← hs] at hP hS hQ hle hok
      rw [← hnm] at hV hN hok
      rw [← hxs]
      have hlN : lenN bs ms i.toNat = l.toNat := by rw [lenN, hls]
      obtain ⟨row, hrow⟩ : ∃ row, row = I (firstK xs l.toNat) := ⟨_, rfl⟩
      have hrl : row.length = l.toNat := by rw [hrow, I_length, firstK_len]
      have grow : ∀ k, row.getD k (.int .i64 0) = .int .i64 ((firstK xs l.toNat).getD k 0) := fun k => by rw [hrow, I_getD]
      obtain ⟨vc, hvc⟩ : ∃ vc, vc = I (codeK xs l.toNat) := ⟨_, rfl⟩
      have hvcl : vc.length = l.toNat - 1 := by rw [hvc, I_length, codeK, tab_len]
      have gvc : ∀ k, vc.getD k (.int .i64 0) = .int .i64 ((codeK xs l.toNat).getD k 0) := fun k => by rw [hvc, I_getD]
      rw [← hrow, ← hvc]
      refine ⟨i0, h2, hil, fun h3 => ?_, fun h3 => ?_⟩
      · rw [hr, hf1 (anyL_true hil (by omega))]; rfl
      have hqf := Q1 xs l hbx hl1 (by omega)
      refine ⟨i0, h2, i0, h2, hil, hqf, i0, h2, i0, h2, hil, hqf, ?_⟩
      refine hlp (((List V × List V × List V) × List V) × Int) _ _ _ [1, 2, 5, 6, 7, 8, 9, 10, 11, 12, 13] (fun y => [(1, none, .val (.box 32 (.agg [.slc false 99 (.agg [.slc false 2 (.int .i64 0) []]) a0, .slc false 27 (.slc false 2 (.int .i64 0) []) a1]))), (2, none, .val (.box 40 (.agg [.slc true 2 (.int .i64 0) [], .slc true 2 (.int .i64 0) [], .slc true 2 (.int .i64 0) []]))), (5, none, .val (.slc true 2 (.int .i64 0) vl)), (6, none, .val (.box 40 (.agg [.slc true 2 (.int .i64 0) y.1.1.1, .slc true 2 (.int .i64 0) y.1.1.2.1, .slc true 2 (.int .i64 0) y.1.1.2.2]))), (7, none, .val (.slc true 2 (.int .i64 0) vs)), (8, none, .val (.slc true 27 (.slc false 2 (.int .i64 0) []) ns)), (9, none, .val (.int .i64 i)), (10, none, .val (.slc true 2 (.int .i64 0) row)), (11, none, .val (.slc true 2 (.int .i64 0) vc)), (12, none, .val (.slc true 2 (.int .i64 0) y.1.2)), (13, none, .val (.int .i64 y.2))])
        (fun y => 0 ≤ y.2 ∧ y.2 ≤ l ∧ y.1.1.1 = I (rowS xs ms nm i.toNat s y.2.toNat).P ∧ y.1.1.2.1 = I (rowS xs ms nm i.toNat s y.2.toNat).S ∧ y.1.1.2.2 = I (rowS xs ms nm i.toNat s y.2.toNat).Q ∧ y.1.2 = I (rowS xs ms nm i.toNat s y.2.toNat).own ∧ (rowS xs ms nm i.toNat s y.2.toNat).P.length ≤ 24 * i + y.2) (fun y => (l - y.2).toNat) ((((ps, ss, qs), []), 0)) (by subst hL; rfl) ?_ ?_
      · exact ⟨by simp, by simp only; omega, hP, hS, hQ, rfl, by simp only; show (s.P.length : Int) ≤ 24 * i + 0; omega⟩
      rintro ⟨⟨⟨ps2, ss2, qs2⟩, os⟩, j⟩ ⟨j0, j1, hP2, hS2, hQ2, hO2, hle2⟩ hfx2 ag2 hag2
      simp only at j0 j1 hP2 hS2 hQ2 hO2 hle2
      conv => cbv
      simp only [stdEqs hL, imp_self, true_and, and_true, bif_or, bif_and, Bool.or_eq_true, Bool.or_eq_false_iff, Bool.and_eq_true, Bool.and_eq_false_iff, decide_eq_true_eq, decide_eq_false_iff_not, Bool.not_eq_true', Bool.not_eq_false', beq_iff_eq, beq_eq_false_iff_ne, ne_eq, toNat0, toNat1, ok_int, toI_int, I_frzs, I_length, I_getD, ok_ints, toL_slc, hvll, gvl, ← hl]
      refine ⟨i0, by omega, hil, fun h4 => ?_, fun h4 => ?_⟩
      · obtain ⟨u, hu⟩ : ∃ u, u = rowS xs ms nm i.toNat s j.toNat := ⟨_, rfl⟩
        obtain ⟨hcu, hou, hmu⟩ := rowS_ok hcv hil hok j.toNat (by omega)
        rw [← hxs, ← hu] at hcu hou hmu
        obtain ⟨jt, hjt⟩ : ∃ jt, jt = j.toNat := ⟨_, rfl⟩
        have hjj : (jt : Int) = j := by omega
        have hjl : jt < l.toNat := by omega
        have hfm : (firstK xs l.toNat).getD jt 0 = mul xs jt := by rw [firstK_mul, tab_get _ _ _ _ hjl]
        have hjN : jt < lenN bs ms i.toNat := by omega
        have hsu : rowS xs ms nm i.toNat s (j.toNat + 1) = stJ xs ms nm i.toNat u j.toNat := by rw [rowS, ← hu]
        rw [← hu] at hP2 hS2 hQ2 hO2 hle2
        have hpl2 : ps2.length = u.P.length := by rw [hP2, I_length]
        have hsl2 : ss2.length = u.P.length := by rw [hS2, I_length, hcu.sl]
        have hql2 : qs2.length = u.P.length := by rw [hQ2, I_length, hcu.ql]
        have hol2 : os.length = j.toNat := by rw [hO2, I_length, hou.ol]
        have gq2 : ∀ k, qs2.getD k (.int .i64 0) = .int .i64 (u.Q.getD k 0) := fun k => by rw [hQ2, I_getD]
        have go2 : ∀ k, os.getD k (.int .i64 0) = .int .i64 (u.own.getD k 0) := fun k => by rw [hO2, I_getD]
        have hnl : ns.length = i.toNat := by rw [hN, II_length, hok.nl]
        have gn : ∀ k, ns.getD k (.slc false 2 (.int .i64 0) []) = .slc false 2 (.int .i64 0) (I (nm.getD k [])) := fun k => by rw [hN, II_getD]
        obtain ⟨z, hz⟩ : ∃ z : Int, z = u.P.length := ⟨_, rfl⟩
        refine hlp (Int × Int) _ _ _ [1, 2, 5, 6, 7, 8, 9, 10, 11, 12, 13, 14, 15] (fun w => [(1, none, .val (.box 32 (.agg [.slc false 99 (.agg [.slc false 2 (.int .i64 0) []]) a0, .slc false 27 (.slc false 2 (.int .i64 0) []) a1]))), (2, none, .val (.box 40 (.agg [.slc true 2 (.int .i64 0) [], .slc true 2 (.int .i64 0) [], .slc true 2 (.int .i64 0) []]))), (5, none, .val (.slc true 2 (.int .i64 0) vl)), (6, none, .val (.box 40 (.agg [.slc true 2 (.int .i64 0) ps2, .slc true 2 (.int .i64 0) ss2, .slc true 2 (.int .i64 0) qs2]))), (7, none, .val (.slc true 2 (.int .i64 0) vs)), (8, none, .val (.slc true 27 (.slc false 2 (.int .i64 0) []) ns)), (9, none, .val (.int .i64 i)), (10, none, .val (.slc true 2 (.int .i64 0) row)), (11, none, .val (.slc true 2 (.int .i64 0) vc)), (12, none, .val (.slc true 2 (.int .i64 0) os)), (13, none, .val (.int .i64 j)), (14, none, .val (.int .i64 w.1)), (15, none, .val (.int .i64 w.2))])
          (fun w => 0 ≤ w.2 ∧ w.2 ≤ i ∧ NmP ms nm i.toNat jt w.2.toNat w.1) (fun w => (i - w.2).toNat) ((-1, 0)) (by subst hL; rfl) ?_ ?_
        · exact ⟨by simp, i0, .inl ⟨rfl, fun t ht => by simp at ht⟩⟩
        rintro ⟨a, k⟩ ⟨k0, k1, hA⟩ hfx3 ag3 hag3
        simp only at k0 k1 hA
        have snoc : ∀ (l : List Int) (x : Int), I l ++ [V.int .i64 x] = I (l ++ [x]) := fun l x => by simp [I]
        conv => cbv
        have hqz0 : (qs2 ++ [V.int .i64 0]).getD u.P.length (.int .i64 0) = .int .i64 0 := by
          rw [List.getD_eq_getElem?_getD, List.getElem?_append_right (by omega), hql2, Nat.sub_self]; rfl
        have hqzl : (qs2 ++ [V.int .i64 0]).length = u.P.length + 1 := by rw [List.length_append, hql2]; rfl
        have hqzs : ∀ v, (qs2 ++ [V.int .i64 0]).set u.P.length v = qs2 ++ [v] := fun v => by
          rw [List.set_append_right _ _ (by omega), hql2, Nat.sub_self]; rfl
        simp only [stdEqs hL, imp_self, true_and, and_true, bif_or, bif_and, Bool.or_eq_true, Bool.or_eq_false_iff, Bool.and_eq_true, Bool.and_eq_false_iff, decide_eq_true_eq, decide_eq_false_iff_not, Bool.not_eq_true', Bool.not_eq_false', beq_iff_eq, beq_eq_false_iff_ne, ne_eq, toNat0, toNat1, ok_int, toI_int, I_frzs, I_length, I_getD, ok_ints, toL_slc, hml, gm, hm0, hnl, gn, hol2, hql2, hpl2, hsl2, gq2, go2, hrl, grow, ← hjt, hfm, ok_int, gvc, hvcl, Int.toNat_natCast, hqz0, hqzl, hqzs]
        have sol : ∀ n : Int, ∀ x : V, x ∈ [V.int .i64 n] → x.solid = true := fun n x hx => by
          simp only [List.mem_singleton] at hx
          subst hx; rfl
        have hwj : IntKind.wrap .i64 (j + 1) = j + 1 := wrap_id (by omega) (by omega)
        rw [hwj]
        have hdec : (l - (j + 1)).toNat < (l - j).toNat := by omega
        refine ⟨fun ⟨h5, h5a⟩ => ?_, fun h5 => ?_⟩
        · have hkn : k.toNat < i.toNat := by omega
          have hrw := rl _ hil
          have hnlk := hok.rl _ hkn
          clear hfx3 hqz0 hqzl hqzs hz hll hvl hls hpl2 hsl2 hql2 hol2
          rw [wrap_id (n := k + 1) (by omega) (by omega)]
          refine ⟨i0, by omega, k0, by omega, fun h6 => ?_, fun h6 => ?_⟩
          · have hsym := hcv.tab.sym i.toNat hil k.toNat (by omega)
            have hml2 := mm_len hcv (i := k.toNat) (k := i.toNat) (by omega) hil
            refine ⟨k0, by omega, hkn, j0, by omega, hag3 (_, k + 1) ⟨by simp only; omega, by simp only; omega, ?_⟩ (by simp only; omega)⟩
            simp only [toNat_succ k0]
            refine .inr ⟨k.toNat, ?_, ?_, rfl⟩
            · refine nmK_of hkn (fun t ht => ?_) (by omega)
              rcases hA with ⟨_, h8⟩ | ⟨_, _, h8, _⟩
              · exact h8 t ht
              · omega
            · exact (hok.rin k.toNat jt hkn (by omega)).1
          · refine hag3 (a, k + 1) ⟨by simp only; omega, by simp only; omega, ?_⟩ (by simp only; omega)
            simp only [toNat_succ k0]
            rcases hA with ⟨h7, h8⟩ | h7
            · refine .inl ⟨h7, fun t ht => ?_⟩
              by_cases htk : t = k.toNat
              · rw [htk, hjj]; exact h6
              · exact h8 t (by omega)
            · exact .inr h7
        · refine ⟨fun h6 => ?_, fun h6 => ?_⟩
          · have hn0 : nmK ms i.toNat jt = none := by
              rcases hA with ⟨_, h8⟩ | ⟨_, _, h8, _⟩
              · exact nmK_of_none fun t ht => h8 t (by omega)
              · omega
            have hst := stJ_none (xs := xs) (names := nm) (s := u) hn0
            have hmul := mul_le hbx jt
            have fin : ∀ p q : Int, p = parJ u.own jt → q = secJ xs u.own jt → (0 ≤ j + 1 ∧ j + 1 ≤ l ∧ ps2 ++ [V.int .i64 p] = I (rowS xs ms nm i.toNat s (j + 1).toNat).P ∧ ss2 ++ [V.int .i64 q] = I (rowS xs ms nm i.toNat s (j + 1).toNat).S ∧ qs2 ++ [V.int .i64 (IntKind.wrap .i64 (0 + (mul xs jt : Int)))] = I (rowS xs ms nm i.toNat s (j + 1).toNat).Q ∧ os ++ [V.int .i64 (u.P.length : Int)] = I (rowS xs ms nm i.toNat s (j + 1).toNat).own ∧ (rowS xs ms nm i.toNat s (j + 1).toNat).P.length ≤ 24 * i + (j + 1)) := fun p q hp hq => by
              rw [toNat_succ j0, hsu, ← hjt, hst, wrap_id (by omega) (by omega)]
              refine ⟨by omega, by omega, by rw [hP2, snoc, hp], by rw [hS2, snoc, hq], by rw [hQ2, snoc, Int.zero_add], by rw [hO2, snoc], ?_⟩
              simp only [List.length_append, List.length_cons, List.length_nil]
              omega
            have hu1 : (u.P.length : Int) < ((u.P.length + 1 : Nat) : Int) := by omega
            have hl1 : ∀ v : V, (u.P.length : Int) + ([v].length : Int) ≤ 2147483647 := fun v => by
              simp only [List.length_cons, List.length_nil]; omega
            have hl2 : ∀ v : V, (jt : Int) + ([v].length : Int) ≤ 2147483647 := fun v => by
              simp only [List.length_cons, List.length_nil]; omega
            have hw1 : 0 < j → IntKind.wrap .i64 (j - 1) = j - 1 := fun h => wrap_id (by omega) (by omega)
            have hwn : (j - 1).toNat = jt - 1 := by omega
            have hcj : 0 < j → (codeK xs l.toNat).getD (jt - 1) 0 = cd (mul xs) jt jt := fun h => by
              rw [codeK_get xs (by omega), show jt - 1 + 1 = jt by omega]
            have hci := cd_in (mul xs) jt jt
            obtain ⟨cj, hcjj⟩ : ∃ cj, cj = cd (mul xs) jt jt := ⟨_, rfl⟩
            rw [← hcjj] at hcj hci
            have hsj : secJ xs u.own jt = if 0 < jt ∧ cj ≠ 0 then u.own.getD (j - cj).toNat 0 else -1 := by rw [secJ, ← hcjj, hjj]
            have hjl2 : j < (l.toNat : Int) := by omega
            have hup0 : 0 ≤ (u.P.length : Int) := by omega
            have hupn : u.P.length < u.P.length + 1 := by omega
            clear hqz0 hqzl hqzs hll hvl hls hql2 hsl2 hpl2 hfx3 hmul hol2 hrl hml hbl n6 n1 hmn hn hnl
            refine ⟨fun h8 => ?_, fun h8 => ?_⟩
            · have hpj : parJ u.own jt = u.own.getD (jt - 1) 0 := by rw [parJ, if_pos (by omega)]
              rw [hw1 h8, hwn, hcj h8]
              have q1 : 0 ≤ j - 1 := by omega
              have q2 : j - 1 < (jt : Int) := by omega
              have q3 : jt - 1 < jt := by omega
              have q4 : j - 1 < ((l.toNat - 1 : Nat) : Int) := by omega
              have q5 : jt - 1 < l.toNat - 1 := by omega
              refine ⟨q1, q2, q3, q1, q4, q5, fun h9 => ?_, fun h9 => ?_⟩
              · rw [if_pos ⟨by omega, h9⟩] at hsj
                rw [wrap_id (n := j - cj) (by omega) (by omega)]
                exact ⟨q1, q4, q5, by omega, by omega, by omega, rfl, hl1 _, sol _, rfl, hl1 _, sol _, rfl, hl1 _, sol _, hup0, hu1, hupn, j0, hjl2, hjl, hup0, hu1, hupn, rfl, hl2 _, sol _, hag2 (((_, _, _), _), j + 1) (fin _ _ hpj.symm hsj.symm) hdec⟩
              · rw [if_neg (fun h => h.2 h9)] at hsj
                exact ⟨rfl, hl1 _, sol _, rfl, hl1 _, sol _, rfl, hl1 _, sol _, hup0, hu1, hupn, j0, hjl2, hjl, hup0, hu1, hupn, rfl, hl2 _, sol _, hag2 (((_, _, _), _), j + 1) (fin _ _ hpj.symm hsj.symm) hdec⟩
            · have hpj : parJ u.own jt = -1 := by rw [parJ, if_neg (by omega)]
              rw [if_neg (by omega)] at hsj
              exact ⟨rfl, hl1 _, sol _, rfl, hl1 _, sol _, rfl, hl1 _, sol _, hup0, hu1, hupn, j0, hjl2, hjl, hup0, hu1, hupn, rfl, hl2 _, sol _, hag2 (((_, _, _), _), j + 1) (fin _ _ hpj.symm hsj.symm) hdec⟩
          · rcases hA with ⟨h7, _⟩ | ⟨k0', hn1, ha0, haz⟩
            · omega
            obtain ⟨hk0, hmk⟩ := nmK_some hn1
            have hst := stJ_some (xs := xs) (names := nm) (s := u) hn1
            have hsym := hcv.tab.sym i.toNat hil k0' (by omega)
            have hml2 := mm_len hcv (i := k0') (k := i.toNat) (by omega) hil
            have hin := hok.rin k0' jt hk0 (by omega)
            rw [← haz] at hst hin
            have ha1 : a < u.P.length := by omega
            have hal : a.toNat < u.P.length := by omega
            have hl2 : ∀ v : V, (jt : Int) + ([v].length : Int) ≤ 2147483647 := fun v => by
              simp only [List.length_cons, List.length_nil]; omega
            have hjl2 : j < (l.toNat : Int) := by omega
            clear hfx3 hqz0 hqzl hqzs hql2 hsl2 hpl2 hll hvl hls
            refine ⟨ha0, ha1, hal, j0, hjl2, hjl, ha0, ha1, hal, rfl, hl2 _, sol _, ?_⟩
            refine hag2 (((ps2, ss2, _), _), j + 1) ⟨by simp only; omega, by simp only; omega, ?_, ?_, ?_, ?_, ?_⟩ hdec
            · simp only [toNat_succ j0]; rw [hsu, ← hjt, hst]; exact hP2
            · simp only [toNat_succ j0]; rw [hsu, ← hjt, hst]; exact hS2
            · simp only [toNat_succ j0]; rw [hsu, ← hjt, hst]; simp only; rw [hQ2, I_set]
            · simp only [toNat_succ j0]; rw [hsu, ← hjt, hst]; simp only; rw [hO2, snoc]
            · simp only [toNat_succ j0]; rw [hsu, ← hjt, hst]; simp only; omega
      · have hjl0 : j.toNat = lenN bs ms i.toNat := by omega
        obtain ⟨hcu, hou, hmu⟩ := rowS_ok hcv hil hok j.toNat (by omega)
        rw [← hxs] at hcu hou hmu
        have hcl : clS bs ms (i.toNat + 1) = (rowS xs ms nm i.toNat s j.toNat, nm ++ [(rowS xs ms nm i.toNat s j.toNat).own]) := by
          rw [clS, ← hxs, ← hs, ← hnm, ← hjl0]
        obtain ⟨u, hu⟩ : ∃ u, u = rowS xs ms nm i.toNat s j.toNat := ⟨_, rfl⟩
        rw [← hu] at hcl hcu hou hmu hP2 hS2 hQ2 hO2 hle2
        have hfo : V.frzs os = os := by rw [hO2, I_frzs]
        have hol : os.length = l.toNat := by rw [hO2, I_length, hou.ol]; omega
        have go : ∀ k, os.getD k (.int .i64 0) = .int .i64 (u.own.getD k 0) := fun k => by rw [hO2, I_getD]
        have hnl : ns.length = i.toNat := by rw [hN, II_length, hok.nl]
        have hvsl : vs.length = i.toNat := by rw [hV, I_length, leavL, List.length_map, hok.nl]
        have hw1 : IntKind.wrap .i64 ((l.toNat : Int) - 1) = l - 1 := by rw [wrap_id (by omega) (by omega)]; omega
        simp only [hfo, hol, hw1, go, stdEqs hL, imp_self, true_and, and_true, bif_or, bif_and, Bool.or_eq_true, Bool.or_eq_false_iff, Bool.and_eq_true, Bool.and_eq_false_iff, decide_eq_true_eq, decide_eq_false_iff_not, Bool.not_eq_true', Bool.not_eq_false', beq_iff_eq, beq_eq_false_iff_ne, ne_eq, toNat0, toNat1, ok_int, toI_int, I_frzs, I_length, I_getD, ok_ints, toL_slc, ok_int]
        have sol : ∀ n : Int, ∀ x : V, x ∈ [V.int .i64 n] → x.solid = true := fun n x hx => by
          simp only [List.mem_singleton] at hx
          subst hx; rfl
        have sol2 : ∀ x : V, x ∈ [V.slc false 2 (.int .i64 0) os] → x.solid = true := fun x hx => by
          simp only [List.mem_singleton] at hx
          subst hx; rfl
        have hvq : (vs ++ [V.int .i64 (u.own.getD (l - 1).toNat 0)]) = I (leavL (clS bs ms (i.toNat + 1)).2) := by
          rw [hcl, leav_snoc, hou.ol, hV, show (l - 1).toNat = j.toNat - 1 by omega]
          simp [I]
        have hnq : (ns ++ [V.slc false 2 (.int .i64 0) os]) = II false (clS bs ms (i.toNat + 1)).2 := by
          rw [hcl, II_append, hN, hO2]; rfl
        have hl1 : ∀ v : V, (ns.length : Int) + ([v].length : Int) ≤ 2147483647 := fun v => by
          simp only [List.length_cons, List.length_nil]; omega
        have hl2 : ∀ v : V, (vs.length : Int) + ([v].length : Int) ≤ 2147483647 := fun v => by
          simp only [List.length_cons, List.length_nil]; omega
        rw [hvq, hnq, wrap_id (n := i + 1) (by omega) (by omega)]
        refine ⟨hl1 _, sol2, by omega, by omega, rfl, hl2 _, sol _, hag ((_, _, _), (_, _), i + 1) ⟨by simp only; omega, by simp only; omega, ?_, ?_, ?_, ?_, ?_, ?_, ?_⟩ (by simp only; omega)⟩
        · simp only [toNat_succ i0]; rw [hcl]; exact hP2
        · simp only [toNat_succ i0]; rw [hcl]; exact hS2
        · simp only [toNat_succ i0]; rw [hcl]; exact hQ2
        · simp only [toNat_succ i0]; rfl
        · simp only [toNat_succ i0]; rfl
        · simp only [toNat_succ i0]; rw [hcl]; simp only; omega
        · intro k hk
          simp only [toNat_succ i0] at hk
          by_cases hki : k = i.toNat
          · rw [hki, ← hls]; omega
          · exact hln k (by omega)
    · have hin : i.toNat = bs.length := by omega
      have hna : anyL bs ms = false := anyL_false fun k hk => hln k (by omega)
      rw [hr, hf2 hna, hP, hS, hQ, hV, hin]
      simp only [I_frzs, I_length]
      have hd : decide (((clS bs ms bs.length).1.P.length : Int) ≤ 24) = decide ((clS bs ms bs.length).1.P.length ≤ 24) := decide_eq_decide.2 (by omega)
      rw [hd]
  · cases h
end Go.Ax
