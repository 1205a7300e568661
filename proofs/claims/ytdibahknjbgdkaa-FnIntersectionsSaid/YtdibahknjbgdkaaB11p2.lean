import Derived.Test.YtdibahknjbgdkaaB08p2
import Derived.Test.YtdibahknjbgdkaaB10p2
/-
  Draws: branches of Newton pairs. No conditions but those of the contracts.
-/
set_option linter.all false
namespace Go.Ax
open Go.Proofs

def prd : List (List Int) → Int
  | [] => 1
  | p :: l => p.getD 1 0 * prd l
structure Prs (ps : List (List Int)) : Prop where
  len : ps.length ≤ 3
  two : ∀ p ∈ ps, ∃ c o, p = [c, o] ∧ 1 ≤ c ∧ c ≤ 100 ∧ 2 ≤ o ∧ o ≤ 5
  pr : prd ps ≤ 64
theorem Prs.tail {p : List Int} {l : List (List Int)} (h : Prs (p :: l)) : Prs l ∧ ∃ c o, p = [c, o] ∧ 1 ≤ c ∧ c ≤ 100 ∧ 2 ≤ o ∧ o ≤ 5 ∧ 1 ≤ prd l ∧ prd (p :: l) = o * prd l ∧ prd l ≤ o * prd l := by
  have pos : ∀ l : List (List Int), (∀ p ∈ l, ∃ c o, p = [c, o] ∧ 1 ≤ c ∧ c ≤ 100 ∧ 2 ≤ o ∧ o ≤ 5) → 1 ≤ prd l := by
    intro l
    induction l with
    | nil => intro _; decide
    | cons p l ih =>
      intro h
      obtain ⟨c, o, rfl, _, _, h3, _⟩ := h p (by simp)
      have := ih (fun q hq => h q (by simp [hq]))
      simp only [prd, List.getD_cons_succ, List.getD_cons_zero]
      have : 1 * 1 ≤ o * prd l := Int.mul_le_mul (by omega) this (by omega) (by omega)
      omega
  obtain ⟨c, o, rfl, h1, h2, h3, h4⟩ := h.two p (by simp)
  have hp := pos l (fun q hq => h.two q (by simp [hq]))
  have hm : 1 * prd l ≤ o * prd l := Int.mul_le_mul_of_nonneg_right (by omega) (by omega)
  have hpr := h.pr
  simp only [prd, List.getD_cons_succ, List.getD_cons_zero] at hpr
  refine ⟨⟨by have := h.len; simp at this; omega, fun q hq => h.two q (by simp [hq]), by omega⟩, c, o, rfl, h1, h2, h3, h4, hp, rfl, by omega⟩
theorem Prs.drop {ps : List (List Int)} (h : Prs ps) : ∀ i, Prs (ps.drop i) := by
  intro i
  induction i generalizing ps with
  | zero => exact h
  | succ i ih =>
    cases ps with
    | nil => simpa using h
    | cons p l => simpa using ih h.tail.1
theorem prd_append (a b : List (List Int)) : prd (a ++ b) = prd a * prd b := by
  induction a with
  | nil => simp [prd]
  | cons p l ih => simp only [List.cons_append, prd, ih, Int.mul_assoc]
theorem Prs.at {ps : List (List Int)} (h : Prs ps) {i : Nat} (hi : i < ps.length) : ∃ c o, ps.getD i [] = [c, o] ∧ 1 ≤ c ∧ c ≤ 100 ∧ 2 ≤ o ∧ o ≤ 5 ∧ ps.drop i = [c, o] :: ps.drop (i + 1) ∧ 1 ≤ prd (ps.drop (i + 1)) ∧ prd (ps.drop (i + 1)) ≤ 64 ∧ prd (ps.drop i) = o * prd (ps.drop (i + 1)) ∧ prd (ps.drop i) ≤ 64 ∧
    prd (ps.take (i + 1)) = prd (ps.take i) * o := by
  have hd : ps.drop i = ps.getD i [] :: ps.drop (i + 1) := by rw [drop_cons [] hi]
  have hi' := h.drop i
  have h6 := hi'.pr
  rw [hd] at hi'
  obtain ⟨h1, c, o, h2, h3, h4, h5, h7, h8, h9, h10⟩ := hi'.tail
  refine ⟨c, o, h2, h3, h4, h5, h7, by rw [hd, h2], h8, h1.pr, by rw [hd, h9], h6, ?_⟩
  rw [List.take_succ_eq_append_getElem hi, prd_append]
  have : ps[i] = [c, o] := by rw [← h2, List.getD_eq_getElem?_getD, List.getElem?_eq_getElem hi]; rfl
  rw [this]
  simp [prd]
theorem Prs.pos {ps : List (List Int)} (h : Prs ps) : 1 ≤ prd ps := by
  cases ps with
  | nil => decide
  | cons p l =>
    obtain ⟨_, c, o, _, _, _, _, _, h1, h2, h3⟩ := h.tail
    omega
theorem Prs.take_le {ps : List (List Int)} (h : Prs ps) : ∀ i, i ≤ ps.length → 1 ≤ prd (ps.take i) ∧ prd (ps.take i) ≤ 64 := by
  intro i hi
  have h1 : prd (ps.take i) * prd (ps.drop i) = prd ps := by rw [← prd_append, List.take_append_drop]
  have h2 := (h.drop i).pos
  have h3 := h.pr
  have h4 := h.pos
  have h5 : 1 ≤ prd (ps.take i) := by
    by_cases hc : 1 ≤ prd (ps.take i)
    · exact hc
    · exfalso
      have : prd (ps.take i) * prd (ps.drop i) ≤ 0 := Int.mul_nonpos_of_nonpos_of_nonneg (by omega) (by omega)
      omega
  refine ⟨h5, ?_⟩
  have : prd (ps.take i) * 1 ≤ prd (ps.take i) * prd (ps.drop i) := Int.mul_le_mul_of_nonneg_left h2 (by omega)
  omega

def q_bon (a : List V) : Prop := ∃ ps, a = II false ps ∧ Prs ps
def c_m_i (f : List V → Int) (q : List V → Prop) : Contract := fun
  | [.slc false 24 (.slc false 2 (.int .i64 0) []) a0] => some ([q a0], .int .i64 (f a0))
  | _ => none
def f_prd (a : List V) : Int := prd (unII a)
set_option maxHeartbeats 1000000 in
set_option maxRecDepth 100000 in
theorem s_spec_l03Pairs : Sat Try.prog 86 (c_m_i f_prd q_bon) := by
  intro args ps r h hp
  unfold c_m_i at h
  split at h
  · rename_i a0
    simp only [Option.some.injEq, Prod.mk.injEq] at h
    obtain ⟨rfl, rfl⟩ := h
    obtain ⟨ps, hps, hP⟩ : q_bon a0 := (alls_cons.1 hp).1
    obtain ⟨n, hn⟩ : ∃ n : Int, n = a0.length := ⟨_, rfl⟩
    have hpl : a0.length = ps.length := by rw [hps, II_length]
    have hlen := hP.len
    have gx : ∀ k, a0.getD k (.slc false 2 (.int .i64 0) []) = .slc false 2 (.int .i64 0) (I (ps.getD k [])) := fun k => by rw [hps, II_getD]
    have hf0 : f_prd a0 = prd ps := by rw [f_prd, hps, unII_II]
    generalize H_inRange : inRange = F_inRange
    refine fnOk_ofI (T := tab) (B := [(53, c_impl_inRange F_inRange)]) (Bi := []) [0, 2, 3, 4] Try.func86 rfl rfl (by kernel_rfl) (Nat.le_of_ble_eq_true rfl) mixed tabOk (by subst H_inRange; exact (bookCons s_spec_l01In bookNil)) (by subst H_inRange; exact bookINil) (by kernel_rfl) ?_
    intro L lp rr hL hr hf hlp
    conv => cbv
    simp only [stdEqs hL, imp_self, true_and, and_true, bif_or, bif_and, Bool.or_eq_true, Bool.or_eq_false_iff, Bool.and_eq_true, Bool.and_eq_false_iff, decide_eq_true_eq, decide_eq_false_iff_not, Bool.not_eq_true', Bool.not_eq_false', beq_iff_eq, beq_eq_false_iff_ne, ne_eq, toNat0, toNat1, ok_int, toI_int, I_frzs, I_length, I_getD, ok_ints, toL_slc, ← hn]
    refine ⟨fun h => by omega, fun _ => ?_⟩
    refine hlp (Int × Int) _ _ _ [0, 3, 4] (fun x => [(0, none, .val (.slc false 24 (.slc false 2 (.int .i64 0) []) a0)), (3, none, .val (.int .i64 x.1)), (4, none, .val (.int .i64 x.2))])
      (fun x => 0 ≤ x.2 ∧ x.2 ≤ n ∧ x.1 = prd (ps.take x.2.toNat)) (fun x => (n - x.2).toNat) ((1, 0)) (by subst hL; rfl) ?_ ?_
    · exact ⟨by simp, by simp only; omega, rfl⟩
    rintro ⟨v, i⟩ ⟨i0, i1, hI⟩ hfx ag hag
    simp only at i0 i1 hI
    conv => cbv
    simp only [stdEqs hL, imp_self, true_and, and_true, bif_or, bif_and, Bool.or_eq_true, Bool.or_eq_false_iff, Bool.and_eq_true, Bool.and_eq_false_iff, decide_eq_true_eq, decide_eq_false_iff_not, Bool.not_eq_true', Bool.not_eq_false', beq_iff_eq, beq_eq_false_iff_ne, ne_eq, toNat0, toNat1, ok_int, toI_int, I_frzs, I_length, I_getD, ok_ints, toL_slc, ← hn, gx]
    refine ⟨fun h2 => ?_, fun h2 => ?_⟩
    · obtain ⟨c, o, e1, e2, e3, e4, e5, e6, e7, e8, e9, e10, e11⟩ := hP.at (i := i.toNat) (by omega)
      have hb := hP.take_le (i.toNat + 1) (by omega)
      have r1 : F_inRange c 1 2000 = true := by rw [← H_inRange]; simp [inRange]; omega
      have r2 : F_inRange o 1 2000 = true := by rw [← H_inRange]; simp [inRange]; omega
      have w1 : IntKind.wrap .i64 (v * o) = v * o := wrap_id (by rw [hI, ← e11]; omega) (by rw [hI, ← e11]; omega)
      have e12 : v * o = prd (ps.take (i.toNat + 1)) := by rw [e11, hI]
      have l2 : ((0 + 1 + 1 : Nat) : Int) = 2 := rfl
      have g0 : [c, o].getD 0 0 = c := rfl
      have g1 : [c, o].getD 1 0 = o := rfl
      simp only [e1, I_length, List.length_cons, List.length_nil, I_getD, toI_int, w1, l2, g0, g1, r1, r2, Bool.true_eq_false, not_true, or_self, false_imp_iff, true_imp_iff, and_self, true_and]
      (repeat' first | (exact solid_one _) | (exact solid1 rfl) | (exact noown_one _) | (apply And.intro) | (intro _)) <;> (try first | exact True.intro | omega | rfl | (simp only [List.length_cons, List.length_nil, I_length]; omega))
      · rw [wrap_id (n := i + 1) (by omega) (by omega)]
        exact hag (_, i + 1) ⟨by simp only; omega, by simp only; omega, by simp only; rw [show (i + 1).toNat = i.toNat + 1 by omega, e12]⟩ (by simp only; omega)
    · rw [hr, hf0, hI, show i.toNat = ps.length by omega, List.take_length]
  · cases h
set_option maxHeartbeats 1000000 in
set_option maxRecDepth 100000 in
theorem s_spec_l01Same2 : Sat Try.prog 87 (c_like_mm f_likes q_likes) := by
  intro args ps r h hp
  unfold c_like_mm at h
  split at h
  · rename_i a0 a1
    simp only [Option.some.injEq, Prod.mk.injEq] at h
    obtain ⟨rfl, rfl⟩ := h
    obtain ⟨⟨xs, hxs, hl, hrl⟩, ⟨ys, hys⟩⟩ : q_likes a0 a1 := (alls_cons.1 hp).1
    obtain ⟨n, hn⟩ : ∃ n : Int, n = a0.length := ⟨_, rfl⟩
    obtain ⟨m, hm⟩ : ∃ m : Int, m = a1.length := ⟨_, rfl⟩
    have hxl : a0.length = xs.length := by rw [hxs, II_length]
    have hyl : a1.length = ys.length := by rw [hys, II_length]
    have gx : ∀ k, a0.getD k (.slc false 2 (.int .i64 0) []) = .slc false 2 (.int .i64 0) (I (xs.getD k [])) := fun k => by rw [hxs, II_getD]
    have gy : ∀ k, a1.getD k (.slc false 2 (.int .i64 0) []) = .slc false 2 (.int .i64 0) (I (ys.getD k [])) := fun k => by rw [hys, II_getD]
    have hf0 : f_likes a0 a1 = decide (xs = ys) := by rw [f_likes, hxs, hys, unII_II, unII_II]
    generalize H_f0_eqI : f0_eqI = F_f0_eqI
    generalize H_q_II : q_II = F_q_II
    refine fnOk_ofI (T := tab) (B := [(79, c_ll_b F_f0_eqI F_q_II)]) (Bi := []) [0, 1, 4, 5] Try.func87 rfl rfl (by kernel_rfl) (Nat.le_of_ble_eq_true rfl) mixed tabOk (by subst H_f0_eqI H_q_II; exact (bookCons s_spec_l01Same bookNil)) (by subst H_f0_eqI H_q_II; exact bookINil) (by kernel_rfl) ?_
    intro L lp rr hL hr hf hlp
    conv => cbv
    simp only [stdEqs hL, imp_self, true_and, and_true, bif_or, bif_and, Bool.or_eq_true, Bool.or_eq_false_iff, Bool.and_eq_true, Bool.and_eq_false_iff, decide_eq_true_eq, decide_eq_false_iff_not, Bool.not_eq_true', Bool.not_eq_false', beq_iff_eq, beq_eq_false_iff_ne, ne_eq, toNat0, toNat1, ok_int, toI_int, I_frzs, I_length, I_getD, ok_ints, toL_slc, ← hn, ← hm]
    refine ⟨fun h => ?_, fun h => ?_⟩
    · rw [hr, hf0, decide_eq_false (fun e => h (by rw [hn, hm, hxl, hyl, e]))]
    have hlen : xs.length = ys.length := by omega
    refine hlp (Int) _ _ _ [0, 1, 5] (fun x => [(0, none, .val (.slc false 24 (.slc false 2 (.int .i64 0) []) a0)), (1, none, .val (.slc false 24 (.slc false 2 (.int .i64 0) []) a1)), (5, none, .val (.int .i64 x))])
      (fun x => 0 ≤ x ∧ x ≤ n ∧ xs.take x.toNat = ys.take x.toNat) (fun x => (n - x).toNat) (0) (by subst hL; rfl) ?_ ?_
    · exact ⟨by simp, by omega, rfl⟩
    rintro i ⟨i0, i1, hI⟩ hfx ag hag
    have Ef : ∀ u v : List Int, F_f0_eqI (I u) (I v) = decide (u = v) := fun u v => by rw [← H_f0_eqI, f0_eqI, unI_I, unI_I]
    have Ql : ∀ u v : List Int, F_q_II (I u) (I v) := fun u v => by rw [← H_q_II]; exact ⟨⟨_, rfl⟩, ⟨_, rfl⟩⟩
    conv => cbv
    simp only [stdEqs hL, imp_self, true_and, and_true, bif_or, bif_and, Bool.or_eq_true, Bool.or_eq_false_iff, Bool.and_eq_true, Bool.and_eq_false_iff, decide_eq_true_eq, decide_eq_false_iff_not, Bool.not_eq_true', Bool.not_eq_false', beq_iff_eq, beq_eq_false_iff_ne, ne_eq, toNat0, toNat1, ok_int, toI_int, I_frzs, I_length, I_getD, ok_ints, toL_slc, ← hn, ← hm, gx, gy, Ef]
    refine ⟨fun h2 => ?_, fun h2 => ?_⟩
    · have h4 : i.toNat < xs.length := by omega
      have h5 : i.toNat < ys.length := by omega
      refine ⟨i0, h2, i0, by omega, Ql _ _, fun h3 => ?_, fun h3 => ?_⟩
      · rw [hr, hf0, decide_eq_false (fun e => h3 (by rw [e]))]
      · rw [wrap_id (n := i + 1) (by omega) (by omega)]
        refine hag (i + 1) ⟨by omega, by omega, ?_⟩ (by omega)
        rw [List.getD_eq_getElem?_getD, List.getElem?_eq_getElem h4, List.getD_eq_getElem?_getD, List.getElem?_eq_getElem h5] at h3
        rw [show (i + 1).toNat = i.toNat + 1 by omega, List.take_succ_eq_append_getElem h4, List.take_succ_eq_append_getElem h5, hI]
        exact congrArg (fun z => List.take i.toNat ys ++ [z]) h3
    · have h4 : xs = ys := by rwa [List.take_of_length_le (by omega), List.take_of_length_le (by omega)] at hI
      rw [hr, hf0, decide_eq_true h4]
  · cases h

def nwRow (xs : List Int) (i : Nat) : List Int := [W ((if i = 0 then xs.getD (i + 1) 0 else W (xs.getD (i + 1) 0 - xs.getD i 0)).tdiv ((dv xs).getD (i + 1) 0)), W (((dv xs).getD i 0).tdiv ((dv xs).getD (i + 1) 0))]
def nwt (xs : List Int) : List (List Int) := tab' (nwRow xs) (xs.length - 1)
def c_B_m (f : List V → List V) (q : List V → Prop) : Contract := fun
  | [.agg [.slc false 2 (.int .i64 0) a0]] => some ([q a0], .slc true 24 (.slc true 2 (.int .i64 0) []) (f a0))
  | _ => none
def f_nwt (a : List V) : List V := II true (nwt (unI a))
set_option maxHeartbeats 1000000 in
set_option maxRecDepth 100000 in
theorem s_spec_l03Newton : Sat Try.prog 88 (c_B_m f_nwt IsBr) := by
  intro args ps r h hp
  unfold c_B_m at h
  split at h
  · rename_i a0
    simp only [Option.some.injEq, Prod.mk.injEq] at h
    obtain ⟨rfl, rfl⟩ := h
    have hq : IsBr a0 := (alls_cons.1 hp).1
    have hqP := hq.isP
    obtain ⟨xs, hxs, hb⟩ := hq
    have g1 : V.frzs a0 = a0 := by rw [hxs, I_frzs]
    have e2 : f_nwt a0 = II true (nwt xs) := by rw [f_nwt, hxs, unI_I]
    have e3 : f0_dv a0 = I (dv xs) := by rw [f0_dv, hxs, unI_I]
    have gx : ∀ k, a0.getD k (.int .i64 0) = .int .i64 (xs.getD k 0) := fun k => by rw [hxs, I_getD]
    obtain ⟨ds, hds⟩ : ∃ ds, ds = I (dv xs) := ⟨_, rfl⟩
    have gd : ∀ k, ds.getD k (.int .i64 0) = .int .i64 ((dv xs).getD k 0) := fun k => by rw [hds, I_getD]
    obtain ⟨n, hn⟩ : ∃ n : Int, n = a0.length := ⟨_, rfl⟩
    obtain ⟨m, hm⟩ : ∃ m : Int, m = ds.length := ⟨_, rfl⟩
    have hxl : a0.length = xs.length := by rw [hxs, I_length]
    have hdl : ds.length = xs.length := by rw [hds, I_length, hb.dlen]
    have hmn : m = n := by omega
    have h1 := hb.len
    have h2 := hb.pos
    generalize H_f0_dv : f0_dv = F_f0_dv
    generalize H_IsP : IsP = F_IsP
    refine fnOk_ofI (T := tab) (B := [(33, c_b_l F_f0_dv F_IsP)]) (Bi := []) [2000008048, 0, 1, 2, 3, 4, 5, 6] Try.func88 rfl rfl (by kernel_rfl) (Nat.le_of_ble_eq_true rfl) mixed tabOk (by subst H_f0_dv H_IsP; exact (bookCons s_spec_l03Divisors bookNil)) (by subst H_f0_dv H_IsP; exact bookINil) (by kernel_rfl) ?_
    intro L lp rr hL hr hf hlp
    conv => cbv
    simp only [stdEqs hL, imp_self, true_and, and_true, bif_or, bif_and, Bool.or_eq_true, Bool.or_eq_false_iff, Bool.and_eq_true, Bool.and_eq_false_iff, decide_eq_true_eq, decide_eq_false_iff_not, Bool.not_eq_true', Bool.not_eq_false', beq_iff_eq, beq_eq_false_iff_ne, ne_eq, toNat0, toNat1, ok_int, toI_int, I_frzs, I_length, I_getD, ok_ints, toL_slc, g1]
    subst H_f0_dv H_IsP
    simp only [e3, ← hds]
    refine ⟨hqP, ?_⟩
    refine hlp (List V × Int) _ _ _ [1, 3, 4, 5] (fun x => [(1, none, .val (.box 26 (.agg [.slc false 2 (.int .i64 0) a0]))), (3, none, .val (.slc true 2 (.int .i64 0) ds)), (4, none, .val (.slc true 24 (.slc true 2 (.int .i64 0) []) x.1)), (5, none, .val (.int .i64 x.2))])
      (fun x => 1 ≤ x.2 ∧ x.2 ≤ n ∧ x.1 = II true (tab' (nwRow xs) (x.2 - 1).toNat)) (fun x => (n - x.2).toNat) (([], 1)) (by subst hL; rfl) ?_ ?_
    · exact ⟨by simp, by simp only; omega, rfl⟩
    rintro ⟨es, i⟩ ⟨i0, i1, hes⟩ hfx ag hag
    simp only at i0 i1 hes
    obtain ⟨el, hel0⟩ : ∃ el : Int, el = es.length := ⟨_, rfl⟩
    have hel : el = i - 1 := by rw [hel0, hes, II_length, tab_len]; omega
    have w1 : IntKind.wrap .i64 (i - 1) = i - 1 := wrap_id (by omega) (by omega)
    conv => cbv
    simp only [stdEqs hL, imp_self, true_and, and_true, bif_or, bif_and, Bool.or_eq_true, Bool.or_eq_false_iff, Bool.and_eq_true, Bool.and_eq_false_iff, decide_eq_true_eq, decide_eq_false_iff_not, Bool.not_eq_true', Bool.not_eq_false', beq_iff_eq, beq_eq_false_iff_ne, ne_eq, toNat0, toNat1, ok_int, toI_int, I_frzs, I_length, I_getD, ok_ints, toL_slc, ← hn, ← hm, ← hel0, gx, gd, w1]
    have p1 := hb.dpos i.toNat
    have fin : ∀ v : Int, v = (if (i - 1).toNat = 0 then xs.getD ((i - 1).toNat + 1) 0 else W (xs.getD ((i - 1).toNat + 1) 0 - xs.getD (i - 1).toNat 0)) → II true (tab' (nwRow xs) (i - 1).toNat) ++ [V.slc true 2 (.int .i64 0) [.int .i64 (IntKind.wrap .i64 (v.tdiv ((dv xs).getD i.toNat 0))), .int .i64 (IntKind.wrap .i64 (((dv xs).getD (i - 1).toNat 0).tdiv ((dv xs).getD i.toNat 0)))]] = II true (tab' (nwRow xs) (i + 1 - 1).toNat) := by
      intro v hv
      obtain ⟨k, hk⟩ : ∃ k : Nat, i = k + 1 := ⟨(i - 1).toNat, by omega⟩
      subst hk
      rw [show ((k : Int) + 1 + 1 - 1).toNat = k + 1 by omega, tab_succ, II_append]
      rw [show ((k : Int) + 1 - 1).toNat = k by omega] at hv
      rw [show ((k : Int) + 1).toNat = k + 1 by omega, show ((k : Int) + 1 - 1).toNat = k by omega]
      rw [hv]
      rfl
    have wi : IntKind.wrap .i64 (i + 1) = i + 1 := wrap_id (by omega) (by omega)
    refine ⟨fun h => ?_, fun h => ?_⟩
    · (repeat' first | (exact solid_one _) | (exact solid1 rfl) | (exact noown_one _) | (apply And.intro) | (intro _)) <;> (try first | exact True.intro | omega | rfl | (simp only [List.length_cons, List.length_nil, I_length]; omega))
      · rw [wi, hes]
        exact hag (_, i + 1) ⟨by simp only; omega, by simp only; omega, fin _ (by rw [if_neg (by omega), show (i - 1).toNat + 1 = i.toNat by omega])⟩ (by simp only; omega)
      · rw [wi, hes]
        exact hag (_, i + 1) ⟨by simp only; omega, by simp only; omega, fin _ (by rw [if_pos (by omega), show (i - 1).toNat + 1 = i.toNat by omega])⟩ (by simp only; omega)
    · rw [hr, e2, hes, show (i - 1).toNat = xs.length - 1 by omega]
      rfl
  · cases h

def bonGo (la : Int) : List (List Int) → List Int
  | [] => []
  | p :: l => (la + p.getD 0 0 * prd l) :: bonGo (la + p.getD 0 0 * prd l) l
def bonT (ps : List (List Int)) : List Int := prd ps :: bonGo 0 ps
theorem bonGo_len : ∀ (l : List (List Int)) (la : Int), (bonGo la l).length = l.length
  | [], _ => rfl
  | _ :: l, _ => by simp [bonGo, bonGo_len l]
def okT (ps : List (List Int)) : Bool := isBr (bonT ps) && decide (nwt (bonT ps) = ps)
def c_m_Bi (f : List V → List V × Int) (q : List V → Prop) : Contract := fun
  | [.slc false 24 (.slc false 2 (.int .i64 0) []) a0] => some ([q a0], .tup [.agg [.slc true 2 (.int .i64 0) ((f a0).1)], .int .i64 ((f a0).2)])
  | _ => none
def f_bon (a : List V) : List V × Int := if okT (unII a) = true then (I (bonT (unII a)), 0) else ([], 5)
set_option maxHeartbeats 1000000 in
set_option maxRecDepth 100000 in
theorem s_spec_BranchOfNewton : Sat Try.prog 83 (c_m_Bi f_bon q_bon) := by
  intro args ps r h hp
  unfold c_m_Bi at h
  split at h
  · rename_i a0
    simp only [Option.some.injEq, Prod.mk.injEq] at h
    obtain ⟨rfl, rfl⟩ := h
    have hq : q_bon a0 := (alls_cons.1 hp).1
    have hq0 := hq
    obtain ⟨ps, hps, hP⟩ := hq
    obtain ⟨n, hn⟩ : ∃ n : Int, n = a0.length := ⟨_, rfl⟩
    have hpl : a0.length = ps.length := by rw [hps, II_length]
    have hlen := hP.len
    have gx : ∀ k, a0.getD k (.slc false 2 (.int .i64 0) []) = .slc false 2 (.int .i64 0) (I (ps.getD k [])) := fun k => by rw [hps, II_getD]
    have hfr : V.frzs a0 = a0 := by rw [hps, II_frzs]
    have hf0 : f_bon a0 = if okT ps = true then (I (bonT ps), 0) else ([], 5) := by rw [f_bon, hps, unII_II]
    obtain ⟨N, hN⟩ : ∃ N : Int, N = prd ps := ⟨_, rfl⟩
    have e1 : f_prd a0 = N := by rw [f_prd, hps, unII_II, hN]
    have N1 := hP.pos
    have N2 := hP.pr
    generalize H_f_prd : f_prd = F_f_prd
    generalize H_q_bon : q_bon = F_q_bon
    generalize H_f0_isBr : f0_isBr = F_f0_isBr
    generalize H_IsIs : IsIs = F_IsIs
    generalize H_f_nwt : f_nwt = F_f_nwt
    generalize H_IsBr : IsBr = F_IsBr
    generalize H_f_likes : f_likes = F_f_likes
    generalize H_q_likes : q_likes = F_q_likes
    refine fnOk_ofI (T := tab) (B := [(86, c_m_i F_f_prd F_q_bon), (32, c_b_bool F_f0_isBr F_IsIs), (88, c_B_m F_f_nwt F_IsBr), (87, c_like_mm F_f_likes F_q_likes)]) (Bi := []) [2000011653, 0, 2, 3, 4, 5, 6, 7, 8] Try.func83 rfl rfl (by kernel_rfl) (Nat.le_of_ble_eq_true rfl) mixed tabOk (by subst H_f_prd H_q_bon H_f0_isBr H_IsIs H_f_nwt H_IsBr H_f_likes H_q_likes; exact (bookCons s_spec_l03Pairs (bookCons s_spec_l03Is (bookCons s_spec_l03Newton (bookCons s_spec_l01Same2 bookNil))))) (by subst H_f_prd H_q_bon H_f0_isBr H_IsIs H_f_nwt H_IsBr H_f_likes H_q_likes; exact bookINil) (by kernel_rfl) ?_
    intro L lp rr hL hr hf hlp
    conv => cbv
    simp only [stdEqs hL, imp_self, true_and, and_true, bif_or, bif_and, Bool.or_eq_true, Bool.or_eq_false_iff, Bool.and_eq_true, Bool.and_eq_false_iff, decide_eq_true_eq, decide_eq_false_iff_not, Bool.not_eq_true', Bool.not_eq_false', beq_iff_eq, beq_eq_false_iff_ne, ne_eq, toNat0, toNat1, ok_int, toI_int, I_frzs, I_length, I_getD, ok_ints, toL_slc, hfr]
    subst H_f_prd
    simp only [e1]
    have qF : F_q_bon a0 := by rw [← H_q_bon]; exact hq0
    refine ⟨qF, fun h => by omega, fun _ => ?_⟩
    refine hlp (List V × Int × Int × Int) _ _ _ [0, 2, 5, 6, 7, 8] (fun x => [(0, none, .val (.slc false 24 (.slc false 2 (.int .i64 0) []) a0)), (2, none, .val (.box 26 (.agg [.slc true 2 (.int .i64 0) []]))), (5, none, .val (.box 26 (.agg [.slc true 2 (.int .i64 0) x.1]))), (6, none, .val (.int .i64 x.2.1)), (7, none, .val (.int .i64 x.2.2.1)), (8, none, .val (.int .i64 x.2.2.2))])
      (fun x => 0 ≤ x.2.2.2 ∧ x.2.2.2 ≤ n ∧ x.2.1 = prd (ps.drop x.2.2.2.toNat) ∧ 0 ≤ x.2.2.1 ∧ x.2.2.1 ≤ 6400 * x.2.2.2 ∧ ∃ pre : List Int, x.1 = I (N :: pre) ∧ pre.length = x.2.2.2.toNat ∧ pre ++ bonGo x.2.2.1 (ps.drop x.2.2.2.toNat) = bonGo 0 ps) (fun x => (n - x.2.2.2).toNat) (([.int .i64 N], N, 0, 0)) (by subst hL; rfl) ?_ ?_
    · exact ⟨by simp, by simp only; omega, hN, by simp, by simp, [], rfl, rfl, rfl⟩
    rintro ⟨es, e, la, i⟩ ⟨i0, i1, he, l0, l1, pre, h1, h2, h3⟩ hfx ag hag
    simp only at i0 i1 he l0 l1 h1 h2 h3
    obtain ⟨el, hel0⟩ : ∃ el : Int, el = es.length := ⟨_, rfl⟩
    have hel : el = i + 1 := by rw [hel0, h1, I_length, List.length_cons]; omega
    conv => cbv
    simp only [stdEqs hL, imp_self, true_and, and_true, bif_or, bif_and, Bool.or_eq_true, Bool.or_eq_false_iff, Bool.and_eq_true, Bool.and_eq_false_iff, decide_eq_true_eq, decide_eq_false_iff_not, Bool.not_eq_true', Bool.not_eq_false', beq_iff_eq, beq_eq_false_iff_ne, ne_eq, toNat0, toNat1, ok_int, toI_int, I_frzs, I_length, I_getD, ok_ints, toL_slc, ← hn, ← hel0, gx]
    refine ⟨fun h => ?_, fun h => ?_⟩
    · obtain ⟨c, o, e1, e2, e3, e4, e5, e6, e7, e8, e9, e10, e11⟩ := hP.at (i := i.toNat) (by omega)
      have g0 : [c, o].getD 0 0 = c := rfl
      have g1 : [c, o].getD 1 0 = o := rfl
      have hed : e.tdiv o = prd (ps.drop (i.toNat + 1)) := by rw [he, e9, Int.mul_tdiv_cancel_left _ (by omega)]
      obtain ⟨P, hPP⟩ : ∃ P : Int, P = prd (ps.drop (i.toNat + 1)) := ⟨_, rfl⟩
      rw [← hPP] at hed e7 e8
      have wd : IntKind.wrap .i64 P = P := wrap_id (by omega) (by omega)
      have c0 : 0 ≤ c * P := Int.mul_nonneg (by omega) (by omega)
      have c1 : c * P ≤ 100 * 64 := Int.mul_le_mul (by omega) (by omega) (by omega) (by omega)
      have wm : IntKind.wrap .i64 (c * P) = c * P := wrap_id (by omega) (by omega)
      have wl : IntKind.wrap .i64 (la + c * P) = la + c * P := wrap_id (by omega) (by omega)
      have wi : IntKind.wrap .i64 (i + 1) = i + 1 := wrap_id (by omega) (by omega)
      simp only [e1, I_length, List.length_cons, List.length_nil, g0, g1, hed, wd, wm, wl, wi]
      (repeat' first | (exact solid_one _) | (exact solid1 rfl) | (exact noown_one _) | (apply And.intro) | (intro _)) <;> (try first | exact True.intro | omega | rfl | (simp only [List.length_cons, List.length_nil, I_length]; omega))
      refine hag (_, _, _, i + 1) ⟨by simp only; omega, by simp only; omega, by simp only; rw [hPP, show (i + 1).toNat = i.toNat + 1 by omega], by simp only; omega, by simp only; omega, pre ++ [la + c * P], by simp only; rw [h1]; simp [I], by simp only [List.length_append, List.length_cons, List.length_nil]; omega, ?_⟩ (by simp only; omega)
      simp only
      rw [show (i + 1).toNat = i.toNat + 1 by omega, List.append_assoc, ← h3, e6]
      simp only [bonGo, List.getD_cons_zero, List.singleton_append, ← hPP]
    · have hes : es = I (bonT ps) := by
        rw [List.drop_of_length_le (by omega)] at h3
        simp only [bonGo, List.append_nil] at h3
        rw [h1, h3, hN]
        rfl
      have Eb : F_f0_isBr (I (bonT ps)) = isBr (bonT ps) := by rw [← H_f0_isBr, f0_isBr, unI_I]
      have En : F_f_nwt (I (bonT ps)) = II true (nwt (bonT ps)) := by rw [← H_f_nwt, f_nwt, unI_I]
      have El : F_f_likes (II false (nwt (bonT ps))) a0 = decide (nwt (bonT ps) = ps) := by rw [← H_f_likes, f_likes, unII_II, hps, unII_II]
      have tl : (bonT ps).length ≤ 4 := by simp only [bonT, List.length_cons, bonGo_len]; omega
      rw [hes]
      simp only [I_frzs, Eb, En, II_frzs, hfr, El]
      refine ⟨by rw [← H_IsIs]; exact ⟨⟨_, rfl⟩, by rw [I_length]; omega⟩, fun h1 => by rw [← H_IsBr]; exact ⟨_, rfl, br_of h1⟩, fun _ => II_noFzs _, fun _ => ?_, fun h1 => ?_, fun h1 => ?_⟩
      · rw [← H_q_likes]
        refine ⟨⟨_, rfl, by rw [nwt, tab_len]; omega, fun r hr => ?_⟩, _, hps⟩
        simp only [nwt, tab', List.mem_map] at hr
        obtain ⟨k, _, rfl⟩ := hr
        simp [nwRow]
      · rw [hr, hf0, if_neg]
        intro h2
        simp only [okT, Bool.and_eq_true] at h2
        rcases h1 with h1 | h1
        · rw [h1] at h2; cases h2.1
        · rw [h1] at h2; cases h2.2
      · rw [hr, hf0, if_pos]
        simp only [okT, Bool.and_eq_true]
        exact h1
  · cases h
end Go.Ax
