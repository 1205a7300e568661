import Derived.Test.YtdibahknjbgdkaaB05p1
/-
  Sequences of multiplicities of branches: steps, runs, first multiplicities. No conditions but those of the contracts.
-/
set_option linter.all false
namespace Go.Ax
open Go.Proofs

def stI (a b : Int) : List (List Int) := (stp a.toNat b.toNat).map fun p => [(p.1 : Int), (p.2 : Int)]
theorem stp_len : ∀ (n a b : Nat), b ≤ n → (stp a b).length ≤ b
  | 0, a, b, h => by obtain rfl : b = 0 := by omega
                     rw [stp_zero]; simp
  | n + 1, a, b, h => by
    by_cases hb : 0 < b
    · rw [stp_pos hb, List.length_cons]
      have h1 : a % b < b := Nat.mod_lt _ hb
      have := stp_len n b (a % b) (by omega)
      omega
    · obtain rfl : b = 0 := by omega
      rw [stp_zero]; simp
theorem stI_pos {a b : Int} (ha : 0 ≤ a) (hb : 0 < b) : stI a b = [a.tdiv b, b] :: stI b (a.tmod b) := by
  obtain ⟨a, rfl⟩ := Int.eq_ofNat_of_zero_le ha
  obtain ⟨b, rfl⟩ := Int.eq_ofNat_of_zero_le (Int.le_of_lt hb)
  rw [stI, Int.toNat_natCast, Int.toNat_natCast, stp_pos (by omega), List.map_cons, stI, ← Int.ofNat_tdiv, ← Int.ofNat_tmod, Int.toNat_natCast, Int.toNat_natCast]
theorem stI_zero (a : Int) {b : Int} (hb : ¬ 0 < b) : stI a b = [] := by
  rw [stI, show b.toNat = 0 by omega, stp_zero]; rfl
def c_ii_m (f : Int → Int → List V) (q : Int → Int → Prop) : Contract := fun
  | [.int .i64 a0, .int .i64 a1] => some ([q a0 a1], .slc true 24 (.slc true 2 (.int .i64 0) []) (f a0 a1))
  | _ => none
def f_stI (a b : Int) : List V := II true (stI a b)
def q_stI (a b : Int) : Prop := 0 ≤ a ∧ a ≤ 1000000 ∧ 0 ≤ b ∧ b ≤ 1000000
set_option maxHeartbeats 1000000 in
set_option maxRecDepth 100000 in
theorem s_impl_steps : Sat Try.prog 84 (c_ii_m f_stI q_stI) := by
  intro args ps r h hp
  unfold c_ii_m at h
  split at h
  · rename_i a0 a1
    simp only [Option.some.injEq, Prod.mk.injEq] at h
    obtain ⟨rfl, rfl⟩ := h
    obtain ⟨q1, q2, q3, q4⟩ : q_stI a0 a1 := (alls_cons.1 hp).1
    refine fnOk_ofI (T := tab) (B := []) (Bi := []) [0, 1, 4, 5] Try.func84 rfl rfl (by kernel_rfl) (Nat.le_of_ble_eq_true rfl) mixed tabOk (by exact bookNil) (by exact bookINil) (by kernel_rfl) ?_
    intro L lp rr hL hr hf hlp
    conv => cbv
    refine hlp (Int × Int × List V) _ _ _ [0, 1, 5] (fun x => [(0, none, .val (.int .i64 x.1)), (1, none, .val (.int .i64 x.2.1)), (5, none, .val (.slc true 24 (.slc true 2 (.int .i64 0) []) x.2.2))])
      (fun x => 0 ≤ x.1 ∧ x.1 ≤ 1000000 ∧ 0 ≤ x.2.1 ∧ x.2.1 ≤ 1000000 ∧ ∃ L, x.2.2 = II true L ∧ L ++ stI x.1 x.2.1 = stI a0 a1) (fun x => x.2.1.toNat) ((a0, a1, [])) (by subst hL; rfl) ?_ ?_
    · exact ⟨q1, q2, q3, q4, [], rfl, rfl⟩
    rintro ⟨a, b, es⟩ ⟨p1, p2, p3, p4, L, hes, hI⟩ hfx ag hag
    simp only at p1 p2 p3 p4 hes hI
    have hel : es.length ≤ 1000000 := by
      have h1 := congrArg List.length hI
      have h2 := stp_len a1.toNat a0.toNat a1.toNat (Nat.le_refl _)
      rw [List.length_append, stI, stI, List.length_map, List.length_map] at h1
      rw [hes, II_length]
      omega
    conv => cbv
    simp only [stdEqs hL, imp_self, true_and, and_true, bif_or, bif_and, Bool.or_eq_true, Bool.or_eq_false_iff, Bool.and_eq_true, Bool.and_eq_false_iff, decide_eq_true_eq, decide_eq_false_iff_not, Bool.not_eq_true', Bool.not_eq_false', beq_iff_eq, beq_eq_false_iff_ne, ne_eq, toNat0, toNat1, ok_int, toI_int, I_frzs, I_length, I_getD, ok_ints, toL_slc, hel]
    refine ⟨fun h => ?_, fun h => ?_⟩
    · have h1 : 0 ≤ a.tdiv b ∧ a.tdiv b ≤ a := ⟨Int.tdiv_nonneg p1 p3, Int.tdiv_le_self b p1⟩
      have h2 : 0 ≤ a.tmod b ∧ a.tmod b < b := ⟨Int.tmod_nonneg b p1, Int.tmod_lt_of_pos a h⟩
      have hw : IntKind.wrap .i64 (a.tdiv b) = a.tdiv b := wrap_id (by omega) (by omega)
      (repeat' first | (exact solid_one _) | (exact solid1 rfl) | (exact noown_one _) | (apply And.intro) | (intro _)) <;> (try first | exact True.intro | omega | rfl | (simp only [List.length_cons, List.length_nil, I_length]; omega))
      refine hag (b, a.tmod b, _) ⟨by simp only; omega, by simp only; omega, by simp only; omega, by simp only; omega, L ++ [[a.tdiv b, b]], ?_, ?_⟩ (by simp only; omega)
      · simp only
        rw [II_append, hes, hw]
        rfl
      · simp only
        rw [List.append_assoc, ← hI, stI_pos p1 h]
        rfl
    · rw [hr, f_stI, ← hI, stI_zero a h, List.append_nil, hes]
  · cases h
def flatS (S : List (List Int)) : List Int := S.flatMap fun s => List.replicate (s.getD 0 0).toNat (s.getD 1 0)
theorem flatS_step (S : List (List Int)) (k : Nat) (h : k < S.length) : flatS (S.take (k + 1)) = flatS (S.take k) ++ List.replicate ((S.getD k []).getD 0 0).toNat ((S.getD k []).getD 1 0) := by
  rw [take_succ_tot _ _ h, flatS, flatS, List.flatMap_append, List.flatMap_cons, List.flatMap_nil, List.append_nil]
def exI (a b : Int) : List Int := (ex a.toNat b.toNat).map fun (n : Nat) => (n : Int)
theorem flatS_stI (a b : Int) : flatS (stI a b) = exI a b := by
  rw [flatS, stI, exI, ex, List.flatMap_map, List.map_flatMap]
  congr 1
  funext p
  simp
theorem ex_len : ∀ (n a b : Nat), b ≤ n → (ex a b).length ≤ a + b
  | 0, a, b, h => by obtain rfl : b = 0 := by omega
                     rw [ex_zero]; simp
  | n + 1, a, b, h => by
    by_cases hb : 0 < b
    · rw [ex_pos hb, List.length_append, List.length_replicate]
      have h1 : a % b < b := Nat.mod_lt _ hb
      have h2 := ex_len n b (a % b) (by omega)
      have h3 := Nat.div_add_mod a b
      have h4 : a / b ≤ b * (a / b) := Nat.le_mul_of_pos_left _ hb
      omega
    · obtain rfl : b = 0 := by omega
      rw [ex_zero]; simp
theorem stI_mem {a b : Int} {s : List Int} (h : s ∈ stI a b) : s.length = 2 ∧ 0 ≤ s.getD 0 0 ∧ 0 ≤ s.getD 1 0 := by
  simp only [stI, List.mem_map] at h
  obtain ⟨p, _, rfl⟩ := h
  exact ⟨rfl, Int.natCast_nonneg _, Int.natCast_nonneg _⟩
def c_runOf (f : List V → Int → Int → List V) (q : List V → Int → Int → Prop) : IContract := fun
  | [.slc true 2 (.int .i64 0) a0, .int .i64 a1, .int .i64 a2] => some ([q a0 a1 a2], .slc true 2 (.int .i64 0) (f a0 a1 a2), .hole 0)
  | _ => none
def f_runOf (es : List V) (k e : Int) : List V := es ++ I (exI k e)
def q_runOf (es : List V) (k e : Int) : Prop := es.length ≤ 100000000 ∧ q_stI k e
set_option maxHeartbeats 1000000 in
set_option maxRecDepth 100000 in
theorem s_impl_runOf : SatM Try.prog 78 0 (c_runOf f_runOf q_runOf) := by
  intro args ps r y h hp
  unfold c_runOf at h
  split at h
  · rename_i a0 a1 a2
    simp only [Option.some.injEq, Prod.mk.injEq] at h
    obtain ⟨rfl, rfl, rfl⟩ := h
    obtain ⟨q0, hq⟩ : q_runOf a0 a1 a2 := (alls_cons.1 hp).1
    obtain ⟨q1, q2, q3, q4⟩ := hq
    generalize H_f_stI : f_stI = F_f_stI
    generalize H_q_stI : q_stI = F_q_stI
    refine fnMv_of (T := tab) (B := [(84, c_ii_m F_f_stI F_q_stI)]) (Bi := []) 0 [0, 1, 2, 6, 8, 9, 12, 13, 14] Try.func78 rfl rfl (by kernel_rfl) (Nat.le_of_ble_eq_true rfl) mixed tabOk (by subst H_f_stI H_q_stI; exact (bookCons s_impl_steps bookNil)) (by subst H_f_stI H_q_stI; exact bookINil) (by kernel_rfl) (Nat.le_of_ble_eq_true rfl) ?_
    intro L lp rr hL hr hf hlp
    conv => cbv
    obtain ⟨S, hS⟩ : ∃ S, S = stI a1 a2 := ⟨_, rfl⟩
    obtain ⟨ss, hss⟩ : ∃ ss, ss = II true S := ⟨_, rfl⟩
    have hF : F_f_stI a1 a2 = ss := by rw [← H_f_stI, f_stI, hss, hS]
    have hsl : ss.length = S.length := by rw [hss, II_length]
    have hSl : S.length ≤ 1000000 := by
      have := stp_len a2.toNat a1.toNat a2.toNat (Nat.le_refl _)
      rw [hS, stI, List.length_map]; omega
    have gss : ∀ k, ss.getD k (.slc true 2 (.int .i64 0) []) = .slc true 2 (.int .i64 0) (I (S.getD k [])) := fun k => by rw [hss, II_getD]
    have hfl : (exI a1 a2).length ≤ 2000000 := by
      have := ex_len a2.toNat a1.toNat a2.toNat (Nat.le_refl _)
      rw [exI, List.length_map]; omega
    have hpre : ∀ k, (flatS (S.take k)).length ≤ 2000000 := fun k => by
      have h1 : flatS S = flatS (S.take k) ++ flatS (S.drop k) := by
        rw [flatS, flatS, flatS, ← List.flatMap_append, List.take_append_drop]
      have h2 := congrArg List.length h1
      rw [hS, flatS_stI, List.length_append, ← hS] at h2
      omega
    simp only [stdEqs hL, imp_self, true_and, and_true, bif_or, bif_and, Bool.or_eq_true, Bool.or_eq_false_iff, Bool.and_eq_true, Bool.and_eq_false_iff, decide_eq_true_eq, decide_eq_false_iff_not, Bool.not_eq_true', Bool.not_eq_false', beq_iff_eq, beq_eq_false_iff_ne, ne_eq, toNat0, toNat1, ok_int, toI_int, I_frzs, I_length, I_getD, ok_ints, toL_slc, hF, hsl]
    refine ⟨by rw [← H_q_stI]; exact ⟨q1, q2, q3, q4⟩, ?_⟩
    refine hlp (List V × Int) _ _ _ [0, 12, 13, 14] (fun x => [(0, none, .val (.slc true 2 (.int .i64 0) x.1)), (12, none, .val (.slc true 24 (.slc true 2 (.int .i64 0) []) ss)), (13, none, .val (.int .i64 S.length)), (14, none, .val (.int .i64 x.2))])
      (fun x => 0 ≤ x.2 ∧ x.2 ≤ S.length ∧ x.1 = a0 ++ I (flatS (S.take x.2.toNat))) (fun x => (S.length - x.2).toNat) ((a0, 0)) (by subst hL; rfl) ?_ ?_
    · exact ⟨by simp, by simp only; omega, by simp [flatS, I]⟩
    rintro ⟨es, i⟩ ⟨i0, i1, hI⟩ hfx ag hag
    simp only at i0 i1 hI
    have hst := flatS_step S i.toNat
    have hmem := fun h => stI_mem (a := a1) (b := a2) (s := S.getD i.toNat []) (by rw [← hS]; exact mem_getD h)
    have hp1 := hpre (i.toNat + 1)
    generalize hE : S.getD i.toNat [] = E at hst hmem
    obtain ⟨m, hm⟩ : ∃ m : Int, m = S.length := ⟨_, rfl⟩
    simp only [← hm]
    conv => cbv
    simp only [stdEqs hL, imp_self, true_and, and_true, bif_or, bif_and, Bool.or_eq_true, Bool.or_eq_false_iff, Bool.and_eq_true, Bool.and_eq_false_iff, decide_eq_true_eq, decide_eq_false_iff_not, Bool.not_eq_true', Bool.not_eq_false', beq_iff_eq, beq_eq_false_iff_ne, ne_eq, toNat0, toNat1, ok_int, toI_int, I_frzs, I_length, I_getD, ok_ints, toL_slc, hsl, gss, hE]
    refine ⟨fun h => ?_, fun h => ?_⟩
    · obtain ⟨hEl, hE0, hE1⟩ := hmem (by omega)
      have hst' := hst (by omega)
      have hip : i.toNat < S.length := by omega
      refine ⟨i0, by omega, by omega, ?_⟩
      refine hlp (List V × Int) _ _ _ [0, 8, 9, 12, 13, 14] (fun x => [(0, none, .val (.slc true 2 (.int .i64 0) x.1)), (8, none, .rf 12 0 [i.toNat]), (9, none, .val (.int .i64 x.2)), (12, none, .val (.slc true 24 (.slc true 2 (.int .i64 0) []) ss)), (13, none, .val (.int .i64 m)), (14, none, .val (.int .i64 i))])
        (fun x => 0 ≤ x.2 ∧ x.2 ≤ E.getD 0 0 ∧ x.1 = es ++ I (List.replicate x.2.toNat (E.getD 1 0))) (fun x => (E.getD 0 0 - x.2).toNat) (es, 0) (by subst hL; rfl) ?_ ?_
      · exact ⟨by simp, hE0, by simp [I]⟩
      rintro ⟨es2, j⟩ ⟨j0, j1, hI2⟩ hfx2 ag2 hag2
      simp only at j0 j1 hI2
      obtain ⟨it, hit⟩ : ∃ it, it = i.toNat := ⟨_, rfl⟩
      simp only [← hit] at hE ⊢
      conv => cbv
      simp only [stdEqs hL, imp_self, true_and, and_true, bif_or, bif_and, Bool.or_eq_true, Bool.or_eq_false_iff, Bool.and_eq_true, Bool.and_eq_false_iff, decide_eq_true_eq, decide_eq_false_iff_not, Bool.not_eq_true', Bool.not_eq_false', beq_iff_eq, beq_eq_false_iff_ne, ne_eq, toNat0, toNat1, ok_int, toI_int, I_frzs, I_length, I_getD, ok_ints, toL_slc, hsl, gss, hE]
      have hl2 : es2.length ≤ 102000000 := by
        rw [hst', List.length_append, List.length_replicate] at hp1
        rw [hI2, hI, List.length_append, I_length, List.length_append, I_length, List.length_replicate]
        omega
      have hEb : E.getD 0 0 ≤ 2000000 := by
        rw [hst', List.length_append, List.length_replicate] at hp1
        omega
      have hti : it < S.length := by omega
      subst hit
      refine ⟨hti, by omega, by omega, hti, by omega, fun hj => ?_, fun hj => ?_⟩
      · rw [wrap_id (n := j + 1) (by omega) (by omega)]
        (repeat' first | (exact solid_one _) | (exact solid1 rfl) | (exact noown_one _) | (apply And.intro) | (intro _)) <;> (try first | exact True.intro | omega | rfl | (simp only [List.length_cons, List.length_nil, I_length]; omega))
        refine hag2 (_, j + 1) ⟨by simp only; omega, by simp only; omega, ?_⟩ (by simp only; omega)
        simp only [toNat_succ j0]
        rw [List.replicate_succ', hI2, List.append_assoc, ← I_append]
        rfl
      · rw [wrap_id (n := i + 1) (by omega) (by omega)]
        subst hm
        refine hag (_, i + 1) ⟨by simp only; omega, by simp only; omega, ?_⟩ (by simp only; omega)
        simp only [toNat_succ i0]
        rw [hst', hI2, hI, List.append_assoc, I_append, show j = E.getD 0 0 by omega]
    · rw [hr, f_runOf, hI, List.take_of_length_le (by omega), hS, flatS_stI]
  · cases h

def kkI (xs : List Int) (i : Nat) : Int := xs.getD (i + 1) 0 - (if i = 0 then 0 else xs.getD i 0)
def runI (xs : List Int) (i : Nat) : List Int := exI (kkI xs i) ((dv xs).getD i 0)
def seqP (xs : List Int) (n : Nat) : List Int := (List.range n).flatMap (runI xs)
def seqI (xs : List Int) : List Int := seqP xs (xs.length - 1)
theorem seqP_succ (xs : List Int) (n : Nat) : seqP xs (n + 1) = seqP xs n ++ runI xs n := by
  rw [seqP, seqP, List.range_succ, List.flatMap_append, List.flatMap_cons, List.flatMap_nil, List.append_nil]
theorem kkI_in {xs : List Int} (h : Br xs) {i : Nat} (hi : i + 1 < xs.length) : 1 ≤ kkI xs i ∧ kkI xs i ≤ 2000 := by
  have h1 := h.up i hi
  have h2 := h.high (i + 1) hi
  have h3 := h.low i (by omega)
  have h4 := h.low (i + 1) hi
  rw [kkI]
  split <;> omega
theorem runI_len {xs : List Int} (h : Br xs) {i : Nat} (hi : i + 1 < xs.length) : (runI xs i).length ≤ 3000 := by
  have h1 := kkI_in h hi
  have h2 := h.dhi i (by omega)
  have h3 := h.dpos i (by omega)
  have := ex_len _ (kkI xs i).toNat ((dv xs).getD i 0).toNat (Nat.le_refl _)
  rw [runI, exI, List.length_map]
  omega
theorem seqP_len {xs : List Int} (h : Br xs) : ∀ n, n + 1 ≤ xs.length → (seqP xs n).length ≤ 3000 * n
  | 0, _ => by simp [seqP]
  | n + 1, hn => by
    have := seqP_len h n (by omega)
    have := runI_len h (i := n) (by omega)
    rw [seqP_succ, List.length_append]
    omega
def sq1 (xs : List Int) : List Int := if xs.length = 1 then [1] else seqI xs
def f_seq (es : List V) : List V := I (sq1 (unI es))
set_option maxHeartbeats 1000000 in
set_option maxRecDepth 100000 in
theorem s_impl_sequence : Sat Try.prog 64 (c_B_l f_seq IsBr) := by
  intro args ps r h hp
  unfold c_B_l at h
  split at h
  · rename_i a0
    simp only [Option.some.injEq, Prod.mk.injEq] at h
    obtain ⟨rfl, rfl⟩ := h
    have hq : IsBr a0 := (alls_cons.1 hp).1
    have hqi := hq.isIs
    obtain ⟨xs, hxs, hb⟩ := hq
    have g1 : V.frzs a0 = a0 := by rw [hxs, I_frzs]
    have e1 : f0_pairs a0 = xs.length - 1 := by
      have := hb.len
      rw [f0_pairs, hxs, I_length]; exact wrap_id (by omega) (by omega)
    have e2 : f_seq a0 = I (sq1 xs) := by rw [f_seq, hxs, unI_I]
    have e3 : f0_dv a0 = I (dv xs) := by rw [f0_dv, hxs, unI_I]
    generalize H_f0_pairs : f0_pairs = F_f0_pairs
    generalize H_f0_dv : f0_dv = F_f0_dv
    generalize H_IsIs : IsIs = F_IsIs
    generalize H_f_runOf : f_runOf = F_f_runOf
    generalize H_q_runOf : q_runOf = F_q_runOf
    refine fnOk_ofI (T := tab) (B := [(51, c_b_i F_f0_pairs), (29, c_l_l F_f0_dv F_IsIs)]) (Bi := [(78, 0, true, c_runOf F_f_runOf F_q_runOf)]) [2000009999, 0, 1, 2, 3, 4, 5, 6] Try.func64 rfl rfl (by kernel_rfl) (Nat.le_of_ble_eq_true rfl) mixed tabOk (by subst H_f0_pairs H_f0_dv H_IsIs H_f_runOf H_q_runOf; exact (bookCons s_impl_pairsOf (bookCons s_impl_divisors bookNil))) (by subst H_f0_pairs H_f0_dv H_IsIs H_f_runOf H_q_runOf; exact (bookMCons s_impl_runOf bookINil)) (by kernel_rfl) ?_
    intro L lp rr hL hr hf hlp
    conv => cbv
    obtain ⟨ds, hds⟩ : ∃ ds, ds = I (dv xs) := ⟨_, rfl⟩
    have l1 : ds.length = xs.length := by rw [hds, I_length, hb.dlen]
    have hF : F_f0_dv a0 = ds := by rw [← H_f0_dv, e3, hds]
    have hF2 : F_f0_pairs a0 = xs.length - 1 := by rw [← H_f0_pairs, e1]
    simp only [stdEqs hL, imp_self, true_and, and_true, bif_or, bif_and, Bool.or_eq_true, Bool.or_eq_false_iff, Bool.and_eq_true, Bool.and_eq_false_iff, decide_eq_true_eq, decide_eq_false_iff_not, Bool.not_eq_true', Bool.not_eq_false', beq_iff_eq, beq_eq_false_iff_ne, ne_eq, toNat0, toNat1, ok_int, toI_int, I_frzs, I_length, I_getD, ok_ints, toL_slc, hF, hF2, g1]
    have hp1 := hb.pos
    have hl1 := hb.len
    refine ⟨fun h => ?_, fun h => ?_⟩
    · rw [hr, e2, sq1, if_pos (by omega)]; rfl
    refine ⟨by rw [← H_IsIs]; exact hqi, ?_⟩
    refine hlp (List V × Int × Int) _ _ _ [1, 3, 4, 5, 6] (fun x => [(1, none, .val (.box 26 (.agg [.slc false 2 (.int .i64 0) a0]))), (3, none, .val (.slc true 2 (.int .i64 0) ds)), (4, none, .val (.slc true 2 (.int .i64 0) x.1)), (5, none, .val (.int .i64 x.2.1)), (6, none, .val (.int .i64 x.2.2))])
      (fun x => 1 ≤ x.2.2 ∧ x.2.2 ≤ xs.length ∧ x.1 = I (seqP xs (x.2.2 - 1).toNat) ∧ x.2.1 = (if (x.2.2 - 1).toNat = 0 then 0 else xs.getD (x.2.2 - 1).toNat 0)) (fun x => (xs.length - x.2.2).toNat) (([], 0, 1)) (by subst hL; rfl) ?_ ?_
    · exact ⟨by simp, by simp only; omega, rfl, rfl⟩
    rintro ⟨es, t, i⟩ ⟨i0, i1, hI, hT⟩ hfx ag hag
    simp only at i0 i1 hI hT
    conv => cbv
    have hlen : es.length ≤ 200000 := by
      have := seqP_len hb (i - 1).toNat (by omega)
      rw [hI, I_length]; omega
    have ga : ∀ k, a0.getD k (.int .i64 0) = .int .i64 (xs.getD k 0) := fun k => by rw [hxs, I_getD]
    have gd : ∀ k, ds.getD k (.int .i64 0) = .int .i64 ((dv xs).getD k 0) := fun k => by rw [hds, I_getD]
    have al : a0.length = xs.length := by rw [hxs, I_length]
    have w1 : IntKind.wrap .i64 (i - 1) = i - 1 := wrap_id (by omega) (by omega)
    simp only [stdEqs hL, imp_self, true_and, and_true, bif_or, bif_and, Bool.or_eq_true, Bool.or_eq_false_iff, Bool.and_eq_true, Bool.and_eq_false_iff, decide_eq_true_eq, decide_eq_false_iff_not, Bool.not_eq_true', Bool.not_eq_false', beq_iff_eq, beq_eq_false_iff_ne, ne_eq, toNat0, toNat1, ok_int, toI_int, I_frzs, I_length, I_getD, ok_ints, toL_slc, l1, al, ga, gd, w1]
    obtain ⟨k, rfl⟩ : ∃ k : Nat, i = k + 1 := ⟨(i - 1).toNat, by omega⟩
    rw [show ((k : Int) + 1 - 1).toNat = k by omega] at hI hT
    rw [show ((k : Int) + 1 - 1).toNat = k by omega, show ((k : Int) + 1).toNat = k + 1 by omega]
    refine ⟨fun h2 => ?_, fun h2 => ?_⟩
    · have hk : xs.getD (k + 1) 0 - t = kkI xs k := by rw [kkI, hT]
      have hkk := kkI_in hb (i := k) (by omega)
      have hd1 := hb.dpos k (by omega)
      have hd2 := hb.dhi k (by omega)
      rw [hk, wrap_id (n := kkI xs k) (by omega) (by omega), wrap_id (n := (k : Int) + 1 + 1) (by omega) (by omega)]
      refine ⟨by omega, by omega, by omega, by omega, by omega, by rw [← H_q_runOf]; exact ⟨by omega, by omega, by omega, by omega, by omega⟩, by omega, by omega, ?_⟩
      refine hag (_, _, (k : Int) + 1 + 1) ⟨by simp only; omega, by simp only; omega, ?_, ?_⟩ (by simp only; omega)
      · simp only
        rw [show ((k : Int) + 1 + 1 - 1).toNat = k + 1 by omega, seqP_succ, ← H_f_runOf, f_runOf, hI, I_append]
        rfl
      · simp only
        rw [show ((k : Int) + 1 + 1 - 1).toNat = k + 1 by omega, if_neg (by omega)]
        rfl
    · rw [hr, e2, sq1, if_neg (by omega), hI, seqI, show xs.length - 1 = k by omega]
  · cases h

theorem sq1_get (xs : List Int) (i : Nat) : (sq1 xs).getD i 1 = (seqI xs).getD i 1 := by
  rw [sq1]
  split
  · rename_i h
    have : seqI xs = [] := by rw [seqI, h]; rfl
    rw [this]
    cases i with
    | zero => rfl
    | succ i => rfl
  · rfl
theorem sq1_len {xs : List Int} (h : Br xs) : (sq1 xs).length ≤ 200000 := by
  have h1 := h.len
  have h2 := h.pos
  have := seqP_len h (xs.length - 1) (by omega)
  rw [sq1]
  split
  · simp
  · rw [seqI]; omega
end Go.Ax
/-
  Proximate points and codes of branches. No conditions but those of the contracts.
-/
set_option linter.all false
namespace Go.Ax
open Go.Proofs

theorem dvGo_at : ∀ (l : List Int) (d : Int) (i : Nat), i < l.length → (dvGo d l).getD i 0 = gcdW (if i = 0 then d else (dvGo d l).getD (i - 1) 0) (l.getD i 0)
  | [], _, i, h => by simp at h
  | t :: l, d, 0, _ => rfl
  | t :: l, d, 1, h => by
    have := dvGo_at l (gcdW d t) 0 (by simpa using h)
    simpa [dvGo] using this
  | t :: l, d, i + 2, h => by
    have := dvGo_at l (gcdW d t) (i + 1) (by simp at h; omega)
    simpa [dvGo] using this
theorem gcdW_nat {a b : Int} (ha : 0 < a) (hb : 0 < b) : gcdW a b = (Nat.gcd a.toNat b.toNat : Int) := by
  rw [gcdW, absW_pos ha, absW_pos hb, gcdGo_eq _ a b (Nat.le_refl _) (by omega) (by omega)]
def ddN (xs : List Int) (i : Nat) : Nat := ((dv xs).getD i 0).toNat
def kkN (xs : List Int) (i : Nat) : Nat := (kkI xs i).toNat
theorem ddN_gcd {xs : List Int} (h : Br xs) {i : Nat} (hi : i + 1 < xs.length) : ddN xs (i + 1) = Nat.gcd (ddN xs i) (xs.getD (i + 1) 0).toNat := by
  have h1 := dvGo_at xs 0 (i + 1) hi
  have h2 := h.dpos i (by omega)
  have h3 := h.low (i + 1) hi
  rw [if_neg (by omega), show i + 1 - 1 = i by omega] at h1
  have h4 : (dv xs).getD (i + 1) 0 = gcdW ((dv xs).getD i 0) (xs.getD (i + 1) 0) := h1
  rw [gcdW_nat (by omega) (by omega)] at h4
  rw [ddN, h4, Int.toNat_natCast, ddN]
theorem ddN_dvd {xs : List Int} (h : Br xs) : ∀ {i : Nat}, i < xs.length → ddN xs i ∣ (xs.getD i 0).toNat
  | 0, _ => by rw [ddN, h.d0]; exact Nat.dvd_refl _
  | i + 1, hi => by rw [ddN_gcd h hi]; exact Nat.gcd_dvd_right _ _
theorem ddN_kk {xs : List Int} (h : Br xs) {i : Nat} (hi : i + 1 < xs.length) : Nat.gcd (ddN xs i) (kkN xs i) = ddN xs (i + 1) := by
  rw [ddN_gcd h hi, kkN, kkI]
  by_cases h0 : i = 0
  · rw [if_pos h0]
    congr 1
    omega
  · rw [if_neg h0]
    obtain ⟨c, hc⟩ := ddN_dvd h (i := i) (by omega)
    have h1 := h.up i hi
    have h2 := h.low i (by omega)
    rw [show (xs.getD (i + 1) 0).toNat = (xs.getD (i + 1) 0 - xs.getD i 0).toNat + ddN xs i * c by omega, Nat.mul_comm (ddN xs i) c, Nat.gcd_add_mul_right_right]
def blk (xs : List Int) (i : Nat) : Nat → List (Nat × Nat)
  | 0 => []
  | n + 1 => (kkN xs i, ddN xs i) :: blk xs (i + 1) n
theorem blk_chain {xs : List Int} (h : Br xs) : ∀ (n i : Nat), i + n + 1 = xs.length → Chain (ddN xs i) (blk xs i n)
  | 0, i, hi => by
    have := h.dlast
    rw [show xs.length - 1 = i by omega] at this
    show ddN xs i = 1
    rw [ddN, this]; rfl
  | n + 1, i, hi => by
    have := h.dpos i (by omega)
    refine ⟨rfl, by rw [ddN]; omega, ?_⟩
    rw [ddN_kk h (by omega)]
    exact blk_chain h n (i + 1) (by omega)
def nat2 (l : List Nat) : List Int := l.map fun (n : Nat) => (n : Int)
theorem blk_seq (xs : List Int) : ∀ (n i : Nat), nat2 (blocks (blk xs i n)) = (List.range' i n).flatMap (runI xs)
  | 0, i => rfl
  | n + 1, i => by
    have := blk_seq xs n (i + 1)
    rw [List.range'_succ, List.flatMap_cons, ← this, blk, blocks, nat2, List.map_append]
    rfl
def mulN (xs : List Int) : List Nat := blocks (blk xs 0 (xs.length - 1))
def mul (xs : List Int) (i : Nat) : Nat := (mulN xs).getD i 1
theorem seqI_mul (xs : List Int) : seqI xs = nat2 (mulN xs) := by
  rw [mulN, blk_seq, seqI, seqP, List.range_eq_range']
theorem seqI_get (xs : List Int) (i : Nat) : (seqI xs).getD i 1 = mul xs i := by
  rw [seqI_mul, nat2, mul, List.getD_eq_getElem?_getD, List.getD_eq_getElem?_getD, List.getElem?_map]
  cases (mulN xs)[i]? <;> rfl
theorem mul_good {xs : List Int} (h : Br xs) : GoodM (mul xs) ∧ mul xs 0 ≤ 64 := by
  have h1 := h.pos
  have hc := blk_chain h (xs.length - 1) 0 (by omega)
  obtain ⟨g1, g2, _⟩ := blocks_good _ _ hc
  refine ⟨goodM_of g1, Nat.le_trans g2 ?_⟩
  have := h.dhi 0 h1
  rw [ddN]; omega
theorem mul_le {xs : List Int} (h : Br xs) : ∀ i, mul xs i ≤ 64
  | 0 => (mul_good h).2
  | i + 1 => Nat.le_trans ((mul_good h).1.fall i) (mul_le h i)
def prx (M : Nat → Nat) (i j : Nat) : Bool := decide (sumM M i (j - i) ≤ M i)
def prs (M : Nat → Nat) (i j : Nat) : List Nat := (List.range (min i j)).filter fun a => prx M a j
def cd (M : Nat → Nat) (i j : Nat) : Int := match prs M (min i (j - 1)) j with
  | [] => 0
  | a :: _ => (j : Int) - a
def codeK (xs : List Int) (k : Nat) : List Int := tab' (fun j => cd (mul xs) (j + 1) (j + 1)) (k - 1)
end Go.Ax
