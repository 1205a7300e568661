/-
  Branches of sequences: spec. No conditions but those of the contracts.
-/
import Derived.Test.YtpbkkbjgmlfloaaJcp
import Derived.Test.YtpbkkbjgmlfloaaJep
import Derived.Test.YtpbkkbjgmlfloaaFzp
set_option linter.all false
namespace Go.Ax
open Go.Proofs
set_option maxHeartbeats 2000000

def f_full4 (es : List V) (k : Int) : List V := I (sq1 (unI es) ++ List.replicate k.toNat 1)
def q_full4 (es : List V) (k : Int) : Prop := IsBr es ∧ 0 ≤ k ∧ k ≤ 1000
set_option maxRecDepth 100000 in
theorem s_spec_l04Full : Sat Try.prog 68 (c_Bi_l f_full4 q_full4) := by
  intro args ps r h hp
  unfold c_Bi_l at h
  split at h
  · rename_i a0 a1
    simp only [Option.some.injEq, Prod.mk.injEq] at h
    obtain ⟨rfl, rfl⟩ := h
    obtain ⟨hq, k1, k2⟩ : q_full4 a0 a1 := (alls_cons.1 hp).1
    have hqb := hq
    obtain ⟨xs, hxs, hb⟩ := hq
    have g1 : V.frzs a0 = a0 := by rw [hxs, I_frzs]
    obtain ⟨S, hS⟩ : ∃ S, S = runsI xs := ⟨_, rfl⟩
    obtain ⟨ss, hss⟩ : ∃ ss, ss = II true S := ⟨_, rfl⟩
    have e1 : f_runs a0 = ss := by rw [f_runs, hxs, unI_I, hss, hS]
    have e2 : f_full4 a0 a1 = I (sq1 xs ++ List.replicate a1.toNat 1) := by rw [f_full4, hxs, unI_I]
    have hsl : ss.length = S.length := by rw [hss, II_length]
    have hSl : S.length ≤ 5000 := by
      have h1 := hb.len
      have h2 := hb.pos
      have := runsP_len hb (xs.length - 1) (by omega)
      rw [hS, runsI]; omega
    have gss : ∀ k, ss.getD k (.slc true 2 (.int .i64 0) []) = .slc true 2 (.int .i64 0) (I (S.getD k [])) := fun k => by rw [hss, II_getD]
    have hlen : ∀ i, (flatS (S.take i)).length ≤ 200000 := fun i => by
      have h1 := flatS_take_len S i
      have h2 : (flatS S).length ≤ 200000 := by rw [hS, flatS_runsI]; exact seqI_len hb
      omega
    have hfl : flatS S = seqI xs := by rw [hS, flatS_runsI]
    generalize H_f_runs : f_runs = F_f_runs
    generalize H_IsBr : IsBr = F_IsBr
    refine fnOk_ofI (T := tab) (B := [(69, c_B_m' F_f_runs F_IsBr)]) (Bi := []) [0, 1, 2, 4, 5, 6, 7, 8] Try.func68 rfl rfl (by kernel_rfl) (Nat.le_of_ble_eq_true rfl) mixed tabOk (by subst H_f_runs H_IsBr; exact (bookCons s_spec_l04Runs bookNil)) (by subst H_f_runs H_IsBr; exact bookINil) (by kernel_rfl) ?_
    intro L lp rr hL hr hf hlp
    conv => cbv
    have hF : F_f_runs a0 = ss := by rw [← H_f_runs, e1]
    simp only [stdEqs hL, imp_self, true_and, and_true, bif_or, bif_and, Bool.or_eq_true, Bool.or_eq_false_iff, Bool.and_eq_true, Bool.and_eq_false_iff, decide_eq_true_eq, decide_eq_false_iff_not, Bool.not_eq_true', Bool.not_eq_false', beq_iff_eq, beq_eq_false_iff_ne, ne_eq, toNat0, toNat1, ok_int, toI_int, I_frzs, I_length, I_getD, ok_ints, toL_slc, hF, g1]
    refine ⟨by rw [← H_IsBr]; exact hqb, ?_⟩
    refine hlp (List V × Int) _ _ _ [1, 5, 6, 7] (fun x => [(1, none, .val (.int .i64 a1)), (5, none, .val (.slc true 53 (.slc true 2 (.int .i64 0) []) ss)), (6, none, .val (.slc true 2 (.int .i64 0) x.1)), (7, none, .val (.int .i64 x.2))])
      (fun x => 0 ≤ x.2 ∧ x.2 ≤ S.length ∧ x.1 = I (flatS (S.take x.2.toNat))) (fun x => (S.length - x.2).toNat) (([], 0)) (by subst hL; rfl) ?_ ?_
    · exact ⟨by simp, by simp only; omega, by simp [flatS, I]⟩
    rintro ⟨es, i⟩ ⟨i0, i1, hI⟩ hfx ag hag
    simp only at i0 i1 hI
    have hst := flatS_step S i.toNat
    have hmem := fun (h : i.toNat < S.length) => runsP_mem (xs := xs) (xs.length - 1) (S.getD i.toNat []) (by have := mem_getD h; rwa [hS, runsI] at this ⊢)
    have hl2 := hlen (i.toNat + 1)
    generalize hE : S.getD i.toNat [] = E at hst hmem
    have hl : es.length ≤ 200000 := by rw [hI, I_length]; exact hlen _
    conv => cbv
    simp only [stdEqs hL, imp_self, true_and, and_true, bif_or, bif_and, Bool.or_eq_true, Bool.or_eq_false_iff, Bool.and_eq_true, Bool.and_eq_false_iff, decide_eq_true_eq, decide_eq_false_iff_not, Bool.not_eq_true', Bool.not_eq_false', beq_iff_eq, beq_eq_false_iff_ne, ne_eq, toNat0, toNat1, ok_int, toI_int, I_frzs, I_length, I_getD, ok_ints, toL_slc, hsl, gss, hE]
    refine ⟨fun h => ?_, fun h => ?_⟩
    · obtain ⟨hEl, hE0, hE1⟩ := hmem (by omega)
      have hst' := hst (by omega)
      obtain ⟨it, hit⟩ : ∃ it, it = i.toNat := ⟨_, rfl⟩
      simp only [← hit] at hE hst' hI hl2 ⊢
      have hti : it < S.length := by omega
      rw [hst', List.length_append, List.length_replicate] at hl2
      have hesl : es.length = (flatS (S.take it)).length := by rw [hI, I_length]
      refine ⟨by omega, by omega, hti, hti, by omega, by omega, hti, by omega, ?_⟩
      refine hlp (List V × Int) _ _ _ [1, 5, 6, 7, 8] (fun x => [(1, none, .val (.int .i64 a1)), (5, none, .val (.slc true 53 (.slc true 2 (.int .i64 0) []) ss)), (6, none, .val (.slc true 2 (.int .i64 0) x.1)), (7, none, .val (.int .i64 i)), (8, none, .val (.int .i64 x.2))])
        (fun x => 0 ≤ x.2 ∧ x.2 ≤ E.getD 0 0 ∧ x.1 = I (flatS (S.take it) ++ List.replicate (E.getD 0 0 - x.2).toNat (E.getD 1 0))) (fun x => x.2.toNat) ((es, E.getD 0 0)) (by subst hL; rfl) ?_ ?_
      · exact ⟨by simp only; omega, by simp, by simp [hI]⟩
      rintro ⟨es2, q⟩ ⟨j0, j1, hI2⟩ hfx2 ag2 hag2
      simp only at j0 j1 hI2
      have hes2 : es2.length ≤ 400000 := by rw [hI2, I_length, List.length_append, List.length_replicate]; omega
      conv => cbv
      simp only [stdEqs hL, imp_self, true_and, and_true, bif_or, bif_and, Bool.or_eq_true, Bool.or_eq_false_iff, Bool.and_eq_true, Bool.and_eq_false_iff, decide_eq_true_eq, decide_eq_false_iff_not, Bool.not_eq_true', Bool.not_eq_false', beq_iff_eq, beq_eq_false_iff_ne, ne_eq, toNat0, toNat1, ok_int, toI_int, I_frzs, I_length, I_getD, ok_ints, toL_slc, hsl, gss, ← hit, hE]
      refine ⟨fun hj => ?_, fun hj => ?_⟩
      · rw [wrap_id (n := q - 1) (by omega) (by omega)]
        refine ⟨by omega, by omega, hti, hti, by omega, by omega, hti, by omega, noown_one _, by simp only [List.length_cons, List.length_nil]; omega, solid_one _, ?_⟩
        refine hag2 (_, q - 1) ⟨by simp only; omega, by simp only; omega, ?_⟩ (by simp only; omega)
        simp only
        rw [hI2, show (E.getD 0 0 - (q - 1)).toNat = (E.getD 0 0 - q).toNat + 1 by omega, List.replicate_succ', ← List.append_assoc, ← I_append (xs := flatS (S.take it) ++ List.replicate (E.getD 0 0 - q).toNat (E.getD 1 0))]
        rfl
      · rw [wrap_id (n := i + 1) (by omega) (by omega)]
        refine hag (_, i + 1) ⟨by simp only; omega, by simp only; omega, ?_⟩ (by simp only; omega)
        simp only
        rw [show (i + 1).toNat = it + 1 by omega, hst', hI2, show (E.getD 0 0 - q).toNat = (E.getD 0 0).toNat by omega]
    · have hes : es = I (seqI xs) := by rw [hI, List.take_of_length_le (by omega), hfl]
      have hsq : ∀ h2 : ¬ es.length = 0, es = I (sq1 xs) := fun h2 => by
        rw [sq1, if_neg ?_, hes]
        intro h3
        rw [hes, I_length, seqI, h3] at h2
        exact h2 rfl
      have hsq1 : es.length = 0 → es ++ [V.int IntKind.i64 1] = I (sq1 xs) := fun h2 => by
        rw [sq1, if_pos ?_, List.eq_nil_of_length_eq_zero h2]
        · rfl
        · rw [hes, I_length] at h2
          by_cases h3 : xs.length = 1
          · exact h3
          · have := seqI_ne hb h3
            omega
      have hsl1 := sq1_len hb
      clear hag hfx
      refine ⟨fun h2 => ⟨rfl, by simp only [List.length_singleton]; omega, solid_one _, ?_⟩, fun h2 => ?_⟩
      rw [hsq1 (by omega)]
      rotate_left
      rw [hsq (by omega)]
      all_goals
        refine hlp (List V × Int) _ _ _ [1, 6] (fun x => [(1, none, .val (.int .i64 x.2)), (6, none, .val (.slc true 2 (.int .i64 0) x.1))])
          (fun x => 0 ≤ x.2 ∧ x.2 ≤ a1 ∧ x.1 = I (sq1 xs ++ List.replicate (a1 - x.2).toNat 1)) (fun x => x.2.toNat) ((I (sq1 xs), a1)) (by subst hL; rfl) ?_ ?_
        · exact ⟨by simp only; omega, by simp, by simp⟩
        rintro ⟨es2, q⟩ ⟨j0, j1, hI2⟩ hfx2 ag2 hag2
        simp only at j0 j1 hI2
        have hes2 : es2.length ≤ 400000 := by rw [hI2, I_length, List.length_append, List.length_replicate]; omega
        conv => cbv
        simp only [stdEqs hL, imp_self, true_and, and_true, bif_or, bif_and, Bool.or_eq_true, Bool.or_eq_false_iff, Bool.and_eq_true, Bool.and_eq_false_iff, decide_eq_true_eq, decide_eq_false_iff_not, Bool.not_eq_true', Bool.not_eq_false', beq_iff_eq, beq_eq_false_iff_ne, ne_eq, toNat0, toNat1, ok_int, toI_int, I_frzs, I_length, I_getD, ok_ints, toL_slc, hes2]
        refine ⟨fun hj => ?_, fun hj => ?_⟩
        · rw [wrap_id (n := q - 1) (by omega) (by omega)]
          refine ⟨noown_one _, by simp only [List.length_cons, List.length_nil]; omega, solid_one _, ?_⟩
          refine hag2 (_, q - 1) ⟨by simp only; omega, by simp only; omega, ?_⟩ (by simp only; omega)
          simp only
          rw [hI2, show (a1 - (q - 1)).toNat = (a1 - q).toNat + 1 by omega, List.replicate_succ', ← List.append_assoc, ← I_append (xs := sq1 xs ++ List.replicate (a1 - q).toNat 1)]
          rfl
        · rw [hr, e2, hI2, show (a1 - q).toNat = a1.toNat by omega]
  · cases h
def f_long4 (es : List V) (k : Int) : Int := if 400 < ((sq1 (unI es)).length : Int) + k then 3 else 0
def q_long4 (es : List V) (k : Int) : Prop := IsBr es ∧ 0 ≤ k ∧ k ≤ 400
def c_Bi_i (f : List V → Int → Int) (q : List V → Int → Prop) : Contract := fun
  | [.agg [.slc false 2 (.int .i64 0) a0], .int .i64 a1] => some ([q a0 a1], .int .i64 (f a0 a1))
  | _ => none
set_option maxRecDepth 100000 in
theorem s_spec_l04Long : Sat Try.prog 66 (c_Bi_i f_long4 q_long4) := by
  intro args ps r h hp
  unfold c_Bi_i at h
  split at h
  · rename_i a0 a1
    simp only [Option.some.injEq, Prod.mk.injEq] at h
    obtain ⟨rfl, rfl⟩ := h
    obtain ⟨hq, k1, k2⟩ : q_long4 a0 a1 := (alls_cons.1 hp).1
    obtain ⟨xs, hxs, hb⟩ := id hq
    have g1 : V.frzs a0 = a0 := by rw [hxs, I_frzs]
    have hlen := sq1_len hb
    generalize H_f0_isBr : f0_isBr = F_f0_isBr
    generalize H_IsIs : IsIs = F_IsIs
    generalize H_inRange : inRange = F_inRange
    generalize H_f_cnt : f_cnt = F_f_cnt
    generalize H_IsBr : IsBr = F_IsBr
    refine fnOk_ofI (T := tab) (B := [(34, c_b_bool F_f0_isBr F_IsIs), (35, c_impl_inRange F_inRange), (87, c_B_i F_f_cnt F_IsBr)]) (Bi := []) [0, 1, 2, 4] Try.func66 rfl rfl (by kernel_rfl) (Nat.le_of_ble_eq_true rfl) mixed tabOk (by subst H_f0_isBr H_IsIs H_inRange H_f_cnt H_IsBr; exact (bookCons s_spec_l03Is (bookCons s_spec_l01In (bookCons s_spec_l04Count bookNil)))) (by subst H_f0_isBr H_IsIs H_inRange H_f_cnt H_IsBr; exact bookINil) (by kernel_rfl) ?_
    intro L lp rr hL hr hf hlp
    have Ei : F_f0_isBr a0 = true := by rw [← H_f0_isBr, f0_isBr, hxs, unI_I]; exact hb.is
    have Er : F_inRange a1 0 400 = true := by rw [← H_inRange, inRange, Bool.and_eq_true, decide_eq_true_eq, decide_eq_true_eq]; exact ⟨k1, k2⟩
    have Ec : F_f_cnt a0 = ((sq1 xs).length : Int) := by rw [← H_f_cnt, f_cnt, hxs, unI_I]
    conv => cbv
    simp only [stdEqs hL, imp_self, true_and, and_true, bif_or, bif_and, Bool.or_eq_true, Bool.or_eq_false_iff, Bool.and_eq_true, Bool.and_eq_false_iff, decide_eq_true_eq, decide_eq_false_iff_not, Bool.not_eq_true', Bool.not_eq_false', beq_iff_eq, beq_eq_false_iff_ne, ne_eq, toNat0, toNat1, ok_int, toI_int, I_frzs, I_length, I_getD, ok_ints, toL_slc, g1, Ei, Er, Ec]
    rw [wrap_id (n := ((sq1 xs).length : Int) + a1) (by omega) (by omega)]
    have hf0 : f_long4 a0 a1 = if 400 < ((sq1 xs).length : Int) + a1 then 3 else 0 := by rw [f_long4, hxs, unI_I]
    exact ⟨by rw [← H_IsIs]; exact hq.isIs, fun h => (by cases h), fun _ => ⟨fun h => (by cases h), fun _ => ⟨by rw [← H_IsBr]; exact hq, fun h => by rw [hr, hf0, if_pos h], fun h => by rw [hr, hf0, if_neg h]⟩⟩⟩
  · cases h
def f_blk (a : List V) : List V := II true (rowsN (blkN (intL (unI a))))
def q_blk (a : List V) : Prop := ∃ L : List Nat, a = I (natL L) ∧ L.length ≤ 100000
set_option maxRecDepth 100000 in
theorem s_spec_l04Blocks : Sat Try.prog 88 (c_l_m f_blk q_blk) := by
  intro args ps r h hp
  unfold c_l_m at h
  split at h
  · rename_i a0
    simp only [Option.some.injEq, Prod.mk.injEq] at h
    obtain ⟨rfl, rfl⟩ := h
    obtain ⟨ls, hls, hll⟩ : q_blk a0 := (alls_cons.1 hp).1
    have g0 : V.frzs a0 = a0 := by rw [hls, I_frzs]
    have hal : a0.length = ls.length := by rw [hls, I_length, natL_len]
    have gal : ∀ k, a0.getD k (.int .i64 0) = .int .i64 ((ls.getD k 0 : Nat) : Int) := fun k => by rw [hls, I_getD]; exact congrArg _ (natL_getD ls k 0)
    have hf0 : f_blk a0 = II true (rowsN (blkN ls)) := by rw [f_blk, hls, unI_I, int_nat]
    obtain ⟨n, hn⟩ : ∃ n : Int, n = ls.length := ⟨_, rfl⟩
    refine fnOk_ofI (T := tab) (B := []) (Bi := []) [0, 2, 3, 4, 5] Try.func88 rfl rfl (by kernel_rfl) (Nat.le_of_ble_eq_true rfl) mixed tabOk (by exact bookNil) (by exact bookINil) (by kernel_rfl) ?_
    intro L lp rr hL hr hf hlp
    conv => cbv
    refine hlp (List V × Int) _ _ _ [0, 3, 4] (fun x => [(0, none, .val (.slc false 2 (.int .i64 0) a0)), (3, none, .val (.slc true 53 (.slc true 2 (.int .i64 0) []) x.1)), (4, none, .val (.int .i64 x.2))])
      (fun x => 0 ≤ x.2 ∧ x.2 ≤ n ∧ x.1 = II true (rowsN (blkN (ls.take x.2.toNat))) ∧ x.1.length ≤ x.2.toNat) (fun x => (n - x.2).toNat) (([], 0)) (by subst hL; rfl) ?_ ?_
    · exact ⟨by simp, by simp only; omega, rfl, by simp⟩
    rintro ⟨es, i⟩ ⟨i0, i1, hI, hel⟩ hfx ag hag
    simp only at i0 i1 hI hel
    obtain ⟨bl, hbl⟩ : ∃ bl, bl = blkN (ls.take i.toNat) := ⟨_, rfl⟩
    rw [← hbl] at hI
    have hesl : es.length = bl.length := by rw [hI, II_length, rowsN_len]
    have b7 : i < n → i.toNat < ls.length := fun h3 => by omega
    obtain ⟨x, hx⟩ : ∃ x, x = ls.getD i.toNat 0 := ⟨_, rfl⟩
    obtain ⟨es2, hes2⟩ : ∃ es2, es2 = es ++ [V.slc true 2 (V.int IntKind.i64 0) [V.int IntKind.i64 (x : Int), V.int IntKind.i64 0]] := ⟨_, rfl⟩
    have hel3 : es.length ≤ 100000 := by
      have h3 : i.toNat ≤ 100000 := by omega
      exact Nat.le_trans hel h3
    have b1 : IntKind.wrap .i64 ((es.length : Int) + 1 - 1) = (es.length : Int) := by
      have h3 : (es.length : Int) + 1 - 1 = es.length := by clear hI hes2; omega
      rw [h3]
      exact wrap_id (by clear hI hes2; omega) (by clear hI hes2; omega)
    have b2 : IntKind.wrap .i64 (i + 1) = i + 1 := wrap_id (by omega) (by omega)
    have b3 : 0 < es.length → IntKind.wrap .i64 ((es.length : Int) - 1) = ((es.length - 1 : Nat) : Int) := fun h3 => by
      rw [wrap_id (by omega) (by omega)]
      omega
    have h2l : es2.length = es.length + 1 := by rw [hes2]; simp
    have b4 : ¬ i < n → ls.length ≤ i.toNat := fun h3 => by omega
    have b5 : IntKind.wrap .i64 (i - 1) = i - 1 := wrap_id (by omega) (by omega)
    have b6 : i < n → 0 ≤ i + 1 ∧ i + 1 ≤ n ∧ (n - (i + 1)).toNat < (n - i).toNat := fun h3 => by omega
    have h2g : es2.getD es.length (.slc true 2 (.int .i64 0) []) = .slc true 2 (.int .i64 0) (I [(x : Int), 0]) := by
      rw [hes2, List.getD_eq_getElem?_getD, List.getElem?_append_right (Nat.le_refl _), Nat.sub_self]; rfl
    have hlast : ∀ h3 : ¬ i = 0, ∃ B p, bl = B ++ [p] ∧ p.1 = ls.getD (i - 1).toNat 0 := fun h3 => by
      obtain ⟨_, _, h5⟩ := blkN_ok (ls.take i.toNat)
      have hlt : i.toNat ≤ ls.length := by omega
      obtain ⟨B, p, h6, _, h7⟩ := h5 (fun h8 => by
        have := congrArg List.length h8
        rw [List.length_take, List.length_nil] at this
        omega)
      refine ⟨B, p, by rw [hbl, h6], ?_⟩
      rw [List.getLast?_eq_getElem?, List.length_take, List.getElem?_take_of_lt (by omega), show min i.toNat ls.length - 1 = (i - 1).toNat by omega] at h7
      rw [List.getD_eq_getElem?_getD, h7]; rfl
    have hadd : (i = 0 ∨ ¬ ((x : Int) = ((ls.getD (i - 1).toNat 0 : Nat) : Int))) → addB bl x = bl ++ [(x, 1)] := fun h3 => by
      by_cases h4 : i = 0
      · have : bl = [] := by rw [hbl, h4]; rfl
        rw [this]; rfl
      · obtain ⟨B, p, h5, h6⟩ := hlast h4
        have h7 : ¬ p.1 = x := fun h8 => by
          rcases h3 with h3 | h3
          · exact h4 h3
          · exact h3 (by rw [← h6, h8])
        have h8 : bl.getLast? = some p := by rw [h5]; simp
        rw [addB, h8]
        simp only
        rw [if_neg h7]
    have htk : i < n → ls.take (i.toNat + 1) = ls.take i.toNat ++ [x] := fun h3 => by
      rw [List.take_succ, hx, List.getD_eq_getElem?_getD, List.getElem?_eq_getElem (b7 h3)]; rfl
    have hsnoc : i < n → blkN (ls.take (i.toNat + 1)) = addB bl x := fun h3 => by rw [htk h3, blkN_snoc, hbl]
    conv => cbv
    simp only [stdEqs hL, imp_self, true_and, and_true, bif_or, bif_and, Bool.or_eq_true, Bool.or_eq_false_iff, Bool.and_eq_true, Bool.and_eq_false_iff, decide_eq_true_eq, decide_eq_false_iff_not, Bool.not_eq_true', Bool.not_eq_false', beq_iff_eq, beq_eq_false_iff_ne, ne_eq, toNat0, toNat1, ok_int, toI_int, I_frzs, I_length, I_getD, ok_ints, toL_slc, g0, hal, gal, ← hn, ← hx, ← hes2]
    refine ⟨fun h2 => ⟨fun _ => i0, fun _ => h2, fun _ => trivial, fun h3 => ?_, fun h3 => ?_, fun _ => trivial, fun h3 => ?_, fun h3 => ?_⟩, fun h2 => ?_⟩
    · rw [wrap_id (by omega) (by omega)]; omega
    · rw [wrap_id (by omega) (by omega)]; omega
    · have h2l3 : (es2.length : Int) = es.length + 1 := by rw [h2l]; rfl
      rw [h2l3, b1, b2, Int.toNat_natCast]
      simp only [h2g, toL_slc, h2l, I_length, I_getD, toI_int]
      have hlt : es.length < es.length + 1 := Nat.lt_succ_self _
      have hl2 : [(x : Int), 0].length = 2 := rfl
      simp only [hl2]
      refine ⟨i0, h2, ?_, solid1 (by simp [V.solid]), Int.natCast_nonneg _, Int.lt_succ _, hlt, rfl, hlt, rfl, by omega, by omega, hlt, rfl, by omega, rfl, ?_⟩
      · simp only [List.length_singleton]
        have : (es.length : Int) ≤ 100000 := Int.ofNat_le.2 hel3
        omega
      refine ⟨hlt, rfl, by omega, by omega, hlt, rfl, by omega, rfl, ?_⟩
      obtain ⟨c1, c2, c3⟩ := b6 h2
      rw [b5] at h3
      refine hag (_, i + 1) ⟨c1, c2, ?_, ?_⟩ c3
      · simp only [toNat_succ i0]
        rw [hsnoc h2, hadd h3, rowsN_append, II_append, hes2, List.set_append_right _ _ (Nat.le_refl _), Nat.sub_self, hI]
        rfl
      · simp only [toNat_succ i0, List.length_set, h2l]
        exact Nat.succ_le_succ hel
    · have h30 : ¬ i = 0 := h3.1
      have h31 := h3.2
      rw [b5] at h31
      obtain ⟨B, p, h5, h6⟩ := hlast h30
      have hpx : p.1 = x := by
        have h32 : (x : Int) = ((ls.getD (i - 1).toNat 0 : Nat) : Int) := h31
        rw [h6]
        exact (Int.ofNat_inj.1 h32).symm
      have h8 : bl.getLast? = some p := by rw [h5]; simp
      have hblen : bl.length = B.length + 1 := by rw [h5]; simp
      have hel4 : es.length - 1 = B.length := by rw [hesl, hblen]; rfl
      have hpos : 0 < es.length := by rw [hesl, hblen]; exact Nat.succ_pos _
      have hadd2 : addB bl x = bl.set B.length (p.1, p.2 + 1) := by
        rw [addB, h8]
        simp only
        rw [if_pos hpx, hblen]; rfl
      have hgp : bl[B.length]? = some p := by rw [h5, List.getElem?_append_right (Nat.le_refl _), Nat.sub_self]; rfl
      have hg : es.getD B.length (.slc true 2 (.int .i64 0) []) = .slc true 2 (.int .i64 0) (I [(p.1 : Int), (p.2 : Int)]) := by
        rw [hI, II_getD, rowsN_get hgp]
      have hp2 : p.2 ≤ 100000 := by
        have h9 := (blkN_ok (ls.take i.toNat)).2.1
        rw [← hbl, h5, expB_append] at h9
        have h10 := congrArg List.length h9
        rw [List.length_append, List.length_take, expB_cons, List.length_append, List.length_replicate] at h10
        omega
      have hlt : B.length < es.length := by rw [hesl, hblen]; exact Nat.lt_succ_self _
      have hw : IntKind.wrap .i64 ((p.2 : Int) + 1) = ((p.2 + 1 : Nat) : Int) := by
        rw [wrap_id (by omega) (by omega)]; rfl
      rw [b3 hpos, hel4, b2, Int.toNat_natCast]
      have hl2 : [(p.1 : Int), (p.2 : Int)].length = 2 := rfl
      have hg1 : [(p.1 : Int), (p.2 : Int)].getD 1 0 = p.2 := rfl
      simp only [hg, toL_slc, I_length, I_getD, toI_int, hl2, hg1, hw]
      obtain ⟨c1, c2, c3⟩ := b6 h2
      refine ⟨Int.natCast_nonneg _, Int.ofNat_lt.2 hlt, hlt, rfl, hlt, rfl, by omega, by omega, hlt, rfl, by omega, rfl, hlt, rfl, by omega, by omega, hlt, rfl, by omega, rfl, ?_⟩
      refine hag (_, i + 1) ⟨c1, c2, ?_, ?_⟩ c3
      · simp only [toNat_succ i0]
        rw [hsnoc h2, hadd2, ← rowsN_set, ← II_set, hI]
        rfl
      · simp only [toNat_succ i0, List.length_set]
        exact Nat.le_succ_of_le hel
    · have h5 : ls.take i.toNat = ls := List.take_of_length_le (b4 h2)
      rw [hr, hf0, hI, hbl, h5]
  · cases h
end Go.Ax
