import Derived.Test.YtlbmgfiepmhjhaaB17q
import Derived.Test.YtlbmgfiepmhjhaaB18q
/-
  Branches of sequences: impl. No conditions but those of the contracts.
-/
set_option linter.all false
namespace Go.Ax
open Go.Proofs
set_option maxHeartbeats 2000000

def f_beg (a b : List V) : Bool := decide (b.length ≤ a.length) && f0_eqI (a.take b.length) b
def q_beg (a b : List V) : Prop := IsI a ∧ IsI b ∧ a.length ≤ 1000000 ∧ b.length ≤ 1000000
set_option maxHeartbeats 1000000 in
set_option maxRecDepth 100000 in
theorem s_impl_begins : Sat Try.prog 137 (c_ll_b f_beg q_beg) := by
  intro args ps r h hp
  unfold c_ll_b at h
  split at h
  · rename_i a0 a1
    simp only [Option.some.injEq, Prod.mk.injEq] at h
    obtain ⟨rfl, rfl⟩ := h
    obtain ⟨⟨ys, has⟩, ⟨bs, hbs⟩, h1, h2⟩ : q_beg a0 a1 := (alls_cons.1 hp).1
    have g0 : V.frzs a0 = a0 := by rw [has, I_frzs]
    have g1 : V.frzs a1 = a1 := by rw [hbs, I_frzs]
    have g2 : ∀ k, V.frzs (a0.take k) = a0.take k := fun k => by rw [has, I_take, I_frzs]
    generalize H_f0_eqI : f0_eqI = F_f0_eqI
    generalize H_q_II : q_II = F_q_II
    refine fnOk_ofI (T := tab) (B := [(48, c_ll_b F_f0_eqI F_q_II)]) (Bi := []) [0, 1, 4] Try.func137 rfl rfl (by kernel_rfl) (Nat.le_of_ble_eq_true rfl) mixed tabOk (by subst H_f0_eqI H_q_II; exact (bookCons s_slicesEqual bookNil)) (by subst H_f0_eqI H_q_II; exact bookINil) (by kernel_rfl) ?_
    intro L lp rr hL hr hf hlp
    conv => cbv
    simp only [stdEqs hL, imp_self, true_and, and_true, bif_or, bif_and, Bool.or_eq_true, Bool.or_eq_false_iff, Bool.and_eq_true, Bool.and_eq_false_iff, decide_eq_true_eq, decide_eq_false_iff_not, Bool.not_eq_true', Bool.not_eq_false', beq_iff_eq, beq_eq_false_iff_ne, ne_eq, toNat0, toNat1, ok_int, toI_int, I_frzs, I_length, I_getD, ok_ints, toL_slc, g0, g1, List.drop_zero, g2, Int.toNat_natCast]
    have h0 : decide ((a1.length : Int) ≤ a0.length) = decide (a1.length ≤ a0.length) := by rw [decide_eq_decide]; omega
    refine ⟨fun _ => by omega, fun _ => by omega, fun _ => ?_, ?_⟩
    · rw [← H_q_II]; exact ⟨⟨_, by rw [has, I_take]⟩, ⟨_, hbs⟩⟩
    · rw [hr, f_beg, h0, ← H_f0_eqI]
  · cases h
theorem seq_head {n : Nat} {l : List Nat} {L : List Int} (h : SeqB n l L) : L.getD 0 0 = (n : Int) ∧ 0 < L.length := by
  obtain ⟨hb, hne, m, rfl⟩ := h
  have hlo := hb.lo
  have hlen : 0 < (natL (chN 0 n l ++ List.replicate m 1)).length := List.length_pos_iff.2 hne
  refine ⟨?_, hlen⟩
  have h0 : (chN 0 n l ++ List.replicate m 1).getD 0 0 = n := by
    cases l with
    | nil =>
      have h1 : n = 1 := hb.val
      subst h1
      cases m with
      | zero => simp [chN, natL] at hne
      | succ m => rfl
    | cons t l =>
      have h1 := hb.val.1
      have h2 : 0 < t / n := Nat.div_pos (by omega) (by omega)
      rw [chN, ex_pos (by omega), Nat.sub_zero, show t / n = (t / n - 1) + 1 by omega, List.replicate_succ]
      rfl
  have := natL_getD (chN 0 n l ++ List.replicate m 1) 0 0
  rw [h0] at this
  exact this
def f_bos (a : List V) : List V × Bool := (I (bosI (unI a)), true)
def q_bos (a : List V) : Prop := ∃ n l L, a = I L ∧ SeqB n l L ∧ L.length ≤ 100000
def c_l_Bb (f : List V → List V × Bool) (q : List V → Prop) : Contract := fun
  | [.slc false 2 (.int .i64 0) a0] => some ([q a0], .tup [.agg [.slc true 2 (.int .i64 0) ((f a0).1)], .bool ((f a0).2)])
  | _ => none
set_option maxHeartbeats 1000000 in
set_option maxRecDepth 100000 in
theorem s_impl_branchOfSequence : Sat Try.prog 112 (c_l_Bb f_bos q_bos) := by
  intro args ps r h hp
  unfold c_l_Bb at h
  split at h
  · rename_i a0
    simp only [Option.some.injEq, Prod.mk.injEq] at h
    obtain ⟨rfl, rfl⟩ := h
    obtain ⟨n, l, ls, hL0, hs, hLl⟩ : q_bos a0 := (alls_cons.1 hp).1
    have g0 : V.frzs a0 = a0 := by rw [hL0, I_frzs]
    have hal : a0.length = ls.length := by rw [hL0, I_length]
    have gal : ∀ k, a0.getD k (.int .i64 0) = .int .i64 (ls.getD k 0) := fun k => by rw [hL0, I_getD]
    obtain ⟨hh, hlen⟩ := seq_head hs
    have hf0 : f_bos a0 = (I (natL (n :: l)), true) := by rw [f_bos, hL0, unI_I, bosI_eq hs]
    obtain ⟨hb, hne, m, hLe⟩ := hs
    have hlo := hb.lo
    have hhi := hb.hi
    obtain ⟨ni, hni⟩ : ∃ ni : Int, ni = n := ⟨_, rfl⟩
    obtain ⟨lm, hlm⟩ : ∃ lm : Int, lm = ls.length := ⟨_, rfl⟩
    have hh2 : ls.getD 0 0 = ni := by rw [hh, hni]
    generalize H_f_runOf : f_runOf = F_f_runOf
    generalize H_q_runOf : q_runOf = F_q_runOf
    generalize H_f_beg : f_beg = F_f_beg
    generalize H_q_beg : q_beg = F_q_beg
    generalize H_gcdW : gcdW = F_gcdW
    generalize H_always : always = F_always
    generalize H_f0_isBr : f0_isBr = F_f0_isBr
    generalize H_IsIs : IsIs = F_IsIs
    refine fnOk_ofI (T := tab) (B := [(137, c_ll_b F_f_beg F_q_beg), (138, c_ii_i F_gcdW F_always), (139, c_b_bool F_f0_isBr F_IsIs)]) (Bi := [(136, 0, true, c_runOf F_f_runOf F_q_runOf)]) [0, 2, 3, 4, 5, 6, 7, 8, 9, 10, 12, 90, 91, 92] Try.func112 rfl rfl (by kernel_rfl) (Nat.le_of_ble_eq_true rfl) mixed tabOk (by subst H_f_runOf H_q_runOf H_f_beg H_q_beg H_gcdW H_always H_f0_isBr H_IsIs; exact (bookCons s_impl_begins (bookCons s_impl_divisor (bookCons s_impl_IsBranch bookNil)))) (by subst H_f_runOf H_q_runOf H_f_beg H_q_beg H_gcdW H_always H_f0_isBr H_IsIs; exact (bookMCons s_impl_runOf bookINil)) (by kernel_rfl) ?_
    intro L lp rr hL hr hf hlp
    conv => cbv
    simp only [stdEqs hL, imp_self, true_and, and_true, bif_or, bif_and, Bool.or_eq_true, Bool.or_eq_false_iff, Bool.and_eq_true, Bool.and_eq_false_iff, decide_eq_true_eq, decide_eq_false_iff_not, Bool.not_eq_true', Bool.not_eq_false', beq_iff_eq, beq_eq_false_iff_ne, ne_eq, toNat0, toNat1, ok_int, toI_int, I_frzs, I_length, I_getD, ok_ints, toL_slc, g0, hal, gal, hh2, ← hlm]
    refine ⟨by omega, by omega, by omega, by omega, fun h1 => ?_, fun h1 => ?_⟩
    refine hlp (List V × Int × Int × Int) _ _ _ [0, 2, 4, 5, 6, 7] (fun x => [(0, none, .val (.slc false 2 (.int .i64 0) a0)), (2, none, .val (.box 74 (.agg [.slc true 2 (.int .i64 0) []]))), (4, none, .val (.box 74 (.agg [.slc true 2 (.int .i64 0) x.1]))), (5, none, .val (.int .i64 x.2.1)), (6, none, .val (.int .i64 x.2.2.1)), (7, none, .val (.int .i64 x.2.2.2))])
      (fun x => ∃ (pre rest : List Nat) (p e m : Nat), x.1 = I (natL (n :: pre)) ∧ l = pre ++ rest ∧ x.2.1 = (e : Int) ∧ x.2.2.1 = (p : Int) ∧ 0 < e ∧ e ≤ 64 ∧ p ≤ 2000 ∧ e ∣ p ∧ Val p e rest ∧ 0 ≤ x.2.2.2 ∧ x.2.2.2 ≤ lm ∧ ls.drop x.2.2.2.toNat = natL (chN p e rest ++ List.replicate m 1)) (fun x => x.2.1.toNat) (([V.int IntKind.i64 ni], ni, 0, 1)) (by subst hL; rfl) ?_ ?_
    rotate_left 2
    refine hlp (List V × Int × Int × Int) _ _ _ [0, 2, 4, 5, 6, 7] (fun x => [(0, none, .val (.slc false 2 (.int .i64 0) a0)), (2, none, .val (.box 74 (.agg [.slc true 2 (.int .i64 0) []]))), (4, none, .val (.box 74 (.agg [.slc true 2 (.int .i64 0) x.1]))), (5, none, .val (.int .i64 x.2.1)), (6, none, .val (.int .i64 x.2.2.1)), (7, none, .val (.int .i64 x.2.2.2))])
      (fun x => ∃ (pre rest : List Nat) (p e m : Nat), x.1 = I (natL (n :: pre)) ∧ l = pre ++ rest ∧ x.2.1 = (e : Int) ∧ x.2.2.1 = (p : Int) ∧ 0 < e ∧ e ≤ 64 ∧ p ≤ 2000 ∧ e ∣ p ∧ Val p e rest ∧ 0 ≤ x.2.2.2 ∧ x.2.2.2 ≤ lm ∧ ls.drop x.2.2.2.toNat = natL (chN p e rest ++ List.replicate m 1)) (fun x => x.2.1.toNat) (([V.int IntKind.i64 ni], ni, 0, 0)) (by subst hL; rfl) ?_ ?_
    · exact ⟨[], l, 0, n, m, by rw [hni]; rfl, rfl, hni, rfl, by omega, hhi, by omega, ⟨0, rfl⟩, hb.val.weak (by omega), by simp, by simp only; omega, hLe⟩
    rotate_left 1
    · have hn1 : n = 1 := by omega
      have hl0 : l = [] := by
        cases l with
        | nil => rfl
        | cons t l =>
          have h3 := hb.val.2.2.1
          rw [hn1, Nat.gcd_one_left] at h3
          exact absurd rfl h3
      refine ⟨[], l, 0, n, m - 1, by rw [hni]; rfl, rfl, hni, rfl, by omega, hhi, by omega, ⟨0, rfl⟩, hb.val.weak (by omega), by simp, by simp only; omega, ?_⟩
      simp only
      rw [show (1 : Int).toNat = 1 from rfl, hLe, hl0, chN, List.nil_append]
      cases m <;> rfl
    all_goals
      rintro ⟨bs, e, la, ti⟩ ⟨pre, rest, p, e', m', hB, hl, he, hp, he0, he64, hp2, hd, hv, t0, t1, hD⟩ hfx ag hag
      simp only at hB he hp t0 t1 hD
      have hbl : bs.length = pre.length + 1 := by rw [hB, I_length, natL_len]; rfl
      have hDl : (ls.drop ti.toNat).length = ls.length - ti.toNat := List.length_drop ..
      have hgd : ∀ j, ls.getD (ti.toNat + j) 0 = (ls.drop ti.toNat).getD j 0 := fun j => by
        rw [List.getD_eq_getElem?_getD, List.getD_eq_getElem?_getD, List.getElem?_drop]
      conv => cbv
      simp only [stdEqs hL, imp_self, true_and, and_true, bif_or, bif_and, Bool.or_eq_true, Bool.or_eq_false_iff, Bool.and_eq_true, Bool.and_eq_false_iff, decide_eq_true_eq, decide_eq_false_iff_not, Bool.not_eq_true', Bool.not_eq_false', beq_iff_eq, beq_eq_false_iff_ne, ne_eq, toNat0, toNat1, ok_int, toI_int, I_frzs, I_length, I_getD, ok_ints, toL_slc, g0, hal, ← hlm]
      refine ⟨fun h2 => ?_, fun h2 => ?_⟩
      · cases rest with
        | nil => have h3 : e' = 1 := hv
                 omega
        | cons t rest =>
          obtain ⟨v1, v2, v3, v4⟩ := hv
          obtain ⟨X, hx, hr0, hr1⟩ := ex_form he0 (not_dvd_of hd v1 v3)
          obtain ⟨q, hq⟩ : ∃ q, q = (t - p) / e' := ⟨_, rfl⟩
          obtain ⟨r, hr9⟩ : ∃ r, r = (t - p) % e' := ⟨_, rfl⟩
          rw [← hq, ← hr9] at hx
          rw [← hr9] at hr0 hr1
          have hk : q * e' + r = t - p := by rw [hq, hr9, Nat.mul_comm]; exact Nat.div_add_mod _ _
          obtain ⟨Y, hY⟩ : ∃ Y, Y = chN t (Nat.gcd e' t) rest ++ List.replicate m' 1 := ⟨_, rfl⟩
          have hD2 : ls.drop ti.toNat = natL (ex (t - p) e' ++ Y) := by rw [hD, chN, List.append_assoc, hY]
          have hD3 : ls.drop ti.toNat = natL (List.replicate q e' ++ r :: (X ++ Y)) := by rw [hD2, hx]; simp
          have hDn := congrArg List.length hD3
          rw [hDl, natL_len, List.length_append, List.length_replicate, List.length_cons] at hDn
          have hqlen : ti.toNat + q < ls.length := by omega
          have hg1 : ∀ c, c < q → ls.getD (ti.toNat + c) 0 = (e' : Int) := fun c hc => by
            rw [hgd, hD3]
            have h8 := natL_getD (List.replicate q e' ++ r :: (X ++ Y)) c 0
            rw [List.getD_eq_getElem?_getD (l := List.replicate q e' ++ r :: (X ++ Y)), List.getElem?_append_left (by rw [List.length_replicate]; exact hc), List.getElem?_replicate_of_lt hc] at h8
            exact h8
          have hg2 : ls.getD (ti.toNat + q) 0 = (r : Int) := by
            rw [hgd, hD3]
            have h8 := natL_getD (List.replicate q e' ++ r :: (X ++ Y)) q 0
            rw [List.getD_eq_getElem?_getD (l := List.replicate q e' ++ r :: (X ++ Y)), List.getElem?_append_right (by rw [List.length_replicate]; exact Nat.le_refl _), List.length_replicate, Nat.sub_self] at h8
            exact h8
          refine hlp (Int × Int) _ _ _ [0, 2, 4, 5, 6, 7, 8, 9] (fun x => [(0, none, .val (.slc false 2 (.int .i64 0) a0)), (2, none, .val (.box 74 (.agg [.slc true 2 (.int .i64 0) []]))), (4, none, .val (.box 74 (.agg [.slc true 2 (.int .i64 0) bs]))), (5, none, .val (.int .i64 e)), (6, none, .val (.int .i64 la)), (7, none, .val (.int .i64 ti)), (8, none, .val (.int .i64 x.1)), (9, none, .val (.int .i64 x.2))])
            (fun x => ∃ c : Nat, c ≤ q ∧ x.1 = ((c * e' : Nat) : Int) ∧ x.2 = ti + c) (fun x => (ti + q - x.2).toNat) ((0, ti)) (by subst hL; rfl) ?_ ?_
          · exact ⟨0, by omega, by simp, by simp⟩
          rintro ⟨k, i⟩ ⟨c, c1, hk9, hi⟩ hfx2 ag2 hag2
          simp only at hk9 hi
          have hin : i.toNat = ti.toNat + c := by omega
          conv => cbv
          simp only [stdEqs hL, imp_self, true_and, and_true, bif_or, bif_and, Bool.or_eq_true, Bool.or_eq_false_iff, Bool.and_eq_true, Bool.and_eq_false_iff, decide_eq_true_eq, decide_eq_false_iff_not, Bool.not_eq_true', Bool.not_eq_false', beq_iff_eq, beq_eq_false_iff_ne, ne_eq, toNat0, toNat1, ok_int, toI_int, I_frzs, I_length, I_getD, ok_ints, toL_slc, g0, hal, gal, ← hlm]
          have hce : c * e' ≤ q * e' := Nat.mul_le_mul_right _ c1
          refine ⟨fun _ => by omega, fun _ => trivial, fun h3 => ?_, fun h3 => ?_⟩
          · have hcq : c < q := by
              rcases Nat.lt_or_ge c q with h4 | h4
              · exact h4
              · have h5 := h3.2
                rw [hin, show c = q by omega, hg2] at h5
                omega
            rw [wrap_id (n := k + e) (by omega) (by omega), wrap_id (n := i + 1) (by omega) (by omega)]
            refine hag2 (k + e, i + 1) ⟨c + 1, by omega, ?_, by simp only; omega⟩ (by simp only; omega)
            simp only
            rw [Nat.add_mul, Nat.one_mul]
            omega
          · have hcq : c = q := by
              rcases Nat.lt_or_ge c q with h4 | h4
              · exfalso
                have h5 := hg1 c h4
                rw [← hin] at h5
                rcases h3 with h3 | h3
                · omega
                · exact h3 (by rw [h5, he])
              · omega
            have hgi : ls.getD i.toNat 0 = (r : Int) := by rw [hin, hcq, hg2]
            rw [hcq] at hk9
            have hkr : k + (r : Int) = ((t - p : Nat) : Int) := by omega
            obtain ⟨kk, hkk⟩ : ∃ kk : Int, kk = k + (r : Int) := ⟨_, rfl⟩
            have hkk2 : kk = ((t - p : Nat) : Int) := by omega
            rw [hgi]
            rw [wrap_id (n := k + (r : Int)) (by omega) (by omega), ← hkk, wrap_id (n := la + kk) (by omega) (by omega)]
            have Er : F_f_runOf [] kk e = I (natL (ex (t - p) e')) := by
              rw [← H_f_runOf, f_runOf, List.nil_append, hkk2, he, exI_nat]
            have Eg : F_gcdW e kk = ((Nat.gcd e' t : Nat) : Int) := by
              rw [← H_gcdW, hkk2, he, gcdW_natJ he0 (by omega), gcd_shift hd (by omega)]
            obtain ⟨xn, hxn⟩ : ∃ xn : Int, xn = (ex (t - p) e').length := ⟨_, rfl⟩
            have hdn : (ls.drop ti.toNat).length = (ex (t - p) e').length + Y.length := by rw [hD2, natL_len, List.length_append]
            have hta : List.drop ti.toNat (List.take lm.toNat a0) = I (ls.drop ti.toNat) := by
              rw [hL0, I_take, List.take_of_length_le (by omega), I_drop]
            have Eb : F_f_beg (I (ls.drop ti.toNat)) (I (natL (ex (t - p) e'))) = true := by
              rw [← H_f_beg, f_beg, f0_eqI, I_length, I_length, natL_len, I_take, unI_I, unI_I, hD2, natL_append]
              rw [Bool.and_eq_true, decide_eq_true_eq, decide_eq_true_eq]
              refine ⟨by rw [List.length_append, natL_len]; omega, ?_⟩
              rw [show (ex (t - p) e').length = (natL (ex (t - p) e')).length by rw [natL_len], List.take_left]
            simp only [Er, Eg, I_length, natL_len, ← hxn, I_frzs, hta, Eb]
            refine ⟨fun _ => by omega, fun _ => by omega, fun _ => trivial, fun h5 => by omega, fun _ => ⟨by omega, by omega, ?_, by omega, by omega, by omega, ?_, fun h5 => (by cases h5), fun _ => ?_⟩⟩
            · rw [← H_q_runOf]
              exact ⟨by simp, by omega, by omega, by omega, by omega⟩
            · rw [← H_q_beg]
              exact ⟨⟨_, rfl⟩, ⟨_, rfl⟩, by rw [I_length]; omega, by rw [I_length, natL_len]; omega⟩
            · have hpl : pre.length ≤ 2000 := by
                have h9 := val_len l n n hb.val (by omega)
                rw [hl, List.length_append] at h9
                omega
              have hlt : la + kk = (t : Int) := by omega
              rw [hlt, wrap_id (n := ti + xn) (by omega) (by omega)]
              have hgp := Nat.gcd_pos_of_pos_left t he0
              have hgl := Nat.le_of_dvd he0 (Nat.gcd_dvd_left e' t)
              refine ⟨rfl, by simp only [List.length_singleton]; omega, solid_one _, by rw [← H_always]; trivial, ?_⟩
              refine hag (_, ((Nat.gcd e' t : Nat) : Int), (t : Int), ti + xn) ⟨pre ++ [t], rest, t, Nat.gcd e' t, m', ?_, by rw [hl]; simp, rfl, rfl, hgp, by omega, v2, Nat.gcd_dvd_right e' t, v4, by simp only; omega, by simp only; omega, ?_⟩ (by simp only; omega)
              · simp only
                rw [hB, show natL (n :: (pre ++ [t])) = natL (n :: pre) ++ [(t : Int)] by simp [natL], ← I_append]; rfl
              · simp only
                rw [show (ti + xn).toNat = ti.toNat + (natL (ex (t - p) e')).length by rw [natL_len]; omega, ← List.drop_drop, hD2, natL_append, List.drop_left, hY]
      · have he1 : e' = 1 := by omega
        have hr0 : rest = [] := by
          cases rest with
          | nil => rfl
          | cons t rest =>
            have h3 := hv.2.2.1
            rw [he1, Nat.gcd_one_left] at h3
            exact absurd rfl h3
        have hD4 : ls.drop ti.toNat = natL (List.replicate m' 1) := by rw [hD, hr0, chN, List.nil_append]
        have hta : List.drop ti.toNat (List.take lm.toNat a0) = I (natL (List.replicate m' 1)) := by
          rw [hL0, I_take, List.take_of_length_le (by omega), I_drop, hD4]
        obtain ⟨vd, hvd⟩ : ∃ vd, vd = I (natL (List.replicate m' 1)) := ⟨_, rfl⟩
        have hvl : vd.length = m' := by rw [hvd, I_length, natL_len, List.length_replicate]
        have gvd : ∀ k, k < m' → vd.getD k (.int .i64 0) = .int .i64 1 := fun k hk => by
          rw [hvd, I_getD]
          have h8 := natL_getD (List.replicate m' 1) k 0
          rw [List.getD_eq_getElem?_getD (l := List.replicate m' 1), List.getElem?_replicate_of_lt hk] at h8
          exact congrArg _ h8
        have hml : m' ≤ ls.length := by
          have h9 := congrArg List.length hD4
          rw [natL_len, List.length_replicate] at h9
          omega
        have hfb : V.frzs bs = bs := by rw [hB, I_frzs]
        have hbr := nat_br hb
        have hll : l = pre := by rw [hl, hr0, List.append_nil]
        rw [← hll] at hB
        have Ei : F_f0_isBr bs = true := by rw [← H_f0_isBr, f0_isBr, hB, unI_I]; exact hbr.is
        obtain ⟨dm, hdm⟩ : ∃ dm : Int, dm = m' := ⟨_, rfl⟩
        rw [hta, ← hvd, hvl, ← hdm]
        refine ⟨by omega, by omega, by omega, ?_⟩
        refine hlp (Int) _ _ _ [2, 4, 90, 91, 92] (fun x => [(2, none, .val (.box 74 (.agg [.slc true 2 (.int .i64 0) []]))), (4, none, .val (.box 74 (.agg [.slc true 2 (.int .i64 0) bs]))), (90, none, .val (.slc false 2 (.int .i64 0) vd)), (91, none, .val (.int .i64 dm)), (92, none, .val (.int .i64 x))])
          (fun x => 0 ≤ x ∧ x ≤ dm) (fun x => (dm - x).toNat) (0) (by subst hL; rfl) ?_ ?_
        · exact ⟨by omega, by omega⟩
        intro j ⟨j0, j1⟩ hfx2 ag2 hag2
        conv => cbv
        simp only [stdEqs hL, imp_self, true_and, and_true, bif_or, bif_and, Bool.or_eq_true, Bool.or_eq_false_iff, Bool.and_eq_true, Bool.and_eq_false_iff, decide_eq_true_eq, decide_eq_false_iff_not, Bool.not_eq_true', Bool.not_eq_false', beq_iff_eq, beq_eq_false_iff_ne, ne_eq, toNat0, toNat1, ok_int, toI_int, I_frzs, I_length, I_getD, ok_ints, toL_slc, hvl, hfb, Ei, ← hdm]
        refine ⟨fun h8 => ?_, fun h8 => ⟨?_, ?_⟩⟩
        · rw [gvd j.toNat (by omega), wrap_id (n := j + 1) (by omega) (by omega)]
          exact ⟨j0, h8, rfl, fun h9 => absurd rfl h9, fun _ => hag2 (j + 1) ⟨by omega, by omega⟩ (by omega)⟩
        · rw [← H_IsIs, hB]
          exact ⟨⟨_, rfl⟩, by rw [I_length]; have := hbr.len; omega⟩
        · rw [hr, hf0, hB]
  · cases h
def c_l_Bi (f : List V → List V × Int) (q : List V → Prop) : Contract := fun
  | [.slc false 2 (.int .i64 0) a0] => some ([q a0], .tup [.agg [.slc true 2 (.int .i64 0) ((f a0).1)], .int .i64 ((f a0).2)])
  | _ => none
end Go.Ax
