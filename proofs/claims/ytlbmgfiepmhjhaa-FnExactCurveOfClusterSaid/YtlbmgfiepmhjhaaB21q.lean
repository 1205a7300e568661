import Derived.Test.YtlbmgfiepmhjhaaB20q
/-
  Branches of sequences: spec.l04Branch, spec.StrictTransform. No conditions but those of the contracts.
-/
set_option linter.all false
namespace Go.Ax
open Go.Proofs
set_option maxHeartbeats 4000000

theorem seq_falls {n : Nat} {l : List Nat} {L : List Int} (h : SeqB n l L) : ∀ i, i + 1 < L.length → L.getD (i + 1) 0 ≤ L.getD i 0 := by
  obtain ⟨hb, _, m, rfl⟩ := h
  intro i hi
  obtain ⟨hg, _⟩ := mul_good (nat_br hb)
  have h1 : ∀ j, j < (natL (chN 0 n l ++ List.replicate m 1)).length → (natL (chN 0 n l ++ List.replicate m 1)).getD j 0 = (mul (natL (n :: l)) j : Int) := fun j hj => by
    have h2 : (natL (chN 0 n l ++ List.replicate m 1)).getD j 0 = (natL (chN 0 n l ++ List.replicate m 1)).getD j 1 := by
      rw [List.getD_eq_getElem?_getD, List.getElem?_eq_getElem hj, List.getD_eq_getElem?_getD, List.getElem?_eq_getElem hj]; rfl
    have h3 : natL (List.replicate m 1) = List.replicate m 1 := by simp [natL]
    rw [h2, natL_append, h3, getD_ones, ← seq_nat hb, seqI_get]
  rw [h1 _ hi, h1 _ (by omega)]
  have := hg.fall i
  omega
theorem okB_tail : ∀ (l : List (Nat × Nat)) (p : Nat × Nat), OkB (p :: l) → l.length ≤ (expB l).length
  | [], _, _ => Nat.zero_le _
  | q :: l, p, h => by
    have ih := okB_tail l q h.2.2
    have h2 : 1 ≤ q.2 := h.2.1
    rw [expB_cons, List.length_append, List.length_replicate, List.length_cons]
    omega
theorem addB_head {B : List (Nat × Nat)} (x : Nat) (h : B ≠ []) : (addB B x).head?.map Prod.fst = B.head?.map Prod.fst := by
  rw [addB]
  match B, h with
  | [p], _ =>
    simp only [List.getLast?_singleton]
    split <;> rfl
  | p :: q :: B, _ =>
    cases h2 : (p :: q :: B).getLast? with
    | none => simp at h2
    | some r =>
      simp only
      split
      · rw [show (p :: q :: B).length - 1 = B.length + 1 by simp]; rfl
      · rfl
theorem blkN_head' : ∀ (k : Nat) (L : List Nat), L.length = k → (blkN L).head?.map Prod.fst = L.head?
  | 0, L, h => by
    obtain rfl := List.eq_nil_of_length_eq_zero h
    rfl
  | k + 1, L0, h => by
    obtain ⟨L, x, rfl⟩ : ∃ L x, L0 = L ++ [x] := by
      have hne : L0 ≠ [] := fun h2 => by rw [h2] at h; simp at h
      exact ⟨L0.dropLast, L0.getLast hne, (List.dropLast_concat_getLast hne).symm⟩
    have ih := blkN_head' k L (by rw [List.length_append, List.length_singleton] at h; omega)
    rw [blkN_snoc]
    by_cases hL : L = []
    · subst hL; rfl
    · have hb : blkN L ≠ [] := fun h2 => by
        have h3 := (blkN_ok L).2.1
        rw [h2] at h3
        exact hL h3.symm
      rw [addB_head x hb, ih]
      cases L with
      | nil => exact absurd rfl hL
      | cons y L => rfl
theorem drop_setX {α : Type} {l tl : List α} {k : Nat} {x y : α} (h : l.drop k = x :: tl) (hk : k < l.length) : (l.set k y).drop k = y :: tl := by
  have hsp : l = l.take k ++ x :: tl := by rw [← h, List.take_append_drop]
  have hl : (l.take k).length = k := by rw [List.length_take]; omega
  have h2 : l.set k y = l.take k ++ y :: tl := by
    conv => lhs; rw [hsp]
    rw [List.set_append_right _ _ (by omega), hl, Nat.sub_self]; rfl
  rw [h2]
  conv => lhs; rw [← hl]
  rw [hl]
  have h3 := List.drop_left (l₁ := l.take k) (l₂ := y :: tl)
  rw [hl] at h3
  exact h3
def q_l4b (a : List V) : Prop := ∃ n l L, a = I L ∧ SeqB n l L ∧ L.length ≤ 1000
set_option maxHeartbeats 1000000 in
set_option maxRecDepth 100000 in
theorem s_spec_l04Branch : Sat Try.prog 107 (c_l_Bb f_bos q_l4b) := by
  intro args ps r h hp
  unfold c_l_Bb at h
  split at h
  · rename_i a0
    simp only [Option.some.injEq, Prod.mk.injEq] at h
    obtain ⟨rfl, rfl⟩ := h
    obtain ⟨n, l, ls, hL0, hs, hLl⟩ : q_l4b a0 := (alls_cons.1 hp).1
    have g0 : V.frzs a0 = a0 := by rw [hL0, I_frzs]
    have hal : a0.length = ls.length := by rw [hL0, I_length]
    have gal : ∀ k, a0.getD k (.int .i64 0) = .int .i64 (ls.getD k 0) := fun k => by rw [hL0, I_getD]
    have hfall := seq_falls hs
    obtain ⟨hh, hlen⟩ := seq_head hs
    have hf0 : f_bos a0 = (I (natL (n :: l)), true) := by rw [f_bos, hL0, unI_I, bosI_eq hs]
    obtain ⟨hb, hne, m, hLe⟩ := hs
    have hlo := hb.lo
    have hhi := hb.hi
    obtain ⟨ni, hni⟩ : ∃ ni : Int, ni = n := ⟨_, rfl⟩
    obtain ⟨lm, hlm⟩ : ∃ lm : Int, lm = ls.length := ⟨_, rfl⟩
    have hh2 : ls.getD 0 0 = ni := by rw [hh, hni]
    obtain ⟨N, hN⟩ : ∃ N, N = chN 0 n l ++ List.replicate m 1 := ⟨_, rfl⟩
    rw [← hN] at hLe
    obtain ⟨bl0, hbl0⟩ : ∃ bl0, bl0 = blkN N := ⟨_, rfl⟩
    obtain ⟨vb, hvb⟩ : ∃ vb, vb = II true (rowsN bl0) := ⟨_, rfl⟩
    have hfb : f_blk a0 = vb := by rw [f_blk, hL0, unI_I, hLe, int_nat, ← hbl0, hvb]
    have hNl : N.length = ls.length := by rw [hLe, natL_len]
    obtain ⟨hok0, hex0, hlast0⟩ := blkN_ok N
    rw [← hbl0] at hok0 hex0
    have hbr := nat_br hb
    have hsm := val_small l n n (by omega) hb.val
    generalize H_f_blk : f_blk = F_f_blk
    generalize H_q_blk : q_blk = F_q_blk
    generalize H_f0_isBr : f0_isBr = F_f0_isBr
    generalize H_IsIs : IsIs = F_IsIs
    refine fnOk_ofI (T := tab) (B := [(134, c_l_m F_f_blk F_q_blk), (135, c_b_bool F_f0_isBr F_IsIs)]) (Bi := []) [0, 2, 3, 4, 5, 6, 7, 8, 9, 10, 11] Try.func107 rfl rfl (by kernel_rfl) (Nat.le_of_ble_eq_true rfl) mixed tabOk (by subst H_f_blk H_q_blk H_f0_isBr H_IsIs; exact (bookCons s_spec_l04Blocks (bookCons s_spec_l03Is bookNil))) (by subst H_f_blk H_q_blk H_f0_isBr H_IsIs; exact bookINil) (by kernel_rfl) ?_
    intro L lp rr hL hr hf hlp
    have Eb : F_f_blk a0 = vb := by rw [← H_f_blk, hfb]
    conv => cbv
    refine hlp (Int) _ _ _ [0, 2, 4] (fun x => [(0, none, .val (.slc false 2 (.int .i64 0) a0)), (2, none, .val (.box 74 (.agg [.slc true 2 (.int .i64 0) []]))), (4, none, .val (.int .i64 x))])
      (fun x => 1 ≤ x ∧ x ≤ lm) (fun x => (lm - x).toNat) (1) (by subst hL; rfl) ?_ ?_
    · exact ⟨by omega, by omega⟩
    intro i ⟨i0, i1⟩ hfx ag hag
    have hfi : i < lm → ls.getD i.toNat 0 ≤ ls.getD (i - 1).toNat 0 := fun h => by
      have := hfall (i - 1).toNat (by omega)
      rw [show (i - 1).toNat + 1 = i.toNat by omega] at this
      exact this
    have b1 : IntKind.wrap .i64 (i - 1) = i - 1 := wrap_id (by omega) (by omega)
    have b2 : IntKind.wrap .i64 (i + 1) = i + 1 := wrap_id (by omega) (by omega)
    conv => cbv
    simp only [stdEqs hL, imp_self, true_and, and_true, bif_or, bif_and, Bool.or_eq_true, Bool.or_eq_false_iff, Bool.and_eq_true, Bool.and_eq_false_iff, decide_eq_true_eq, decide_eq_false_iff_not, Bool.not_eq_true', Bool.not_eq_false', beq_iff_eq, beq_eq_false_iff_ne, ne_eq, toNat0, toNat1, ok_int, toI_int, I_frzs, I_length, I_getD, ok_ints, toL_slc, g0, hal, gal, ← hlm, b1, b2, Eb, hh2]
    refine ⟨fun h2 => ⟨by omega, by omega, by omega, by omega, fun h3 => ?_, fun h3 => hag (i + 1) ⟨by omega, by omega⟩ (by omega)⟩, fun h2 => ⟨?_, by omega, by omega, by omega, by omega, ?_⟩⟩
    · have := hfi h2
      omega
    · rw [← H_q_blk]; exact ⟨N, by rw [hL0, hLe], by omega⟩
    clear hag hfx ag
    refine hlp (List V × List V × Int × Int × Int) _ _ _ [2, 5, 6, 7, 8, 9] (fun x => [(2, none, .val (.box 74 (.agg [.slc true 2 (.int .i64 0) []]))), (5, none, .val (.slc true 22 (.slc true 2 (.int .i64 0) []) x.1)), (6, none, .val (.box 74 (.agg [.slc true 2 (.int .i64 0) x.2.1]))), (7, none, .val (.int .i64 x.2.2.1)), (8, none, .val (.int .i64 x.2.2.2.1)), (9, none, .val (.int .i64 x.2.2.2.2))])
      (fun x => ∃ (bl : List (Nat × Nat)) (pre rest : List Nat) (p e m a : Nat), x.1 = II true (rowsN bl) ∧ x.2.1 = I (natL (n :: pre)) ∧ l = pre ++ rest ∧ x.2.2.1 = (p : Int) ∧ x.2.2.2.1 = (a : Int) ∧ x.2.2.2.2 = (e : Int) ∧ 0 < e ∧ e ≤ 64 ∧ p ≤ 2000 ∧ e ∣ p ∧ Val p e rest ∧ bl.length ≤ 2000 ∧ (expB (bl.drop a)).length ≤ 1000 ∧ OkB (bl.drop a) ∧ expB (bl.drop a) = chN p e rest ++ List.replicate m 1 ∧ (∀ v c tl, bl.drop a = (v, c) :: tl → v = e)) (fun x => x.2.2.2.2.toNat) ((vb, [V.int IntKind.i64 ni], 0, 0, ni)) (by subst hL; rfl) ?_ ?_
    · refine ⟨bl0, [], l, 0, n, m, 0, hvb, by rw [hni]; rfl, rfl, rfl, rfl, hni, by omega, hhi, by omega, ⟨0, rfl⟩, hb.val.weak (by omega), ?_, by rw [List.drop_zero, hex0]; omega, hok0, by rw [List.drop_zero, hex0, hN], ?_⟩
      · cases hb9 : bl0 with
        | nil => simp
        | cons q9 l9 =>
          rw [hb9] at hok0 hex0
          have h3 := okB_tail l9 q9 hok0
          have h4 := congrArg List.length hex0
          rw [expB_cons, List.length_append] at h4
          simp only [List.length_cons]
          omega
      · intro v c tl h3
        rw [List.drop_zero] at h3
        have h4 := blkN_head' _ N rfl
        rw [← hbl0, h3] at h4
        have h5 : N.getD 0 0 = n := by
          have h6 := natL_getD N 0 0
          rw [← hLe] at h6
          have h7 : ls.getD 0 0 = ((N.getD 0 0 : Nat) : Int) := h6
          rw [hh] at h7
          omega
        cases hN9 : N with
        | nil => rw [hN9] at h4; simp at h4
        | cons y N9 =>
          rw [hN9] at h4 h5
          simp only [List.head?_cons, Option.map_some, Option.some.injEq] at h4
          rw [h4]
          exact h5
    rintro ⟨vs, bs, la, ti, e⟩ ⟨bl, pre, rest, p, e', m', a, hV, hB, hl, hp, ha, he, he0, he64, hp2, hd, hv, hbl, hel, hok, hex, hhd⟩ hfx ag hag
    simp only at hV hB hp ha he
    have hvl : vs.length = bl.length := by rw [hV, II_length, rowsN_len]
    have hbsl : bs.length = pre.length + 1 := by rw [hB, I_length, natL_len]; rfl
    have gvs : ∀ (k : Nat) (q : Nat × Nat), bl[k]? = some q → vs.getD k (.slc true 2 (.int .i64 0) []) = .slc true 2 (.int .i64 0) (I [(q.1 : Int), (q.2 : Int)]) := fun k q h => by
      rw [hV, II_getD, rowsN_get h]
    have hl2 : ∀ x y : Int, [x, y].length = 2 := fun _ _ => rfl
    have hg0 : ∀ x y : Int, [x, y].getD 0 0 = x := fun _ _ => rfl
    have hg1 : ∀ x y : Int, [x, y].getD 1 0 = y := fun _ _ => rfl
    by_cases he1 : 1 < e
    · cases rest with
      | nil => have h3 : e' = 1 := hv
               omega
      | cons t rest =>
        obtain ⟨v1, v2, v3, v4⟩ := hv
        obtain ⟨X, hx, hr0, hr1⟩ := ex_form he0 (not_dvd_of hd v1 v3)
        obtain ⟨q, hq⟩ : ∃ q, q = (t - p) / e' := ⟨_, rfl⟩
        obtain ⟨r, hr9⟩ : ∃ r, r = (t - p) % e' := ⟨_, rfl⟩
        obtain ⟨Y, hY⟩ : ∃ Y, Y = chN t (Nat.gcd e' t) rest ++ List.replicate m' 1 := ⟨_, rfl⟩
        have hxe : ex (t - p) e' = List.replicate q e' ++ ex e' r := by rw [ex_pos he0, ← hq, ← hr9]
        rw [← hq, ← hr9] at hx
        rw [← hr9] at hr0 hr1
        have hk : q * e' + r = t - p := by rw [hq, hr9, Nat.mul_comm]; exact Nat.div_add_mod _ _
        have hXe : ex e' r = r :: X := by
          have h3 := hxe.symm.trans hx
          exact List.append_cancel_left h3
        have hex2 : expB (bl.drop a) = List.replicate q e' ++ r :: (X ++ Y) := by
          rw [hex, chN, List.append_assoc, ← hY, hx]; simp
        obtain ⟨c, tl, hdr⟩ : ∃ c tl, bl.drop a = (e', c) :: tl := by
          match h3 : bl.drop a with
          | [] =>
            rw [h3] at hex2
            exfalso
            have h4 := congrArg List.length hex2
            simp [expB] at h4
          | (v, c) :: tl => exact ⟨c, tl, by rw [hhd v c tl h3]⟩
        rw [hdr] at hok hex2 hel
        obtain ⟨hcq, c1, tl', htl, hok2, hex3⟩ := blk_next hok (by omega) hex2
        have hbA : bl[a]? = some (e', q) := by
          have h4 : (bl.drop a)[0]? = some (e', c) := by rw [hdr]; rfl
          rw [List.getElem?_drop, Nat.add_zero, hcq] at h4
          exact h4
        have hdr1 : bl.drop (a + 1) = (r, c1) :: tl' := by
          have h4 : (bl.drop a).drop 1 = tl := by rw [hdr]; rfl
          rw [List.drop_drop, htl] at h4
          exact h4
        have hbB : bl[a + 1]? = some (r, c1) := by
          have h4 : (bl.drop (a + 1))[0]? = some (r, c1) := by rw [hdr1]; rfl
          rw [List.getElem?_drop, Nat.add_zero] at h4
          exact h4
        have hal2 : a + 1 < bl.length := (List.getElem?_eq_some_iff.1 hbB).1
        have ht1 : ti.toNat = a := by omega
        have ht2 : (ti + 1).toNat = a + 1 := by omega
        have b3 : IntKind.wrap .i64 (ti + 1) = ti + 1 := wrap_id (by omega) (by omega)
        have hqe : q * e' ≤ 2000 := by omega
        obtain ⟨qe, hqe9⟩ : ∃ qe : Int, qe = ((q * e' : Nat) : Int) := ⟨_, rfl⟩
        have b4 : IntKind.wrap .i64 ((q : Int) * e) = qe := by
          have h5 : (q : Int) * e = ((q * e' : Nat) : Int) := by rw [he]; push_cast; rfl
          rw [h5, hqe9]
          exact wrap_id (by omega) (by omega)
        have b5 : IntKind.wrap .i64 (la + qe) = la + qe := wrap_id (by omega) (by omega)
        have b6 : IntKind.wrap .i64 (la + qe + (r : Int)) = (t : Int) := by
          rw [wrap_id (by omega) (by omega)]
          omega
        have hpl : pre.length ≤ 5 := by
          have h6 : l.length = pre.length + (rest.length + 1) := by rw [hl, List.length_append]; rfl
          have h7 : l.length ≤ 6 := by
            rcases Nat.lt_or_ge 6 l.length with h8 | h8
            · exfalso
              have h9 : 2 ^ 7 ≤ 2 ^ l.length := Nat.pow_le_pow_right (by omega) (by omega)
              omega
            · exact h8
          omega
        have gA := gvs _ _ hbA
        have gB := gvs _ _ hbB
        conv => cbv
        simp only [stdEqs hL, imp_self, true_and, and_true, bif_or, bif_and, Bool.or_eq_true, Bool.or_eq_false_iff, Bool.and_eq_true, Bool.and_eq_false_iff, decide_eq_true_eq, decide_eq_false_iff_not, Bool.not_eq_true', Bool.not_eq_false', beq_iff_eq, beq_eq_false_iff_ne, ne_eq, toNat0, toNat1, ok_int, toI_int, I_frzs, I_length, I_getD, ok_ints, toL_slc, hvl, b3, ht1, ht2, gA, gB, toL_slc, I_length, I_getD, toI_int, hl2, hg0, hg1, b4, b5, b6]
        refine ⟨fun _ => ⟨fun _ => by omega, fun _ => by omega, fun _ => by omega, fun _ => trivial, fun _ => by omega, fun _ => trivial, fun _ => by omega, fun _ => by omega, fun _ => by omega, fun _ => trivial, fun _ => by omega, fun _ => trivial, fun h3 => by omega, fun _ => ⟨by omega, by omega, hal2, hal2, by omega, by omega, hal2, by omega, ?_⟩⟩, fun h => absurd he1 h⟩
        obtain ⟨bs2, hb2⟩ : ∃ bs2, bs2 = bs ++ [V.int IntKind.i64 (t : Int)] := ⟨_, rfl⟩
        have hb2l : bs2.length = pre.length + 2 := by rw [hb2, List.length_append, hbsl]; rfl
        have hB2 : bs2 = I (natL (n :: (pre ++ [t]))) := by
          rw [hb2, hB, show natL (n :: (pre ++ [t])) = natL (n :: pre) ++ [(t : Int)] by simp [natL], ← I_append]; rfl
        simp only [← hb2, hb2l]
        have hgp := Nat.gcd_pos_of_pos_left t he0
        have hgl := Nat.le_of_dvd he0 (Nat.gcd_dvd_left e' t)
        have hgr : Nat.gcd e' r = Nat.gcd e' t := by
          have h4 : Nat.gcd e' (t - p) = Nat.gcd e' t := gcd_shift hd (by omega)
          rw [← h4, Nat.gcd_rec e' (t - p), ← hr9, Nat.gcd_comm]
        refine ⟨by omega, by omega, by omega, by omega, by omega, by omega, by omega, by omega, rfl, by simp only [List.length_singleton]; omega, solid_one _, fun h8 => by omega, fun _ => ?_⟩
        refine hlp (Int × Int × Int) _ _ _ [2, 5, 6, 7, 8, 9, 10] (fun x => [(2, none, .val (.box 74 (.agg [.slc true 2 (.int .i64 0) []]))), (5, none, .val (.slc true 22 (.slc true 2 (.int .i64 0) []) vs)), (6, none, .val (.box 74 (.agg [.slc true 2 (.int .i64 0) bs2]))), (7, none, .val (.int .i64 (t : Int))), (8, none, .val (.int .i64 x.1)), (9, none, .val (.int .i64 x.2.1)), (10, none, .val (.int .i64 x.2.2))])
          (fun x => ∃ (a1 e1 r1 c : Nat) (tl : List (Nat × Nat)), (expB ((r1, c) :: tl)).length ≤ 1000 ∧ x.1 = (a1 : Int) ∧ x.2.1 = (e1 : Int) ∧ x.2.2 = (r1 : Int) ∧ 0 < r1 ∧ r1 ≤ 64 ∧ 0 < e1 ∧ e1 ≤ 64 ∧ Nat.gcd e1 r1 = Nat.gcd e' t ∧ bl.drop a1 = (r1, c) :: tl ∧ OkB ((r1, c) :: tl) ∧ expB ((r1, c) :: tl) = ex e1 r1 ++ Y) (fun x => x.2.2.toNat) ((ti + 1, e, (r : Int))) (by subst hL; rfl) ?_ ?_
        · have hel2 : (expB ((r, c1) :: tl')).length ≤ 1000 := by
            rw [← htl]
            rw [expB_cons, List.length_append] at hel
            omega
          exact ⟨a + 1, e', r, c1, tl', hel2, by simp only; omega, he, rfl, hr0, by omega, he0, he64, hgr, hdr1, by rw [← htl]; exact hok2, by rw [← htl, hex3, hXe]; rfl⟩
        rintro ⟨tj, f, s⟩ ⟨a1, e1, r1, c9, tl9, hel9, ha1, hf9, hs9, r0, r64, ee0, ee64, hgc, hdr9, hok9, hex9⟩ hfx2 ag2 hag2
        simp only at ha1 hf9 hs9
        have hbA9 : bl[a1]? = some (r1, c9) := by
          have h4 : (bl.drop a1)[0]? = some (r1, c9) := by rw [hdr9]; rfl
          rw [List.getElem?_drop, Nat.add_zero] at h4
          exact h4
        have hA9 : a1 < bl.length := (List.getElem?_eq_some_iff.1 hbA9).1
        have ht9 : tj.toNat = a1 := by omega
        have hm9 : f.tmod s = ((e1 % r1 : Nat) : Int) := by rw [hf9, hs9]; exact (Int.ofNat_tmod e1 r1).symm
        have hd9 : f.tdiv s = ((e1 / r1 : Nat) : Int) := by rw [hf9, hs9]; exact (Int.ofNat_tdiv e1 r1).symm
        have hdl : e1 / r1 ≤ e1 := Nat.div_le_self _ _
        have hre : ex e1 r1 = List.replicate (e1 / r1) r1 ++ ex r1 (e1 % r1) := ex_pos r0
        have hfo := fun h : ¬ e1 % r1 = 0 => ex_form r0 (k := e1) (fun h2 => h (Nat.mod_eq_zero_of_dvd h2))
        obtain ⟨k9, hk9e⟩ : ∃ k9, k9 = e1 / r1 := ⟨_, rfl⟩
        rw [← hk9e] at hd9 hdl hre
        simp only [← hk9e] at hfo
        have b7 : IntKind.wrap .i64 (k9 : Int) = (k9 : Int) := wrap_id (by omega) (by omega)
        have b8 : IntKind.wrap .i64 (tj + 1) = tj + 1 := wrap_id (by omega) (by omega)
        have hs0 : s ≠ 0 := by omega
        have gA9 := gvs _ _ hbA9
        by_cases hmod : e1 % r1 = 0
        · have hex10 : ex e1 r1 = List.replicate k9 r1 := by rw [hre, hmod, ex_zero, List.append_nil]
          rw [hex10] at hex9
          obtain ⟨hk9, hok10, hex11⟩ := blk_less hok9 hex9
          obtain ⟨c10, hc10⟩ : ∃ c10, c10 = c9 - k9 := ⟨_, rfl⟩
          rw [← hc10] at hok10 hex11
          have hm10 : f.tmod s = 0 := by rw [hm9, hmod]; rfl
          have hc9 : c9 ≤ 1000000 := by
            rw [expB_cons, List.length_append, List.length_replicate] at hel9
            simp only at hel9
            omega
          have hel10 : (expB ((r1, c10) :: tl9)).length ≤ 1000 := by
            rw [expB_cons, List.length_append, List.length_replicate] at hel9 ⊢
            simp only at hel9 ⊢
            omega
          have b9 : IntKind.wrap .i64 ((c9 : Int) - (k9 : Int)) = (c10 : Int) := by
            rw [wrap_id (by omega) (by omega)]; omega
          obtain ⟨vs2, hvs2⟩ : ∃ vs2, vs2 = vs.set a1 (.slc true 2 (.int .i64 0) (I [(r1 : Int), (c10 : Int)])) := ⟨_, rfl⟩
          have hset : (I [(r1 : Int), (c9 : Int)]).set 1 (V.int .i64 (c10 : Int)) = I [(r1 : Int), (c10 : Int)] := rfl
          have hv2l : vs2.length = bl.length := by rw [hvs2, List.length_set, hvl]
          have gA10 : vs2.getD a1 (.slc true 2 (.int .i64 0) []) = .slc true 2 (.int .i64 0) (I [(r1 : Int), (c10 : Int)]) := by
            rw [hvs2, List.getD_eq_getElem?_getD, List.getElem?_set_self (by omega)]; rfl
          conv => cbv
          simp only [stdEqs hL, imp_self, true_and, and_true, bif_or, bif_and, Bool.or_eq_true, Bool.or_eq_false_iff, Bool.and_eq_true, Bool.and_eq_false_iff, decide_eq_true_eq, decide_eq_false_iff_not, Bool.not_eq_true', Bool.not_eq_false', beq_iff_eq, beq_eq_false_iff_ne, ne_eq, toNat0, toNat1, ok_int, toI_int, I_frzs, I_length, I_getD, ok_ints, toL_slc, hvl, ht9, gA9, toL_slc, I_length, I_getD, toI_int, hl2, hg0, hg1, hm10, hd9, b7, b9, hset, ← hvs2, hv2l, gA10]
          refine ⟨hs0, fun h => absurd trivial h, fun _ => ⟨by omega, by omega, hA9, hA9, by omega, by omega, hA9, by omega, hs0, hA9, by omega, by omega, hA9, by omega, ?_⟩⟩
          have hrg : r1 = Nat.gcd e' t := by rw [← hgc]; exact (Nat.gcd_eq_right (Nat.dvd_of_mod_eq_zero hmod)).symm
          have hsp : bl = bl.take a1 ++ (r1, c9) :: tl9 := by rw [← hdr9, List.take_append_drop]
          have hdrs : (bl.set a1 (r1, c10)).drop a1 = (r1, c10) :: tl9 := by
            rw [drop_setX hdr9 hA9]
          refine ⟨hA9, by omega, by omega, hA9, by omega, fun h => by omega, fun _ => ?_⟩
          refine hag (vs2, bs2, (t : Int), tj, s) ⟨bl.set a1 (r1, c10), pre ++ [t], rest, t, r1, m', a1, ?_, hB2, by rw [hl]; simp, rfl, ha1, hs9, r0, r64, v2, by rw [hrg]; exact Nat.gcd_dvd_right e' t, by rw [hrg]; exact v4, by rw [List.length_set]; exact hbl, by rw [hdrs]; exact hel10, by rw [hdrs]; exact hok10, by rw [hdrs, hex11, hY, hrg], ?_⟩ ?_
          · simp only
            rw [hvs2, hV, II_set, ← rowsN_set]
          · intro v c tl h3
            rw [hdrs] at h3
            injection h3 with h3 _
            injection h3 with h3 _
            exact h3.symm
          · simp only
            have h5 : r1 < e' := by
              rw [hrg]
              omega
            omega
        · obtain ⟨X2, hx2, hq0, hq1⟩ := hfo hmod
          obtain ⟨s1, hs1⟩ : ∃ s1, s1 = e1 % r1 := ⟨_, rfl⟩
          rw [← hs1] at hx2 hq0 hq1 hm9
          have hex10 : expB ((r1, c9) :: tl9) = List.replicate k9 r1 ++ s1 :: (X2 ++ Y) := by rw [hex9, hx2]; simp
          obtain ⟨hcq9, c2, tl2, htl9, hok10, hex11⟩ := blk_next hok9 (by omega) hex10
          have hdr10 : bl.drop (a1 + 1) = (s1, c2) :: tl2 := by
            have h4 : (bl.drop a1).drop 1 = tl9 := by rw [hdr9]; rfl
            rw [List.drop_drop, htl9] at h4
            exact h4
          have hbB9 : bl[a1 + 1]? = some (s1, c2) := by
            have h4 : (bl.drop (a1 + 1))[0]? = some (s1, c2) := by rw [hdr10]; rfl
            rw [List.getElem?_drop, Nat.add_zero] at h4
            exact h4
          have hB9 : a1 + 1 < bl.length := (List.getElem?_eq_some_iff.1 hbB9).1
          have ht10 : (tj + 1).toNat = a1 + 1 := by omega
          have gB9 := gvs _ _ hbB9
          have hxe2 : ex r1 s1 = s1 :: X2 := by
            rw [hre, ← hs1] at hx2
            exact List.append_cancel_left hx2
          rw [hcq9] at gA9
          conv => cbv
          simp only [stdEqs hL, imp_self, true_and, and_true, bif_or, bif_and, Bool.or_eq_true, Bool.or_eq_false_iff, Bool.and_eq_true, Bool.and_eq_false_iff, decide_eq_true_eq, decide_eq_false_iff_not, Bool.not_eq_true', Bool.not_eq_false', beq_iff_eq, beq_eq_false_iff_ne, ne_eq, toNat0, toNat1, ok_int, toI_int, I_frzs, I_length, I_getD, ok_ints, toL_slc, hvl, b8, ht9, ht10, gA9, gB9, toL_slc, I_length, I_getD, toI_int, hl2, hg0, hg1, hm9, hd9, b7]
          refine ⟨hs0, fun _ => ⟨by omega, by omega, hA9, hA9, by omega, by omega, hA9, by omega, hs0, fun _ => by omega, fun _ => by omega, fun _ => hB9, fun _ => trivial, fun _ => hB9, fun _ => trivial, fun _ => by omega, fun _ => by omega, fun _ => hB9, fun _ => trivial, fun _ => by omega, fun _ => trivial, fun _ => hs0, fun h => ?_, fun _ => ⟨by omega, by omega, hB9, hB9, by omega, by omega, hB9, by omega, ?_⟩⟩, fun h => by omega⟩
          · rcases h with (h | h) | h
            · exact absurd trivial h
            · omega
            · exact absurd trivial h
          · have hgc2 : Nat.gcd r1 s1 = Nat.gcd e' t := by
              rw [← hgc, Nat.gcd_comm e1 r1, Nat.gcd_rec r1 e1, ← hs1, Nat.gcd_comm]
            have hel10 : (expB ((s1, c2) :: tl2)).length ≤ 1000 := by
              rw [← htl9]
              rw [expB_cons, List.length_append] at hel9
              omega
            exact hag2 (tj + 1, s, (s1 : Int)) ⟨a1 + 1, r1, s1, c2, tl2, hel10, by simp only; omega, hs9, rfl, hq0, by omega, r0, r64, hgc2, hdr10, by rw [← htl9]; exact hok10, by rw [← htl9, hex11, hxe2]; rfl⟩ (by simp only; omega)
    · have he9 : e' = 1 := by omega
      have hr0 : rest = [] := by
        cases rest with
        | nil => rfl
        | cons t rest =>
          have h3 := hv.2.2.1
          rw [he9, Nat.gcd_one_left] at h3
          exact absurd rfl h3
      have hfb2 : V.frzs bs = bs := by rw [hB, I_frzs]
      have hll : l = pre := by rw [hl, hr0, List.append_nil]
      rw [← hll] at hB
      have Ei : F_f0_isBr bs = true := by rw [← H_f0_isBr, f0_isBr, hB, unI_I]; exact hbr.is
      conv => cbv
      simp only [stdEqs hL, imp_self, true_and, and_true, bif_or, bif_and, Bool.or_eq_true, Bool.or_eq_false_iff, Bool.and_eq_true, Bool.and_eq_false_iff, decide_eq_true_eq, decide_eq_false_iff_not, Bool.not_eq_true', Bool.not_eq_false', beq_iff_eq, beq_eq_false_iff_ne, ne_eq, toNat0, toNat1, ok_int, toI_int, I_frzs, I_length, I_getD, ok_ints, toL_slc, hfb2, Ei]
      refine ⟨fun h => absurd h he1, fun _ => ⟨?_, fun h => (by cases h), fun _ => by rw [hr, hf0, hB]⟩⟩
      rw [← H_IsIs, hB]
      exact ⟨⟨_, rfl⟩, by rw [I_length]; have := hbr.len; omega⟩
  · cases h
end Go.Ax
