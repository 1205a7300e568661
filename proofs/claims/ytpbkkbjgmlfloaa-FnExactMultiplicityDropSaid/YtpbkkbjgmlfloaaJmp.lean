/-
  Delta invariants of what need not be curves in all; the parts of blown up curves. No conditions but those of the contracts.
-/
import Derived.Test.YtpbkkbjgmlfloaaGbp
import Derived.Test.YtpbkkbjgmlfloaaJnp
set_option linter.all false
namespace Go.Ax
open Go.Proofs

structure CvW (bs ms : List (List Int)) : Prop where
  n6 : bs.length ≤ 6
  len : ms.length = bs.length
  br : ∀ i, i < bs.length → Br (bs.getD i [])
  rl : ∀ k, k < bs.length → (ms.getD k []).length = bs.length
  ent : ∀ i k, i < bs.length → k < bs.length → i ≠ k → 1 ≤ mm ms i k ∧ mm ms i k ≤ 200
theorem CvP.weak {bs ms : List (List Int)} (h : CvP bs ms) : CvW bs ms :=
  ⟨h.n6, h.tab.len, fun i hi => br_of (h.br i hi), fun k hk => (h.tab.row k hk).1, fun i k hi hk hne => ((h.tab.row i hi).2 k hk).2 hne⟩
def q_cw (a b : List V) : Prop := q_C a b ∧ CvW (unBB a) (unII b)
def q_mtW (a b : List V) (i k : Int) : Prop := q_cw a b ∧ 0 ≤ i ∧ i < a.length ∧ 0 ≤ k ∧ k < a.length ∧ i ≠ k
theorem plN_at (L : List Int) (x : Int) : ∀ n k, k < (plN L x n).length → L.getD ((plN L x n).getD k 0).toNat 0 = x
  | 0, k, hk => by simp [plN] at hk
  | n + 1, k, hk => by
    have ih := plN_at L x n k
    rw [plN] at hk ⊢
    split
    · rename_i hx
      rw [if_pos hx, List.length_append, List.length_singleton] at hk
      by_cases hkn : k < (plN L x n).length
      · rw [List.getD_eq_getElem?_getD (l := plN L x n ++ _), List.getElem?_append_left hkn, ← List.getD_eq_getElem?_getD]
        exact ih hkn
      · rw [List.getD_eq_getElem?_getD (l := plN L x n ++ _), List.getElem?_append_right (by omega), show k - (plN L x n).length = 0 by omega]
        simpa using hx
    · rename_i hx
      rw [if_neg hx] at hk
      exact ih hk
theorem plN_asc (L : List Int) (x : Int) : ∀ n i k, i < k → k < (plN L x n).length → (plN L x n).getD i 0 < (plN L x n).getD k 0
  | 0, i, k, _, hk => by simp [plN] at hk
  | n + 1, i, k, hik, hk => by
    have ih := plN_asc L x n i k hik
    have hin := (plN_in L x n).1
    rw [plN] at hk ⊢
    split
    · rename_i hx
      rw [if_pos hx, List.length_append, List.length_singleton] at hk
      have hi : (plN L x n ++ [(n : Int)]).getD i 0 = (plN L x n).getD i 0 := by
        rw [List.getD_eq_getElem?_getD, List.getElem?_append_left (by omega), ← List.getD_eq_getElem?_getD]
      rw [hi]
      by_cases hkn : k < (plN L x n).length
      · rw [List.getD_eq_getElem?_getD (l := plN L x n ++ _), List.getElem?_append_left hkn, ← List.getD_eq_getElem?_getD]
        exact ih hkn
      · rw [List.getD_eq_getElem?_getD (l := plN L x n ++ _), List.getElem?_append_right (by omega), show k - (plN L x n).length = 0 by omega]
        have := hin i (by omega)
        simp only [List.getElem?_cons_zero, Option.getD_some]
        omega
    · rename_i hx
      rw [if_neg hx] at hk
      exact ih hk
theorem tanS_pre (ms : List (List Int)) : ∀ (n i : Nat), i ≤ n → ∀ k, k < i → (tanS ms n).1.getD k 0 = (tanS ms i).1.getD k 0
  | 0, i, h, k, hk => by omega
  | n + 1, i, h, k, hk => by
    by_cases hi : i = n + 1
    · rw [hi]
    · have ih := tanS_pre ms n i (by omega) k hk
      have hl := (tanS_in ms n).1
      rw [← ih]
      cases ht : tk ms n with
      | some c =>
        simp only [tanS, ht, List.getD_eq_getElem?_getD]
        rw [List.getElem?_append_left (by omega)]
      | none =>
        simp only [tanS, ht, List.getD_eq_getElem?_getD]
        rw [List.getElem?_append_left (by omega)]
theorem tanS_last (ms : List (List Int)) (i : Nat) : (tanS ms (i + 1)).1.getD i 0 = match tk ms i with
    | some c => (tanS ms i).1.getD c 0
    | none => (tanS ms i).2 := by
  have hl := (tanS_in ms i).1
  cases ht : tk ms i with
  | some c =>
    simp only [tanS, ht, List.getD_eq_getElem?_getD]
    rw [List.getElem?_append_right (by omega), show i - (tanS ms i).1.length = 0 by omega]
    rfl
  | none =>
    simp only [tanS, ht, List.getD_eq_getElem?_getD]
    rw [List.getElem?_append_right (by omega), show i - (tanS ms i).1.length = 0 by omega]
    rfl
theorem tan_two {bs ms : List (List Int)} (h : CvP bs ms) : ∀ (i k : Nat), k < i → i < bs.length → (tanS ms (i + 1)).1.getD i 0 = (tanS ms (i + 1)).1.getD k 0 → 2 ≤ mm ms i k := by
  intro i
  induction i using Nat.strongRecOn with
  | ind i ih =>
  intro k hk hi he
  rw [tanS_last, tanS_pre ms (i + 1) i (by omega) k hk] at he
  have hsym : ∀ x y, x < bs.length → y < bs.length → mm ms x y = mm ms y x := fun x y hx hy => by
    by_cases hxy : x = y
    · rw [hxy]
    · exact ((h.tab.sym y hy) x hx)
  cases ht : tk ms i with
  | none =>
    rw [ht] at he
    simp only at he
    have := (tanS_in ms i).2.2.2 k hk
    omega
  | some c =>
    rw [ht] at he
    simp only at he
    have hc := tk_lt ht
    have h2 : 2 ≤ mm ms i c := by
      rw [tk, List.find?_range_eq_some] at ht
      simpa using ht.1
    by_cases hck : c = k
    · rw [← hck]; exact h2
    have h3 : 2 ≤ mm ms c k := by
      rcases Nat.lt_or_gt_of_ne hck with hlt | hlt
      · have := ih k hk c hlt (by omega) (by rw [← tanS_pre ms i (k + 1) (by omega) k (by omega), ← tanS_pre ms i (k + 1) (by omega) c (by omega)]; exact he.symm)
        rw [hsym c k (by omega) (by omega)]; exact this
      · exact ih c hc k hlt (by omega) (by rw [← tanS_pre ms i (c + 1) (by omega) k (by omega), ← tanS_pre ms i (c + 1) (by omega) c (by omega)]; exact he)
    have := h.ult i k c hi (by omega) (by omega) (by omega) (by omega) hck
    omega
theorem tan_two' {bs ms : List (List Int)} (h : CvP bs ms) {i k : Nat} (hik : i ≠ k) (hi : i < bs.length) (hk : k < bs.length) (he : (tanS ms bs.length).1.getD i 0 = (tanS ms bs.length).1.getD k 0) : 2 ≤ mm ms i k := by
  rcases Nat.lt_or_gt_of_ne hik with hlt | hlt
  · rw [tanS_pre ms _ (k + 1) (by omega) i (by omega), tanS_pre ms _ (k + 1) (by omega) k (by omega)] at he
    have := tan_two h k i hlt hk he.symm
    rwa [(h.tab.sym k hk) i hi]
  · rw [tanS_pre ms _ (i + 1) (by omega) i (by omega), tanS_pre ms _ (i + 1) (by omega) k (by omega)] at he
    exact tan_two h i k hlt hi he
set_option maxRecDepth 100000 in
theorem s_impl_meetingW : Sat Try.prog 56 (c_Cii_i f_mt q_mtW) := by
  intro args ps r h hp
  unfold c_Cii_i at h
  split at h
  · rename_i a0 a1 a2 a3
    simp only [Option.some.injEq, Prod.mk.injEq] at h
    obtain ⟨rfl, rfl⟩ := h
    have hqq : q_mtW a0 a1 a2 a3 := (alls_cons.1 hp).1
    have hq9 := hqq
    obtain ⟨⟨⟨bs, hbs, hb1, hb2⟩, ⟨ms, hms, hm1, hm2⟩⟩, hcv⟩ := hqq.1
    rw [hbs, hms, unBB_BB, unII_II] at hcv
    have g1 : V.frzs a0 = a0 := by rw [hbs, BB_frzs]
    have g2 : V.frzs a1 = a1 := by rw [hms, II_frzs]
    have hbl : a0.length = bs.length := by rw [hbs, BB_length]
    have hml : a1.length = ms.length := by rw [hms, II_length]
    have gb : ∀ k, a0.getD k (.agg [.slc false 2 (.int .i64 0) []]) = .agg [.slc false 2 (.int .i64 0) (I (bs.getD k []))] := fun k => by rw [hbs, BB_getD]
    have gm : ∀ k, a1.getD k (.slc false 2 (.int .i64 0) []) = .slc false 2 (.int .i64 0) (I (ms.getD k [])) := fun k => by rw [hms, II_getD]
    have hm0 : ∀ x y : Nat, (ms.getD x []).getD y 0 = mm ms x y := fun _ _ => rfl
    obtain ⟨n, hn⟩ : ∃ n : Int, n = bs.length := ⟨_, rfl⟩
    have n6 := hcv.n6
    have hmn : ms.length = bs.length := hcv.len
    have hbr : ∀ i, i < bs.length → Br (bs.getD i []) := fun i hi => hcv.br i hi
    have rl : ∀ k, k < bs.length → (ms.getD k []).length = bs.length := fun k hk => hcv.rl k hk
    have mmo : ∀ i k, i < bs.length → k < bs.length → i ≠ k → 1 ≤ mm ms i k ∧ mm ms i k ≤ 200 := fun i k hi hk hne => hcv.ent i k hi hk hne
    obtain ⟨_, x0, x1, x2, x3, x4⟩ := hq9
    rw [hbl] at x1 x3
    have hf0 : f_mt a0 a1 a2 a3 = meetC bs ms a2.toNat a3.toNat := by rw [f_mt, hbs, hms, unBB_BB, unII_II]
    have h1 := hbr a2.toNat (by omega)
    have h2 := hbr a3.toNat (by omega)
    have h3 := mmo a2.toNat a3.toNat (by omega) (by omega) (by omega)
    have h4 := rl a2.toNat (by omega)
    obtain ⟨u, hu⟩ : ∃ u, u = bs.getD a2.toNat [] := ⟨_, rfl⟩
    obtain ⟨v, hv⟩ : ∃ v, v = bs.getD a3.toNat [] := ⟨_, rfl⟩
    rw [← hu] at h1
    rw [← hv] at h2
    rw [meetC, ← hu, ← hv] at hf0
    obtain ⟨c, hc⟩ : ∃ c, c = mm ms a2.toNat a3.toNat := ⟨_, rfl⟩
    rw [← hc] at h3 hf0
    have hqm : q_meet (I u) (I v) c := ⟨⟨_, rfl, h1⟩, ⟨_, rfl, h2⟩, by omega, by omega⟩
    have hfm : f_meet (I u) (I v) c = meet u v c.toNat := by rw [f_meet, unI_I, unI_I]
    generalize H_f_meet : f_meet = F_f_meet
    generalize H_q_meet : q_meet = F_q_meet
    refine fnOk_ofI (T := tab) (B := [(85, c_BBi_i F_f_meet F_q_meet)]) (Bi := []) [0, 1, 2, 3, 6] Try.func56 rfl rfl (by kernel_rfl) (Nat.le_of_ble_eq_true rfl) mixed tabOk (by subst H_f_meet H_q_meet; exact (bookCons s_impl_intersection bookNil)) (by subst H_f_meet H_q_meet; exact bookINil) (by kernel_rfl) ?_
    intro L lp rr hL hr hf hlp
    conv => cbv
    simp only [stdEqs hL, imp_self, true_and, and_true, bif_or, bif_and, Bool.or_eq_true, Bool.or_eq_false_iff, Bool.and_eq_true, Bool.and_eq_false_iff, decide_eq_true_eq, decide_eq_false_iff_not, Bool.not_eq_true', Bool.not_eq_false', beq_iff_eq, beq_eq_false_iff_ne, ne_eq, toNat0, toNat1, ok_int, toI_int, I_frzs, I_length, I_getD, ok_ints, toL_slc, hbl, gb, ok_bran, toL_bran, fld_bran, ← hu, ← hv, gm, hml, h4, hm0, ← hc]
    subst H_f_meet H_q_meet
    rw [hr, hf0, hfm]
    (repeat' first | (exact solid_one _) | (exact solid1 rfl) | (exact noown_one _) | (apply And.intro) | (intro _)) <;> (try first | exact True.intro | omega | rfl | (simp only [List.length_cons, List.length_nil, I_length]; omega))
    all_goals first | exact hqm.1 | exact hqm.2.1 | skip
  · cases h
set_option maxRecDepth 100000 in
theorem s_impl_curveDeltaW : Sat Try.prog 25 (c_C_i f_cd q_cw) := by
  intro args ps r h hp
  unfold c_C_i at h
  split at h
  · rename_i a0 a1
    simp only [Option.some.injEq, Prod.mk.injEq] at h
    obtain ⟨rfl, rfl⟩ := h
    have hv : q_cw a0 a1 := (alls_cons.1 hp).1
    obtain ⟨⟨⟨bs, hbs, hb1, hb2⟩, ⟨ms, hms, hm1, hm2⟩⟩, hcv⟩ := id hv
    rw [hbs, hms, unBB_BB, unII_II] at hcv
    have g1 : V.frzs a0 = a0 := by rw [hbs, BB_frzs]
    have g2 : V.frzs a1 = a1 := by rw [hms, II_frzs]
    have hbl : a0.length = bs.length := by rw [hbs, BB_length]
    have hml : a1.length = ms.length := by rw [hms, II_length]
    have gb : ∀ k, a0.getD k (.agg [.slc false 2 (.int .i64 0) []]) = .agg [.slc false 2 (.int .i64 0) (I (bs.getD k []))] := fun k => by rw [hbs, BB_getD]
    have gm : ∀ k, a1.getD k (.slc false 2 (.int .i64 0) []) = .slc false 2 (.int .i64 0) (I (ms.getD k [])) := fun k => by rw [hms, II_getD]
    have hm0 : ∀ x y : Nat, (ms.getD x []).getD y 0 = mm ms x y := fun _ _ => rfl
    obtain ⟨n, hn⟩ : ∃ n : Int, n = bs.length := ⟨_, rfl⟩
    have n6 := hcv.n6
    have hmn : ms.length = bs.length := hcv.len
    have hbr : ∀ i, i < bs.length → Br (bs.getD i []) := fun i hi => hcv.br i hi
    have rl : ∀ k, k < bs.length → (ms.getD k []).length = bs.length := fun k hk => hcv.rl k hk
    have mmo : ∀ i k, i < bs.length → k < bs.length → i ≠ k → 1 ≤ mm ms i k ∧ mm ms i k ≤ 200 := fun i k hi hk hne => hcv.ent i k hi hk hne
    have hf0 : f_cd a0 a1 = dOC bs ms bs.length := by rw [f_cd, hbl, hbs, hms, unBB_BB, unII_II]
    generalize H_f_seq : f_seq = F_f_seq
    generalize H_IsBr : IsBr = F_IsBr
    generalize H_f_delT : f_delT = F_f_delT
    generalize H_q_del : q_del = F_q_del
    generalize H_f_mt : f_mt = F_f_mt
    generalize H_q_mtW : q_mtW = F_q_mtW
    refine fnOk_ofI (T := tab) (B := [(55, c_B_l F_f_seq F_IsBr), (54, c_l_int F_f_delT F_q_del), (56, c_Cii_i F_f_mt F_q_mtW)]) (Bi := []) [0, 1, 2, 3, 4, 5, 6, 8, 9, 10, 20, 21] Try.func25 rfl rfl (by kernel_rfl) (Nat.le_of_ble_eq_true rfl) mixed tabOk (by subst H_f_seq H_IsBr H_f_delT H_q_del H_f_mt H_q_mtW; exact (bookCons s_impl_sequence (bookCons s_impl_deltaOf (bookCons s_impl_meetingW bookNil)))) (by subst H_f_seq H_IsBr H_f_delT H_q_del H_f_mt H_q_mtW; exact bookINil) (by kernel_rfl) ?_
    intro L lp rr hL hr hf hlp
    have esq : ∀ x, V.frzs (F_f_seq (I x)) = I (sq1 x) := fun x => by rw [← H_f_seq, f_seq, unI_I, I_frzs]
    have qsq : ∀ x, Br x → F_IsBr (I x) := fun x hx => by rw [← H_IsBr]; exact ⟨_, rfl, hx⟩
    have edl : ∀ x, F_f_delT (I (sq1 x)) = delT (seqI x) := fun x => by rw [← H_f_delT, f_delT, unI_I, delT_sq1]
    have qdl : ∀ x, Br x → F_q_del (I (sq1 x)) := fun x hx => by rw [← H_q_del]; exact ⟨_, rfl, sq1_len hx, sq1_low hx⟩
    have hmt : ∀ i k, F_f_mt a0 a1 i k = meetC bs ms i.toNat k.toNat := fun i k => by rw [← H_f_mt, f_mt, hbs, hms, unBB_BB, unII_II]
    have hqt : ∀ i k : Int, 0 ≤ i → i < n → 0 ≤ k → k < n → i ≠ k → F_q_mtW a0 a1 i k := fun i k i0 i1 k0 k1 hne => by rw [← H_q_mtW]; exact ⟨hv, i0, by omega, k0, by omega, hne⟩
    conv => cbv
    refine hlp (Int × Int) _ _ _ [1, 3, 8, 9, 10] (fun x => [(1, none, .val (.box 31 (.agg [.slc false 58 (.agg [.slc false 2 (.int .i64 0) []]) a0, .slc false 53 (.slc false 2 (.int .i64 0) []) a1]))), (3, none, .val (.int .i64 x.1)), (8, none, .val (.slc false 58 (.agg [.slc false 2 (.int .i64 0) []]) a0)), (9, none, .val (.int .i64 n)), (10, none, .val (.int .i64 x.2))])
      (fun x => 0 ≤ x.2 ∧ x.2 ≤ n ∧ x.1 = dOC bs ms x.2.toNat) (fun x => (n - x.2).toNat) ((0, 0)) (by subst hL; rw [hn, ← hbl]; rfl) ?_ ?_
    · exact ⟨by simp, by simp only; omega, rfl⟩
    rintro ⟨s, i⟩ ⟨i0, i1, hI⟩ hfx ag hag
    simp only at i0 i1 hI
    conv => cbv
    simp only [stdEqs hL, imp_self, true_and, and_true, bif_or, bif_and, Bool.or_eq_true, Bool.or_eq_false_iff, Bool.and_eq_true, Bool.and_eq_false_iff, decide_eq_true_eq, decide_eq_false_iff_not, Bool.not_eq_true', Bool.not_eq_false', beq_iff_eq, beq_eq_false_iff_ne, ne_eq, toNat0, toNat1, ok_int, toI_int, I_frzs, I_length, I_getD, ok_ints, toL_slc, hbl, gb, ok_bran, toL_bran, fld_bran, esq, edl]
    refine ⟨fun h2 => ?_, fun h2 => ?_⟩
    · have hb := hbr i.toNat (by omega)
      obtain ⟨d, hd⟩ : ∃ d, d = W (s + delT (seqI (bs.getD i.toNat []))) := ⟨_, rfl⟩
      refine ⟨i0, by omega, qsq _ hb, qdl _ hb, ?_⟩
      rw [show IntKind.wrap .i64 (s + delT (seqI (bs.getD i.toNat []))) = d from hd.symm]
      refine hlp (Int × Int) _ _ _ [1, 3, 4, 8, 9, 10, 20, 21] (fun x => [(1, none, .val (.box 31 (.agg [.slc false 58 (.agg [.slc false 2 (.int .i64 0) []]) a0, .slc false 53 (.slc false 2 (.int .i64 0) []) a1]))), (3, none, .val (.int .i64 x.1)), (4, none, .val (.int .i64 i)), (8, none, .val (.slc false 58 (.agg [.slc false 2 (.int .i64 0) []]) a0)), (9, none, .val (.int .i64 n)), (10, none, .val (.int .i64 i)), (20, none, .val (.int .i64 i)), (21, none, .val (.int .i64 x.2))])
        (fun x => 0 ≤ x.2 ∧ x.2 ≤ i ∧ x.1 = dI bs ms i.toNat d x.2.toNat) (fun x => (i - x.2).toNat) ((d, 0)) (by subst hL; rfl) ?_ ?_
      · exact ⟨by simp, by simp only; omega, rfl⟩
      rintro ⟨t, k⟩ ⟨k0, k1, hK⟩ hfx2 ag2 hag2
      simp only at k0 k1 hK
      conv => cbv
      simp only [stdEqs hL, imp_self, true_and, and_true, bif_or, bif_and, Bool.or_eq_true, Bool.or_eq_false_iff, Bool.and_eq_true, Bool.and_eq_false_iff, decide_eq_true_eq, decide_eq_false_iff_not, Bool.not_eq_true', Bool.not_eq_false', beq_iff_eq, beq_eq_false_iff_ne, ne_eq, toNat0, toNat1, ok_int, toI_int, I_frzs, I_length, I_getD, ok_ints, toL_slc, g1, g2, hmt]
      refine ⟨fun h3 => ⟨hqt _ _ i0 h2 k0 (by omega) (by omega), ?_⟩, fun h3 => ?_⟩
      · rw [wrap_id (n := k + 1) (by omega) (by omega)]
        refine hag2 (W (t + meetC bs ms i.toNat k.toNat), k + 1) ⟨by simp only; omega, by simp only; omega, ?_⟩ (by simp only; omega)
        simp only [toNat_succ k0]
        rw [dI, hK]
      · rw [wrap_id (n := i + 1) (by omega) (by omega)]
        refine hag (t, i + 1) ⟨by simp only; omega, by simp only; omega, ?_⟩ (by simp only; omega)
        simp only [toNat_succ i0]
        rw [dOC, ← hI, ← hd, hK, show k.toNat = i.toNat by omega]
    · rw [hr, hf0, hI, show i.toNat = bs.length by omega]
  · cases h
set_option maxRecDepth 100000 in
theorem s_spec_l09DeltaW : Sat Try.prog 20 (c_C_i f_cd q_cw) := by
  intro args ps r h hp
  unfold c_C_i at h
  split at h
  · rename_i a0 a1
    simp only [Option.some.injEq, Prod.mk.injEq] at h
    obtain ⟨rfl, rfl⟩ := h
    obtain ⟨⟨⟨bs, hbs, hb1, hb2⟩, ⟨ms, hms, hm1, hm2⟩⟩, hcv⟩ := (alls_cons.1 hp).1
    rw [hbs, hms, unBB_BB, unII_II] at hcv
    have g1 : V.frzs a0 = a0 := by rw [hbs, BB_frzs]
    have g2 : V.frzs a1 = a1 := by rw [hms, II_frzs]
    have hbl : a0.length = bs.length := by rw [hbs, BB_length]
    have hml : a1.length = ms.length := by rw [hms, II_length]
    have gb : ∀ k, a0.getD k (.agg [.slc false 2 (.int .i64 0) []]) = .agg [.slc false 2 (.int .i64 0) (I (bs.getD k []))] := fun k => by rw [hbs, BB_getD]
    have gm : ∀ k, a1.getD k (.slc false 2 (.int .i64 0) []) = .slc false 2 (.int .i64 0) (I (ms.getD k [])) := fun k => by rw [hms, II_getD]
    have hm0 : ∀ x y : Nat, (ms.getD x []).getD y 0 = mm ms x y := fun _ _ => rfl
    obtain ⟨n, hn⟩ : ∃ n : Int, n = bs.length := ⟨_, rfl⟩
    have n6 := hcv.n6
    have hmn : ms.length = bs.length := hcv.len
    have hbr : ∀ i, i < bs.length → Br (bs.getD i []) := fun i hi => hcv.br i hi
    have rl : ∀ k, k < bs.length → (ms.getD k []).length = bs.length := fun k hk => hcv.rl k hk
    have mmo : ∀ i k, i < bs.length → k < bs.length → i ≠ k → 1 ≤ mm ms i k ∧ mm ms i k ≤ 200 := fun i k hi hk hne => hcv.ent i k hi hk hne
    have hf0 : f_cd a0 a1 = dOC bs ms bs.length := by rw [f_cd, hbl, hbs, hms, unBB_BB, unII_II]
    generalize H_f_del : f_del = F_f_del
    generalize H_IsBr : IsBr = F_IsBr
    generalize H_f_meet : f_meet = F_f_meet
    generalize H_q_meet : q_meet = F_q_meet
    refine fnOk_ofI (T := tab) (B := [(41, c_B_i F_f_del F_IsBr), (42, c_BBi_i F_f_meet F_q_meet)]) (Bi := []) [0, 1, 2, 3, 4, 5] Try.func20 rfl rfl (by kernel_rfl) (Nat.le_of_ble_eq_true rfl) mixed tabOk (by subst H_f_del H_IsBr H_f_meet H_q_meet; exact (bookCons s_spec_l04Delta (bookCons s_spec_l09Meet bookNil))) (by subst H_f_del H_IsBr H_f_meet H_q_meet; exact bookINil) (by kernel_rfl) ?_
    intro L lp rr hL hr hf hlp
    have edl : ∀ x, F_f_del (I x) = delT (seqI x) := fun x => by rw [← H_f_del, f_del, unI_I]
    have qsq : ∀ x, Br x → F_IsBr (I x) := fun x hx => by rw [← H_IsBr]; exact ⟨_, rfl, hx⟩
    have hmt : ∀ x y c, F_f_meet (I x) (I y) c = meet x y c.toNat := fun x y c => by rw [← H_f_meet, f_meet, unI_I, unI_I]
    have hqt : ∀ x y c, Br x → Br y → 1 ≤ c → c ≤ 200 → F_q_meet (I x) (I y) c := fun x y c hx hy h1 h2 => by rw [← H_q_meet]; exact ⟨⟨_, rfl, hx⟩, ⟨_, rfl, hy⟩, h1, by omega⟩
    conv => cbv
    refine hlp (Int × Int) _ _ _ [1, 3, 4] (fun x => [(1, none, .val (.box 31 (.agg [.slc false 58 (.agg [.slc false 2 (.int .i64 0) []]) a0, .slc false 53 (.slc false 2 (.int .i64 0) []) a1]))), (3, none, .val (.int .i64 x.1)), (4, none, .val (.int .i64 x.2))])
      (fun x => 0 ≤ x.2 ∧ x.2 ≤ n ∧ x.1 = dOC bs ms x.2.toNat) (fun x => (n - x.2).toNat) ((0, 0)) (by subst hL; rfl) ?_ ?_
    · exact ⟨by simp, by simp only; omega, rfl⟩
    rintro ⟨s, i⟩ ⟨i0, i1, hI⟩ hfx ag hag
    simp only at i0 i1 hI
    conv => cbv
    simp only [stdEqs hL, imp_self, true_and, and_true, bif_or, bif_and, Bool.or_eq_true, Bool.or_eq_false_iff, Bool.and_eq_true, Bool.and_eq_false_iff, decide_eq_true_eq, decide_eq_false_iff_not, Bool.not_eq_true', Bool.not_eq_false', beq_iff_eq, beq_eq_false_iff_ne, ne_eq, toNat0, toNat1, ok_int, toI_int, I_frzs, I_length, I_getD, ok_ints, toL_slc, hbl, gb, ok_bran, toL_bran, fld_bran, edl, ← hn]
    refine ⟨fun h2 => ?_, fun h2 => ?_⟩
    · have hb := hbr i.toNat (by omega)
      have hri := rl i.toNat (by omega)
      obtain ⟨d, hd⟩ : ∃ d, d = W (s + delT (seqI (bs.getD i.toNat []))) := ⟨_, rfl⟩
      refine ⟨i0, by omega, qsq _ hb, ?_⟩
      rw [show IntKind.wrap .i64 (s + delT (seqI (bs.getD i.toNat []))) = d from hd.symm]
      refine hlp (Int × Int) _ _ _ [1, 3, 4, 5] (fun x => [(1, none, .val (.box 31 (.agg [.slc false 58 (.agg [.slc false 2 (.int .i64 0) []]) a0, .slc false 53 (.slc false 2 (.int .i64 0) []) a1]))), (3, none, .val (.int .i64 x.1)), (4, none, .val (.int .i64 i)), (5, none, .val (.int .i64 x.2))])
        (fun x => 0 ≤ x.2 ∧ x.2 ≤ i ∧ x.1 = dI bs ms i.toNat d x.2.toNat) (fun x => (i - x.2).toNat) ((d, 0)) (by subst hL; rfl) ?_ ?_
      · exact ⟨by simp, by simp only; omega, rfl⟩
      rintro ⟨t, k⟩ ⟨k0, k1, hK⟩ hfx2 ag2 hag2
      simp only at k0 k1 hK
      conv => cbv
      simp only [stdEqs hL, imp_self, true_and, and_true, bif_or, bif_and, Bool.or_eq_true, Bool.or_eq_false_iff, Bool.and_eq_true, Bool.and_eq_false_iff, decide_eq_true_eq, decide_eq_false_iff_not, Bool.not_eq_true', Bool.not_eq_false', beq_iff_eq, beq_eq_false_iff_ne, ne_eq, toNat0, toNat1, ok_int, toI_int, I_frzs, I_length, I_getD, ok_ints, toL_slc, hbl, gb, ok_bran, toL_bran, fld_bran, gm, hml, hm0, hmt, hri]
      refine ⟨fun h3 => ?_, fun h3 => ?_⟩
      · have hmo := mmo i.toNat k.toNat (by omega) (by omega) (by omega)
        have hqq := hqt _ _ _ hb (hbr k.toNat (by omega)) hmo.1 hmo.2
        rw [wrap_id (n := k + 1) (by omega) (by omega)]
        refine ⟨by omega, by omega, by omega, by omega, by omega, by omega, by omega, by omega, hqq, ?_⟩
        refine hag2 (W (t + meetC bs ms i.toNat k.toNat), k + 1) ⟨by simp only; omega, by simp only; omega, ?_⟩ (by simp only; omega)
        simp only [toNat_succ k0]
        rw [dI, hK]
      · rw [wrap_id (n := i + 1) (by omega) (by omega)]
        refine hag (t, i + 1) ⟨by simp only; omega, by simp only; omega, ?_⟩ (by simp only; omega)
        simp only [toNat_succ i0]
        rw [dOC, ← hI, ← hd, hK, show k.toNat = i.toNat by omega]
    · rw [hr, hf0, hI, show i.toNat = bs.length by omega]
  · cases h
theorem blS_weak {bs ms : List (List Int)} (h : CvP bs ms) : ∀ (t : Nat) {o : List Cur}, blS bs ms (tanS ms bs.length).1 t = some o → ∀ p ∈ o, CvW p.1 p.2
  | 0, o, ho => by simp only [blS, Option.some.injEq] at ho; subst ho; intro p hp; cases hp
  | t + 1, o, ho => by
    rw [blS] at ho
    cases h1 : blS bs ms (tanS ms bs.length).1 t with
    | none => rw [h1] at ho; cases ho
    | some o' =>
      rw [h1, Option.bind_some] at ho
      split at ho
      · simp only [Option.some.injEq] at ho
        subst ho
        have ih := blS_weak h t h1
        have tl := (tanS_in ms bs.length).1
        obtain ⟨hin, hle⟩ := plN_in (tanS ms bs.length).1 t (tanS ms bs.length).1.length
        have hat := plN_at (tanS ms bs.length).1 t (tanS ms bs.length).1.length
        have hasc := plN_asc (tanS ms bs.length).1 t (tanS ms bs.length).1.length
        rw [tl] at hin hle hat hasc ⊢
        generalize plN (tanS ms bs.length).1 t bs.length = ls at hin hle hat hasc ⊢
        have n6 := h.n6
        have hbr := fun i hi => br_of (h.br i hi)
        intro p hp
        rcases List.mem_append.1 hp with hp | hp
        · exact ih p hp
        · rw [List.mem_singleton] at hp
          subst hp
          refine ⟨by simp only; rw [stB_len]; omega, by simp only; rw [stM_len, stB_len], fun i hi => ?_, fun k hk => ?_, fun i k hi hk hne => ?_⟩
          · simp only at hi ⊢
            rw [stB_len] at hi
            have := hin i hi
            rw [stB, tab_get _ _ _ _ hi, if_pos hi]
            exact (str_seq (hbr _ (by omega))).1
          · simp only at hk ⊢
            rw [stB_len] at hk ⊢
            rw [stM, tab_get _ _ _ _ hk, dcR_len]
          · simp only at hi hk ⊢
            rw [stB_len] at hi hk
            have hi' := hin i hi
            have hk' := hin k hk
            have e : mm (stM ms ls ls.length 0) i k = mm ms (ls.getD i 0).toNat (ls.getD k 0).toNat - 1 := by
              rw [mm, stM, tab_get _ _ _ _ hi, if_pos hi, dcR, tab_get _ _ _ _ hk, if_pos ⟨hk, fun e => hne e.symm⟩]
            rw [e]
            have hd : (ls.getD i 0).toNat ≠ (ls.getD k 0).toNat := by
              rcases Nat.lt_or_gt_of_ne hne with hlt | hlt
              · have := hasc i k hlt hk; omega
              · have := hasc k i hlt hi; omega
            have h2 := tan_two' h hd (by omega) (by omega) (by rw [hat i hi, hat k hk])
            have h3 := ((h.tab.row (ls.getD i 0).toNat (by omega)).2 (ls.getD k 0).toNat (by omega)).2 hd
            omega
      · cases ho
def cdC (p : Cur) : Int := dOC p.1 p.2 p.1.length
def drN (s : Int) (o : List Cur) : Nat → Int
  | 0 => s
  | i + 1 => W (drN s o i - cdC (o.getD i ([], [])))
def mdR (s : Int) : Option (List Cur) → Int × Int
  | some o => (drN s o o.length, 0)
  | none => (0, 3)
noncomputable def f_md (a b : List V) : Int × Int := bif f_isCv a b then mdR (f_cd a b) (bl (unBB a) (unII b) a.length) else (0, 1)
theorem gAtL {l : List (List Int)} {k : Nat} (h : k < l.length) : l[k] = l.getD k [] := by
  rw [List.getD_eq_getElem?_getD, List.getElem?_eq_getElem h]; rfl
theorem q_weak {bs ms : List (List Int)} (h : CvP bs ms) {o : List Cur} (ho : bl bs ms bs.length = some o) (i : Nat) (hi : i < o.length) : q_cw (BB false (o.getD i ([], [])).1) (II false (o.getD i ([], [])).2) := by
  have hm : o.getD i ([], []) ∈ o := by rw [List.getD_eq_getElem?_getD, List.getElem?_eq_getElem hi]; exact List.getElem_mem hi
  have hw := blS_weak h _ ho _ hm
  have n6 := hw.n6
  refine ⟨⟨⟨_, rfl, by omega, fun xs hx => ?_⟩, ⟨_, rfl, by rw [hw.len]; omega, fun xs hx => ?_⟩⟩, by rw [unBB_BB, unII_II]; exact hw⟩
  · obtain ⟨k, hk, rfl⟩ := List.mem_iff_getElem.1 hx
    have := (hw.br k hk).len
    rw [gAtL hk]
    omega
  · obtain ⟨k, hk, rfl⟩ := List.mem_iff_getElem.1 hx
    have := hw.rl k (by rw [hw.len] at hk; exact hk)
    rw [gAtL hk]
    omega
set_option maxRecDepth 100000 in
theorem s_impl_MultiplicityDrop : Sat Try.prog 8 (c_C_ii f_md q_C) := by
  intro args ps r h hp
  unfold c_C_ii at h
  split at h
  · rename_i a0 a1
    simp only [Option.some.injEq, Prod.mk.injEq] at h
    obtain ⟨rfl, rfl⟩ := h
    have hq : q_C a0 a1 := (alls_cons.1 hp).1
    have g1 := frzs_BB hq.1.isBB
    have g2 := frzs_II hq.2.isII
    have e0 : f_md a0 a1 = bif f_isCv a0 a1 then mdR (f_cd a0 a1) (bl (unBB a0) (unII a1) a0.length) else (0, 1) := rfl
    have e1 : f_bup a0 a1 = bupR (bl (unBB a0) (unII a1) a0.length) := rfl
    obtain ⟨cd, hcd⟩ : ∃ cd, cd = f_cd a0 a1 := ⟨_, rfl⟩
    obtain ⟨⟨fo, code⟩, hfo⟩ : ∃ p, p = f_bup a0 a1 := ⟨_, rfl⟩
    generalize H_f_isCv : f_isCv = F_f_isCv
    generalize H_q_C : q_C = F_q_C
    generalize H_f_bup : f_bup = F_f_bup
    generalize H_q_cv : q_cv = F_q_cv
    generalize H_f_cd : f_cd = F_f_cd
    generalize H_q_cw : q_cw = F_q_cw
    refine fnOk_ofI (T := tab) (B := [(23, c_C_b F_f_isCv F_q_C), (24, c_C_Ri F_f_bup F_q_cv), (25, c_C_i F_f_cd F_q_cw)]) (Bi := []) [1000007004, 0, 1, 2, 3, 4, 5, 6, 8, 22, 23, 24] Try.func8 rfl rfl (by kernel_rfl) (Nat.le_of_ble_eq_true rfl) mixed tabOk (by subst H_f_isCv H_q_C H_f_bup H_q_cv H_f_cd H_q_cw; exact (bookCons s_impl_IsCurve (bookCons s_impl_blownUp (bookCons s_impl_curveDeltaW bookNil)))) (by subst H_f_isCv H_q_C H_f_bup H_q_cv H_f_cd H_q_cw; exact bookINil) (by kernel_rfl) ?_
    intro L lp rr hL hr hf hlp
    have Ei : F_f_isCv a0 a1 = f_isCv a0 a1 := by rw [← H_f_isCv]
    have Eb : F_f_bup a0 a1 = (fo, code) := by rw [← H_f_bup, hfo]
    have Ec : F_f_cd a0 a1 = cd := by rw [← H_f_cd, hcd]
    conv => cbv
    simp only [stdEqs hL, imp_self, true_and, and_true, bif_or, bif_and, Bool.or_eq_true, Bool.or_eq_false_iff, Bool.and_eq_true, Bool.and_eq_false_iff, decide_eq_true_eq, decide_eq_false_iff_not, Bool.not_eq_true', Bool.not_eq_false', beq_iff_eq, beq_eq_false_iff_ne, ne_eq, toNat0, toNat1, ok_int, toI_int, I_frzs, I_length, I_getD, ok_ints, toL_slc, g1, g2, Ei, Eb, Ec]
    refine ⟨by rw [← H_q_C]; exact hq, fun h => by rw [hr, e0, h]; rfl, fun h => ?_⟩
    have hv := q_cv_of hq h
    have hcv : CvP (unBB a0) (unII a1) := hv.2
    have hal : a0.length = (unBB a0).length := by obtain ⟨bs, hbs, _⟩ := hq.1; rw [hbs, BB_length, unBB_BB]
    rw [hal] at e0 e1
    have hww : q_cw a0 a1 := ⟨hq, hcv.weak⟩
    refine ⟨by rw [← H_q_cv]; exact hv, ?_⟩
    cases hb : bl (unBB a0) (unII a1) (unBB a0).length with
    | none =>
      rw [e1, hb] at hfo
      obtain ⟨rfl, rfl⟩ := Prod.mk.injEq .. ▸ hfo
      refine ⟨fun _ => by rw [hr, e0, h, hb]; rfl, fun h' => absurd h' (by decide)⟩
    | some o =>
      rw [e1, hb] at hfo
      obtain ⟨hfo1, rfl⟩ := Prod.mk.injEq .. ▸ hfo
      refine ⟨fun h' => absurd rfl h', fun _ => ⟨by rw [← H_q_cw]; exact hww, ?_⟩⟩
      have hw := fun i hi => q_weak hcv hb i hi
      have ol : o.length ≤ 6 := by
        obtain ⟨t1, t2, t3, _⟩ := tanS_in (unII a1) (unBB a0).length
        have h1 := blS_len _ hb
        have := hcv.n6
        omega
      obtain ⟨n, hn⟩ : ∃ n : Int, n = o.length := ⟨_, rfl⟩
      obtain ⟨fz, hfz⟩ : ∃ fz, fz = CC false o := ⟨_, rfl⟩
      have hfz2 : V.frzs fo = fz := by rw [hfo1, CC_frzs, hfz]
      have hfl : fz.length = o.length := by rw [hfz, CC_length]
      have gz := fun i => hfz ▸ CC_getD false o i
      rw [hfz2]
      have Ed : ∀ i : Int, F_f_cd (BB false (o.getD i.toNat ([], [])).1) (II false (o.getD i.toNat ([], [])).2) = cdC (o.getD i.toNat ([], [])) := fun i => by rw [← H_f_cd, f_cd, unBB_BB, unII_II, BB_length, cdC]
      have Qd : ∀ i : Int, 0 ≤ i → i < n → F_q_cw (BB false (o.getD i.toNat ([], [])).1) (II false (o.getD i.toNat ([], [])).2) := fun i h0 h1 => by rw [← H_q_cw]; exact hw _ (by omega)
      refine hlp (Int × Int) _ _ _ [6, 22, 23, 24] (fun x => [(6, none, .val (.int .i64 x.1)), (22, none, .val (.slc false 31 (.agg [.slc false 58 (.agg [.slc false 2 (.int .i64 0) []]) [], .slc false 53 (.slc false 2 (.int .i64 0) []) []]) fz)), (23, none, .val (.int .i64 n)), (24, none, .val (.int .i64 x.2))])
        (fun x => 0 ≤ x.2 ∧ x.2 ≤ n ∧ x.1 = drN cd o x.2.toNat) (fun x => (n - x.2).toNat) ((cd, 0)) (by subst hL; rw [hn, ← hfl]; rfl) ?_ ?_
      · exact ⟨by simp, by simp only; omega, rfl⟩
      rintro ⟨s, i⟩ ⟨i0, i1, hs⟩ hfx ag hag
      simp only at i0 i1 hs
      conv => cbv
      simp only [stdEqs hL, imp_self, true_and, and_true, bif_or, bif_and, Bool.or_eq_true, Bool.or_eq_false_iff, Bool.and_eq_true, Bool.and_eq_false_iff, decide_eq_true_eq, decide_eq_false_iff_not, Bool.not_eq_true', Bool.not_eq_false', beq_iff_eq, beq_eq_false_iff_ne, ne_eq, toNat0, toNat1, ok_int, toI_int, I_frzs, I_length, I_getD, ok_ints, toL_slc, hfl, gz, ok_cur, fld2_0, fld2_1, BB_frzs, II_frzs, Ed]
      refine ⟨fun h2 => ?_, fun h2 => ?_⟩
      · rw [wrap_id (n := i + 1) (by omega) (by omega)]
        refine ⟨i0, by omega, Qd _ i0 h2, hag (W (s - cdC (o.getD i.toNat ([], []))), i + 1) ⟨by simp only; omega, by simp only; omega, ?_⟩ (by simp only; omega)⟩
        simp only [toNat_succ i0]
        rw [drN, ← hs]
      · rw [hr, e0, h, hb, cond_true, mdR, hs, hcd, show i.toNat = o.length by omega]
  · cases h
set_option maxRecDepth 100000 in
theorem s_spec_MultiplicityDrop : Sat Try.prog 6 (c_C_ii f_md q_C) := by
  intro args ps r h hp
  unfold c_C_ii at h
  split at h
  · rename_i a0 a1
    simp only [Option.some.injEq, Prod.mk.injEq] at h
    obtain ⟨rfl, rfl⟩ := h
    have hq : q_C a0 a1 := (alls_cons.1 hp).1
    have g1 := frzs_BB hq.1.isBB
    have g2 := frzs_II hq.2.isII
    have e0 : f_md a0 a1 = bif f_isCv a0 a1 then mdR (f_cd a0 a1) (bl (unBB a0) (unII a1) a0.length) else (0, 1) := rfl
    have e1 : f_bupB a0 a1 = bupB (bl (unBB a0) (unII a1) a0.length) := rfl
    obtain ⟨cd, hcd⟩ : ∃ cd, cd = f_cd a0 a1 := ⟨_, rfl⟩
    obtain ⟨⟨fo, code⟩, hfo⟩ : ∃ p, p = f_bupB a0 a1 := ⟨_, rfl⟩
    generalize H_f_isCv : f_isCv = F_f_isCv
    generalize H_q_C : q_C = F_q_C
    generalize H_f_bupB : f_bupB = F_f_bupB
    generalize H_q_cv : q_cv = F_q_cv
    generalize H_f_cd : f_cd = F_f_cd
    generalize H_q_cw : q_cw = F_q_cw
    refine fnOk_ofI (T := tab) (B := [(18, c_C_b F_f_isCv F_q_C), (19, c_C_Rb F_f_bupB F_q_cv), (20, c_C_i F_f_cd F_q_cw)]) (Bi := []) [0, 1, 2, 3, 4, 5, 6, 7] Try.func6 rfl rfl (by kernel_rfl) (Nat.le_of_ble_eq_true rfl) mixed tabOk (by subst H_f_isCv H_q_C H_f_bupB H_q_cv H_f_cd H_q_cw; exact (bookCons s_spec_l09Is (bookCons s_spec_l10BlowUp (bookCons s_spec_l09DeltaW bookNil)))) (by subst H_f_isCv H_q_C H_f_bupB H_q_cv H_f_cd H_q_cw; exact bookINil) (by kernel_rfl) ?_
    intro L lp rr hL hr hf hlp
    have Ei : F_f_isCv a0 a1 = f_isCv a0 a1 := by rw [← H_f_isCv]
    have Eb : F_f_bupB a0 a1 = (fo, code) := by rw [← H_f_bupB, hfo]
    have Ec : F_f_cd a0 a1 = cd := by rw [← H_f_cd, hcd]
    conv => cbv
    simp only [stdEqs hL, imp_self, true_and, and_true, bif_or, bif_and, Bool.or_eq_true, Bool.or_eq_false_iff, Bool.and_eq_true, Bool.and_eq_false_iff, decide_eq_true_eq, decide_eq_false_iff_not, Bool.not_eq_true', Bool.not_eq_false', beq_iff_eq, beq_eq_false_iff_ne, ne_eq, toNat0, toNat1, ok_int, toI_int, I_frzs, I_length, I_getD, ok_ints, toL_slc, g1, g2, Ei, Eb, Ec]
    refine ⟨by rw [← H_q_C]; exact hq, fun h => by rw [hr, e0, h]; rfl, fun h => ?_⟩
    have hv := q_cv_of hq h
    have hcv : CvP (unBB a0) (unII a1) := hv.2
    have hal : a0.length = (unBB a0).length := by obtain ⟨bs, hbs, _⟩ := hq.1; rw [hbs, BB_length, unBB_BB]
    rw [hal] at e0 e1
    have hww : q_cw a0 a1 := ⟨hq, hcv.weak⟩
    refine ⟨by rw [← H_q_cv]; exact hv, ?_⟩
    cases hb : bl (unBB a0) (unII a1) (unBB a0).length with
    | none =>
      rw [e1, hb] at hfo
      obtain ⟨rfl, rfl⟩ := Prod.mk.injEq .. ▸ hfo
      refine ⟨fun _ => by rw [hr, e0, h, hb]; rfl, fun h' => (by cases h')⟩
    | some o =>
      rw [e1, hb] at hfo
      obtain ⟨hfo1, rfl⟩ := Prod.mk.injEq .. ▸ hfo
      refine ⟨fun h' => (by cases h'), fun _ => ⟨by rw [← H_q_cw]; exact hww, ?_⟩⟩
      have hw := fun i hi => q_weak hcv hb i hi
      have ol : o.length ≤ 6 := by
        obtain ⟨t1, t2, t3, _⟩ := tanS_in (unII a1) (unBB a0).length
        have h1 := blS_len _ hb
        have := hcv.n6
        omega
      obtain ⟨n, hn⟩ : ∃ n : Int, n = o.length := ⟨_, rfl⟩
      have hfl : fo.length = o.length := by rw [hfo1, CC_length]
      have gz := fun i => hfo1 ▸ CC_getD true o i
      have Ed : ∀ i : Int, F_f_cd (BB false (o.getD i.toNat ([], [])).1) (II false (o.getD i.toNat ([], [])).2) = cdC (o.getD i.toNat ([], [])) := fun i => by rw [← H_f_cd, f_cd, unBB_BB, unII_II, BB_length, cdC]
      have Qd : ∀ i : Int, 0 ≤ i → i < n → F_q_cw (BB false (o.getD i.toNat ([], [])).1) (II false (o.getD i.toNat ([], [])).2) := fun i h0 h1 => by rw [← H_q_cw]; exact hw _ (by omega)
      refine hlp (Int × Int) _ _ _ [4, 6, 7] (fun x => [(4, none, .val (.slc true 31 (.agg [.slc true 58 (.agg [.slc true 2 (.int .i64 0) []]) [], .slc true 53 (.slc true 2 (.int .i64 0) []) []]) fo)), (6, none, .val (.int .i64 x.1)), (7, none, .val (.int .i64 x.2))])
        (fun x => 0 ≤ x.2 ∧ x.2 ≤ n ∧ x.1 = drN cd o x.2.toNat) (fun x => (n - x.2).toNat) ((cd, 0)) (by subst hL; rfl) ?_ ?_
      · exact ⟨by simp, by simp only; omega, rfl⟩
      rintro ⟨s, i⟩ ⟨i0, i1, hs⟩ hfx ag hag
      simp only at i0 i1 hs
      conv => cbv
      simp only [stdEqs hL, imp_self, true_and, and_true, bif_or, bif_and, Bool.or_eq_true, Bool.or_eq_false_iff, Bool.and_eq_true, Bool.and_eq_false_iff, decide_eq_true_eq, decide_eq_false_iff_not, Bool.not_eq_true', Bool.not_eq_false', beq_iff_eq, beq_eq_false_iff_ne, ne_eq, toNat0, toNat1, ok_int, toI_int, I_frzs, I_length, I_getD, ok_ints, toL_slc, hfl, gz, ok_cur, fld2_0, fld2_1, BB_frzs, II_frzs, Ed, ← hn]
      refine ⟨fun h2 => ?_, fun h2 => ?_⟩
      · rw [wrap_id (n := i + 1) (by omega) (by omega)]
        refine ⟨i0, h2, by omega, by omega, by omega, Qd _ i0 h2, hag (W (s - cdC (o.getD i.toNat ([], []))), i + 1) ⟨by simp only; omega, by simp only; omega, ?_⟩ (by simp only; omega)⟩
        simp only [toNat_succ i0]
        rw [drN, ← hs]
      · rw [hr, e0, h, hb, cond_true, mdR, hs, hcd, show i.toNat = o.length by omega]
  · cases h
set_option maxRecDepth 100000 in
theorem s_laws_FnExactMultiplicityDrop : Sat Try.prog 3 (c_law_D yesC q_law_D) := by
  intro args ps r h hp
  unfold c_law_D at h
  split at h
  · rename_i a0 a1
    simp only [Option.some.injEq, Prod.mk.injEq] at h
    obtain ⟨rfl, rfl⟩ := h
    have hq : q_C' a0 a1 := (alls_cons.1 hp).1
    have g0 := frzs_BB hq.1
    have g1 := frzs_II hq.2
    generalize H_f_szC : f_szC = F_f_szC
    generalize H_q_szC : q_szC = F_q_szC
    generalize H_f_cpC : f_cpC = F_f_cpC
    generalize H_q_cpC : q_cpC = F_q_cpC
    generalize H_f_md : f_md = F_f_md
    generalize H_q_C : q_C = F_q_C
    generalize H_f0_eqC : f0_eqC = F_f0_eqC
    generalize H_q_eqC : q_eqC = F_q_eqC
    refine fnOk_ofI (T := tab) (B := [(5, c_Di_i F_f_szC F_q_szC), (7, c_D_C F_f_cpC F_q_cpC), (6, c_C_ii F_f_md F_q_C), (8, c_C_ii F_f_md F_q_C), (9, c_cc_bool F_f0_eqC F_q_eqC)]) (Bi := []) [0, 1, 2, 3, 4, 5, 6, 7, 8] Try.func3 rfl rfl (by kernel_rfl) (Nat.le_of_ble_eq_true rfl) mixed tabOk (by subst H_f_szC H_q_szC H_f_cpC H_q_cpC H_f_md H_q_C H_f0_eqC H_q_eqC; exact (bookCons s_laws_szCurve (bookCons s_laws_toCurve (bookCons s_spec_MultiplicityDrop (bookCons s_impl_MultiplicityDrop (bookCons s_laws_eqCurve bookNil)))))) (by subst H_f_szC H_q_szC H_f_cpC H_q_cpC H_f_md H_q_C H_f0_eqC H_q_eqC; exact bookINil) (by kernel_rfl) ?_
    intro L lp rr hL hr hf hlp
    have hlen := hf.1
    conv => cbv
    simp only [stdEqs hL, g0, g1]
    subst H_f_szC H_q_szC H_f_cpC H_q_cpC H_f_md H_q_C H_f0_eqC H_q_eqC
    refine ⟨hq, fun h => by rw [hr]; rfl, fun h => ?_⟩
    obtain ⟨hc, ht1, ht2, _, _⟩ := szC_ok (by omega) (by omega) hq hlen.1.1 hlen.1.2 hlen.2.1.1 hlen.2.1.2 h
    obtain ⟨⟨bs, hbs⟩, ⟨ms, hms⟩⟩ := hq
    have e0 : f_cpC a0 a1 = (BB true bs, II true ms) := by rw [f_cpC, hbs, hms, unBB_BB, unII_II]
    rw [hbs, unBB_BB] at ht1
    rw [hms, unII_II] at ht2
    have kg := curve_keys bs ms (by omega)
    have hqc : q_C (BB false bs) (II false ms) := by have := q_C_of hc; rwa [hbs, hms] at this
    have hqx := hqc
    simp only [e0, hc, kg, hqc, hqx, hr, yesC, beq_self_eq_true]
    simp
  · cases h
end Go.Ax
