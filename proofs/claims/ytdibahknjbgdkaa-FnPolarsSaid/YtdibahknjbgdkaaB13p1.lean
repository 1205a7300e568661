import Derived.Test.YtdibahknjbgdkaaB07p1
import Derived.Test.YtdibahknjbgdkaaB12p1
import Derived.Test.YtdibahknjbgdkaaB03p1
/-
  The law of polar invariants: their sums, at all that is drawn. No conditions but those of the contracts.
-/
set_option linter.all false
namespace Go.Ax
open Go.Proofs

def q_by (es : List V) : Prop := ∃ xs : List Int, es = U8 xs ∧ ∀ x ∈ xs, 0 ≤ x ∧ x ≤ 255
def yesU (_ : List V) : Bool := true
theorem U8_frzs : ∀ xs : List Int, V.frzs (U8 xs) = U8 xs
  | [] => rfl
  | x :: xs => by
    have := U8_frzs xs
    simp only [U8] at this
    simp only [U8, List.map_cons, V.frzs, V.frz, this]
theorem by_big {a : List V} (h : q_by a) (hb : f_big a = false) : IsU a := by
  obtain ⟨xs, hxs, hr⟩ := h
  refine ⟨xs, hxs, hr, ?_⟩
  have hl : a.length = xs.length := by rw [hxs, U8, List.length_map]
  simp only [f_big, decide_eq_false_iff_not] at hb
  omega
def c_u_A (f : List V → List V) (q : List V → Prop) : Contract := fun
  | [.slc false 5 (.int .u8 0) a0] => some ([q a0], .agg [.slc false 2 (.int .i64 0) (f a0)])
  | _ => none
def f_dpi (a : List V) : List V := I (spF a 0 (f0_from a)).1
set_option maxHeartbeats 1000000 in
set_option maxRecDepth 100000 in
theorem s_spec_DrawPolarInvariants : Sat Try.prog 6 (c_u_A f_dpi IsU) := by
  intro args ps r h hp
  unfold c_u_A at h
  split at h
  · rename_i a0
    simp only [Option.some.injEq, Prod.mk.injEq] at h
    obtain ⟨rfl, rfl⟩ := h
    have hq : IsU a0 := (alls_cons.1 hp).1
    have hfr : V.frzs a0 = a0 := by
      obtain ⟨xs, hxs, _⟩ := hq
      rw [hxs, U8_frzs]
    generalize H_f0_from : f0_from = F_f0_from
    generalize H_IsU : IsU = F_IsU
    generalize H_f_sp : f_sp = F_f_sp
    generalize H_q_src : q_src = F_q_src
    refine fnOk_ofI (T := tab) (B := [(27, c_from F_f0_from F_IsU)]) (Bi := [(26, 1000, false, ic_sp F_f_sp F_q_src)]) [0, 2] Try.func6 rfl rfl (by kernel_rfl) (Nat.le_of_ble_eq_true rfl) mixed tabOk (by subst H_f0_from H_IsU H_f_sp H_q_src; exact (bookCons s_spec_l01From bookNil)) (by subst H_f0_from H_IsU H_f_sp H_q_src; exact (bookICons s_spec_l03Spoil bookINil)) (by kernel_rfl) ?_
    intro L lp rr hL hr hf hlp
    conv => cbv
    simp only [stdEqs hL, imp_self, true_and, and_true, bif_or, bif_and, Bool.or_eq_true, Bool.or_eq_false_iff, Bool.and_eq_true, Bool.and_eq_false_iff, decide_eq_true_eq, decide_eq_false_iff_not, Bool.not_eq_true', Bool.not_eq_false', beq_iff_eq, beq_eq_false_iff_ne, ne_eq, toNat0, toNat1, ok_int, toI_int, I_frzs, I_length, I_getD, ok_ints, toL_slc, true_and, hfr]
    subst H_f0_from H_IsU H_f_sp H_q_src
    exact ⟨hq, ⟨hq, Int.le_refl _, Int.natCast_nonneg _⟩, by rw [hr]; rfl⟩
  · cases h
def c_B_ii (f : List V → Int × Int) (q : List V → Prop) : Contract := fun
  | [.agg [.slc false 2 (.int .i64 0) a0]] => some ([q a0], .tup [.int .i64 ((f a0).1), .int .i64 ((f a0).2)])
  | _ => none
def f_dlt (a : List V) : Int × Int := bif isBr (unI a) then (delT (sq1 (unI a)), 0) else (0, 1)
set_option maxHeartbeats 1000000 in
set_option maxRecDepth 100000 in
theorem s_impl_DeltaInvariant : Sat Try.prog 35 (c_B_ii f_dlt IsIs) := by
  intro args ps r h hp
  unfold c_B_ii at h
  split at h
  · rename_i a0
    simp only [Option.some.injEq, Prod.mk.injEq] at h
    obtain ⟨rfl, rfl⟩ := h
    have hq : IsIs a0 := (alls_cons.1 hp).1
    obtain ⟨xs, hxs⟩ := hq.1
    have g1 : V.frzs a0 = a0 := by rw [hxs, I_frzs]
    generalize H_f0_isBr : f0_isBr = F_f0_isBr
    generalize H_IsIs : IsIs = F_IsIs
    generalize H_f_seq : f_seq = F_f_seq
    generalize H_IsBr : IsBr = F_IsBr
    generalize H_f_delT : f_delT = F_f_delT
    generalize H_q_del : q_del = F_q_del
    refine fnOk_ofI (T := tab) (B := [(28, c_b_bool F_f0_isBr F_IsIs), (64, c_B_l F_f_seq F_IsBr), (63, c_l_int F_f_delT F_q_del)]) (Bi := []) [0, 1, 2, 3] Try.func35 rfl rfl (by kernel_rfl) (Nat.le_of_ble_eq_true rfl) mixed tabOk (by subst H_f0_isBr H_IsIs H_f_seq H_IsBr H_f_delT H_q_del; exact (bookCons s_impl_IsBranch (bookCons s_impl_sequence (bookCons s_impl_deltaOf bookNil)))) (by subst H_f0_isBr H_IsIs H_f_seq H_IsBr H_f_delT H_q_del; exact bookINil) (by kernel_rfl) ?_
    intro L lp rr hL hr hf hlp
    conv => cbv
    simp only [stdEqs hL, imp_self, true_and, and_true, bif_or, bif_and, Bool.or_eq_true, Bool.or_eq_false_iff, Bool.and_eq_true, Bool.and_eq_false_iff, decide_eq_true_eq, decide_eq_false_iff_not, Bool.not_eq_true', Bool.not_eq_false', beq_iff_eq, beq_eq_false_iff_ne, ne_eq, toNat0, toNat1, ok_int, toI_int, I_frzs, I_length, I_getD, ok_ints, toL_slc, true_and, g1]
    subst H_IsIs H_f0_isBr H_IsBr H_q_del H_f_seq H_f_delT
    have e1 : f0_isBr a0 = isBr xs := by rw [hxs, f0_isBr, unI_I]
    have e2 : f_dlt a0 = bif isBr xs then (delT (sq1 xs), 0) else (0, 1) := by rw [f_dlt, hxs, unI_I]
    have e3 : f_seq a0 = I (sq1 xs) := by rw [f_seq, hxs, unI_I]
    rw [e1, e3, I_frzs]
    refine ⟨hq, fun h => ?_, fun h => ⟨⟨xs, hxs, br_of h⟩, ⟨sq1 xs, rfl, sq1_len (br_of h), sq1_low (br_of h)⟩, ?_⟩⟩
    · rw [hr, e2, h]; rfl
    · rw [hr, e2, h, f_delT, unI_I]; rfl
  · cases h
def f_mil (a : List V) : Int × Int := (W (2 * (f_dlt a).1), (f_dlt a).2)
set_option maxHeartbeats 1000000 in
set_option maxRecDepth 100000 in
theorem s_impl_MilnorOfBranch : Sat Try.prog 10 (c_B_ii f_mil IsIs) := by
  intro args ps r h hp
  unfold c_B_ii at h
  split at h
  · rename_i a0
    simp only [Option.some.injEq, Prod.mk.injEq] at h
    obtain ⟨rfl, rfl⟩ := h
    have hq : IsIs a0 := (alls_cons.1 hp).1
    obtain ⟨xs, hxs⟩ := hq.1
    have g1 : V.frzs a0 = a0 := by rw [hxs, I_frzs]
    generalize H_f_dlt : f_dlt = F_f_dlt
    generalize H_IsIs : IsIs = F_IsIs
    refine fnOk_ofI (T := tab) (B := [(35, c_B_ii F_f_dlt F_IsIs)]) (Bi := []) [0, 1, 2, 3, 4, 5] Try.func10 rfl rfl (by kernel_rfl) (Nat.le_of_ble_eq_true rfl) mixed tabOk (by subst H_f_dlt H_IsIs; exact (bookCons s_impl_DeltaInvariant bookNil)) (by subst H_f_dlt H_IsIs; exact bookINil) (by kernel_rfl) ?_
    intro L lp rr hL hr hf hlp
    conv => cbv
    simp only [stdEqs hL, imp_self, true_and, and_true, bif_or, bif_and, Bool.or_eq_true, Bool.or_eq_false_iff, Bool.and_eq_true, Bool.and_eq_false_iff, decide_eq_true_eq, decide_eq_false_iff_not, Bool.not_eq_true', Bool.not_eq_false', beq_iff_eq, beq_eq_false_iff_ne, ne_eq, toNat0, toNat1, ok_int, toI_int, I_frzs, I_length, I_getD, ok_ints, toL_slc, true_and, g1]
    subst H_IsIs H_f_dlt
    exact ⟨hq, by rw [hr]; rfl⟩
  · cases h
set_option maxHeartbeats 1000000 in
set_option maxRecDepth 100000 in
theorem s_laws_FnPolars : Sat Try.prog 3 (c_u_b yesU q_by) := by
  intro args ps r h hp
  unfold c_u_b at h
  split at h
  · rename_i a0
    simp only [Option.some.injEq, Prod.mk.injEq] at h
    obtain ⟨rfl, rfl⟩ := h
    have hq : q_by a0 := (alls_cons.1 hp).1
    have hfr : V.frzs a0 = a0 := by
      obtain ⟨xs, hxs, _⟩ := hq
      rw [hxs, U8_frzs]
    obtain ⟨bs, hbs⟩ : ∃ bs, bs = f_dpi a0 := ⟨_, rfl⟩
    generalize H_f_big : f_big = F_f_big
    generalize H_q_any : q_any = F_q_any
    generalize H_f_dpi : f_dpi = F_f_dpi
    generalize H_IsU : IsU = F_IsU
    generalize H_f_pol : f_pol = F_f_pol
    generalize H_IsIs : IsIs = F_IsIs
    generalize H_f_likes : f_likes = F_f_likes
    generalize H_q_likes : q_likes = F_q_likes
    generalize H_f_mil : f_mil = F_f_mil
    refine fnOk_ofI (T := tab) (B := [(5, c_u_b F_f_big F_q_any), (6, c_u_A F_f_dpi F_IsU), (7, c_B_mi F_f_pol F_IsIs), (8, c_B_mi F_f_pol F_IsIs), (9, c_like_mm F_f_likes F_q_likes), (10, c_B_ii F_f_mil F_IsIs)]) (Bi := []) [0, 2, 3, 4, 5, 6, 7, 8, 9, 10, 11, 12] Try.func3 rfl rfl (by kernel_rfl) (Nat.le_of_ble_eq_true rfl) mixed tabOk (by subst H_f_big H_q_any H_f_dpi H_IsU H_f_pol H_IsIs H_f_likes H_q_likes H_f_mil; exact (bookCons s_laws_big (bookCons s_spec_DrawPolarInvariants (bookCons s_impl_PolarInvariants (bookCons s_spec_PolarInvariants (bookCons s_laws_likeRows5 (bookCons s_impl_MilnorOfBranch bookNil))))))) (by subst H_f_big H_q_any H_f_dpi H_IsU H_f_pol H_IsIs H_f_likes H_q_likes H_f_mil; exact bookINil) (by kernel_rfl) ?_
    intro L lp rr hL hr hf hlp
    conv => cbv
    obtain ⟨xs, hxs⟩ : ∃ xs, xs = (spF a0 0 (f0_from a0)).1 := ⟨_, rfl⟩
    have E1 : F_f_dpi a0 = I xs := by rw [← H_f_dpi, f_dpi, hxs]
    have E2 : F_f_pol (I xs) = bif isBr xs then (II true (pol xs), 0) else ([], 1) := by rw [← H_f_pol, f_pol, unI_I]
    have E3 : ∀ ls : List (List Int), F_f_likes (II false ls) (II false ls) = true := fun ls => by rw [← H_f_likes, f_likes]; simp
    have E4 : F_f_mil (I xs) = bif isBr xs then (W (2 * delT (sq1 xs)), 0) else (W (2 * 0), 1) := by
      rw [← H_f_mil, f_mil, f_dlt, unI_I]
      cases isBr xs <;> rfl
    have E5 : F_f_big a0 = f_big a0 := by rw [← H_f_big]
    have Qi : F_q_any a0 := by rw [← H_q_any]; trivial
    have yes : rr = .bool true := hr
    simp only [stdEqs hL, imp_self, true_and, and_true, bif_or, bif_and, Bool.or_eq_true, Bool.or_eq_false_iff, Bool.and_eq_true, Bool.and_eq_false_iff, decide_eq_true_eq, decide_eq_false_iff_not, Bool.not_eq_true', Bool.not_eq_false', beq_iff_eq, beq_eq_false_iff_ne, ne_eq, toNat0, toNat1, ok_int, toI_int, I_frzs, I_length, I_getD, ok_ints, toL_slc, true_and, hfr, E1, I_frzs, E2, E5]
    refine ⟨Qi, fun _ => yes.symm, fun h1 => ?_⟩
    have hu := by_big hq h1
    obtain ⟨hu1, hu2, hu3⟩ := hu
    have hsl : xs.length ≤ 5 := by rw [hxs]; exact (spF_src (a := 0) (h := f0_from a0) ⟨by_big hq h1, Int.le_refl _, Int.natCast_nonneg _⟩).2
    have Qs : F_IsIs (I xs) := by rw [← H_IsIs]; exact ⟨⟨xs, rfl⟩, by rw [I_length]; omega⟩
    refine ⟨by rw [← H_IsU]; exact by_big hq h1, Qs, Qs, ?_⟩
    cases hb : isBr xs with
    | false =>
      rw [hb] at E4
      simp only [cond_false, V.frzs]
      refine ⟨fun _ => by rw [← H_q_likes]; exact ⟨⟨[], rfl, by simp, by simp⟩, ⟨[], rfl⟩⟩, fun h => ?_, fun _ => ⟨fun _ => yes.symm, fun h => absurd h (by decide)⟩⟩
      rcases h with h | h
      · exact absurd trivial h
      · rw [show F_f_likes [] [] = true from E3 []] at h; cases h
    | true =>
      have hB := br_of hb
      rw [hb] at E4
      simp only [cond_true, II_frzs, E3, not_true, false_or, Bool.true_eq_false, false_imp_iff, true_imp_iff, true_and]
      obtain ⟨g, hg⟩ : ∃ g : Int, g = (xs.length - 1 : Nat) := ⟨_, rfl⟩
      have hp := hB.pos
      obtain ⟨ls, hls⟩ : ∃ ls, ls = II true (pol xs) := ⟨_, rfl⟩
      obtain ⟨b, hbb⟩ : ∃ b, b = I xs := ⟨_, rfl⟩
      obtain ⟨ll, hll⟩ : ∃ ll : Int, ll = ls.length := ⟨_, rfl⟩
      have hllg : ll = g := by rw [hll, hls, II_length, pol, tab_len, hg]
      have gl : ∀ k, ls.getD k (.slc true 2 (.int .i64 0) []) = .slc true 2 (.int .i64 0) (I ((pol xs).getD k [])) := fun k => by rw [hls, II_getD]
      have gb : ∀ k, b.getD k (.int .i64 0) = .int .i64 (xs.getD k 0) := fun k => by rw [hbb, I_getD]
      have hbl : b.length = xs.length := by rw [hbb, I_length]
      have hbf : V.frzs b = b := by rw [hbb, I_frzs]
      refine ⟨?_, ?_⟩
      · rw [← H_q_likes]
        refine ⟨⟨pol xs, rfl, by rw [pol, tab_len]; omega, fun r hr => ?_⟩, _, rfl⟩
        simp only [pol, tab', List.mem_map] at hr
        obtain ⟨k, _, rfl⟩ := hr
        simp [polRow]
      simp only [← hls, ← hbb]
      refine hlp (Int × Int × Int) _ _ _ [3, 4, 8, 9, 10] (fun x => [(3, none, .val (.box 26 (.agg [.slc false 2 (.int .i64 0) b]))), (4, none, .val (.slc true 24 (.slc true 2 (.int .i64 0) []) ls)), (8, none, .val (.int .i64 x.1)), (9, none, .val (.int .i64 x.2.1)), (10, none, .val (.int .i64 x.2.2))])
        (fun x => 0 ≤ x.2.2 ∧ x.2.2 ≤ g ∧ x.1 = polM xs x.2.2.toNat ∧ x.2.1 = polN xs x.2.2.toNat) (fun x => (g - x.2.2).toNat) ((0, 0, 0)) (by subst hL; rfl) ?_ ?_
      · exact ⟨by simp, by simp only; omega, rfl, rfl⟩
      rintro ⟨m, n, i⟩ ⟨i0, i1, hm, hn⟩ hfx ag hag
      simp only at i0 i1 hm hn
      conv => cbv
      have rowE : ∀ k, k < xs.length - 1 → (pol xs).getD k [] = polRow xs k := fun k hk => by rw [pol, tab_get _ _ _ _ hk]
      simp only [stdEqs hL, imp_self, true_and, and_true, bif_or, bif_and, Bool.or_eq_true, Bool.or_eq_false_iff, Bool.and_eq_true, Bool.and_eq_false_iff, decide_eq_true_eq, decide_eq_false_iff_not, Bool.not_eq_true', Bool.not_eq_false', beq_iff_eq, beq_eq_false_iff_ne, ne_eq, toNat0, toNat1, ok_int, toI_int, I_frzs, I_length, I_getD, ok_ints, toL_slc, true_and, gl, ← hll, gb, hbf]
      refine ⟨fun h => ?_, fun h => ?_⟩
      · have hi : i.toNat < xs.length - 1 := by omega
        have hi2 : i.toNat + 1 < xs.length := by omega
        obtain ⟨r1, r2, r3, r4⟩ := polM_step hB hi2
        have r5 := polN_step hB hi2
        have r6 := polN_in hB (n := i.toNat) (by omega)
        have r7 := polN_in hB (n := i.toNat + 1) (by omega)
        have r8 : -64 ≤ polM xs (i.toNat + 1) ∧ polM xs (i.toNat + 1) ≤ 64 := by
          have := dq_in hB (n := i.toNat + 1) hi2
          rw [polM, if_neg (Nat.succ_ne_zero _)]
          omega
        have r9 : ((polRow xs i.toNat).length : Int) = 2 := by rw [r1]; rfl
        rw [rowE _ hi]
        simp only [r9, r1, hm, hn, r2, r5, wrap_id (n := polM xs (i.toNat + 1)) (by omega) (by omega), wrap_id (n := polN xs (i.toNat + 1)) (by omega) (by omega), wrap_id (n := i + 1) (by omega) (by omega)]
        (repeat' first | (exact solid_one _) | (exact solid1 rfl) | (exact noown_one _) | (apply And.intro) | (intro _)) <;> (try first | exact True.intro | omega | rfl | (simp only [List.length_cons, List.length_nil, I_length]; omega))
        have e1 : (i + 1).toNat = i.toNat + 1 := by omega
        exact hag (polM xs (i.toNat + 1), polN xs (i.toNat + 1), i + 1) ⟨by simp only; omega, by simp only; omega, congrArg (polM xs) e1.symm, congrArg (polN xs) e1.symm⟩ (by simp only; omega)
      · obtain ⟨s1, s2, s3, s4⟩ := pol_sums hB
        have hig : i.toNat = xs.length - 1 := by omega
        have x0 := hB.low 0 hB.pos
        have x1 := hB.first
        rw [hbb, E4, hm, hn, hig]
        simp only [cond_true]
        refine ⟨Qs, fun _ => by omega, fun _ => ?_, fun _ => trivial, ?_⟩
        · rw [I_length]; omega
        · rw [yes, s2, s1, show W (2 * delT (sq1 xs)) = 2 * delT (sq1 xs) from wrap_id (by omega) (by omega), wrap_id (n := xs.getD 0 0 - 1) (by omega) (by omega), wrap_id (by omega) (by omega)]
          simp
  · cases h
end Go.Ax
/-
  What an argument of bytes is. No conditions.
-/
set_option linter.all false
namespace Go.Proofs.Ytdibahknjbgdkaa
open Go.ChangeShapes Go.WideShapes Go.ChangeAt Go.RowKit Go.Ax

theorem wt_byte {x : V} (h : Wt tab 5 x) : ∃ n, x = .int .u8 n ∧ 0 ≤ n ∧ n ≤ 255 := by
  cases h with
  | int _ ti k n h hk hn =>
    cases h; cases hk
    refine ⟨n, rfl, ?_⟩
    simp [Lit.wf] at hn
    have h1 : IntKind.u8.min = 0 := rfl
    have h2 : IntKind.u8.max = 255 := rfl
    omega
  | bool _ ti b h hk => cases h; cases hk
  | str _ ti b h hk => cases h; cases hk
  | slc _ ti e es h hk => cases h; cases hk
  | agg _ ti e es h hk => cases h; cases hk
theorem wt_bytes {x : V} (h : Wt tab 22 x) : ∃ es, x = .slc false 5 (.int .u8 0) es ∧ q_by es := by
  cases h with
  | int _ ti k n h hk hn => cases h; cases hk
  | bool _ ti b h hk => cases h; cases hk
  | str _ ti b h hk => cases h; cases hk
  | slc _ ti e es h hk hl he =>
    cases h; cases hk
    refine ⟨es, rfl, ?_⟩
    clear hl
    induction es with
    | nil => exact ⟨[], rfl, by simp⟩
    | cons y es ih =>
      obtain ⟨l, hl, hr⟩ := ih (fun i y hy => he (i + 1) y (by simpa using hy))
      obtain ⟨n, hn, h0, h1⟩ := wt_byte (he 0 y rfl)
      refine ⟨n :: l, by rw [hl, hn]; rfl, fun x hx => ?_⟩
      rcases List.mem_cons.1 hx with rfl | hx
      · exact ⟨h0, h1⟩
      · exact hr x hx
  | agg _ ti e es h hk => cases h; cases hk
end Go.Proofs.Ytdibahknjbgdkaa
