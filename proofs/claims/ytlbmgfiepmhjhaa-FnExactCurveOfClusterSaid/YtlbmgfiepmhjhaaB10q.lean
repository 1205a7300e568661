import Derived.Test.YtlbmgfiepmhjhaaB07q
/-
  What a cluster is: IsCluster on both sides. No conditions but those of the contracts.
-/
set_option linter.all false
namespace Go.Ax
open Go.Proofs

def placeB (P S : List Int) (i : Nat) : Bool := if i = 0 then decide (P.getD 0 0 = -1) && decide (S.getD 0 0 = -1) else
  (decide (0 ≤ P.getD i 0) && decide (P.getD i 0 < i)) && (decide (S.getD i 0 = -1) || decide (0 ≤ S.getD i 0) && (decide (S.getD i 0 = P.getD (P.getD i 0).toNat 0) || decide (S.getD i 0 = S.getD (P.getD i 0).toNat 0)))
def diffB (P S : List Int) (i j : Nat) : Bool := !(decide (0 ≤ S.getD i 0) && decide (S.getD i 0 = S.getD j 0) && decide (P.getD i 0 = P.getD j 0))
structure ClP (P S Q : List Int) : Prop where
  n1 : 1 ≤ P.length
  n24 : P.length ≤ 24
  sl : S.length = P.length
  ql : Q.length = P.length
  q : ∀ i, i < P.length → -100000 ≤ Q.getD i 0 ∧ Q.getD i 0 ≤ 100000
  place : ∀ i, i < P.length → placeB P S i = true
  diff : ∀ i j, i < P.length → j < i → diffB P S i j = true
noncomputable def isCl (P S Q : List Int) : Bool := @decide (ClP P S Q) (Classical.propDecidable _)
theorem isCl_iff {P S Q : List Int} : isCl P S Q = true ↔ ClP P S Q := by
  rw [isCl]
  exact @decide_eq_true_iff _ (Classical.propDecidable _)
theorem isCl_no {P S Q : List Int} (h : ¬ ClP P S Q) : isCl P S Q = false := by
  cases hb : isCl P S Q with
  | false => rfl
  | true => exact absurd (isCl_iff.1 hb) h
theorem placeB_0 {P S : List Int} : placeB P S 0 = true ↔ P.getD 0 0 = -1 ∧ S.getD 0 0 = -1 := by
  rw [placeB, if_pos rfl]
  simp only [Bool.and_eq_true, decide_eq_true_eq]
theorem placeB_s {P S : List Int} {i : Nat} (hi : i ≠ 0) : placeB P S i = true ↔ (0 ≤ P.getD i 0 ∧ P.getD i 0 < i) ∧ (S.getD i 0 = -1 ∨ 0 ≤ S.getD i 0 ∧ (S.getD i 0 = P.getD (P.getD i 0).toNat 0 ∨ S.getD i 0 = S.getD (P.getD i 0).toNat 0)) := by
  rw [placeB, if_neg hi]
  simp only [Bool.and_eq_true, Bool.or_eq_true, decide_eq_true_eq]
theorem place_low {P S : List Int} {i : Nat} (h : ∀ t, t ≤ i → placeB P S t = true) : ∀ t, t ≤ i → -1 ≤ P.getD t 0 ∧ P.getD t 0 < t ∧ -1 ≤ S.getD t 0 ∧ (0 < t → S.getD t 0 < t) := by
  intro t
  induction t using Nat.strongRecOn with
  | ind t ih =>
    intro ht
    have hp := h t ht
    by_cases h0 : t = 0
    · subst h0
      obtain ⟨h1, h2⟩ := placeB_0.1 hp
      omega
    · obtain ⟨⟨h1, h2⟩, h3⟩ := (placeB_s h0).1 hp
      have h4 := ih (P.getD t 0).toNat (by omega) (by omega)
      refine ⟨by omega, h2, by omega, fun _ => ?_⟩
      rcases h3 with h3 | ⟨_, h3 | h3⟩
      · omega
      · omega
      · by_cases h5 : (P.getD t 0).toNat = 0
        · have := placeB_0.1 (h 0 (by omega))
          rw [h5] at h3
          omega
        · have := h4.2.2.2 (by omega)
          omega
def c_K_b (f : List V → List V → List V → Bool) (q : List V → List V → List V → Prop) : Contract := fun
  | [.agg [.slc false 2 (.int .i64 0) a0, .slc false 2 (.int .i64 0) a1, .slc false 2 (.int .i64 0) a2]] => some ([q a0 a1 a2], .bool (f a0 a1 a2))
  | _ => none
noncomputable def f_isCl (a b c : List V) : Bool := isCl (unI a) (unI b) (unI c)
def q_K (a b c : List V) : Prop := IsI a ∧ IsI b ∧ IsI c
def c_Ki_b (f : List V → List V → List V → Int → Bool) (q : List V → List V → List V → Int → Prop) : Contract := fun
  | [.agg [.slc false 2 (.int .i64 0) a0, .slc false 2 (.int .i64 0) a1, .slc false 2 (.int .i64 0) a2], .int .i64 a3] => some ([q a0 a1 a2 a3], .bool (f a0 a1 a2 a3))
  | _ => none
def f_place (a b _ : List V) (i : Int) : Bool := placeB (unI a) (unI b) i.toNat
def q_place (a b c : List V) (i : Int) : Prop := IsI a ∧ IsI b ∧ IsI c ∧ 0 ≤ i ∧ i < a.length ∧ a.length ≤ 24 ∧ b.length = a.length
set_option maxHeartbeats 1000000 in
set_option maxRecDepth 100000 in
theorem s_impl_isPlace : Sat Try.prog 93 (c_Ki_b f_place q_place) := by
  intro args ps r h hp
  unfold c_Ki_b at h
  split at h
  · rename_i a0 a1 a2 i
    simp only [Option.some.injEq, Prod.mk.injEq] at h
    obtain ⟨rfl, rfl⟩ := h
    obtain ⟨⟨P, hP⟩, ⟨S, hS⟩, ⟨Q, hQ⟩, i0, i1, h24, hsl⟩ : q_place a0 a1 a2 i := (alls_cons.1 hp).1
    have g0 : V.frzs a0 = a0 := by rw [hP, I_frzs]
    have g1 : V.frzs a1 = a1 := by rw [hS, I_frzs]
    have g2 : V.frzs a2 = a2 := by rw [hQ, I_frzs]
    have hpl : a0.length = P.length := by rw [hP, I_length]
    have hsl2 : a1.length = P.length := by rw [hsl, hpl]
    have gp : ∀ k, a0.getD k (.int .i64 0) = .int .i64 (P.getD k 0) := fun k => by rw [hP, I_getD]
    have gs : ∀ k, a1.getD k (.int .i64 0) = .int .i64 (S.getD k 0) := fun k => by rw [hS, I_getD]
    have hf0 : f_place a0 a1 a2 i = placeB P S i.toNat := by rw [f_place, hP, hS, unI_I, unI_I]
    rw [hpl] at i1 h24
    generalize H_inRange : inRange = F_inRange
    refine fnOk_ofI (T := tab) (B := [(60, c_impl_inRange F_inRange)]) (Bi := []) [0, 1, 2, 4, 5, 6] Try.func93 rfl rfl (by kernel_rfl) (Nat.le_of_ble_eq_true rfl) mixed tabOk (by subst H_inRange; exact (bookCons s_impl_inRange bookNil)) (by subst H_inRange; exact bookINil) (by kernel_rfl) ?_
    intro L lp rr hL hr hf hlp
    have E1 : ∀ x a b, F_inRange x a b = inRange x a b := fun x a b => by rw [← H_inRange]
    conv => cbv
    have hw : i ≠ 0 → IntKind.wrap .i64 (i - 1) = i - 1 := fun _ => wrap_id (by omega) (by omega)
    simp only [stdEqs hL, imp_self, true_and, and_true, bif_or, bif_and, Bool.or_eq_true, Bool.or_eq_false_iff, Bool.and_eq_true, Bool.and_eq_false_iff, decide_eq_true_eq, decide_eq_false_iff_not, Bool.not_eq_true', Bool.not_eq_false', beq_iff_eq, beq_eq_false_iff_ne, ne_eq, toNat0, toNat1, ok_int, toI_int, I_frzs, I_length, I_getD, ok_ints, toL_slc, g0, g1, g2, hpl, hsl2, gp, gs, E1]
    refine ⟨i0, i1, i0, i1, fun h0 => ?_, fun h0 => ?_⟩
    · have e : i.toNat = 0 := by omega
      rw [hr, hf0, e, placeB, if_pos rfl]; rfl
    have hi0 : ¬ i.toNat = 0 := by omega
    rw [hw h0, inRange]
    refine ⟨fun h1 => ?_, fun h1 => ?_⟩
    · rw [hr, hf0, placeB, if_neg hi0, show decide (P.getD i.toNat 0 < (i.toNat : Int)) = decide (P.getD i.toNat 0 ≤ i - 1) from decide_eq_decide.2 (by omega), h1]
      rfl
    simp only [Bool.and_eq_true, decide_eq_true_eq] at h1
    obtain ⟨p0, p1⟩ := h1
    obtain ⟨p, hpp⟩ : ∃ p, p = P.getD i.toNat 0 := ⟨_, rfl⟩
    obtain ⟨s, hss⟩ : ∃ s, s = S.getD i.toNat 0 := ⟨_, rfl⟩
    rw [← hpp] at p0 p1 ⊢
    rw [← hss]
    refine ⟨fun _ => p0, fun _ => by omega, fun _ => trivial, fun _ => p0, fun _ => by omega, fun _ => trivial, fun h2 h3 => ⟨h2, h3⟩, fun h2 h3 => ⟨h2, h3⟩, ?_⟩
    rw [hr, hf0, placeB, if_neg hi0, ← hpp, ← hss, decide_eq_true p0, decide_eq_true (show p < (i.toNat : Int) by omega), Bool.and_self, Bool.true_and]
    rfl
  · cases h
set_option maxHeartbeats 1000000 in
set_option maxRecDepth 100000 in
theorem s_impl_IsCluster : Sat Try.prog 57 (c_K_b f_isCl q_K) := by
  intro args ps r h hp
  unfold c_K_b at h
  split at h
  · rename_i a0 a1 a2
    simp only [Option.some.injEq, Prod.mk.injEq] at h
    obtain ⟨rfl, rfl⟩ := h
    have hq : q_K a0 a1 a2 := (alls_cons.1 hp).1
    obtain ⟨⟨P, hP⟩, ⟨S, hS⟩, ⟨Q, hQ⟩⟩ := id hq
    have g0 : V.frzs a0 = a0 := by rw [hP, I_frzs]
    have g1 : V.frzs a1 = a1 := by rw [hS, I_frzs]
    have g2 : V.frzs a2 = a2 := by rw [hQ, I_frzs]
    have hpl : a0.length = P.length := by rw [hP, I_length]
    have hsl : a1.length = S.length := by rw [hS, I_length]
    have hql : a2.length = Q.length := by rw [hQ, I_length]
    have gp : ∀ k, a0.getD k (.int .i64 0) = .int .i64 (P.getD k 0) := fun k => by rw [hP, I_getD]
    have gs : ∀ k, a1.getD k (.int .i64 0) = .int .i64 (S.getD k 0) := fun k => by rw [hS, I_getD]
    have hf0 : f_isCl a0 a1 a2 = isCl P S Q := by rw [f_isCl, hP, hS, hQ, unI_I, unI_I, unI_I]
    have hno : ¬ ClP P S Q → f_isCl a0 a1 a2 = false := fun h => by rw [hf0, isCl_no h]
    obtain ⟨n, hn⟩ : ∃ n : Int, n = P.length := ⟨_, rfl⟩
    generalize H_f_within : f_within = F_f_within
    generalize H_IsI : IsI = F_IsI
    generalize H_f_place : f_place = F_f_place
    generalize H_q_place : q_place = F_q_place
    refine fnOk_ofI (T := tab) (B := [(72, c_impl_within F_f_within F_IsI), (93, c_Ki_b F_f_place F_q_place)]) (Bi := []) [0, 1, 2, 3, 4, 5, 33, 34, 41, 42] Try.func57 rfl rfl (by kernel_rfl) (Nat.le_of_ble_eq_true rfl) mixed tabOk (by subst H_f_within H_IsI H_f_place H_q_place; exact (bookCons s_impl_within (bookCons s_impl_isPlace bookNil))) (by subst H_f_within H_IsI H_f_place H_q_place; exact bookINil) (by kernel_rfl) ?_
    intro L lp rr hL hr hf hlp
    have Ew : ∀ x y, F_f_within a2 x y = within Q x y := fun x y => by rw [← H_f_within, f_within, hQ, unI_I]
    have Ep : ∀ i, F_f_place a0 a1 a2 i = placeB P S i.toNat := fun i => by rw [← H_f_place, f_place, hP, hS, unI_I, unI_I]
    conv => cbv
    simp only [stdEqs hL, imp_self, true_and, and_true, bif_or, bif_and, Bool.or_eq_true, Bool.or_eq_false_iff, Bool.and_eq_true, Bool.and_eq_false_iff, decide_eq_true_eq, decide_eq_false_iff_not, Bool.not_eq_true', Bool.not_eq_false', beq_iff_eq, beq_eq_false_iff_ne, ne_eq, toNat0, toNat1, ok_int, toI_int, I_frzs, I_length, I_getD, ok_ints, toL_slc, g0, g1, g2, hpl, hsl, hql, ← hn, Ew]
    refine ⟨fun h => ?_, fun h => ⟨?_, fun hw => ?_, fun hw => ?_⟩⟩
    · rw [hr, hno (fun c => by have := c.n1; have := c.n24; have := c.sl; have := c.ql; omega)]
    · rw [← H_IsI]; exact hq.2.2
    · rw [hr, hno (fun c => ?_)]
      have hw' : within Q (-100000) 100000 = true := by
        rw [within, List.all_eq_true]
        intro x hx
        obtain ⟨i, hi, rfl⟩ := List.mem_iff_getElem.1 hx
        have := c.q i (by have := c.ql; omega)
        rw [List.getD_eq_getElem?_getD, List.getElem?_eq_getElem hi] at this
        simp only [Option.getD_some] at this
        simp only [inRange, Bool.and_eq_true, decide_eq_true_eq]
        exact this
      rw [hw'] at hw; cases hw
    obtain ⟨⟨⟨n1, n24⟩, hsl2⟩, hql2⟩ := h
    have hSl : S.length = P.length := by omega
    have hQl : Q.length = P.length := by omega
    have hqr : ∀ i, i < P.length → -100000 ≤ Q.getD i 0 ∧ Q.getD i 0 ≤ 100000 := fun i hi => by
      rw [within, List.all_eq_true] at hw
      have := hw (Q.getD i 0) (by rw [List.getD_eq_getElem?_getD, List.getElem?_eq_getElem (by omega)]; exact List.getElem_mem _)
      simpa only [inRange, Bool.and_eq_true, decide_eq_true_eq] using this
    refine hlp (Int) _ _ _ [1, 33, 34] (fun x => [(1, none, .val (.box 46 (.agg [.slc false 2 (.int .i64 0) a0, .slc false 2 (.int .i64 0) a1, .slc false 2 (.int .i64 0) a2]))), (33, none, .val (.int .i64 n)), (34, none, .val (.int .i64 x))])
      (fun x => 0 ≤ x ∧ x ≤ n ∧ (∀ i, i < x.toNat → placeB P S i = true) ∧ (∀ i j, i < x.toNat → j < i → diffB P S i j = true)) (fun x => (n - x).toNat) (0) (by subst hL; rfl) ?_ ?_
    · exact ⟨by omega, by omega, fun i hi => by simp at hi, fun i j hi => by simp at hi⟩
    intro i ⟨i0, i1, hpl1, hdf1⟩ hfx ag hag
    conv => cbv
    simp only [stdEqs hL, imp_self, true_and, and_true, bif_or, bif_and, Bool.or_eq_true, Bool.or_eq_false_iff, Bool.and_eq_true, Bool.and_eq_false_iff, decide_eq_true_eq, decide_eq_false_iff_not, Bool.not_eq_true', Bool.not_eq_false', beq_iff_eq, beq_eq_false_iff_ne, ne_eq, toNat0, toNat1, ok_int, toI_int, I_frzs, I_length, I_getD, ok_ints, toL_slc, g0, g1, g2, hpl, hsl, hql, ← hn, Ep, gp, gs]
    refine ⟨fun h2 => ⟨?_, fun h3 => ?_, fun h3 => ?_⟩, fun h2 => ?_⟩
    · rw [← H_q_place]; exact ⟨hq.1, hq.2.1, hq.2.2, i0, by omega, by omega, by omega⟩
    · rw [hr, hno (fun c => by have := c.place i.toNat (by omega); rw [this] at h3; cases h3)]
    · refine hlp (Int) _ _ _ [1, 4, 33, 34, 41, 42] (fun x => [(1, none, .val (.box 46 (.agg [.slc false 2 (.int .i64 0) a0, .slc false 2 (.int .i64 0) a1, .slc false 2 (.int .i64 0) a2]))), (4, none, .val (.int .i64 i)), (33, none, .val (.int .i64 n)), (34, none, .val (.int .i64 i)), (41, none, .val (.int .i64 i)), (42, none, .val (.int .i64 x))])
        (fun x => 0 ≤ x ∧ x ≤ i ∧ ∀ j, j < x.toNat → diffB P S i.toNat j = true) (fun x => (i - x).toNat) (0) (by subst hL; rfl) ?_ ?_
      · exact ⟨by omega, by omega, fun i hi => by simp at hi⟩
      intro j ⟨j0, j1, hdj⟩ hfx2 ag2 hag2
      conv => cbv
      simp only [stdEqs hL, imp_self, true_and, and_true, bif_or, bif_and, Bool.or_eq_true, Bool.or_eq_false_iff, Bool.and_eq_true, Bool.and_eq_false_iff, decide_eq_true_eq, decide_eq_false_iff_not, Bool.not_eq_true', Bool.not_eq_false', beq_iff_eq, beq_eq_false_iff_ne, ne_eq, toNat0, toNat1, ok_int, toI_int, I_frzs, I_length, I_getD, ok_ints, toL_slc, g0, g1, g2, hpl, hsl, hql, ← hn, gp, gs]
      refine ⟨fun h4 => ?_, fun h4 => ?_⟩
      · refine ⟨i0, by omega, fun _ => i0, fun _ => by omega, fun _ => trivial, fun _ => j0, fun _ => by omega, fun _ => trivial, fun _ => i0, fun _ => h2, fun _ => trivial, fun _ => j0, fun _ => by omega, fun _ => trivial, fun ⟨⟨h5, h6⟩, h7⟩ => ?_, fun h5 => ?_⟩
        · rw [hr, hno (fun c => ?_)]
          have := c.diff i.toNat j.toNat (by omega) (by omega)
          rw [diffB, decide_eq_true h5, decide_eq_true h6, decide_eq_true h7] at this
          cases this
        · rw [wrap_id (n := j + 1) (by omega) (by omega)]
          refine hag2 (j + 1) ⟨by omega, by omega, fun t ht => ?_⟩ (by omega)
          rw [toNat_succ j0] at ht
          by_cases htj : t = j.toNat
          · rw [htj, diffB]
            rcases h5 with (h5 | h5) | h5
            · rw [decide_eq_false h5]; rfl
            · rw [decide_eq_false h5, Bool.and_false]; rfl
            · rw [decide_eq_false h5, Bool.and_false]; rfl
          · exact hdj t (by omega)
      · rw [wrap_id (n := i + 1) (by omega) (by omega)]
        refine hag (i + 1) ⟨by omega, by omega, fun t ht => ?_, fun t u ht hu => ?_⟩ (by omega)
        · rw [toNat_succ i0] at ht
          by_cases hti : t = i.toNat
          · rw [hti]; exact h3
          · exact hpl1 t (by omega)
        · rw [toNat_succ i0] at ht
          by_cases hti : t = i.toNat
          · rw [hti]; exact hdj u (by omega)
          · exact hdf1 t u (by omega) hu
    · have hcl : ClP P S Q := ⟨by omega, by omega, hSl, hQl, hqr, fun k hk => hpl1 k (by omega), fun k j hk hj => hdf1 k j (by omega) hj⟩
      rw [hr, hf0, isCl_iff.2 hcl]
  · cases h
def c_Kii_b (f : List V → List V → List V → Int → Int → Bool) (q : List V → List V → List V → Int → Int → Prop) : Contract := fun
  | [.agg [.slc false 2 (.int .i64 0) a0, .slc false 2 (.int .i64 0) a1, .slc false 2 (.int .i64 0) a2], .int .i64 a3, .int .i64 a4] => some ([q a0 a1 a2 a3 a4], .bool (f a0 a1 a2 a3 a4))
  | _ => none
def f_nr (a b _ : List V) (i j : Int) : Bool := decide (0 ≤ j) && (decide ((unI a).getD i.toNat 0 = j) || decide ((unI b).getD i.toNat 0 = j))
def q_nr (a b c : List V) (i _ : Int) : Prop := IsI a ∧ IsI b ∧ IsI c ∧ 0 ≤ i ∧ i < a.length ∧ b.length = a.length
set_option maxHeartbeats 1000000 in
set_option maxRecDepth 100000 in
theorem s_spec_l07Near : Sat Try.prog 88 (c_Kii_b f_nr q_nr) := by
  intro args ps r h hp
  unfold c_Kii_b at h
  split at h
  · rename_i a0 a1 a2 i j
    simp only [Option.some.injEq, Prod.mk.injEq] at h
    obtain ⟨rfl, rfl⟩ := h
    obtain ⟨⟨P, hP⟩, ⟨S, hS⟩, ⟨Q, hQ⟩, i0, i1, hsl⟩ : q_nr a0 a1 a2 i j := (alls_cons.1 hp).1
    have g0 : V.frzs a0 = a0 := by rw [hP, I_frzs]
    have g1 : V.frzs a1 = a1 := by rw [hS, I_frzs]
    have g2 : V.frzs a2 = a2 := by rw [hQ, I_frzs]
    have hpl : a0.length = P.length := by rw [hP, I_length]
    have hsl2 : a1.length = P.length := by rw [hsl, hpl]
    have gp : ∀ k, a0.getD k (.int .i64 0) = .int .i64 (P.getD k 0) := fun k => by rw [hP, I_getD]
    have gs : ∀ k, a1.getD k (.int .i64 0) = .int .i64 (S.getD k 0) := fun k => by rw [hS, I_getD]
    have hf0 : f_nr a0 a1 a2 i j = (decide (0 ≤ j) && (decide (P.getD i.toNat 0 = j) || decide (S.getD i.toNat 0 = j))) := by rw [f_nr, hP, hS, unI_I, unI_I]
    rw [hpl] at i1
    refine fnOk_ofI (T := tab) (B := []) (Bi := []) [0, 1, 2, 3, 6] Try.func88 rfl rfl (by kernel_rfl) (Nat.le_of_ble_eq_true rfl) mixed tabOk (by exact bookNil) (by exact bookINil) (by kernel_rfl) ?_
    intro L lp rr hL hr hf hlp
    conv => cbv
    simp only [stdEqs hL, imp_self, true_and, and_true, bif_or, bif_and, Bool.or_eq_true, Bool.or_eq_false_iff, Bool.and_eq_true, Bool.and_eq_false_iff, decide_eq_true_eq, decide_eq_false_iff_not, Bool.not_eq_true', Bool.not_eq_false', beq_iff_eq, beq_eq_false_iff_ne, ne_eq, toNat0, toNat1, ok_int, toI_int, I_frzs, I_length, I_getD, ok_ints, toL_slc, g0, g1, g2, hpl, hsl2, gp, gs]
    refine ⟨fun _ => i0, fun _ => i1, fun _ => trivial, fun _ => i0, fun _ => i1, fun _ => trivial, fun h2 h3 => ⟨h2, h3⟩, ?_⟩
    rw [hr, hf0]
    rfl
  · cases h
set_option maxHeartbeats 1000000 in
set_option maxRecDepth 100000 in
theorem s_spec_l07Is : Sat Try.prog 52 (c_K_b f_isCl q_K) := by
  intro args ps r h hp
  unfold c_K_b at h
  split at h
  · rename_i a0 a1 a2
    simp only [Option.some.injEq, Prod.mk.injEq] at h
    obtain ⟨rfl, rfl⟩ := h
    have hq : q_K a0 a1 a2 := (alls_cons.1 hp).1
    obtain ⟨⟨P, hP⟩, ⟨S, hS⟩, ⟨Q, hQ⟩⟩ := id hq
    have g0 : V.frzs a0 = a0 := by rw [hP, I_frzs]
    have g1 : V.frzs a1 = a1 := by rw [hS, I_frzs]
    have g2 : V.frzs a2 = a2 := by rw [hQ, I_frzs]
    have hpl : a0.length = P.length := by rw [hP, I_length]
    have hsl : a1.length = S.length := by rw [hS, I_length]
    have hql : a2.length = Q.length := by rw [hQ, I_length]
    have gp : ∀ k, a0.getD k (.int .i64 0) = .int .i64 (P.getD k 0) := fun k => by rw [hP, I_getD]
    have gs : ∀ k, a1.getD k (.int .i64 0) = .int .i64 (S.getD k 0) := fun k => by rw [hS, I_getD]
    have gq : ∀ k, a2.getD k (.int .i64 0) = .int .i64 (Q.getD k 0) := fun k => by rw [hQ, I_getD]
    have hf0 : f_isCl a0 a1 a2 = isCl P S Q := by rw [f_isCl, hP, hS, hQ, unI_I, unI_I, unI_I]
    have hno : ¬ ClP P S Q → f_isCl a0 a1 a2 = false := fun h => by rw [hf0, isCl_no h]
    obtain ⟨n, hn⟩ : ∃ n : Int, n = P.length := ⟨_, rfl⟩
    generalize H_inRange : inRange = F_inRange
    generalize H_f_nr : f_nr = F_f_nr
    generalize H_q_nr : q_nr = F_q_nr
    refine fnOk_ofI (T := tab) (B := [(69, c_impl_inRange F_inRange), (88, c_Kii_b F_f_nr F_q_nr)]) (Bi := []) [0, 1, 2, 3, 4, 5] Try.func52 rfl rfl (by kernel_rfl) (Nat.le_of_ble_eq_true rfl) mixed tabOk (by subst H_inRange H_f_nr H_q_nr; exact (bookCons s_spec_l01In (bookCons s_spec_l07Near bookNil))) (by subst H_inRange H_f_nr H_q_nr; exact bookINil) (by kernel_rfl) ?_
    intro L lp rr hL hr hf hlp
    have Er : ∀ x a b, F_inRange x a b = (decide (a ≤ x) && decide (x ≤ b)) := fun x a b => by rw [← H_inRange, inRange]
    have En : ∀ i j, F_f_nr a0 a1 a2 i j = (decide (0 ≤ j) && (decide (P.getD i.toNat 0 = j) || decide (S.getD i.toNat 0 = j))) := fun i j => by rw [← H_f_nr, f_nr, hP, hS, unI_I, unI_I]
    conv => cbv
    simp only [stdEqs hL, imp_self, true_and, and_true, bif_or, bif_and, Bool.or_eq_true, Bool.or_eq_false_iff, Bool.and_eq_true, Bool.and_eq_false_iff, decide_eq_true_eq, decide_eq_false_iff_not, Bool.not_eq_true', Bool.not_eq_false', beq_iff_eq, beq_eq_false_iff_ne, ne_eq, toNat0, toNat1, ok_int, toI_int, I_frzs, I_length, I_getD, ok_ints, toL_slc, g0, g1, g2, hpl, hsl, hql, ← hn, Er, gp, gs]
    refine ⟨fun h => by omega, fun h => by omega, fun _ => trivial, fun h => by omega, fun h => by omega, fun _ => trivial, fun h => ?_, fun h => ?_⟩
    · rw [hr, hno (fun c => ?_)]
      have c1 := c.n1
      have c2 := c.n24
      have c3 := c.sl
      have c4 := c.ql
      have c5 := placeB_0.1 (c.place 0 (by omega))
      omega
    obtain ⟨⟨⟨⟨⟨n1, n24⟩, hsl2⟩, hql2⟩, hp0⟩, hs0⟩ := h
    have hSl : S.length = P.length := by omega
    have hQl : Q.length = P.length := by omega
    refine hlp (Int) _ _ _ [1, 3, 4] (fun x => [(1, none, .val (.box 46 (.agg [.slc false 2 (.int .i64 0) a0, .slc false 2 (.int .i64 0) a1, .slc false 2 (.int .i64 0) a2]))), (3, none, .val (.int .i64 n)), (4, none, .val (.int .i64 x))])
      (fun x => 0 ≤ x ∧ x ≤ n ∧ (∀ i, i < x.toNat → -100000 ≤ Q.getD i 0 ∧ Q.getD i 0 ≤ 100000) ∧ (∀ i, i < x.toNat → placeB P S i = true) ∧ (∀ i j, i < x.toNat → j < i → diffB P S i j = true)) (fun x => (n - x).toNat) (0) (by subst hL; rfl) ?_ ?_
    · exact ⟨by omega, by omega, fun i hi => by simp at hi, fun i hi => by simp at hi, fun i j hi => by simp at hi⟩
    intro i ⟨i0, i1, hqr, hpl1, hdf1⟩ hfx ag hag
    conv => cbv
    simp only [stdEqs hL, imp_self, true_and, and_true, bif_or, bif_and, Bool.or_eq_true, Bool.or_eq_false_iff, Bool.and_eq_true, Bool.and_eq_false_iff, decide_eq_true_eq, decide_eq_false_iff_not, Bool.not_eq_true', Bool.not_eq_false', beq_iff_eq, beq_eq_false_iff_ne, ne_eq, toNat0, toNat1, ok_int, toI_int, I_frzs, I_length, I_getD, ok_ints, toL_slc, g0, g1, g2, hpl, hsl, hql, ← hn, Er, En, gp, gs, gq]
    refine ⟨fun h2 => ?_, fun h2 => ?_⟩
    · have hwi : IntKind.wrap .i64 (i + 1) = i + 1 := wrap_id (by omega) (by omega)
      have hag' : (-100000 ≤ Q.getD i.toNat 0 ∧ Q.getD i.toNat 0 ≤ 100000) → placeB P S i.toNat = true → (∀ j, j < i.toNat → diffB P S i.toNat j = true) → (0 ≤ i + 1 ∧ i + 1 ≤ n ∧ (∀ t, t < (i + 1).toNat → -100000 ≤ Q.getD t 0 ∧ Q.getD t 0 ≤ 100000) ∧ (∀ t, t < (i + 1).toNat → placeB P S t = true) ∧ (∀ t j, t < (i + 1).toNat → j < t → diffB P S t j = true)) := fun u1 u2 u3 => by
        refine ⟨by omega, by omega, fun t ht => ?_, fun t ht => ?_, fun t j ht hj => ?_⟩
        · by_cases e : t = i.toNat
          · rw [e]; exact u1
          · exact hqr t (by omega)
        · by_cases e : t = i.toNat
          · rw [e]; exact u2
          · exact hpl1 t (by omega)
        · by_cases e : t = i.toNat
          · rw [e]; exact u3 j (by omega)
          · exact hdf1 t j (by omega) hj
      rw [hwi]
      refine ⟨i0, by omega, fun h3 => ?_, fun h3 => ⟨fun h4 => ?_, fun h4 => ⟨i0, h2, ?_⟩⟩⟩
      · rw [hr, hno (fun c => by have := c.q i.toNat (by omega); omega)]
      · have e0 : i.toNat = 0 := by omega
        refine hag (i + 1) (hag' h3 ?_ ?_) (by omega)
        · rw [e0]; exact placeB_0.2 ⟨hp0, hs0⟩
        · intro j hj; omega
      have hwm : IntKind.wrap .i64 (i - 1) = i - 1 := wrap_id (by omega) (by omega)
      have hi0 : ¬ i.toNat = 0 := by omega
      rw [hwm]
      obtain ⟨p, hpp⟩ : ∃ p, p = P.getD i.toNat 0 := ⟨_, rfl⟩
      obtain ⟨s, hss⟩ : ∃ s, s = S.getD i.toNat 0 := ⟨_, rfl⟩
      have hpb := @placeB_s P S i.toNat hi0
      rw [← hpp, ← hss] at hpb
      rw [← hpp, ← hss]
      have hlow : ClP P S Q → (0 ≤ p ∧ p < i) ∧ s < i ∧ (s = -1 ∨ 0 ≤ s ∧ (s = P.getD p.toNat 0 ∨ s = S.getD p.toNat 0)) := fun c => by
        have := place_low (i := i.toNat) (fun t ht => c.place t (by omega)) i.toNat (Nat.le_refl _)
        rw [← hpp, ← hss] at this
        have h5 := hpb.1 (c.place i.toNat (by omega))
        exact ⟨by omega, by omega, h5.2⟩
      have hdneg : s = -1 → ∀ j, diffB P S i.toNat j = true := fun h j => by
        rw [diffB, ← hss, decide_eq_false (show ¬ 0 ≤ s by omega)]; rfl
      refine ⟨fun h5 => ?_, fun h5 => ⟨i0, by omega, fun h6 => ?_, fun h6 => ?_⟩⟩
      · rw [hr, hno (fun c => by have := hlow c; omega)]
      · exact hag (i + 1) (hag' h3 (hpb.2 ⟨by omega, .inl h6⟩) (fun j _ => hdneg h6 j)) (by omega)
      refine ⟨i0, by omega, fun _ => i0, fun _ => h2, fun _ => trivial, fun _ => i0, fun _ => by omega, fun _ => trivial, fun _ => ?_, fun h7 => ?_, fun h7 => ?_⟩
      · rw [← H_q_nr]; exact ⟨hq.1, hq.2.1, hq.2.2, h5.1, by omega, by omega⟩
      · rw [hr, hno (fun c => ?_)]
        obtain ⟨c1, c2, c3⟩ := hlow c
        rcases c3 with c3 | ⟨c3, c4⟩
        · exact h6 c3
        · rcases h7 with (h7 | h7) | h7 | h7
          · exact h7 c3
          · omega
          · exact h7 c3
          · rcases c4 with c4 | c4
            · exact h7.1 c4.symm
            · exact h7.2 c4.symm
      · obtain ⟨⟨s0, s1⟩, _, s3⟩ := h7
        have hpl2 : placeB P S i.toNat = true := hpb.2 ⟨by omega, .inr ⟨s0, s3.imp Eq.symm Eq.symm⟩⟩
        refine hlp (Int) _ _ _ [1, 3, 4, 5] (fun x => [(1, none, .val (.box 46 (.agg [.slc false 2 (.int .i64 0) a0, .slc false 2 (.int .i64 0) a1, .slc false 2 (.int .i64 0) a2]))), (3, none, .val (.int .i64 n)), (4, none, .val (.int .i64 i)), (5, none, .val (.int .i64 x))])
          (fun x => 1 ≤ x ∧ x ≤ i ∧ ∀ j, j < x.toNat → diffB P S i.toNat j = true) (fun x => (i - x).toNat) (1) (by subst hL; rfl) ?_ ?_
        · refine ⟨by omega, by omega, fun j hj => ?_⟩
          have : j = 0 := by omega
          subst this
          rw [diffB, hs0, ← hss, decide_eq_false (show ¬ s = -1 by omega)]
          cases decide (0 ≤ s) <;> rfl
        intro j ⟨j0, j1, hdj⟩ hfx2 ag2 hag2
        conv => cbv
        simp only [stdEqs hL, imp_self, true_and, and_true, bif_or, bif_and, Bool.or_eq_true, Bool.or_eq_false_iff, Bool.and_eq_true, Bool.and_eq_false_iff, decide_eq_true_eq, decide_eq_false_iff_not, Bool.not_eq_true', Bool.not_eq_false', beq_iff_eq, beq_eq_false_iff_ne, ne_eq, toNat0, toNat1, ok_int, toI_int, I_frzs, I_length, I_getD, ok_ints, toL_slc, g0, g1, g2, hpl, hsl, hql, ← hn, gp, gs]
        rw [← hpp, ← hss]
        refine ⟨fun h8 => ?_, fun h8 => ?_⟩
        · have j0' : 0 ≤ j := by omega
          refine ⟨j0', by omega, i0, h2, fun _ => j0', fun _ => by omega, fun _ => trivial, fun _ => i0, fun _ => by omega, fun _ => trivial, fun h9 => ?_, fun h9 => ?_⟩
          · rw [hr, hno (fun c => ?_)]
            have := c.diff i.toNat j.toNat (by omega) (by omega)
            rw [diffB, ← hss, ← hpp, decide_eq_true s0, decide_eq_true h9.2.symm, decide_eq_true h9.1.symm] at this
            cases this
          · rw [wrap_id (n := j + 1) (by omega) (by omega)]
            refine hag2 (j + 1) ⟨by omega, by omega, fun t ht => ?_⟩ (by omega)
            rw [toNat_succ j0'] at ht
            by_cases htj : t = j.toNat
            · rw [htj, diffB, ← hss, ← hpp]
              rcases h9 with h9 | h9
              · rw [decide_eq_false (show ¬ p = P.getD j.toNat 0 from fun e => h9 e.symm), Bool.and_false]; rfl
              · rw [decide_eq_false (show ¬ s = S.getD j.toNat 0 from fun e => h9 e.symm), Bool.and_false]; rfl
            · exact hdj t (by omega)
        · rw [hwi]
          exact hag (i + 1) (hag' h3 hpl2 (fun t ht => hdj t (by omega))) (by omega)
    · have hcl : ClP P S Q := ⟨by omega, by omega, hSl, hQl, fun k hk => hqr k (by omega), fun k hk => hpl1 k (by omega), fun k j hk hj => hdf1 k j (by omega) hj⟩
      rw [hr, hf0, isCl_iff.2 hcl]
  · cases h
end Go.Ax
