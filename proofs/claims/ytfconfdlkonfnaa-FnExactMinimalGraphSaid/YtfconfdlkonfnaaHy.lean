/-
  The least vertex that can be contracted; minimal graphs: spec. No conditions but those of the contracts.
-/
import Derived.Test.YtfconfdlkonfnaaHs
import Derived.Test.YtfconfdlkonfnaaHw
set_option linter.all false
namespace Go.Ax
open Go.Proofs

theorem can_I (ws : List Int) (es : List (List Int)) (v : Int) : f_can (I ws) (II false es) v = canI ws es v := by
  rw [f_can, canI, unI_I, unII_II, I_length]
def cblI (ws : List Int) (es : List (List Int)) : Int := match fstC ws es with
  | some v => (v : Int)
  | none => -1
def f_cbl (a b : List V) : Int := cblI (unI a) (unII b)
def c_G_i (f : List V → List V → Int) (q : List V → List V → Prop) : Contract := fun
  | [.agg [.slc false 2 (.int .i64 0) a0, .slc false 22 (.slc false 2 (.int .i64 0) []) a1]] => some ([q a0 a1], .int .i64 (f a0 a1))
  | _ => none
set_option maxRecDepth 100000 in
theorem s_impl_contractible : Sat Try.prog 37 (c_G_i f_cbl q_GrN) := by
  intro args ps r h hp
  unfold c_G_i at h
  split at h
  · rename_i a0 a1
    simp only [Option.some.injEq, Prod.mk.injEq] at h
    obtain ⟨rfl, rfl⟩ := h
    have hqg : q_GrN a0 a1 := (alls_cons.1 hp).1
    obtain ⟨ws, es, hws, hes, g⟩ := id hqg
    have g0 : V.frzs a0 = a0 := by rw [hws, I_frzs]
    have g1 : V.frzs a1 = a1 := by rw [hes, II_frzs]
    have hwl : a0.length = ws.length := by rw [hws, I_length]
    have n2 := g.n2
    obtain ⟨n, hn⟩ : ∃ n : Int, n = ws.length := ⟨_, rfl⟩
    have hf1 : ∀ v : Nat, fstC ws es = some v → f_cbl a0 a1 = (v : Int) := fun v h => by rw [f_cbl, hws, hes, unI_I, unII_II, cblI, h]
    have hf2 : fstC ws es = none → f_cbl a0 a1 = -1 := fun h => by rw [f_cbl, hws, hes, unI_I, unII_II, cblI, h]
    generalize H_f_can : f_can = F_f_can
    generalize H_q_ctd : q_ctd = F_q_ctd
    refine fnOk_ofI (T := tab) (B := [(30, c_Gi_b F_f_can F_q_ctd)]) (Bi := []) [0, 1, 2, 3, 6, 7] Try.func37 rfl rfl (by kernel_rfl) (Nat.le_of_ble_eq_true rfl) mixed tabOk (by subst H_f_can H_q_ctd; exact (bookCons s_impl_canContract bookNil)) (by subst H_f_can H_q_ctd; exact bookINil) (by kernel_rfl) ?_
    intro L lp rr hL hr hf hlp
    conv => cbv
    simp only [stdEqs hL, imp_self, true_and, and_true, bif_or, bif_and, Bool.or_eq_true, Bool.or_eq_false_iff, Bool.and_eq_true, Bool.and_eq_false_iff, decide_eq_true_eq, decide_eq_false_iff_not, Bool.not_eq_true', Bool.not_eq_false', beq_iff_eq, beq_eq_false_iff_ne, ne_eq, toNat0, toNat1, ok_int, toI_int, I_frzs, I_length, I_getD, ok_ints, toL_slc, g0, g1, hwl, ← hn]
    refine hlp (Int) _ _ _ [1, 6, 7] (fun x => [(1, none, .val (.box 27 (.agg [.slc false 2 (.int .i64 0) a0, .slc false 22 (.slc false 2 (.int .i64 0) []) a1]))), (6, none, .val (.int .i64 n)), (7, none, .val (.int .i64 x))])
      (fun x => 0 ≤ x ∧ x ≤ n ∧ ∀ u : Nat, u < x.toNat → canI ws es (u : Int) = false) (fun x => (n - x).toNat) (0) (by subst hL; rfl) ?_ ?_
    · exact ⟨by omega, by omega, fun u hu => by simp at hu⟩
    intro i ⟨i0, i1, hI⟩ hfx ag hag
    obtain ⟨b, hb⟩ : ∃ b, b = canI ws es i := ⟨_, rfl⟩
    have Eb : F_f_can a0 a1 i = b := by rw [← H_f_can, hws, hes, can_I, hb]
    conv => cbv
    simp only [stdEqs hL, imp_self, true_and, and_true, bif_or, bif_and, Bool.or_eq_true, Bool.or_eq_false_iff, Bool.and_eq_true, Bool.and_eq_false_iff, decide_eq_true_eq, decide_eq_false_iff_not, Bool.not_eq_true', Bool.not_eq_false', beq_iff_eq, beq_eq_false_iff_ne, ne_eq, toNat0, toNat1, ok_int, toI_int, I_frzs, I_length, I_getD, ok_ints, toL_slc, g0, g1, Eb]
    rw [wrap_id (n := i + 1) (by omega) (by omega)]
    have hit : ((i.toNat : Nat) : Int) = i := by omega
    refine ⟨fun h2 => ⟨?_, fun h3 => ?_, fun h3 => ?_⟩, fun h2 => ?_⟩
    · rw [← H_q_ctd]; exact ⟨hqg, i0, by omega⟩
    · have h4 := fstC_some (ws := ws) (es := es) (v := i.toNat) (by omega) (by rw [hit, ← hb]; exact h3) hI
      rw [hr, hf1 _ h4, hit]
    · refine hag (i + 1) ⟨by omega, by omega, fun u hu => ?_⟩ (by omega)
      rw [toNat_succ i0] at hu
      by_cases e : u = i.toNat
      · rw [e, hit, ← hb]; exact h3
      · exact hI u (by omega)
    · have h4 := fstC_none (ws := ws) (es := es) (fun u hu => hI u (by omega))
      rw [hr, hf2 h4]
  · cases h
def itM (ws : List Int) (es : List (List Int)) : Option (List Int × List (List Int) × Unit) := itS (fun _ _ s => s) ws es ()
def c_G_Xi (f : List V → List V → List V × List V × Int) (q : List V → List V → Prop) : Contract := fun
  | [.agg [.slc false 2 (.int .i64 0) a0, .slc false 22 (.slc false 2 (.int .i64 0) []) a1]] => some ([q a0 a1], .tup [.agg [.slc false 2 (.int .i64 0) ((f a0 a1).1), .slc false 22 (.slc false 2 (.int .i64 0) []) ((f a0 a1).2.1)], .int .i64 ((f a0 a1).2.2)])
  | _ => none
def f_mins (a b : List V) : List V × List V × Int := bif isGr (unI a) (unII b) then (match itM (unI a) (unII b) with
  | some x => (I x.1, II false x.2.1, 0)
  | none => ([], [], 3)) else ([], [], 1)
set_option maxRecDepth 100000 in
theorem s_spec_MinimalGraph : Sat Try.prog 13 (c_G_Xi f_mins q_G) := by
  intro args ps r h hp
  unfold c_G_Xi at h
  split at h
  · rename_i a0 a1
    simp only [Option.some.injEq, Prod.mk.injEq] at h
    obtain ⟨rfl, rfl⟩ := h
    have hq : q_G a0 a1 := (alls_cons.1 hp).1
    obtain ⟨⟨ws, hws⟩, es, hes⟩ := id hq
    have g0 : V.frzs a0 = a0 := by rw [hws, I_frzs]
    have g1 : V.frzs a1 = a1 := by rw [hes, II_frzs]
    have hwl : a0.length = ws.length := by rw [hws, I_length]
    have hf1 : isGr ws es = false → f_mins a0 a1 = ([], [], 1) := fun h => by rw [f_mins, hws, hes, unI_I, unII_II, h]; rfl
    have hf2 : isGr ws es = true → itM ws es = none → f_mins a0 a1 = ([], [], 3) := fun h h2 => by rw [f_mins, hws, hes, unI_I, unII_II, h, h2]; rfl
    have hf3 : isGr ws es = true → ∀ x, itM ws es = some x → f_mins a0 a1 = (I x.1, II false x.2.1, 0) := fun h x h2 => by rw [f_mins, hws, hes, unI_I, unII_II, h, h2]; rfl
    have hi0 : f_isGr a0 a1 = isGr ws es := by rw [f_isGr, hws, hes, unI_I, unII_II]
    generalize H_f_isGr : f_isGr = F_f_isGr
    generalize H_q_G : q_G = F_q_G
    generalize H_f_cpG : f_cpG = F_f_cpG
    generalize H_q_cpG : q_cpG = F_q_cpG
    generalize H_f_can : f_can = F_f_can
    generalize H_q_ctd : q_ctd = F_q_ctd
    generalize H_f_lct : f_lct = F_f_lct
    refine fnOk_ofF (T := tab) (B := [(22, c_G_b F_f_isGr F_q_G), (35, c_G_G F_f_cpG F_q_cpG), (24, c_Gi_b F_f_can F_q_ctd), (25, c_Gi_Xb F_f_lct F_q_ctd)]) (Bi := []) [2000003613, 0, 1, 2, 3, 4, 5, 6, 7] Try.func13 rfl rfl (by kernel_rfl) (Nat.le_of_ble_eq_true rfl) mixed tabOk (by subst H_f_isGr H_q_G H_f_cpG H_q_cpG H_f_can H_q_ctd H_f_lct; exact (bookCons s_spec_l11Is (bookCons s_spec_l11Own (bookCons s_spec_l11Can (bookCons s_spec_l11Contract bookNil))))) (by subst H_f_isGr H_q_G H_f_cpG H_q_cpG H_f_can H_q_ctd H_f_lct; exact bookINil) (by kernel_rfl) ?_
    intro L lp rr hL hr hf hlp
    have Eg : F_f_isGr a0 a1 = isGr ws es := by rw [← H_f_isGr, hi0]
    have Ec : F_f_cpG a0 a1 = (a0, II true es) := by rw [← H_f_cpG, f_cpG, hes, unII_II]
    conv => cbv
    simp only [stdEqs hL, imp_self, true_and, and_true, bif_or, bif_and, Bool.or_eq_true, Bool.or_eq_false_iff, Bool.and_eq_true, Bool.and_eq_false_iff, decide_eq_true_eq, decide_eq_false_iff_not, Bool.not_eq_true', Bool.not_eq_false', beq_iff_eq, beq_eq_false_iff_ne, ne_eq, toNat0, toNat1, ok_int, toI_int, I_frzs, I_length, I_getD, ok_ints, toL_slc, g0, g1, Eg, Ec]
    rw [II_frzs, ← hes]
    refine ⟨by rw [← H_q_G]; exact hq, fun h => by rw [hr, hf1 h]; rfl, fun h => ⟨?_, ?_⟩⟩
    · rw [← H_q_cpG]
      have g := gr_of h
      have n2 := g.n2
      have n3 := g.el
      exact ⟨⟨⟨_, hws⟩, by omega⟩, _, hes, by omega, fun e he => by rw [(g.ed e he).1]; decide⟩
    have gr := gr_of h
    have gN := gr.toN
    have hS : Sep es := Sep_of gr.n1 gr.ed gr.acyc
    refine hlp ((List V × List V) × Int) _ _ _ [2, 4, 5] (fun x => [(2, none, .val (.box 27 (.agg [.slc true 2 (.int .i64 0) [], .slc true 22 (.slc true 2 (.int .i64 0) []) []]))), (4, none, .val (.box 27 (.agg [.slc false 2 (.int .i64 0) x.1.1, .slc false 22 (.slc false 2 (.int .i64 0) []) x.1.2]))), (5, none, .val (.int .i64 x.2))])
      (fun x => 0 ≤ x.2 ∧ ∃ wx ex, x.1.1 = I wx ∧ x.1.2 = II false ex ∧ GrN wx.length ex ∧ Sep ex ∧ x.2 ≤ wx.length ∧ (∀ u : Nat, u < x.2.toNat → canI wx ex (u : Int) = false) ∧ itM ws es = itM wx ex) (fun x => (42 * (x.1.1.length : Int) + 42 - x.2).toNat) (((a0, a1), 0)) (by subst hL; rfl) ?_ ?_
    · exact ⟨by simp, ws, es, hws, hes, gN, hS, by simp only; omega, fun u hu => by simp at hu, rfl⟩
    rintro ⟨⟨os, fs⟩, v⟩ ⟨v0, wx, ex, hO, hF, gx, hSx, v1, hU, hI⟩ hfx ag hag
    simp only at v0 v1 hO hF hU
    have gos : V.frzs os = os := by rw [hO, I_frzs]
    have gfs : V.frzs fs = fs := by rw [hF, II_frzs]
    have hol : os.length = wx.length := by rw [hO, I_length]
    have n2 := gx.n2
    obtain ⟨n, hn⟩ : ∃ n : Int, n = wx.length := ⟨_, rfl⟩
    obtain ⟨b, hb⟩ : ∃ b, b = canI wx ex v := ⟨_, rfl⟩
    have Eb : F_f_can os fs v = b := by rw [← H_f_can, hO, hF, can_I, hb]
    obtain ⟨z1, z2, ok, hz⟩ : ∃ z1 z2 ok, f_lct os fs v = (z1, z2, ok) := ⟨_, _, _, rfl⟩
    have Ez : F_f_lct os fs v = (z1, z2, ok) := by rw [← H_f_lct, hz]
    conv => cbv
    simp only [stdEqs hL, imp_self, true_and, and_true, bif_or, bif_and, Bool.or_eq_true, Bool.or_eq_false_iff, Bool.and_eq_true, Bool.and_eq_false_iff, decide_eq_true_eq, decide_eq_false_iff_not, Bool.not_eq_true', Bool.not_eq_false', beq_iff_eq, beq_eq_false_iff_ne, ne_eq, toNat0, toNat1, ok_int, toI_int, I_frzs, I_length, I_getD, ok_ints, toL_slc, gos, gfs, hol, ← hn, Eb, Ez]
    rw [wrap_id (n := v + 1) (by omega) (by omega)]
    have hvt : ((v.toNat : Nat) : Int) = v := by omega
    have hqc : v < n → F_q_ctd os fs v := fun h2 => by
      rw [← H_q_ctd]; exact ⟨⟨wx, ex, hO, hF, gx⟩, v0, by omega⟩
    refine ⟨fun h2 => ⟨hqc h2, fun h3 => ?_, fun h3 => ⟨hqc h2, fun h4 => ?_, fun h4 => ?_⟩⟩, fun h2 => ?_⟩
    · refine hag ((_, _), v + 1) ⟨by simp only; omega, wx, ex, hO, hF, gx, hSx, by simp only; omega, fun u hu => ?_, hI⟩ (by simp only [hol]; omega)
      simp only [toNat_succ v0] at hu
      by_cases e : u = v.toNat
      · rw [e, hvt, ← hb]; exact h3
      · exact hU u (by omega)
    · have hf := fstC_some (ws := wx) (es := ex) (v := v.toNat) (by omega) (by rw [hvt, ← hb]; exact h3) hU
      have hi : incW wx (near ex v) = none := by
        cases hi : incW wx (near ex v) with
        | none => rfl
        | some w =>
          rw [f_lct, hO, hF, unI_I, unII_II, hi] at hz
          injection hz with _ hz
          injection hz with _ hz
          rw [h4] at hz
          cases hz
      have h5 : itM wx ex = none := itS_fail _ _ hf (by rw [hvt]; exact hi)
      rw [hr, hf2 h (hI.trans h5)]
      rfl
    · have hf := fstC_some (ws := wx) (es := ex) (v := v.toNat) (by omega) (by rw [hvt, ← hb]; exact h3) hU
      obtain ⟨w, hi⟩ : ∃ w, incW wx (near ex v) = some w := by
        cases hi : incW wx (near ex v) with
        | some w => exact ⟨w, rfl⟩
        | none =>
          rw [f_lct, hO, hF, unI_I, unII_II, hi] at hz
          injection hz with _ hz
          injection hz with _ hz
          rw [h4] at hz
          cases hz
      rw [f_lct, hO, hF, unI_I, unII_II, hi] at hz
      injection hz with hz1 hz
      injection hz with hz2 _
      have hwl2 := incW_len _ _ _ hi
      have hdl := dropAt_len (xs := w) (i := v.toNat) (by omega)
      obtain ⟨g2, hS2⟩ := nex_ok gx hSx (v := v.toNat) (by omega) (by rw [hvt, ← hb]; exact h3) (by rw [hvt]; exact hi)
      rw [hvt] at g2 hS2
      refine hag ((_, _), 0) ⟨by simp, dropAt w v.toNat, nexE ex v, hz1.symm, hz2.symm, g2, hS2, by simp only; omega, fun u hu => by simp at hu, ?_⟩ ?_
      · rw [hI]
        have h5 := itS_step (fun _ _ s => s) () hf (by rw [hvt]; exact hi)
        rw [hvt] at h5
        exact h5
      · simp only [← hz1, hol, I_length]
        rw [show (delL w v.toNat (v.toNat + 1)).length = (dropAt w v.toNat).length from rfl]
        omega
    · have hf := fstC_none (ws := wx) (es := ex) (fun u hu => hU u (by omega))
      have h5 : itM wx ex = some (wx, ex, ()) := itS_end _ _ hf
      rw [hr, hf3 h _ (hI.trans h5), hO, hF]
  · cases h
end Go.Ax
