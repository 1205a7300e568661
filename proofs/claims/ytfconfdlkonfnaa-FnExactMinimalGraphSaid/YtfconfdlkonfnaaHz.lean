/-
  MinimalGraph: impl, the law. No conditions but those of the contracts.
-/
import Derived.Test.YtfconfdlkonfnaaHr
import Derived.Test.YtfconfdlkonfnaaHy
import Derived.Test.YtfconfdlkonfnaaHv
set_option linter.all false
namespace Go.Ax
open Go.Proofs

def c_G_Gi (f : List V → List V → List V × List V × Int) (q : List V → List V → Prop) : Contract := fun
  | [.agg [.slc false 2 (.int .i64 0) a0, .slc false 22 (.slc false 2 (.int .i64 0) []) a1]] => some ([q a0 a1], .tup [.agg [.slc true 2 (.int .i64 0) ((f a0 a1).1), .slc true 22 (.slc true 2 (.int .i64 0) []) ((f a0 a1).2.1)], .int .i64 ((f a0 a1).2.2)])
  | _ => none
def f_mini (a b : List V) : List V × List V × Int := bif isGr (unI a) (unII b) then (match itM (unI a) (unII b) with
  | some x => (I x.1, II true x.2.1, 0)
  | none => ([], [], 3)) else ([], [], 1)
set_option maxRecDepth 100000 in
theorem s_impl_MinimalGraph : Sat Try.prog 14 (c_G_Gi f_mini q_G) := by
  intro args ps r h hp
  unfold c_G_Gi at h
  split at h
  · rename_i a0 a1
    simp only [Option.some.injEq, Prod.mk.injEq] at h
    obtain ⟨rfl, rfl⟩ := h
    have hq : q_G a0 a1 := (alls_cons.1 hp).1
    obtain ⟨⟨ws, hws⟩, es, hes⟩ := id hq
    have g0 : V.frzs a0 = a0 := by rw [hws, I_frzs]
    have g1 : V.frzs a1 = a1 := by rw [hes, II_frzs]
    have hwl : a0.length = ws.length := by rw [hws, I_length]
    have hf1 : isGr ws es = false → f_mini a0 a1 = ([], [], 1) := fun h => by rw [f_mini, hws, hes, unI_I, unII_II, h]; rfl
    have hf2 : isGr ws es = true → itM ws es = none → f_mini a0 a1 = ([], [], 3) := fun h h2 => by rw [f_mini, hws, hes, unI_I, unII_II, h, h2]; rfl
    have hf3 : isGr ws es = true → ∀ x, itM ws es = some x → f_mini a0 a1 = (I x.1, II true x.2.1, 0) := fun h x h2 => by rw [f_mini, hws, hes, unI_I, unII_II, h, h2]; rfl
    have hi0 : f_isGr a0 a1 = isGr ws es := by rw [f_isGr, hws, hes, unI_I, unII_II]
    obtain ⟨ve, hve⟩ : ∃ ve, ve = II true es := ⟨_, rfl⟩
    generalize H_f_isGr : f_isGr = F_f_isGr
    generalize H_q_G : q_G = F_q_G
    generalize H_f_cpG : f_cpG = F_f_cpG
    generalize H_q_cpG : q_cpG = F_q_cpG
    generalize H_f_cbl : f_cbl = F_f_cbl
    generalize H_q_GrN : q_GrN = F_q_GrN
    generalize H_f_ctd : f_ctd = F_f_ctd
    generalize H_q_ctd : q_ctd = F_q_ctd
    refine fnOk_ofI (T := tab) (B := [(28, c_G_b F_f_isGr F_q_G), (36, c_G_G F_f_cpG F_q_cpG), (37, c_G_i F_f_cbl F_q_GrN), (31, c_Gi_Gi9 F_f_ctd F_q_ctd)]) (Bi := []) [0, 1, 2, 3, 4, 5, 6, 7] Try.func14 rfl rfl (by kernel_rfl) (Nat.le_of_ble_eq_true rfl) mixed tabOk (by subst H_f_isGr H_q_G H_f_cpG H_q_cpG H_f_cbl H_q_GrN H_f_ctd H_q_ctd; exact (bookCons s_impl_IsGraph (bookCons s_impl_copyGraph (bookCons s_impl_contractible (bookCons s_impl_contracted bookNil))))) (by subst H_f_isGr H_q_G H_f_cpG H_q_cpG H_f_cbl H_q_GrN H_f_ctd H_q_ctd; exact bookINil) (by kernel_rfl) ?_
    intro L lp rr hL hr hf hlp
    have Eg : F_f_isGr a0 a1 = isGr ws es := by rw [← H_f_isGr, hi0]
    have Ec : F_f_cpG a0 a1 = (a0, ve) := by rw [← H_f_cpG, f_cpG, hes, unII_II, hve]
    have Ef : ∀ l : List (List Int), V.frzs (II true l) = II false l := fun l => II_frzs _ _
    have hvf : V.frzs ve = a1 := by rw [hve, hes, II_frzs]
    have Eb : F_f_cbl a0 a1 = cblI ws es := by rw [← H_f_cbl, f_cbl, hws, hes, unI_I, unII_II]
    conv => cbv
    simp only [stdEqs hL, imp_self, true_and, and_true, bif_or, bif_and, Bool.or_eq_true, Bool.or_eq_false_iff, Bool.and_eq_true, Bool.and_eq_false_iff, decide_eq_true_eq, decide_eq_false_iff_not, Bool.not_eq_true', Bool.not_eq_false', beq_iff_eq, beq_eq_false_iff_ne, ne_eq, toNat0, toNat1, ok_int, toI_int, I_frzs, I_length, I_getD, ok_ints, toL_slc, g0, g1, Eg, Ec, hvf, Eb]
    refine ⟨by rw [← H_q_G]; exact hq, fun h => by rw [hr, hf1 h], fun h => ?_⟩
    have gr := gr_of h
    have gN := gr.toN
    have hS : Sep es := Sep_of gr.n1 gr.ed gr.acyc
    have n2 := gr.n2
    have n3 := gr.el
    refine ⟨by rw [← H_q_cpG]; exact ⟨⟨⟨_, hws⟩, by omega⟩, _, hes, by omega, fun e he => by rw [(gr.ed e he).1]; decide⟩, by rw [← H_q_GrN]; exact ⟨ws, es, hws, hes, gN⟩, ?_⟩
    refine hlp ((List V × List V) × Int) _ _ _ [2, 4, 5] (fun x => [(2, none, .val (.box 27 (.agg [.slc true 2 (.int .i64 0) [], .slc true 22 (.slc true 2 (.int .i64 0) []) []]))), (4, none, .val (.box 27 (.agg [.slc true 2 (.int .i64 0) x.1.1, .slc true 22 (.slc true 2 (.int .i64 0) []) x.1.2]))), (5, none, .val (.int .i64 x.2))])
      (fun x => ∃ wx ex, x.1.1 = I wx ∧ x.1.2 = II true ex ∧ GrN wx.length ex ∧ Sep ex ∧ x.2 = cblI wx ex ∧ itM ws es = itM wx ex) (fun x => x.1.1.length) (((a0, ve), cblI ws es)) (by subst hL; rfl) ?_ ?_
    · exact ⟨ws, es, hws, hve, gN, hS, rfl, rfl⟩
    rintro ⟨⟨os, fs⟩, v⟩ ⟨wx, ex, hO, hF, gx, hSx, hV, hI⟩ hfx ag hag
    simp only at hO hF hV
    have gos : V.frzs os = I wx := by rw [hO, I_frzs]
    have gfs : V.frzs fs = II false ex := by rw [hF, II_frzs]
    have n2 := gx.n2
    obtain ⟨z1, z2, code, hz⟩ : ∃ z1 z2 code, f_ctd (I wx) (II false ex) v = (z1, z2, code) := ⟨_, _, _, rfl⟩
    have Ez : F_f_ctd (I wx) (II false ex) v = (z1, z2, code) := by rw [← H_f_ctd, hz]
    obtain ⟨p1, hp1⟩ : ∃ p, p = V.frzs z1 := ⟨_, rfl⟩
    obtain ⟨p2, hp2⟩ : ∃ p, p = V.frzs z2 := ⟨_, rfl⟩
    conv => cbv
    simp only [stdEqs hL, imp_self, true_and, and_true, bif_or, bif_and, Bool.or_eq_true, Bool.or_eq_false_iff, Bool.and_eq_true, Bool.and_eq_false_iff, decide_eq_true_eq, decide_eq_false_iff_not, Bool.not_eq_true', Bool.not_eq_false', beq_iff_eq, beq_eq_false_iff_ne, ne_eq, toNat0, toNat1, ok_int, toI_int, I_frzs, I_length, I_getD, ok_ints, toL_slc, gos, gfs, Ez, ← hp1, ← hp2]
    have hf1' : incW wx (near ex v) = none → code = 3 := fun h2 => by
      rw [f_ctd, unI_I, unII_II, h2] at hz
      injection hz with _ hz
      injection hz with _ hz
      exact hz.symm
    have hf2' : ∀ w, incW wx (near ex v) = some w → I (delL w v.toNat (v.toNat + 1)) = z1 ∧ II true (nexE ex v) = z2 ∧ code = 0 := fun w h2 => by
      rw [f_ctd, unI_I, unII_II, h2] at hz
      injection hz with hz1 hz
      injection hz with hz2 hz3
      exact ⟨hz1, hz2, hz3.symm⟩
    refine ⟨fun h2 => ?_, fun h2 => ?_⟩
    · obtain ⟨vn, hfc⟩ : ∃ vn, fstC wx ex = some vn := by
        cases hfc : fstC wx ex with
        | some vn => exact ⟨vn, rfl⟩
        | none =>
          rw [cblI, hfc] at hV
          simp only at hV
          omega
      have hv : v = (vn : Int) := by rw [hV, cblI, hfc]
      have hvt : v.toNat = vn := by omega
      obtain ⟨k1, k2, k3⟩ := of_fstC hfc
      rw [hv] at hf1' hf2'
      have hfz : V.noFzs z1 = true ∧ V.noFzs z2 = true := by
        cases hi : incW wx (near ex vn) with
        | none =>
          rw [hv, f_ctd, unI_I, unII_II, hi] at hz
          injection hz with hz1 hz
          injection hz with hz2 _
          rw [← hz1, ← hz2]
          exact ⟨rfl, rfl⟩
        | some w =>
          obtain ⟨w1, w2, _⟩ := hf2' w hi
          rw [← w1, ← w2]
          exact ⟨I_noFzs _, II_noFzs _⟩
      refine ⟨by rw [← H_q_ctd]; exact ⟨⟨wx, ex, rfl, rfl, gx⟩, by omega, by rw [I_length]; omega⟩, hfz.1, hfz.2, fun h3 => ?_, fun h3 => ?_⟩
      · have hi : incW wx (near ex vn) = none := by
          cases hi : incW wx (near ex vn) with
          | none => rfl
          | some w => exact absurd (hf2' w hi).2.2 h3
        have h5 : itM wx ex = none := itS_fail _ _ hfc hi
        rw [hr, hf2 h (hI.trans h5), hf1' hi]
      · obtain ⟨w, hi⟩ : ∃ w, incW wx (near ex vn) = some w := by
          cases hi : incW wx (near ex vn) with
          | some w => exact ⟨w, rfl⟩
          | none => have := hf1' hi; omega
        obtain ⟨w1, w2, _⟩ := hf2' w hi
        rw [show ((vn : Int)).toNat = vn by omega] at w1
        have hwl2 := incW_len _ _ _ hi
        have hdl := dropAt_len (xs := w) (i := vn) (by omega)
        obtain ⟨g2, hS2⟩ := nex_ok gx hSx k1 k2 hi
        have w1 : I (dropAt w vn) = z1 := w1
        have e1 : p1 = I (dropAt w vn) := by rw [hp1, ← w1, I_frzs]
        have e2 : p2 = II false (nexE ex vn) := by rw [hp2, ← w2, II_frzs]
        have Eb : F_f_cbl p1 p2 = cblI (dropAt w vn) (nexE ex vn) := by rw [← H_f_cbl, f_cbl, e1, e2, unI_I, unII_II]
        rw [Eb]
        refine ⟨by rw [← H_q_GrN]; exact ⟨_, _, e1, e2, g2⟩, hag ((_, _), _) ⟨dropAt w vn, nexE ex vn, w1.symm, w2.symm, g2, hS2, rfl, ?_⟩ ?_⟩
        · rw [hI]
          exact itS_step (fun _ _ s => s) () hfc hi
        · simp only [hO, ← w1, I_length]
          omega
    · have hfc : fstC wx ex = none := by
        cases hfc : fstC wx ex with
        | none => rfl
        | some vn =>
          rw [cblI, hfc] at hV
          simp only at hV
          omega
      have h5 : itM wx ex = some (wx, ex, ()) := itS_end _ _ hfc
      rw [hr, hf3 h _ (hI.trans h5), hO, hF]
  · cases h
set_option maxRecDepth 100000 in
theorem s_laws_FnExactMinimalGraph : Sat Try.prog 4 (c_lawg_G yesg_G q_lawg_G) := by
  intro args ps r h hp
  unfold c_lawg_G at h
  split at h
  · rename_i a0 a1
    simp only [Option.some.injEq, Prod.mk.injEq] at h
    obtain ⟨rfl, rfl⟩ := h
    have hq : q_G a0 a1 := (alls_cons.1 hp).1
    obtain ⟨hq0, hq1⟩ := id hq
    have g0 := hq0.frz
    have g1 := frzs_II hq1
    generalize H_f_szG : f_szG = F_f_szG
    generalize H_q_szG : q_szG = F_q_szG
    generalize H_f_cpG : f_cpG = F_f_cpG
    generalize H_q_cpG : q_cpG = F_q_cpG
    generalize H_f_mins : f_mins = F_f_mins
    generalize H_q_G : q_G = F_q_G
    generalize H_f_mini : f_mini = F_f_mini
    generalize H_f_eqG : f_eqG = F_f_eqG
    generalize H_q_eqG : q_eqG = F_q_eqG
    generalize H_f0_heldG : f0_heldG = F_f0_heldG
    generalize H_q_heldG : q_heldG = F_q_heldG
    generalize H_f0_markG : f0_markG = F_f0_markG
    generalize H_f1_markG : f1_markG = F_f1_markG
    generalize H_f2_markG : f2_markG = F_f2_markG
    generalize H_q_markG : q_markG = F_q_markG
    refine fnOk_ofI (T := tab) (B := [(6, c_Gi_i F_f_szG F_q_szG), (8, c_G_G F_f_cpG F_q_cpG), (13, c_G_Xi F_f_mins F_q_G), (14, c_G_Gi F_f_mini F_q_G), (10, c_GG_b F_f_eqG F_q_eqG), (12, c_Gi_i F_f0_heldG F_q_heldG)]) (Bi := [(11, 0, false, ic_markG F_f0_markG F_f1_markG F_f2_markG F_q_markG)]) [2000005621, 0, 1, 2, 3, 4, 5, 6, 7, 8, 9, 10, 11, 12, 13] Try.func4 rfl rfl (by kernel_rfl) (Nat.le_of_ble_eq_true rfl) mixed tabOk (by subst H_f_szG H_q_szG H_f_cpG H_q_cpG H_f_mins H_q_G H_f_mini H_f_eqG H_q_eqG H_f0_heldG H_q_heldG H_f0_markG H_f1_markG H_f2_markG H_q_markG; exact (bookCons s_laws_szGraph (bookCons s_laws_toGraph (bookCons s_spec_MinimalGraph (bookCons s_impl_MinimalGraph (bookCons s_laws_eqGraph (bookCons s_laws_heldGraph bookNil))))))) (by subst H_f_szG H_q_szG H_f_cpG H_q_cpG H_f_mins H_q_G H_f_mini H_f_eqG H_q_eqG H_f0_heldG H_q_heldG H_f0_markG H_f1_markG H_f2_markG H_q_markG; exact (bookICons s_laws_markGraph bookINil)) (by kernel_rfl) ?_
    intro L lp rr hL hr hf hlp
    have hlen := hf.1
    conv => cbv
    simp only [stdEqs hL, g0, g1]
    subst H_f_szG H_q_szG H_f_cpG H_q_cpG H_f_mins H_q_G H_f_mini H_f_eqG H_q_eqG H_f0_heldG H_q_heldG H_f0_markG H_f1_markG H_f2_markG H_q_markG
    refine ⟨hq1, fun h => by rw [hr]; rfl, fun h => ?_⟩
    obtain ⟨hc, hb0, hb1⟩ := szG_ok hq1 hlen.1.1 hlen.2.1.1 hlen.2.1.2 hq0 h
    obtain ⟨ws, hws⟩ := hq0
    obtain ⟨es, hes⟩ := hq1
    rw [hws, I_length] at hb0
    rw [hes, unII_II] at hb1
    have e0 : f_cpG a0 a1 = (I ws, II true es) := by rw [f_cpG, hes, hws, unII_II]
    have kg := graph_keys ws es
    have mg := markG_keys ws es (by omega)
    have hqg : q_G (I ws) (II false es) := ⟨⟨_, rfl⟩, ⟨_, rfl⟩⟩
    have hqx := hqg

    obtain ⟨zs, fs, code, ez, ez2, hzl⟩ : ∃ (zs : List Int) (fs : List (List Int)) (code : Int), f_mini (I ws) (II false es) = (I zs, II true fs, code) ∧ f_mins (I ws) (II false es) = (I zs, II false fs, code) ∧ zs.length + tot fs ≤ 2000 := by
      rw [f_mini, f_mins, unI_I, unII_II]
      cases hh : isGr ws es with
      | false => exact ⟨[], [], 1, rfl, rfl, by simp [tot]⟩
      | true =>
        have g := gr_of hh
        cases hi : itM ws es with
        | none => exact ⟨[], [], 3, rfl, rfl, by simp [tot]⟩
        | some x =>
          obtain ⟨ws2, es2, u⟩ := x
          obtain ⟨g2, _, _, _⟩ := itS_ok (fun _ _ s => s) (fun _ _ _ => True) (fun _ _ _ _ _ _ _ _ _ _ => trivial) ws.length ws es () ws2 es2 u rfl g.toN (Sep_of g.n1 g.ed g.acyc) trivial hi
          have := tot_gr g2
          have := g2.n2
          exact ⟨ws2, es2, 0, rfl, rfl, by omega⟩
    have ck := graph_keys zs fs
    have ck2 := markG_keys zs fs (by omega)
    have ck3 := graph_keys2 zs fs (by omega)
    have hn1 : ∀ n : Nat, decide ((1 : Int) + n < 0) = false := fun n => by simp; omega
    have hn2 : ∀ n m : Nat, decide ((1 : Int) + n + m < 0) = false := fun n m => by simp; omega
    have hn3 : ∀ n m r : Nat, decide ((1 : Int) + n + m + r < 0) = false := fun n m r => by simp; omega
    simp only [e0, hc, II_frzs, kg, mg, hqg, ez, ez2, ck, ck2, ck3, hn1, hn2, hn3, hr, yesg_G, I_frzs]
    simp
  · cases h
end Go.Ax
