/-
  Graphs: what a graph is. No conditions but those of the contracts.
-/
import Derived.Test.YtlbmgfiepmhjhaaFnp
set_option linter.all false
namespace Go.Ax
open Go.Proofs

def c_G_b (f : List V → List V → Bool) (q : List V → List V → Prop) : Contract := fun
  | [.agg [.slc false 2 (.int .i64 0) a0, .slc false 22 (.slc false 2 (.int .i64 0) []) a1]] => some ([q a0 a1], .bool (f a0 a1))
  | _ => none
def f_isGr (ws es : List V) : Bool := isGr (unI ws) (unII es)
def q_G (ws es : List V) : Prop := IsI ws ∧ IsII false es
def prevE (es : List (List Int)) (k : Nat) : Option (List Int) := match k with
  | 0 => none
  | k + 1 => some (es.getD k [])
theorem edOk_iff {n : Nat} {es : List (List Int)} {k : Nat} {e : List Int} : edOk n (prevE es k) e = true ↔ e.length = 2 ∧ 0 ≤ e0 e ∧ e0 e < e1 e ∧ e1 e < n ∧ (0 < k → lexLt (es.getD (k - 1) []) e = true) := by
  cases k with
  | zero => simp [edOk, prevE, and_assoc]
  | succ k => simp [edOk, prevE, and_assoc]
theorem within_false {xs : List Int} {a b : Int} {i : Nat} (h : i < xs.length) (hx : inRange (xs.getD i 0) a b = false) : within xs a b = false := by
  rw [within, List.all_eq_false]
  refine ⟨xs.getD i 0, ?_, by rw [hx]; simp⟩
  rw [List.getD_eq_getElem?_getD, List.getElem?_eq_getElem h]
  exact List.getElem_mem _
set_option maxRecDepth 100000 in
theorem s_spec_l11Is : Sat Try.prog 29 (c_G_b f_isGr q_G) := by
  intro args ps r h hp
  unfold c_G_b at h
  split at h
  · rename_i a0 a1
    simp only [Option.some.injEq, Prod.mk.injEq] at h
    obtain ⟨rfl, rfl⟩ := h
    obtain ⟨⟨ws, hws⟩, es, hes⟩ : q_G a0 a1 := (alls_cons.1 hp).1
    have g0 : V.frzs a0 = a0 := by rw [hws, I_frzs]
    have g1 : V.frzs a1 = a1 := by rw [hes, II_frzs]
    have hel : a1.length = es.length := by rw [hes, II_length]
    have hwl : a0.length = ws.length := by rw [hws, I_length]
    have hf0 : f_isGr a0 a1 = isGr ws es := by rw [f_isGr, hes, hws, unII_II, unI_I]
    have gws : ∀ k, a0.getD k (.int .i64 0) = .int .i64 (ws.getD k 0) := fun k => by rw [hws, I_getD]
    have ges : ∀ k, a1.getD k (.slc false 2 (.int .i64 0) []) = .slc false 2 (.int .i64 0) (I (es.getD k [])) := fun k => by rw [hes, II_getD]
    obtain ⟨n, hn⟩ : ∃ n : Int, n = ws.length := ⟨_, rfl⟩
    generalize H_inRange : inRange = F_inRange
    generalize H_f_lexLt : f_lexLt = F_f_lexLt
    generalize H_q_II : q_II = F_q_II
    refine fnOk_ofI (T := tab) (B := [(69, c_impl_inRange F_inRange), (70, c_ll_b F_f_lexLt F_q_II)]) (Bi := []) [0, 1, 2, 3, 4, 5, 6, 7, 8, 9, 10, 11] Try.func29 rfl rfl (by kernel_rfl) (Nat.le_of_ble_eq_true rfl) mixed tabOk (by subst H_inRange H_f_lexLt H_q_II; exact (bookCons s_spec_l01In (bookCons s_spec_l01Less bookNil))) (by subst H_inRange H_f_lexLt H_q_II; exact bookINil) (by kernel_rfl) ?_
    intro L lp rr hL hr hf hlp
    have hle := hf.1.2.1.1
    rw [hel] at hle
    conv => cbv
    simp only [stdEqs hL, imp_self, true_and, and_true, bif_or, bif_and, Bool.or_eq_true, Bool.or_eq_false_iff, Bool.and_eq_true, Bool.and_eq_false_iff, decide_eq_true_eq, decide_eq_false_iff_not, Bool.not_eq_true', Bool.not_eq_false', beq_iff_eq, beq_eq_false_iff_ne, ne_eq, toNat0, toNat1, ok_int, toI_int, I_frzs, I_length, I_getD, ok_ints, toL_slc, hwl, ← hn]
    refine ⟨fun h => ?_, fun h => ?_⟩
    · have : isGr ws es = false := by
        rcases h with h | h
        · simp [isGr, show ¬ 1 ≤ ws.length by omega]
        · simp [isGr, show ¬ ws.length ≤ 40 by omega]
      rw [hr, hf0, this]
    have hn1 : 1 ≤ ws.length := by omega
    have hn2 : ws.length ≤ 40 := by omega
    refine hlp (Int) _ _ _ [1, 3, 4] (fun x => [(1, none, .val (.box 29 (.agg [.slc false 2 (.int .i64 0) a0, .slc false 22 (.slc false 2 (.int .i64 0) []) a1]))), (3, none, .val (.int .i64 n)), (4, none, .val (.int .i64 x))])
      (fun x => 0 ≤ x ∧ x ≤ ws.length ∧ within ws (-1000) 1000 = within (ws.drop x.toNat) (-1000) 1000) (fun x => (ws.length - x).toNat) (0) (by subst hL; rfl) ?_ ?_
    · simp
    rintro i ⟨i0, i1, hI⟩ hfx ag hag
    conv => cbv
    simp only [stdEqs hL, imp_self, true_and, and_true, bif_or, bif_and, Bool.or_eq_true, Bool.or_eq_false_iff, Bool.and_eq_true, Bool.and_eq_false_iff, decide_eq_true_eq, decide_eq_false_iff_not, Bool.not_eq_true', Bool.not_eq_false', beq_iff_eq, beq_eq_false_iff_ne, ne_eq, toNat0, toNat1, ok_int, toI_int, I_frzs, I_length, I_getD, ok_ints, toL_slc, hwl, ← hn, gws]
    refine ⟨fun h1 => ?_, fun h1 => ?_⟩
    · (repeat' first | (exact solid_one _) | (exact solid1 rfl) | (exact noown_one _) | (apply And.intro) | (intro _)) <;> (try first | exact True.intro | omega | rfl | (simp only [List.length_cons, List.length_nil, I_length]; omega))
      · rename_i h2
        subst H_inRange
        rw [hr, hf0, isGr, within_false (by omega) h2]
        simp
      · rename_i h2
        subst H_inRange
        rw [wrap_id (n := i + 1) (by omega) (by omega)]
        refine hag (i + 1) ⟨by omega, by omega, ?_⟩ (by omega)
        rw [hI, within, within, all_drop (by omega), toNat_succ i0, h2]
        rfl
    have hwi : within ws (-1000) 1000 = true := by
      rw [hI, List.drop_eq_nil_of_le (by omega)]; rfl
    have hgr : isGr ws es = (edsOk ws.length none es && acy (iota ws.length) es) := by
      simp [isGr, hn1, hn2, hwi]
    clear hI hag i0 i1 h1 hfx ag
    refine hlp (List V × Int) _ _ _ [1, 3, 5, 6] (fun x => [(1, none, .val (.box 29 (.agg [.slc false 2 (.int .i64 0) a0, .slc false 22 (.slc false 2 (.int .i64 0) []) a1]))), (3, none, .val (.int .i64 n)), (5, none, .val (.slc true 2 (.int .i64 0) x.1)), (6, none, .val (.int .i64 x.2))])
      (fun x => 0 ≤ x.2 ∧ x.2 ≤ ws.length ∧ x.1 = I (iota x.2.toNat)) (fun x => (ws.length - x.2).toNat) (([], 0)) (by subst hL; rfl) ?_ ?_
    · exact ⟨by simp, by simp, rfl⟩
    rintro ⟨ls, i⟩ ⟨i0, i1, hI⟩ hfx ag hag
    conv => cbv
    simp only at i0 i1 hI
    have hl : ls.length = i.toNat := by rw [hI, I_length, iota_len]
    simp only [stdEqs hL, imp_self, true_and, and_true, bif_or, bif_and, Bool.or_eq_true, Bool.or_eq_false_iff, Bool.and_eq_true, Bool.and_eq_false_iff, decide_eq_true_eq, decide_eq_false_iff_not, Bool.not_eq_true', Bool.not_eq_false', beq_iff_eq, beq_eq_false_iff_ne, ne_eq, toNat0, toNat1, ok_int, toI_int, I_frzs, I_length, I_getD, ok_ints, toL_slc, hl, hn]
    refine ⟨fun h1 => ?_, fun h1 => ?_⟩
    · (repeat' first | (exact solid_one _) | (exact solid1 rfl) | (exact noown_one _) | (apply And.intro) | (intro _)) <;> (try first | exact True.intro | omega | rfl | (simp only [List.length_cons, List.length_nil, I_length]; omega))
      rw [wrap_id (n := i + 1) (by omega) (by omega)]
      rw [← hn]
      refine hag (_, i + 1) ⟨by simp only; omega, by simp only; omega, ?_⟩ (by simp only; omega)
      simp only [toNat_succ i0]
      rw [hI, iota, iota, tab_succ, ← I_append, Int.toNat_of_nonneg i0]
      rfl
    have hls : ls = I (iota ws.length) := by rw [hI, show i.toNat = ws.length by omega]
    clear hI hag i0 i1 h1 hfx ag hl
    refine hlp (List V × Int) _ _ _ [1, 3, 5, 7] (fun x => [(1, none, .val (.box 29 (.agg [.slc false 2 (.int .i64 0) a0, .slc false 22 (.slc false 2 (.int .i64 0) []) a1]))), (3, none, .val (.int .i64 n)), (5, none, .val (.slc true 2 (.int .i64 0) x.1)), (7, none, .val (.int .i64 x.2))])
      (fun x => 0 ≤ x.2 ∧ x.2 ≤ es.length ∧ ∃ lab, x.1 = I lab ∧ lab.length = ws.length ∧ isGr ws es = (edsOk ws.length (prevE es x.2.toNat) (es.drop x.2.toNat) && acy lab (es.drop x.2.toNat))) (fun x => (es.length - x.2).toNat) ((ls, 0)) (by subst hL; rw [hn]; rfl) ?_ ?_
    · exact ⟨by simp, by simp, _, hls, iota_len _, hgr⟩
    clear hls hgr i ls
    rintro ⟨ls, k⟩ ⟨k0, k1, lab, hI, hll, hG⟩ hfx ag hag
    simp only at k0 k1 hI hG
    have hl : ls.length = ws.length := by rw [hI, I_length, hll]
    have gls : ∀ k, ls.getD k (.int .i64 0) = .int .i64 (lab.getD k 0) := fun k => by rw [hI, I_getD]
    conv => cbv
    have w1 : W (n - 1) = n - 1 := wrap_id (by omega) (by omega)
    have w2 : W (k - 1) = k - 1 := wrap_id (by omega) (by omega)
    have hin : ∀ x, F_inRange x 0 (n - 1) = (decide (0 ≤ x) && decide (x ≤ n - 1)) := fun x => by rw [← H_inRange]; rfl
    have hlx : ∀ x y, F_f_lexLt (I x) (I y) = lexLt x y := fun x y => by rw [← H_f_lexLt, f_lexLt, unI_I, unI_I]
    have hqI : ∀ x y, F_q_II (I x) (I y) := fun x y => by rw [← H_q_II]; exact ⟨⟨_, rfl⟩, ⟨_, rfl⟩⟩
    obtain ⟨E, hE⟩ : ∃ E, E = es.getD k.toNat [] := ⟨_, rfl⟩
    have hk1 : (k - 1).toNat = k.toNat - 1 := by omega
    simp only [stdEqs hL, imp_self, true_and, and_true, bif_or, bif_and, Bool.or_eq_true, Bool.or_eq_false_iff, Bool.and_eq_true, Bool.and_eq_false_iff, decide_eq_true_eq, decide_eq_false_iff_not, Bool.not_eq_true', Bool.not_eq_false', beq_iff_eq, beq_eq_false_iff_ne, ne_eq, toNat0, toNat1, ok_int, toI_int, I_frzs, I_length, I_getD, ok_ints, toL_slc, hl, hel, ← hn, ges, gls, w1, w2, hin, hlx, hqI, ← hE, hk1, implies_true, Int.le_refl]
    refine ⟨fun h1 => ?_, fun h1 => ?_⟩
    · have hd : es.drop k.toNat = E :: es.drop (k.toNat + 1) := by rw [hE]; exact drop_cons [] (by omega)
      have hG1 : isGr ws es = (edOk ws.length (prevE es k.toNat) E && edsOk ws.length (some E) (es.drop (k.toNat + 1)) && (!(gI lab (e0 E) == gI lab (e1 E)) && acy (relab (gI lab (e0 E)) (gI lab (e1 E)) lab) (es.drop (k.toNat + 1)))) := by
        rw [hG, hd]; rfl
      (repeat' first | (exact solid_one _) | (exact solid1 rfl) | (exact noown_one _) | (apply And.intro) | (intro _)) <;> (try first | exact True.intro | omega | rfl | (simp only [List.length_cons, List.length_nil, I_length]; omega))
      · rename_i h2
        have : edOk ws.length (prevE es k.toNat) E = false := by
          cases hb : edOk ws.length (prevE es k.toNat) E with
          | false => rfl
          | true =>
            obtain ⟨x1, x2, x3, x4, x5⟩ := edOk_iff.1 hb
            simp only [e0, e1] at x2 x3 x4
            rcases h2 with (((h2 | h2) | h2) | h2) | h2
            · omega
            · omega
            · omega
            · omega
            · rw [x5 (by omega)] at h2
              cases h2.2
        rw [hr, hf0, hG1, this]
        rfl
      · rename_i h2 h3
        have : (!(gI lab (e0 E) == gI lab (e1 E))) = false := by
          rw [show gI lab (e0 E) = gI lab (e1 E) from h3]
          simp
        rw [hr, hf0, hG1, this]
        simp
      · rename_i h2 h3
        obtain ⟨⟨⟨⟨y1, y2⟩, y3⟩, y4⟩, y5⟩ := h2
        have hok : edOk ws.length (prevE es k.toNat) E = true := edOk_iff.2 ⟨by omega, y2.1, by simp only [e0, e1]; omega, by simp only [e1]; omega, fun hk => y5.resolve_left (by omega)⟩
        have hab : (!(gI lab (e0 E) == gI lab (e1 E))) = true := by
          simp only [Bool.not_eq_true', beq_eq_false_iff_ne, ne_eq]
          exact h3
        rw [hok, hab, Bool.true_and, Bool.true_and] at hG1
        obtain ⟨va, ha⟩ : ∃ va, va = gI lab (e0 E) := ⟨_, rfl⟩
        obtain ⟨vb, hb⟩ : ∃ vb, vb = gI lab (e1 E) := ⟨_, rfl⟩
        rw [show lab.getD (E.getD 0 0).toNat 0 = va from ha.symm, show lab.getD (E.getD 1 0).toNat 0 = vb from hb.symm]
        rw [← ha, ← hb] at hG1
        have ul : (relab va vb lab).length = lab.length := relab_len _ _ _
        refine hlp (List V × Int) _ _ _ [1, 3, 5, 7, 9, 10, 11] (fun x => [(1, none, .val (.box 29 (.agg [.slc false 2 (.int .i64 0) a0, .slc false 22 (.slc false 2 (.int .i64 0) []) a1]))), (3, none, .val (.int .i64 n)), (5, none, .val (.slc true 2 (.int .i64 0) x.1)), (7, none, .val (.int .i64 k)), (9, none, .val (.int .i64 va)), (10, none, .val (.int .i64 vb)), (11, none, .val (.int .i64 x.2))])
          (fun x => 0 ≤ x.2 ∧ x.2 ≤ lab.length ∧ x.1 = I ((relab va vb lab).take x.2.toNat ++ lab.drop x.2.toNat)) (fun x => (lab.length - x.2).toNat) ((ls, 0)) (by subst hL; rfl) ?_ ?_
        · simp [hI]
        rintro ⟨fs, j⟩ ⟨j0, j1, hK⟩ hfx2 ag2 hag2
        simp only at j0 j1 hK
        have hl2 : fs.length = lab.length := by rw [hK, I_length, map_len _ _ _ ul (by omega)]
        have gfs : ∀ j', fs.getD j' (.int .i64 0) = .int .i64 (((relab va vb lab).take j.toNat ++ lab.drop j.toNat).getD j' 0) := fun j' => by rw [hK, I_getD]
        conv => cbv
        simp only [stdEqs hL, imp_self, true_and, and_true, bif_or, bif_and, Bool.or_eq_true, Bool.or_eq_false_iff, Bool.and_eq_true, Bool.and_eq_false_iff, decide_eq_true_eq, decide_eq_false_iff_not, Bool.not_eq_true', Bool.not_eq_false', beq_iff_eq, beq_eq_false_iff_ne, ne_eq, toNat0, toNat1, ok_int, toI_int, I_frzs, I_length, I_getD, ok_ints, toL_slc, hl2, gfs]
        refine ⟨fun h4 => ?_, fun h4 => ?_⟩
        · have hj : j.toNat < lab.length := by omega
          have hu : (relab va vb lab).getD j.toNat 0 = if lab.getD j.toNat 0 = vb then va else lab.getD j.toNat 0 := relab_get _ _ _ _ hj
          rw [map_at _ _ _ ul hj]
          have fin : ∀ gs, gs = I ((relab va vb lab).take (j.toNat + 1) ++ lab.drop (j.toNat + 1)) → ag2 [(1, none, .val (.box 29 (.agg [.slc false 2 (.int .i64 0) a0, .slc false 22 (.slc false 2 (.int .i64 0) []) a1]))), (3, none, .val (.int .i64 n)), (5, none, .val (.slc true 2 (.int .i64 0) gs)), (7, none, .val (.int .i64 k)), (9, none, .val (.int .i64 va)), (10, none, .val (.int .i64 vb)), (11, none, .val (.int .i64 (j + 1)))] := fun gs hg =>
            hag2 (gs, j + 1) ⟨by simp only; omega, by simp only; omega, by simp only [toNat_succ j0]; exact hg⟩ (by simp only; omega)
          rw [wrap_id (n := j + 1) (by omega) (by omega)]
          (repeat' first | (exact solid_one _) | (exact solid1 rfl) | (exact noown_one _) | (apply And.intro) | (intro _)) <;> (try first | exact True.intro | omega | rfl | (simp only [List.length_cons, List.length_nil, I_length]; omega))
          · rename_i h5
            refine fin _ ?_
            rw [hK, I_set, ← map_step _ _ _ ul hj, hu, if_pos h5]
          · rename_i h5
            refine fin _ ?_
            rw [hK, ← map_same _ _ _ ul hj (by rw [hu, if_neg h5])]
        · rw [wrap_id (n := k + 1) (by omega) (by omega)]
          refine hag (fs, k + 1) ⟨by simp only; omega, by simp only; omega, relab va vb lab, ?_, by rw [ul, hll], ?_⟩ (by simp only; omega)
          · simp only
            rw [hK, List.take_of_length_le (by omega), List.drop_eq_nil_of_le (by omega), List.append_nil]
          · simp only [toNat_succ k0]
            rw [hG1, prevE, ← hE]
    · rw [hr, hf0, hG, List.drop_eq_nil_of_le (by omega)]
      rfl
  · cases h
theorem edsOk_step {n : Nat} {es : List (List Int)} {k : Nat} (h : k < es.length) : edsOk n (prevE es k) (es.drop k) = (edOk n (prevE es k) (es.getD k []) && edsOk n (prevE es (k + 1)) (es.drop (k + 1))) := by
  rw [drop_cons [] h]; rfl
set_option maxRecDepth 100000 in
theorem s_impl_IsGraph : Sat Try.prog 34 (c_G_b f_isGr q_G) := by
  intro args ps r h hp
  unfold c_G_b at h
  split at h
  · rename_i a0 a1
    simp only [Option.some.injEq, Prod.mk.injEq] at h
    obtain ⟨rfl, rfl⟩ := h
    obtain ⟨⟨ws, hws⟩, es, hes⟩ : q_G a0 a1 := (alls_cons.1 hp).1
    have g0 : V.frzs a0 = a0 := by rw [hws, I_frzs]
    have g1 : V.frzs a1 = a1 := by rw [hes, II_frzs]
    have hel : a1.length = es.length := by rw [hes, II_length]
    have hwl : a0.length = ws.length := by rw [hws, I_length]
    have hf0 : f_isGr a0 a1 = isGr ws es := by rw [f_isGr, hes, hws, unII_II, unI_I]
    have gws : ∀ k, a0.getD k (.int .i64 0) = .int .i64 (ws.getD k 0) := fun k => by rw [hws, I_getD]
    have ges : ∀ k, a1.getD k (.slc false 2 (.int .i64 0) []) = .slc false 2 (.int .i64 0) (I (es.getD k [])) := fun k => by rw [hes, II_getD]
    obtain ⟨n, hn⟩ : ∃ n : Int, n = ws.length := ⟨_, rfl⟩
    obtain ⟨m, hm⟩ : ∃ m : Int, m = es.length := ⟨_, rfl⟩
    have hwi : f_within a0 (-1000) 1000 = within ws (-1000) 1000 := by rw [f_within, hws, unI_I]
    generalize H_f_within : f_within = F_f_within
    generalize H_IsI : IsI = F_IsI
    generalize H_f_cmpL : f_cmpL = F_f_cmpL
    generalize H_q_II : q_II = F_q_II
    generalize H_f_labs : f_labs = F_f_labs
    generalize H_q_labs : q_labs = F_q_labs
    generalize H_f_maxL : f_maxL = F_f_maxL
    generalize H_q_ne : q_ne = F_q_ne
    refine fnOk_ofI (T := tab) (B := [(72, c_impl_within F_f_within F_IsI), (73, c_ll_i F_f_cmpL F_q_II), (75, c_im_l F_f_labs F_q_labs), (74, c_l_i F_f_maxL F_q_ne)]) (Bi := []) [0, 1, 2, 3, 4, 5, 6, 30, 31, 32] Try.func34 rfl rfl (by kernel_rfl) (Nat.le_of_ble_eq_true rfl) mixed tabOk (by subst H_f_within H_IsI H_f_cmpL H_q_II H_f_labs H_q_labs H_f_maxL H_q_ne; exact (bookCons s_impl_within (bookCons s_slicesCompare (bookCons s_impl_labels (bookCons s_slicesMax bookNil))))) (by subst H_f_within H_IsI H_f_cmpL H_q_II H_f_labs H_q_labs H_f_maxL H_q_ne; exact bookINil) (by kernel_rfl) ?_
    intro L lp rr hL hr hf hlp
    have hle := hf.1.2.1.1
    rw [hel] at hle
    have hwi' : F_f_within a0 (-1000) 1000 = within ws (-1000) 1000 := by rw [← H_f_within]; exact hwi
    have hqI : F_IsI a0 := by rw [← H_IsI]; exact ⟨ws, hws⟩
    conv => cbv
    simp only [stdEqs hL, imp_self, true_and, and_true, bif_or, bif_and, Bool.or_eq_true, Bool.or_eq_false_iff, Bool.and_eq_true, Bool.and_eq_false_iff, decide_eq_true_eq, decide_eq_false_iff_not, Bool.not_eq_true', Bool.not_eq_false', beq_iff_eq, beq_eq_false_iff_ne, ne_eq, toNat0, toNat1, ok_int, toI_int, I_frzs, I_length, I_getD, ok_ints, toL_slc, hwl, hel, g0, g1, ← hn, ← hm, hwi', hqI, implies_true]
    refine ⟨fun h => ?_, fun h => ?_⟩
    · have : isGr ws es = false := by
        cases hg : isGr ws es with
        | false => rfl
        | true =>
          simp only [isGr, Bool.and_eq_true, decide_eq_true_eq] at hg
          obtain ⟨⟨⟨⟨x1, x2⟩, x3⟩, x4⟩, x5⟩ := hg
          have x6 := (comp_iff (n := ws.length) (es := es) (by omega) (fun e he => (edsOk_in x4 e he).1)).2.2.2.2 x5
          rw [x3] at h
          rcases h with ((h | h) | h) | h
          · omega
          · omega
          · cases h
          · omega
      rw [hr, hf0, this]
    obtain ⟨⟨⟨q1, q2⟩, q3⟩, q4⟩ := h
    have hn1 : 1 ≤ ws.length := by omega
    have hn2 : ws.length ≤ 40 := by omega
    have hgr : isGr ws es = (edsOk ws.length none es && acy (iota ws.length) es) := by
      simp [isGr, hn1, hn2, q3]
    refine hlp (Int) _ _ _ [1, 3, 30, 31, 32] (fun x => [(1, none, .val (.box 29 (.agg [.slc false 2 (.int .i64 0) a0, .slc false 22 (.slc false 2 (.int .i64 0) []) a1]))), (3, none, .val (.int .i64 n)), (30, none, .val (.slc false 22 (.slc false 2 (.int .i64 0) []) a1)), (31, none, .val (.int .i64 m)), (32, none, .val (.int .i64 x))])
      (fun x => 0 ≤ x ∧ x ≤ es.length ∧ edsOk ws.length none es = edsOk ws.length (prevE es x.toNat) (es.drop x.toNat)) (fun x => (es.length - x).toNat) (0) (by subst hL; rfl) ?_ ?_
    · simp [prevE]
    rintro k ⟨k0, k1, hI⟩ hfx ag hag
    conv => cbv
    have w2 : W (k - 1) = k - 1 := wrap_id (by omega) (by omega)
    have hcm : ∀ x y, F_f_cmpL (I x) (I y) = cmpL x y := fun x y => by rw [← H_f_cmpL, f_cmpL, unI_I, unI_I]
    have hqJ : ∀ x y, F_q_II (I x) (I y) := fun x y => by rw [← H_q_II]; exact ⟨⟨_, rfl⟩, ⟨_, rfl⟩⟩
    obtain ⟨E, hE⟩ : ∃ E, E = es.getD k.toNat [] := ⟨_, rfl⟩
    have hk1 : (k - 1).toNat = k.toNat - 1 := by omega
    simp only [stdEqs hL, imp_self, true_and, and_true, bif_or, bif_and, Bool.or_eq_true, Bool.or_eq_false_iff, Bool.and_eq_true, Bool.and_eq_false_iff, decide_eq_true_eq, decide_eq_false_iff_not, Bool.not_eq_true', Bool.not_eq_false', beq_iff_eq, beq_eq_false_iff_ne, ne_eq, toNat0, toNat1, ok_int, toI_int, I_frzs, I_length, I_getD, ok_ints, toL_slc, hel, ← hm, ges, g1, w2, hcm, hqJ, ← hE, hk1, implies_true, Int.le_refl]
    have hlx : ∀ x y, (0 ≤ cmpL x y) ↔ lexLt x y = false := fun x y => by
      have := cmpL_lt x y
      cases hh : lexLt x y <;> simp [hh] at this ⊢ <;> omega
    refine ⟨fun h1 => ?_, fun h1 => ?_⟩
    · have hst : edsOk ws.length none es = (edOk ws.length (prevE es k.toNat) E && edsOk ws.length (prevE es (k.toNat + 1)) (es.drop (k.toNat + 1))) := by
        rw [hI, edsOk_step (by omega), ← hE]
      have bad : edOk ws.length (prevE es k.toNat) E = false → V.bool false = rr := by
        intro h
        rw [hr, hf0, hgr, hst, h]
        rfl
      (repeat' first | (exact solid_one _) | (exact solid1 rfl) | (exact noown_one _) | (apply And.intro) | (intro _)) <;> (try first | exact True.intro | omega | rfl | (simp only [List.length_cons, List.length_nil, I_length]; omega))
      · rename_i h2
        refine bad ?_
        cases hb : edOk ws.length (prevE es k.toNat) E with
        | false => rfl
        | true =>
          obtain ⟨x1, x2, x3, x4, x5⟩ := edOk_iff.1 hb
          simp only [e0, e1] at x2 x3 x4
          omega
      · rename_i h2 h3
        refine bad ?_
        cases hb : edOk ws.length (prevE es k.toNat) E with
        | false => rfl
        | true =>
          obtain ⟨x1, x2, x3, x4, x5⟩ := edOk_iff.1 hb
          have := (hlx _ _).1 h3.2
          rw [x5 (by omega)] at this
          cases this
      · rename_i h2 h3
        have hok : edOk ws.length (prevE es k.toNat) E = true := edOk_iff.2 ⟨by omega, by simp only [e0]; omega, by simp only [e0, e1]; omega, by simp only [e1]; omega, fun hk => by
          cases hh : lexLt (es.getD (k.toNat - 1) []) E with
          | true => rfl
          | false =>
            have := (hlx _ _).2 hh
            rcases h3 with h3 | h3 <;> omega⟩
        rw [wrap_id (n := k + 1) (by omega) (by omega)]
        refine hag (k + 1) ⟨by omega, by omega, ?_⟩ (by omega)
        rw [toNat_succ k0, hst, hok, Bool.true_and]
    have hok : edsOk ws.length none es = true := by
      rw [hI, List.drop_eq_nil_of_le (by omega)]
      rfl
    have hed : ∀ e ∈ es, EdIn ws.length e := fun e he => (edsOk_in hok e he).1
    obtain ⟨c1, c2, c3, c4, c5⟩ := comp_iff (n := ws.length) (es := es) (by omega) hed
    have hnn : n.toNat = ws.length := by omega
    subst H_f_labs H_q_labs H_f_maxL H_q_ne
    have hlb : f_labs n a1 = I (labs ws.length es) := by rw [f_labs, hnn, hes, unII_II]
    have hll : (labs ws.length es).length = ws.length := by rw [labs, rn_len, c1.len]
    simp only [hlb, I_frzs, f_maxL, unI_I]
    have hcb := cntR_bound (uniAll (iota ws.length) es) ws.length
    refine ⟨⟨by omega, by omega, es, hes, by rw [hnn]; exact hed⟩, ⟨⟨_, rfl⟩, fun h => ?_⟩, ?_⟩
    · have := congrArg List.length h
      rw [I_length, hll, List.length_nil] at this
      omega
    · rw [hr, hf0, hgr, hok, Bool.true_and]
      rw [wrap_id (n := maxL (labs ws.length es) + 1) (by omega) (by omega), wrap_id (by omega) (by omega)]
      congr 1
      cases hb : acy (iota ws.length) es with
      | true =>
        have := c4.1 hb
        simp only [beq_iff_eq]
        omega
      | false =>
        have : ¬ maxL (labs ws.length es) + 1 + es.length = ws.length := fun h => by
          rw [c4.2 h] at hb; cases hb
        simp only [beq_eq_false_iff_ne]
        omega
  · cases h
theorem szGo_ok : ∀ (l : List (List Int)) (left : Int), 0 ≤ left → left ≤ 1048576 → (∀ x ∈ l, x.length ≤ 9223372036854775807) → ¬ szGo l left < 0 → tot l ≤ left ∧ ∀ x ∈ l, x.length ≤ 1048576
  | [], left, h, _, _, _ => ⟨by simpa [tot] using h, fun x hx => by cases hx⟩
  | x :: l, left, h, h2, hl, hs => by
    have hx := hl x (by simp)
    have e1 : IntKind.wrap .i64 (left - x.length) = left - x.length := wrap_id (by omega) (by omega)
    have e2 : szL x.length left = bif decide (left - x.length < 0) then -1 else left - x.length := by rw [szL, e1]
    simp only [szGo] at hs
    by_cases h3 : left - (x.length : Int) < 0
    · rw [e2, decide_eq_true h3] at hs
      simp at hs
    · rw [e2, decide_eq_false h3, cond_false, decide_eq_false h3, cond_false] at hs
      obtain ⟨h4, h5⟩ := szGo_ok l _ (by omega) (by omega) (fun y hy => hl y (by simp [hy])) hs
      refine ⟨by simp only [tot]; omega, fun y hy => ?_⟩
      rcases List.mem_cons.1 hy with rfl | hy
      · omega
      · exact h5 y hy
theorem szSS_ok {l : List (List Int)} {left : Int} (h : 0 ≤ left) (h2 : left ≤ 1048576) (hl0 : l.length ≤ 9223372036854775807) (hl : ∀ x ∈ l, x.length ≤ 9223372036854775807) (hs : ¬ szSS l left < 0) : l.length ≤ 1048576 ∧ tot l ≤ 1048576 ∧ ∀ x ∈ l, x.length ≤ 1048576 := by
  have e1 : IntKind.wrap .i64 (left - l.length) = left - l.length := wrap_id (by omega) (by omega)
  unfold szSS at hs
  rw [show W (left - l.length) = left - l.length from e1] at hs
  by_cases h3 : left - (l.length : Int) < 0
  · rw [decide_eq_true h3] at hs
    simp at hs
  · rw [decide_eq_false h3, cond_false] at hs
    obtain ⟨h4, h5⟩ := szGo_ok l _ (by omega) (by omega) hl hs
    exact ⟨by omega, by omega, h5⟩
theorem lenOks_mem {o : Bool} {xss : List (List Int)} (h : V.lenOks (II o xss)) : ∀ x ∈ xss, x.length ≤ 9223372036854775807 := by
  intro x hx
  obtain ⟨i, hi, rfl⟩ := List.mem_iff_getElem.1 hx
  have := lenOks_II h i hi
  rwa [List.getD_eq_getElem?_getD, List.getElem?_eq_getElem hi] at this
theorem szG_ok {a0 a1 : List V} (h1 : IsII false a1) (hf0 : a0.length ≤ 9223372036854775807) (hf1 : a1.length ≤ 9223372036854775807) (hf2 : V.lenOks a1) (h0 : IsI a0) (h : decide (f_szG a0 a1 1048576 < 0) = false) : q_cpG a0 a1 ∧ a0.length ≤ 1048576 ∧ tot (unII a1) ≤ 1048576 := by
  obtain ⟨es, hes⟩ := h1
  subst hes
  rw [II_length] at hf1
  unfold f_szG at h
  have e1 : IntKind.wrap .i64 ((1048576 : Int) - a0.length) = 1048576 - a0.length := wrap_id (by omega) (by omega)
  have e2 : szL a0.length 1048576 = bif decide ((1048576 : Int) - a0.length < 0) then (-1 : Int) else (1048576 : Int) - a0.length := by rw [szL, e1]
  by_cases h3 : (1048576 : Int) - a0.length < 0
  · rw [e2, decide_eq_true h3] at h
    simp at h
  · rw [e2, decide_eq_false h3, cond_false, decide_eq_false h3, cond_false, unII_II, decide_eq_false_iff_not] at h
    obtain ⟨h4, h5, h6⟩ := szSS_ok (by omega) (by omega) hf1 (lenOks_mem hf2) h
    refine ⟨⟨⟨h0, by omega⟩, es, rfl, by omega, fun x hx => by have := h6 x hx; omega⟩, by omega, by rw [unII_II]; exact h5⟩
theorem graph_keys (ws : List Int) (es : List (List Int)) : q_eqG (I ws) (II false es) (I ws) (II false es) ∧ f_eqG (I ws) (II false es) (I ws) (II false es) = true ∧ V.frzs (II true es) = II false es :=
  ⟨⟨⟨⟨_, rfl⟩, ⟨_, rfl⟩⟩, ⟨_, rfl⟩, ⟨_, rfl⟩⟩, by simp [f_eqG, f0_eqI, f0_eqSS], II_frzs _ _⟩
end Go.Ax
