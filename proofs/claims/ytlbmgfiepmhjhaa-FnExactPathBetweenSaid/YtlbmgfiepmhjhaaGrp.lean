/-
  ComponentLabels: both sides, the law. No conditions but those of the contracts.
-/
import Derived.Test.YtlbmgfiepmhjhaaGqp
set_option linter.all false
namespace Go.Ax
open Go.Proofs

def bfsIn (nr : List Int) (u : Int) (s : List Int × List Int) : Nat → List Int × List Int
  | 0 => s
  | k + 1 => if nr.getD k 0 ≠ gI (bfsIn nr u s k).2 u then ((bfsIn nr u s k).1 ++ [nr.getD k 0], (bfsIn nr u s k).2.set (nr.getD k 0).toNat u) else bfsIn nr u s k
def bfsO (es : List (List Int)) (n : Nat) (root : Int) : Nat → List Int × List Int
  | 0 => ([root], List.replicate n (-1))
  | i + 1 => if i < (bfsO es n root i).1.length then bfsIn (near es ((bfsO es n root i).1.getD i 0)) ((bfsO es n root i).1.getD i 0) (bfsO es n root i) (near es ((bfsO es n root i).1.getD i 0)).length else bfsO es n root i
theorem List.getD_append (l l' : List Int) (d : Int) (i : Nat) (h : i < l.length) : (l ++ l').getD i d = l.getD i d := by
  simp only [List.getD_eq_getElem?_getD]; rw [List.getElem?_append_left h]
theorem bfsIn_ok {ws : List Int} {es : List (List Int)} (g : Gr ws es) {root : Int} {s : List Int × List Int} {i : Nat} (hb : Bfs ws.length es root s.1 s.2 i 0) (hi : i < s.1.length) : ∀ k, k ≤ (near es (s.1.getD i 0)).length →
    Bfs ws.length es root (bfsIn (near es (s.1.getD i 0)) (s.1.getD i 0) s k).1 (bfsIn (near es (s.1.getD i 0)) (s.1.getD i 0) s k).2 i k ∧ (bfsIn (near es (s.1.getD i 0)) (s.1.getD i 0) s k).1.getD i 0 = s.1.getD i 0 ∧ i < (bfsIn (near es (s.1.getD i 0)) (s.1.getD i 0) s k).1.length
  | 0, _ => ⟨hb, rfl, hi⟩
  | k + 1, hk => by
    obtain ⟨h1, h2, h3⟩ := bfsIn_ok g hb hi k (by omega)
    rw [bfsIn]
    split
    · rename_i hw
      have hf := h1.fresh (by have := g.n1; omega) g.eok g.acyc h3 (by rw [h2]; omega) (by rw [h2]; exact hw)
      have h4 := h1.add g.eok h3 (by rw [h2]; omega) hf
      rw [h2] at h4
      refine ⟨h4, ?_, by simp only [List.length_append]; omega⟩
      rw [List.getD_append _ _ _ _ h3]
      exact h2
    · rename_i hw
      have hw : (near es (s.1.getD i 0)).getD k 0 = gI (bfsIn (near es (s.1.getD i 0)) (s.1.getD i 0) s k).2 (s.1.getD i 0) := Classical.not_not.1 hw
      exact ⟨h1.skip g.eok h3 (by rw [h2]; omega) (by rw [h2]; exact hw), h2, h3⟩
theorem bfsO_ok {ws : List Int} {es : List (List Int)} (g : Gr ws es) {root : Int} (hr : 0 ≤ root ∧ root < ws.length) : ∀ i, ∃ j, j ≤ i ∧ Bfs ws.length es root (bfsO es ws.length root i).1 (bfsO es ws.length root i).2 j 0 ∧ (j = i ∨ (bfsO es ws.length root i).1.length ≤ j)
  | 0 => ⟨0, Nat.le_refl _, Bfs.start hr, .inl rfl⟩
  | i + 1 => by
    obtain ⟨j, h1, h2, h3⟩ := bfsO_ok g hr i
    rw [bfsO]
    split
    · rename_i hl
      have hji : j = i := by omega
      rw [hji] at h2
      obtain ⟨h4, h5, h6⟩ := bfsIn_ok g h2 hl _ (Nat.le_refl _)
      refine ⟨i + 1, Nat.le_refl _, h4.next h6 ?_, .inl rfl⟩
      rw [h5]
      exact Nat.le_refl _
    · exact ⟨j, by omega, h2, .inr (by omega)⟩
def bfsE (es : List (List Int)) (n : Nat) (root : Int) : List Int × List Int := bfsO es n root n
theorem bfsO_stay {es : List (List Int)} {n : Nat} {root : Int} {i : Nat} (h : (bfsO es n root i).1.length ≤ i) : ∀ d, bfsO es n root (i + d) = bfsO es n root i
  | 0 => rfl
  | d + 1 => by
    have e := bfsO_stay h d
    rw [show i + (d + 1) = i + d + 1 by omega, bfsO, e, if_neg (by omega)]
theorem bfsE_full {ws : List Int} {es : List (List Int)} (g : Gr ws es) {root : Int} (hr : 0 ≤ root ∧ root < ws.length) : ∃ j, Bfs ws.length es root (bfsE es ws.length root).1 (bfsE es ws.length root).2 j 0 ∧ (bfsE es ws.length root).1.length ≤ j := by
  obtain ⟨j, h1, h2, h3⟩ := bfsO_ok g hr ws.length
  refine ⟨j, h2, ?_⟩
  rcases h3 with h3 | h3
  · rw [h3]; exact nodup_len _ h2.nd h2.inr
  · exact h3
def c_Gi_ll (f : List V → List V → Int → List V × List V) (q : List V → List V → Int → Prop) : Contract := fun
  | [.agg [.slc false 2 (.int .i64 0) a0, .slc false 22 (.slc false 2 (.int .i64 0) []) a1], .int .i64 a2] => some ([q a0 a1 a2], .tup [.slc true 2 (.int .i64 0) ((f a0 a1 a2).1), .slc true 2 (.int .i64 0) ((f a0 a1 a2).2)])
  | _ => none
def f_ord (ws es : List V) (root : Int) : List V × List V := (I (bfsE (unII es) ws.length root).1, I (bfsE (unII es) ws.length root).2)
def q_ord (ws es : List V) (root : Int) : Prop := q_Gr ws es ∧ 0 ≤ root ∧ root < ws.length
set_option maxRecDepth 100000 in
theorem s_spec_l11Order : Sat Try.prog 71 (c_Gi_ll f_ord q_ord) := by
  intro args ps r h hp
  unfold c_Gi_ll at h
  split at h
  · rename_i a0 a1 a2
    simp only [Option.some.injEq, Prod.mk.injEq] at h
    obtain ⟨rfl, rfl⟩ := h
    obtain ⟨⟨ws, es, hws, hes, g⟩, r0, r1⟩ : q_ord a0 a1 a2 := (alls_cons.1 hp).1
    have g1 : V.frzs a0 = a0 := by rw [hws, I_frzs]
    have g2 : V.frzs a1 = a1 := by rw [hes, II_frzs]
    have hwl : a0.length = ws.length := by rw [hws, I_length]
    rw [hwl] at r1
    have n1 := g.n1
    have n2 := g.n2
    have hqn : ∀ v, q_near a0 a1 v := fun v => ⟨⟨_, hws⟩, es, hes, by have := g.el; omega, fun e he => (g.ed e he).1⟩
    have hfn : ∀ v, f_near a0 a1 v = I (near es v) := fun v => by rw [f_near, hes, unII_II]
    have hf0 : f_ord a0 a1 a2 = (I (bfsE es ws.length a2).1, I (bfsE es ws.length a2).2) := by rw [f_ord, hes, unII_II, hwl]
    obtain ⟨n, hn⟩ : ∃ n : Int, n = ws.length := ⟨_, rfl⟩
    generalize H_f_near : f_near = F_f_near
    generalize H_q_near : q_near = F_q_near
    refine fnOk_ofI (T := tab) (B := [(42, c_Gi_l F_f_near F_q_near)]) (Bi := []) [0, 1, 2, 4, 5, 6, 7, 8, 9, 10, 11] Try.func71 rfl rfl (by kernel_rfl) (Nat.le_of_ble_eq_true rfl) mixed tabOk (by subst H_f_near H_q_near; exact (bookCons s_spec_l11Near bookNil)) (by subst H_f_near H_q_near; exact bookINil) (by kernel_rfl) ?_
    intro L lp rr hL hr hf hlp
    have Qn : ∀ v, F_q_near a0 a1 v := by rw [← H_q_near]; exact hqn
    have En : ∀ v, F_f_near a0 a1 v = I (near es v) := by rw [← H_f_near]; exact hfn
    conv => cbv
    refine hlp (List V × Int) _ _ _ [1, 2, 6, 7] (fun x => [(1, none, .val (.int .i64 a2)), (2, none, .val (.box 29 (.agg [.slc false 2 (.int .i64 0) a0, .slc false 22 (.slc false 2 (.int .i64 0) []) a1]))), (6, none, .val (.slc true 2 (.int .i64 0) x.1)), (7, none, .val (.int .i64 x.2))])
      (fun x => 0 ≤ x.2 ∧ x.2 ≤ n ∧ x.1 = I (List.replicate x.2.toNat (-1))) (fun x => (n - x.2).toNat) (([], 0)) (by subst hL; rfl) ?_ ?_
    · exact ⟨by simp, by simp only; omega, rfl⟩
    rintro ⟨fs, i⟩ ⟨i0, i1, hI⟩ hfx ag hag
    simp only at i0 i1 hI
    conv => cbv
    simp only [stdEqs hL, imp_self, true_and, and_true, bif_or, bif_and, Bool.or_eq_true, Bool.or_eq_false_iff, Bool.and_eq_true, Bool.and_eq_false_iff, decide_eq_true_eq, decide_eq_false_iff_not, Bool.not_eq_true', Bool.not_eq_false', beq_iff_eq, beq_eq_false_iff_ne, ne_eq, toNat0, toNat1, ok_int, toI_int, I_frzs, I_length, I_getD, ok_ints, toL_slc, hwl, ← hn]
    refine ⟨fun h2 => ?_, fun h2 => ?_⟩
    · have hfl : fs.length ≤ 40 := by rw [hI, I_length, List.length_replicate]; omega
      rw [wrap_id (n := i + 1) (by omega) (by omega)]
      (repeat' first | (exact solid_one _) | (exact solid1 rfl) | (exact noown_one _) | (apply And.intro) | (intro _)) <;> (try first | exact True.intro | omega | rfl | (simp only [List.length_cons, List.length_nil, I_length]; omega))
      refine hag (_, i + 1) ⟨by simp only; omega, by simp only; omega, ?_⟩ (by simp only; omega)
      simp only [toNat_succ i0]
      rw [List.replicate_succ', hI, ← I_append]
      rfl
    have hfs : fs = I (List.replicate ws.length (-1)) := by rw [hI, show i.toNat = ws.length by omega]
    clear hag hfx ag
    obtain ⟨v0, hv0⟩ : ∃ v0, v0 = I [a2] := ⟨_, rfl⟩
    have hv0' : [V.int .i64 a2] = v0 := hv0.symm
    simp only [hv0']
    (repeat' first | (exact solid_one _) | (exact solid1 rfl) | (exact noown_one _) | (apply And.intro) | (intro _)) <;> (try first | exact True.intro | omega | rfl | (simp only [List.length_cons, List.length_nil, I_length]; omega))
    refine hlp ((List V × List V) × Int) _ _ _ [2, 6, 8, 9] (fun x => [(2, none, .val (.box 29 (.agg [.slc false 2 (.int .i64 0) a0, .slc false 22 (.slc false 2 (.int .i64 0) []) a1]))), (6, none, .val (.slc true 2 (.int .i64 0) x.1.2)), (8, none, .val (.slc true 2 (.int .i64 0) x.1.1)), (9, none, .val (.int .i64 x.2))])
      (fun x => 0 ≤ x.2 ∧ x.2 ≤ n ∧ x.1.1 = I (bfsO es ws.length a2 x.2.toNat).1 ∧ x.1.2 = I (bfsO es ws.length a2 x.2.toNat).2 ∧ Bfs ws.length es a2 (bfsO es ws.length a2 x.2.toNat).1 (bfsO es ws.length a2 x.2.toNat).2 x.2.toNat 0) (fun x => (n - x.2).toNat) (((v0, fs), 0)) (by subst hL; rfl) ?_ ?_
    · exact ⟨by simp, by simp only; omega, hv0, hfs, Bfs.start ⟨r0, r1⟩⟩
    rintro ⟨⟨os, ps⟩, j⟩ ⟨j0, j1, hO, hP, hB⟩ hfx ag hag
    simp only at j0 j1 hO hP hB
    obtain ⟨s, hs⟩ : ∃ s, s = bfsO es ws.length a2 j.toNat := ⟨_, rfl⟩
    rw [← hs] at hO hP hB
    have hol : os.length = s.1.length := by rw [hO, I_length]
    have hsl := nodup_len s.1 hB.nd hB.inr
    have go : ∀ k, os.getD k (.int .i64 0) = .int .i64 (s.1.getD k 0) := fun k => by rw [hO, I_getD]
    conv => cbv
    simp only [stdEqs hL, imp_self, true_and, and_true, bif_or, bif_and, Bool.or_eq_true, Bool.or_eq_false_iff, Bool.and_eq_true, Bool.and_eq_false_iff, decide_eq_true_eq, decide_eq_false_iff_not, Bool.not_eq_true', Bool.not_eq_false', beq_iff_eq, beq_eq_false_iff_ne, ne_eq, toNat0, toNat1, ok_int, toI_int, I_frzs, I_length, I_getD, ok_ints, toL_slc, g1, g2, hol, go]
    refine ⟨fun h3 => ?_, fun h3 => ?_⟩
    · have hjl : j.toNat < s.1.length := by omega
      obtain ⟨u, hu⟩ : ∃ u, u = s.1.getD j.toNat 0 := ⟨_, rfl⟩
      have hur := hB.inr u (by rw [hu]; exact getD_mem hjl)
      obtain ⟨nr, hnr⟩ : ∃ nr, nr = near es u := ⟨_, rfl⟩
      obtain ⟨vn, hvn⟩ : ∃ vn, vn = I nr := ⟨_, rfl⟩
      have hnl : nr.length ≤ 80 := by
        rw [hnr, near, List.length_append]
        have := nearA_len es u
        have := nearB_len es u
        have := g.el
        omega
      have hin : ∀ k, k < nr.length → 0 ≤ nr.getD k 0 ∧ nr.getD k 0 < ws.length := fun k hk => near_in g.ed (by rw [← hnr]; exact getD_mem hk)
      have hvl : vn.length = nr.length := by rw [hvn, I_length]
      have gn : ∀ k, vn.getD k (.int .i64 0) = .int .i64 (nr.getD k 0) := fun k => by rw [hvn, I_getD]
      rw [← hu]
      simp only [En, ← hnr, ← hvn]
      refine ⟨by omega, by omega, by omega, Qn _, ?_⟩
      refine hlp ((List V × List V) × Int) _ _ _ [2, 6, 8, 9, 10, 11] (fun x => [(2, none, .val (.box 29 (.agg [.slc false 2 (.int .i64 0) a0, .slc false 22 (.slc false 2 (.int .i64 0) []) a1]))), (6, none, .val (.slc true 2 (.int .i64 0) x.1.2)), (8, none, .val (.slc true 2 (.int .i64 0) x.1.1)), (9, none, .val (.int .i64 j)), (10, none, .val (.slc true 2 (.int .i64 0) vn)), (11, none, .val (.int .i64 x.2))])
        (fun x => 0 ≤ x.2 ∧ x.2 ≤ nr.length ∧ x.1.1 = I (bfsIn nr u s x.2.toNat).1 ∧ x.1.2 = I (bfsIn nr u s x.2.toNat).2) (fun x => (nr.length - x.2).toNat) (((os, ps), 0)) (by subst hL; rfl) ?_ ?_
      · exact ⟨by simp, by simp, hO, hP⟩
      rintro ⟨⟨os2, ps2⟩, k⟩ ⟨k0, k1, hO2, hP2⟩ hfx2 ag2 hag2
      simp only at k0 k1 hO2 hP2
      have hB2 := bfsIn_ok g hB hjl k.toNat (by rw [← hu, ← hnr]; omega)
      rw [← hu, ← hnr] at hB2
      obtain ⟨s2, hs2⟩ : ∃ s2, s2 = bfsIn nr u s k.toNat := ⟨_, rfl⟩
      rw [← hs2] at hB2 hO2 hP2
      obtain ⟨hB2, hu2, hl2⟩ := hB2
      have hol2 : os2.length = s2.1.length := by rw [hO2, I_length]
      have hpl2 : ps2.length = ws.length := by rw [hP2, I_length]; exact hB2.pl
      have hsl2 := nodup_len s2.1 hB2.nd hB2.inr
      have go2 : ∀ k, os2.getD k (.int .i64 0) = .int .i64 (s2.1.getD k 0) := fun k => by rw [hO2, I_getD]
      have gp2 : ∀ k, ps2.getD k (.int .i64 0) = .int .i64 (s2.2.getD k 0) := fun k => by rw [hP2, I_getD]
      have hstep : bfsIn nr u s (k.toNat + 1) = if nr.getD k.toNat 0 ≠ gI s2.2 u then (s2.1 ++ [nr.getD k.toNat 0], s2.2.set (nr.getD k.toNat 0).toNat u) else s2 := by rw [bfsIn, ← hs2]
      conv => cbv
      simp only [stdEqs hL, imp_self, true_and, and_true, bif_or, bif_and, Bool.or_eq_true, Bool.or_eq_false_iff, Bool.and_eq_true, Bool.and_eq_false_iff, decide_eq_true_eq, decide_eq_false_iff_not, Bool.not_eq_true', Bool.not_eq_false', beq_iff_eq, beq_eq_false_iff_ne, ne_eq, toNat0, toNat1, ok_int, toI_int, I_frzs, I_length, I_getD, ok_ints, toL_slc, hvl, gn, hol2, go2, hu2, hpl2, gp2]
      refine ⟨fun h4 => ?_, fun h4 => ?_⟩
      · have hik := hin k.toNat (by omega)
        rw [wrap_id (n := k + 1) (by omega) (by omega)]
        refine ⟨by omega, by omega, by omega, by omega, by omega, by omega, by omega, by omega, by omega, fun h5 => ?_, fun h5 => ?_⟩
        · (repeat' first | (exact solid_one _) | (exact solid1 rfl) | (exact noown_one _) | (apply And.intro) | (intro _)) <;> (try first | exact True.intro | omega | rfl | (simp only [List.length_cons, List.length_nil, I_length]; omega))
          refine hag2 ((_, _), k + 1) ⟨by simp only; omega, by simp only; omega, ?_, ?_⟩ (by simp only; omega)
          · simp only [toNat_succ k0]
            rw [hstep, if_pos h5, hO2, ← I_append]
            rfl
          · simp only [toNat_succ k0]
            rw [hstep, if_pos h5, hP2, I_set]
        · refine hag2 ((os2, ps2), k + 1) ⟨by simp only; omega, by simp only; omega, ?_, ?_⟩ (by simp only; omega)
          · simp only [toNat_succ k0]
            rw [hstep, if_neg (fun h => h h5)]; exact hO2
          · simp only [toNat_succ k0]
            rw [hstep, if_neg (fun h => h h5)]; exact hP2
      · have hkl : k.toNat = nr.length := by omega
        have hnx : bfsO es ws.length a2 (j.toNat + 1) = s2 := by
          rw [bfsO, ← hs, if_pos hjl, ← hu, ← hnr, hs2, hkl]
        rw [wrap_id (n := j + 1) (by omega) (by omega)]
        refine hag ((os2, ps2), j + 1) ⟨by simp only; omega, by simp only; omega, ?_, ?_, ?_⟩ (by simp only; omega)
        · simp only [toNat_succ j0]; rw [hnx]; exact hO2
        · simp only [toNat_succ j0]; rw [hnx]; exact hP2
        · simp only [toNat_succ j0]
          rw [hnx]
          exact hB2.next hl2 (by rw [hu2, ← hnr]; omega)
    · have he : bfsE es ws.length a2 = s := by
        rw [bfsE, hs, show ws.length = j.toNat + (ws.length - j.toNat) by omega]
        rw [show j.toNat + (ws.length - j.toNat) = ws.length by omega]
        have := bfsO_stay (es := es) (n := ws.length) (root := a2) (i := j.toNat) (by rw [← hs]; omega) (ws.length - j.toNat)
        rw [show j.toNat + (ws.length - j.toNat) = ws.length by omega] at this
        exact this
      (repeat' first | (exact solid_one _) | (exact solid1 rfl) | (exact noown_one _) | (apply And.intro) | (intro _)) <;> (try first | exact True.intro | omega | rfl | (simp only [List.length_cons, List.length_nil, I_length]; omega))
      rw [hr, hf0, he, hO, hP]
  · cases h
end Go.Ax
