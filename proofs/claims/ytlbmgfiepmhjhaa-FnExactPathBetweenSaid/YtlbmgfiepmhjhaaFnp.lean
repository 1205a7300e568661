/-
  Graphs: labels of components, what a graph is. No conditions but those of the contracts.
-/
import Derived.Test.YtlbmgfiepmhjhaaFmp
set_option linter.all false
namespace Go.Ax
open Go.Proofs

theorem iota_step (n i : Nat) (h : i < n) : (iota i ++ List.replicate (n - i) 0).set i (i : Int) = iota (i + 1) ++ List.replicate (n - (i + 1)) 0 := by
  have : n - i = (n - (i + 1)) + 1 := by omega
  rw [this, List.replicate_succ, set_at _ _ _ _ _ (iota_len i), iota, iota, tab_succ, List.append_assoc]
  rfl
theorem map_step (f g : List Int) (i : Nat) (hg : g.length = f.length) (h : i < f.length) : (g.take i ++ f.drop i).set i (g.getD i 0) = g.take (i + 1) ++ f.drop (i + 1) := by
  rw [List.drop_eq_getElem_cons h, set_at _ _ _ _ _ (by rw [List.length_take]; omega), List.take_succ_eq_append_getElem (by omega), List.getD_eq_getElem?_getD, List.getElem?_eq_getElem (by omega), List.append_assoc]
  rfl
theorem map_same (f g : List Int) (i : Nat) (hg : g.length = f.length) (h : i < f.length) (he : g.getD i 0 = f.getD i 0) : g.take i ++ f.drop i = g.take (i + 1) ++ f.drop (i + 1) := by
  rw [drop_cons 0 h, List.take_succ_eq_append_getElem (by omega), List.append_assoc]
  have : g[i] = g.getD i 0 := by rw [List.getD_eq_getElem?_getD, List.getElem?_eq_getElem (by omega)]; rfl
  rw [this, he]
  rfl
theorem map_at (f g : List Int) (i : Nat) (hg : g.length = f.length) (h : i < f.length) : (g.take i ++ f.drop i).getD i 0 = f.getD i 0 := by
  rw [List.getD_eq_getElem?_getD, List.getElem?_append_right (by rw [List.length_take]; omega), List.length_take, show i - min i g.length = 0 by omega, List.getElem?_drop, Nat.add_zero, ← List.getD_eq_getElem?_getD]
theorem map_before (f g : List Int) (i k : Nat) (hg : g.length = f.length) (h : i ≤ f.length) (hk : k < i) : (g.take i ++ f.drop i).getD k 0 = g.getD k 0 := by
  rw [List.getD_eq_getElem?_getD, List.getElem?_append_left (by rw [List.length_take]; omega), List.getElem?_take_of_lt hk, ← List.getD_eq_getElem?_getD]
theorem map_len (f g : List Int) (i : Nat) (hg : g.length = f.length) (h : i ≤ f.length) : (g.take i ++ f.drop i).length = f.length := by
  rw [List.length_append, List.length_take, List.length_drop]; omega
theorem uniAll_snoc (lab : List Int) (es : List (List Int)) (e : List Int) : uniAll lab (es ++ [e]) = uni (uniAll lab es) e := by
  simp [uniAll, List.foldl_append]
theorem toNat0 : Int.toNat 0 = 0 := rfl
theorem toNat1 : Int.toNat 1 = 1 := rfl
theorem mem_getD {xss : List (List Int)} {i : Nat} (h : i < xss.length) : xss.getD i [] ∈ xss := by
  rw [List.getD_eq_getElem?_getD, List.getElem?_eq_getElem h]
  exact List.getElem_mem _
theorem take_in {n : Nat} {es : List (List Int)} (h : ∀ e ∈ es, EdIn n e) (k : Nat) : ∀ e ∈ es.take k, EdIn n e := fun e he => h e (List.mem_of_mem_take he)

def c_im_l (f : Int → List V → List V) (q : Int → List V → Prop) : Contract := fun
  | [.int .i64 a0, .slc false 22 (.slc false 2 (.int .i64 0) []) a1] => some ([q a0 a1], .slc true 2 (.int .i64 0) (f a0 a1))
  | _ => none
def f_labs (n : Int) (es : List V) : List V := I (labs n.toNat (unII es))
def q_labs (n : Int) (es : List V) : Prop := 0 ≤ n ∧ n ≤ 2147483647 ∧ ∃ ess, es = II false ess ∧ ∀ e ∈ ess, EdIn n.toNat e
set_option maxRecDepth 100000 in
theorem s_impl_labels : Sat Try.prog 75 (c_im_l f_labs q_labs) := by
  intro args ps r h hp
  unfold c_im_l at h
  split at h
  · rename_i a0 a1
    simp only [Option.some.injEq, Prod.mk.injEq] at h
    obtain ⟨rfl, rfl⟩ := h
    obtain ⟨h0, h1, ess, hes, hed⟩ : q_labs a0 a1 := (alls_cons.1 hp).1
    have hel : a1.length = ess.length := by rw [hes, II_length]
    have hf0 : f_labs a0 a1 = I (labs a0.toNat ess) := by rw [f_labs, hes, unII_II]
    obtain ⟨m, hm⟩ : ∃ m : Int, m = a1.length := ⟨_, rfl⟩
    refine fnOk_ofI (T := tab) (B := []) (Bi := []) [0, 1, 4, 5, 6, 8, 9, 10, 11, 12, 13, 17, 18, 26, 27, 28, 59, 60, 76, 77] Try.func75 rfl rfl (by kernel_rfl) (Nat.le_of_ble_eq_true rfl) mixed tabOk (by exact bookNil) (by exact bookINil) (by kernel_rfl) ?_
    intro L lp rr hL hr hf hlp
    have hlen := hf.2.1.1
    conv => cbv
    simp only [stdEqs hL]
    refine ⟨h0, by omega, h1, ?_⟩
    have hl0 : ((List.replicate a0.toNat (V.int .i64 0)).length : Int) = a0 := by rw [List.length_replicate]; omega
    simp only [hl0]
    refine hlp (List V × Int) _ _ _ [1, 5, 17, 18] (fun x => [(1, none, .val (.slc false 22 (.slc false 2 (.int .i64 0) []) a1)), (5, none, .val (.slc true 2 (.int .i64 0) x.1)), (17, none, .val (.int .i64 a0)), (18, none, .val (.int .i64 x.2))])
      (fun x => 0 ≤ x.2 ∧ x.2 ≤ a0 ∧ x.1 = I (iota x.2.toNat ++ List.replicate (a0.toNat - x.2.toNat) 0)) (fun x => (a0 - x.2).toNat) ((_, 0)) (by subst hL; rfl) ?_ ?_
    · exact ⟨by simp, h0, by simp [iota, tab_zero]⟩
    rintro ⟨es, i⟩ ⟨i0, i1, hI⟩ hfx ag hag
    conv => cbv
    simp only at i0 i1 hI
    have hl : es.length = a0.toNat := by rw [hI, I_length, List.length_append, iota_len, List.length_replicate]; omega
    simp only [stdEqs hL, hl, imp_self, true_and, decide_eq_true_eq, decide_eq_false_iff_not]
    refine ⟨fun h => ⟨i0, by omega, by omega, by rw [hI, I_getD, ok_int], ?_⟩, fun h => ?_⟩
    · rw [wrap_id (n := i + 1) (by omega) (by omega)]
      refine hag (_, i + 1) ⟨by simp only; omega, by simp only; omega, ?_⟩ (by simp only; omega)
      simp only [toNat_succ i0]
      rw [hI, I_set, ← iota_step _ _ (by omega)]
      congr 2
      omega
    have hes0 : es = I (iota a0.toNat) := by
      rw [hI, show i.toNat = a0.toNat by omega, Nat.sub_self]
      simp
    clear hI hag
    have hel' : (a1.length : Int) = m := by rw [hm]
    simp only [hel']
    refine hlp (List V × Int) _ _ _ [5, 26, 27, 28] (fun x => [(5, none, .val (.slc true 2 (.int .i64 0) x.1)), (26, none, .val (.slc false 22 (.slc false 2 (.int .i64 0) []) a1)), (27, none, .val (.int .i64 m)), (28, none, .val (.int .i64 x.2))])
      (fun x => 0 ≤ x.2 ∧ x.2 ≤ ess.length ∧ x.1 = I (uniAll (iota a0.toNat) (ess.take x.2.toNat))) (fun x => (ess.length - x.2).toNat) ((es, 0)) (by subst hL; rfl) ?_ ?_
    · exact ⟨by simp, by simp, by rw [hes0]; rfl⟩
    clear hfx hes0 hl i0 i1 h ag es i
    rintro ⟨es, i⟩ ⟨i0, i1, hI⟩ hfx ag hag
    simp only at i0 i1 hI
    obtain ⟨l1, l2⟩ := uniAll_cnt (n := a0.toNat) (ess.take i.toNat) _ (LabOk.iota _) (take_in hed _)
    obtain ⟨lab, hlab⟩ : ∃ lab, lab = uniAll (iota a0.toNat) (ess.take i.toNat) := ⟨_, rfl⟩
    rw [← hlab] at l1 l2 hI
    have hl : es.length = a0.toNat := by rw [hI, I_length, l1.len]
    conv => cbv
    have ga1 : ∀ k, a1.getD k (.slc false 2 (.int .i64 0) []) = .slc false 2 (.int .i64 0) (I (ess.getD k [])) := fun k => by rw [hes, II_getD]
    have ges : ∀ k, es.getD k (.int .i64 0) = .int .i64 (lab.getD k 0) := fun k => by rw [hI, I_getD]
    obtain ⟨N, hN⟩ : ∃ N : Int, (a0.toNat : Int) = N := ⟨_, rfl⟩
    simp only [stdEqs hL, hl, hel, hN, toNat0, toNat1, ga1, ges, ok_ints, toL_slc, I_frzs, I_length, I_getD, ok_int, toI_int, imp_self, true_and, decide_eq_true_eq, decide_eq_false_iff_not]
    refine ⟨fun h => ?_, fun h => ?_⟩
    · obtain ⟨ed1, ed2, ed3, ed4, ed5⟩ := hed _ (mem_getD (show i.toNat < ess.length by omega))
      obtain ⟨E, hE⟩ : ∃ E, E = ess.getD i.toNat [] := ⟨_, rfl⟩
      rw [← hE] at ed1 ed2 ed3 ed4 ed5 ⊢
      simp only [e0, e1] at ed2 ed3 ed4 ed5
      (repeat' first | (exact solid_one _) | (exact solid1 rfl) | (exact noown_one _) | (apply And.intro) | (intro _)) <;> (try first | exact True.intro | omega | rfl | (simp only [List.length_cons, List.length_nil, I_length]; omega))
      have ul : (uni lab E).length = lab.length := by rw [uni, relab_len]
      have ll := l1.len
      obtain ⟨va, ha⟩ : ∃ va, va = lo lab E := ⟨_, rfl⟩
      obtain ⟨vb, hb⟩ : ∃ vb, vb = hi lab E := ⟨_, rfl⟩
      rw [show min (lab.getD (E.getD 0 0).toNat 0) (lab.getD (E.getD 1 0).toNat 0) = va from ha.symm, show max (lab.getD (E.getD 0 0).toNat 0) (lab.getD (E.getD 1 0).toNat 0) = vb from hb.symm]
      refine hlp (List V × Int) _ _ _ [5, 9, 10, 26, 27, 28, 59, 60] (fun x => [(5, none, .val (.slc true 2 (.int .i64 0) x.1)), (9, none, .val (.int .i64 va)), (10, none, .val (.int .i64 vb)), (26, none, .val (.slc false 22 (.slc false 2 (.int .i64 0) []) a1)), (27, none, .val (.int .i64 m)), (28, none, .val (.int .i64 i)), (59, none, .val (.int .i64 N)), (60, none, .val (.int .i64 x.2))])
        (fun x => 0 ≤ x.2 ∧ x.2 ≤ lab.length ∧ x.1 = I ((uni lab E).take x.2.toNat ++ lab.drop x.2.toNat)) (fun x => (lab.length - x.2).toNat) ((es, 0)) (by subst hL; rfl) ?_ ?_
      · simp [hI]
      rintro ⟨fs, k⟩ ⟨k0, k1, hK⟩ hfx2 ag2 hag2
      simp only at k0 k1 hK
      have hl2 : fs.length = lab.length := by rw [hK, I_length, map_len _ _ _ ul (by omega)]
      conv => cbv
      have gfs : fs.getD k.toNat (.int .i64 0) = .int .i64 (((uni lab E).take k.toNat ++ lab.drop k.toNat).getD k.toNat 0) := by rw [hK, I_getD]
      simp only [stdEqs hL, hl2, gfs, ok_int, toI_int, imp_self, true_and, decide_eq_true_eq, decide_eq_false_iff_not, beq_iff_eq, beq_eq_false_iff_ne]
      refine ⟨fun h3 => ?_, fun h3 => ?_⟩
      · have hk : k.toNat < lab.length := by omega
        have hu : (uni lab E).getD k.toNat 0 = if lab.getD k.toNat 0 = vb then va else lab.getD k.toNat 0 := by rw [uni, relab_get _ _ _ _ hk, ha, hb]
        rw [map_at _ _ _ ul hk]
        have fin : ∀ gs, gs = I ((uni lab E).take (k.toNat + 1) ++ lab.drop (k.toNat + 1)) → ag2 [(5, none, .val (.slc true 2 (.int .i64 0) gs)), (9, none, .val (.int .i64 va)), (10, none, .val (.int .i64 vb)), (26, none, .val (.slc false 22 (.slc false 2 (.int .i64 0) []) a1)), (27, none, .val (.int .i64 m)), (28, none, .val (.int .i64 i)), (59, none, .val (.int .i64 N)), (60, none, .val (.int .i64 (k + 1)))] := fun gs hg =>
          hag2 (gs, k + 1) ⟨by simp only; omega, by simp only; omega, by simp only [toNat_succ k0]; exact hg⟩ (by simp only; omega)
        rw [wrap_id (n := k + 1) (by omega) (by omega)]
        (repeat' first | (exact solid_one _) | (exact solid1 rfl) | (exact noown_one _) | (apply And.intro) | (intro _)) <;> (try first | exact True.intro | omega | rfl | (simp only [List.length_cons, List.length_nil, I_length]; omega))
        · rename_i h4
          refine fin _ ?_
          rw [hK, I_set, ← map_step _ _ _ ul hk, hu, if_pos h4]
        · rename_i h4
          refine fin _ ?_
          rw [hK, ← map_same _ _ _ ul hk (by rw [hu, if_neg h4])]
      · rw [wrap_id (n := i + 1) (by omega) (by omega)]
        refine hag (fs, i + 1) ⟨by simp only; omega, by simp only; omega, ?_⟩ (by simp only; omega)
        simp only [toNat_succ i0]
        rw [hK, List.take_of_length_le (by omega), List.drop_eq_nil_of_le (by omega), List.append_nil, take_succ_tot _ _ (show i.toNat < ess.length by omega), uniAll_snoc, ← hlab, hE]
    have hes1 : ess.take i.toNat = ess := List.take_of_length_le (by omega)
    rw [hes1] at hlab l2
    have ll := l1.len
    refine hlp (List V × Int × Int) _ _ _ [5, 12, 76, 77] (fun x => [(5, none, .val (.slc true 2 (.int .i64 0) x.1)), (12, none, .val (.int .i64 x.2.1)), (76, none, .val (.int .i64 N)), (77, none, .val (.int .i64 x.2.2))])
      (fun x => 0 ≤ x.2.2 ∧ x.2.2 ≤ lab.length ∧ x.2.1 = cntR lab x.2.2.toNat ∧ x.1 = I ((rn lab).take x.2.2.toNat ++ lab.drop x.2.2.toNat)) (fun x => (lab.length - x.2.2).toNat) ((es, 0, 0)) (by subst hL; rfl) ?_ ?_
    · simp [hI, cntR]
    clear hfx hag ag i0 i1 h
    rintro ⟨fs, c, k⟩ ⟨k0, k1, hc, hK⟩ hfx2 ag2 hag2
    simp only at k0 k1 hc hK
    have rl := rn_len lab
    have hl2 : fs.length = lab.length := by rw [hK, I_length, map_len _ _ _ rl (by omega)]
    conv => cbv
    have gfs : ∀ j, fs.getD j (.int .i64 0) = .int .i64 (((rn lab).take k.toNat ++ lab.drop k.toNat).getD j 0) := fun j => by rw [hK, I_getD]
    simp only [stdEqs hL, hl2, gfs, ok_int, toI_int, imp_self, true_and, decide_eq_true_eq, decide_eq_false_iff_not, beq_iff_eq, beq_eq_false_iff_ne]
    refine ⟨fun h3 => ?_, fun h3 => ?_⟩
    · have hk : k.toNat < lab.length := by omega
      have hu := rn_get lab k.toNat hk
      rw [map_at _ _ _ rl hk]
      have v1 := l1.nn k.toNat (by omega)
      have v2 := l1.le k.toNat (by omega)
      have v3 := l1.idem k.toNat (by omega)
      have cl := cntR_bound lab k.toNat
      have fin : ∀ gs d, d = (cntR lab (k.toNat + 1) : Int) → gs = I ((rn lab).take (k.toNat + 1) ++ lab.drop (k.toNat + 1)) → ag2 [(5, none, .val (.slc true 2 (.int .i64 0) gs)), (12, none, .val (.int .i64 d)), (76, none, .val (.int .i64 N)), (77, none, .val (.int .i64 (k + 1)))] := fun gs d hd hg =>
        hag2 (gs, d, k + 1) ⟨by simp only; omega, by simp only; omega, by simp only [toNat_succ k0]; exact hd, by simp only [toNat_succ k0]; exact hg⟩ (by simp only; omega)
      rw [wrap_id (n := k + 1) (by omega) (by omega)]
      (repeat' first | (exact solid_one _) | (exact solid1 rfl) | (exact noown_one _) | (apply And.intro) | (intro _)) <;> (try first | exact True.intro | omega | rfl | (simp only [List.length_cons, List.length_nil, I_length]; omega))
      · rename_i h4
        have h5 : lab.getD k.toNat 0 = (k.toNat : Int) := by omega
        have h6 : cntR lab (k.toNat + 1) = cntR lab k.toNat + 1 := by simp only [cntR]; rw [if_pos h5]
        rw [wrap_id (n := c + 1) (by omega) (by omega)]
        refine fin _ _ (by rw [h6, hc]; omega) ?_
        rw [hK, I_set, ← map_step _ _ _ rl hk, hu, h5, hc, Int.toNat_natCast]
      · rename_i h4
        have h5 : ¬ lab.getD k.toNat 0 = (k.toNat : Int) := by omega
        have h6 : cntR lab (k.toNat + 1) = cntR lab k.toNat := by simp only [cntR]; rw [if_neg h5]; rfl
        refine fin _ _ (by rw [h6, hc]) ?_
        rw [hK, I_set, ← map_step _ _ _ rl hk, map_before _ _ _ _ rl (by omega) (by omega), hu, rn_get _ _ (by omega), show lab.getD (lab.getD k.toNat 0).toNat 0 = lab.getD k.toNat 0 from v3]
    · rw [hr, hf0, hK, labs, ← hlab, List.take_of_length_le (by omega), List.drop_eq_nil_of_le (by omega), List.append_nil]
  · cases h
end Go.Ax
