/-
  PathBetween: spec. No conditions but those of the contracts.
-/
import Derived.Test.YtlbmgfiepmhjhaaKbp
import Derived.Test.YtlbmgfiepmhjhaaKvp
import Derived.Test.YtlbmgfiepmhjhaaFop
import Derived.Test.YtlbmgfiepmhjhaaIqp
set_option linter.all false
namespace Go.Ax
open Go.Proofs

def c_Gii_li (f : List V → List V → Int → Int → List V × Int) (q : List V → List V → Int → Int → Prop) : Contract := fun
  | [.agg [.slc false 2 (.int .i64 0) a0, .slc false 22 (.slc false 2 (.int .i64 0) []) a1], .int .i64 a2, .int .i64 a3] => some ([q a0 a1 a2 a3], .tup [.slc true 2 (.int .i64 0) ((f a0 a1 a2 a3).1), .int .i64 ((f a0 a1 a2 a3).2)])
  | _ => none
def pthG (es : List (List Int)) (i k : Int) : List Int := pf (near es) 64 i k (-1)
def f_PB (a b : List V) (i k : Int) : List V × Int := bif isGr (unI a) (unII b) then (bif f_isV a b i && f_isV a b k then (if pthG (unII b) i k = [] then ([], 5) else (I (pthG (unII b) i k), 0)) else ([], 2)) else ([], 1)
def q_Gii (a b : List V) (_ _ : Int) : Prop := q_G a b
theorem isV_in {a b : List V} {v : Int} : f_isV a b v = true ↔ 0 ≤ v ∧ v < a.length := by
  simp only [f_isV, Bool.and_eq_true, decide_eq_true_eq]
  omega
theorem isVq {a b : List V} (hq : q_G a b) (h : f_isGr a b = true) (v : Int) : q_isV a b v := by
  obtain ⟨⟨ws, hws⟩, es, hes⟩ := hq
  rw [f_isGr, hes, hws, unII_II, unI_I] at h
  exact ⟨⟨_, hws⟩, ⟨_, hes⟩, by rw [hws, I_length]; have := (gr_of h).n2; omega⟩

def c_Gii_l (f : List V → List V → Int → Int → List V) (q : List V → List V → Int → Int → Prop) : Contract := fun
  | [.agg [.slc false 2 (.int .i64 0) a0, .slc false 22 (.slc false 2 (.int .i64 0) []) a1], .int .i64 a2, .int .i64 a3] => some ([q a0 a1 a2 a3], .slc true 2 (.int .i64 0) (f a0 a1 a2 a3))
  | _ => none
def f_pth (a b : List V) (i k : Int) : List V := I (pthG (unII b) i k)
def q_pth (a b : List V) (i k : Int) : Prop := q_Gr a b ∧ 0 ≤ i ∧ i < a.length ∧ 0 ≤ k ∧ k < a.length
set_option maxRecDepth 100000 in
theorem s_spec_l11Path : Sat Try.prog 31 (c_Gii_l f_pth q_pth) := by
  intro args ps r h hp
  unfold c_Gii_l at h
  split at h
  · rename_i a0 a1 i k
    simp only [Option.some.injEq, Prod.mk.injEq] at h
    obtain ⟨rfl, rfl⟩ := h
    obtain ⟨⟨ws, es, hws, hes, g⟩, i0, i1, k0, k1⟩ : q_pth a0 a1 i k := (alls_cons.1 hp).1
    have g0 : V.frzs a0 = a0 := by rw [hws, I_frzs]
    have g1 : V.frzs a1 = a1 := by rw [hes, II_frzs]
    have hwl : a0.length = ws.length := by rw [hws, I_length]
    rw [hwl] at i1 k1
    obtain ⟨m, hb, hm⟩ := bfsE_full g (root := k) ⟨k0, k1⟩
    obtain ⟨ord, hord⟩ : ∃ ord, ord = (bfsE es ws.length k).1 := ⟨_, rfl⟩
    obtain ⟨par, hpar⟩ : ∃ par, par = (bfsE es ws.length k).2 := ⟨_, rfl⟩
    rw [← hord, ← hpar] at hb
    rw [← hord] at hm
    have hol := nodup_len _ hb.nd hb.inr
    have hqo : q_ord a0 a1 k := ⟨⟨ws, es, hws, hes, g⟩, k0, by rw [hwl]; exact k1⟩
    have hfo : f_ord a0 a1 k = (I ord, I par) := by rw [f_ord, hes, unII_II, hwl, ← hord, ← hpar]
    have hpe : pthG es i k = if i ∈ ord then upw par k ws.length i else [] := by rw [pthG, path_eq g ⟨i0, i1⟩ ⟨k0, k1⟩, ← hord, ← hpar]
    have hf0 : f_pth a0 a1 i k = I (pthG es i k) := by rw [f_pth, hes, unII_II]
    have hfh : f_has (I ord) i = decide (i ∈ ord) := by rw [f_has, unI_I]; rw [Bool.eq_iff_iff]; simp
    have n2 := g.n2
    obtain ⟨vo, hvo⟩ : ∃ vo, vo = I ord := ⟨_, rfl⟩
    obtain ⟨vp, hvp⟩ : ∃ vp, vp = I par := ⟨_, rfl⟩
    rw [← hvo, ← hvp] at hfo
    rw [← hvo] at hfh
    have gvo : V.frzs vo = vo := by rw [hvo, I_frzs]
    have hvpl : vp.length = ws.length := by rw [hvp, I_length]; exact hb.pl
    have gvp : ∀ t, vp.getD t (.int .i64 0) = .int .i64 (par.getD t 0) := fun t => by rw [hvp, I_getD]
    have hqh : q_lI vo i := ⟨⟨ord, hvo⟩, by rw [hvo, I_length]; omega⟩
    obtain ⟨v0, hv0⟩ : ∃ v0, v0 = I [i] := ⟨_, rfl⟩
    have hv0' : [V.int .i64 i] = v0 := hv0.symm
    generalize H_f_ord : f_ord = F_f_ord
    generalize H_q_ord : q_ord = F_q_ord
    generalize H_f_has : f_has = F_f_has
    generalize H_q_lI : q_lI = F_q_lI
    refine fnOk_ofI (T := tab) (B := [(71, c_Gi_ll F_f_ord F_q_ord), (41, c_lxi_b F_f_has F_q_lI)]) (Bi := []) [0, 1, 2, 3, 6, 7, 8, 9, 10] Try.func31 rfl rfl (by kernel_rfl) (Nat.le_of_ble_eq_true rfl) mixed tabOk (by subst H_f_ord H_q_ord H_f_has H_q_lI; exact (bookCons s_spec_l11Order (bookCons s_spec_l01Has bookNil))) (by subst H_f_ord H_q_ord H_f_has H_q_lI; exact bookINil) (by kernel_rfl) ?_
    intro L lp rr hL hr hf hlp
    have Qo : F_q_ord a0 a1 k := by rw [← H_q_ord]; exact hqo
    have Eo : F_f_ord a0 a1 k = (vo, vp) := by rw [← H_f_ord]; exact hfo
    have Eh : F_f_has vo i = decide (i ∈ ord) := by rw [← H_f_has]; exact hfh
    have Qh : F_q_lI vo i := by rw [← H_q_lI]; exact hqh
    conv => cbv
    simp only [stdEqs hL, imp_self, true_and, and_true, bif_or, bif_and, Bool.or_eq_true, Bool.or_eq_false_iff, Bool.and_eq_true, Bool.and_eq_false_iff, decide_eq_true_eq, decide_eq_false_iff_not, Bool.not_eq_true', Bool.not_eq_false', beq_iff_eq, beq_eq_false_iff_ne, ne_eq, toNat0, toNat1, ok_int, toI_int, I_frzs, I_length, I_getD, ok_ints, toL_slc, g0, g1, Eo, gvo, Eh, hv0', decide_eq_true_eq, decide_eq_false_iff_not]
    refine ⟨Qo, Qh, fun h1 => ?_, fun h1 => ?_⟩
    · rw [hr, hf0, hpe, if_neg h1]
      rfl
    · refine hlp ((List V × Int) × Nat) _ _ _ [2, 8, 9, 10] (fun x => [(2, none, .val (.int .i64 k)), (8, none, .val (.slc true 2 (.int .i64 0) vp)), (9, none, .val (.slc true 2 (.int .i64 0) x.1.1)), (10, none, .val (.int .i64 x.1.2))])
        (fun x => x.2 < ord.length ∧ x.1.2 = ord.getD x.2 0 ∧ ∃ pre, x.1.1 = I (pre ++ [x.1.2]) ∧ pre ++ upw par k ws.length x.1.2 = upw par k ws.length i ∧ pre.length + x.2 ≤ 100) (fun x => x.2) (((v0, i), ord.idxOf i)) (by subst hL; rfl) ?_ ?_
      · have h2 : ord.idxOf i < ord.length := List.idxOf_lt_length_iff.2 h1
        refine ⟨h2, ?_, [], hv0, rfl, by simp only [List.length_nil]; omega⟩
        rw [List.getD_eq_getElem?_getD, List.getElem?_eq_getElem h2]
        simp
      rintro ⟨⟨os, v⟩, t⟩ ⟨ht, hv, pre, hos, hup, hpl⟩ hfx ag hag
      simp only at ht hv hos hup hpl
      have hvr := hb.inr v (by rw [hv]; exact getD_mem ht)
      have hosl : os.length = pre.length + 1 := by rw [hos, I_length]; simp
      conv => cbv
      simp only [stdEqs hL, imp_self, true_and, and_true, bif_or, bif_and, Bool.or_eq_true, Bool.or_eq_false_iff, Bool.and_eq_true, Bool.and_eq_false_iff, decide_eq_true_eq, decide_eq_false_iff_not, Bool.not_eq_true', Bool.not_eq_false', beq_iff_eq, beq_eq_false_iff_ne, ne_eq, toNat0, toNat1, ok_int, toI_int, I_frzs, I_length, I_getD, ok_ints, toL_slc, gvp, hvpl]
      refine ⟨fun h2 => ?_, fun h2 => ?_⟩
      · obtain ⟨s, s1, s2, s3⟩ := hb.up_step ht (by rw [← hv]; exact h2)
        have hpv : par.getD v.toNat 0 = ord.getD s 0 := by rw [← s2, ← hv, gI]
        obtain ⟨b, hbb⟩ : ∃ b, ws.length = b + 1 := ⟨ws.length - 1, by omega⟩
        have hst : upw par k ws.length v = v :: upw par k ws.length (ord.getD s 0) := by
          have e1 : upw par k ws.length (ord.getD s 0) = upw par k b (ord.getD s 0) := by rw [hb.up_stable s (by omega) ws.length (by omega), hb.up_stable s (by omega) b (by omega)]
          rw [e1, hbb, upw, if_neg h2]
          congr 2
        simp only [hpv]
        refine ⟨hvr.1, by omega, by omega, ?_⟩
        (repeat' first | (exact solid_one _) | (exact solid1 rfl) | (exact noown_one _) | (apply And.intro) | (intro _)) <;> (try first | exact True.intro | omega | rfl | (simp only [List.length_cons, List.length_nil, I_length]; omega))
        refine hag ((_, ord.getD s 0), s) ⟨by simp only; omega, rfl, pre ++ [v], ?_, ?_, ?_⟩ s1
        · simp only
          rw [hos]
          simp [I]
        · simp only
          rw [List.append_assoc, List.singleton_append, ← hst]; exact hup
        · simp only [List.length_append, List.length_cons, List.length_nil]; omega
      · have h3 : v = k := h2
        rw [hr, hf0, hpe, if_pos h1, ← hup, hos]
        congr 2
        cases hws2 : ws.length with
        | zero => rfl
        | succ c => rw [upw, if_pos h3]
  · cases h
set_option maxRecDepth 100000 in
theorem s_spec_PathBetween : Sat Try.prog 7 (c_Gii_li f_PB q_Gii) := by
  intro args ps r h hp
  unfold c_Gii_li at h
  split at h
  · rename_i a0 a1 i k
    simp only [Option.some.injEq, Prod.mk.injEq] at h
    obtain ⟨rfl, rfl⟩ := h
    have hq : q_G a0 a1 := (alls_cons.1 hp).1
    have g0 := hq.1.frz
    have g1 := frzs_II hq.2
    obtain ⟨⟨ws, hws⟩, es, hes⟩ := id hq
    have hf0 : f_PB a0 a1 i k = bif f_isGr a0 a1 then (bif f_isV a0 a1 i && f_isV a0 a1 k then (if pthG es i k = [] then ([], 5) else (I (pthG es i k), 0)) else ([], 2)) else ([], 1) := by rw [f_PB, f_isGr, hes, unII_II]
    have hgr : f_isGr a0 a1 = true → Gr ws es := fun h => by
      rw [f_isGr, hes, hws, unII_II, unI_I] at h
      exact gr_of h
    have hwl : a0.length = ws.length := by rw [hws, I_length]
    have hfp : f_pth a0 a1 i k = I (pthG es i k) := by rw [f_pth, hes, unII_II]
    have hqp : f_isGr a0 a1 = true → f_isV a0 a1 i = true → f_isV a0 a1 k = true → q_pth a0 a1 i k := fun h h2 h3 => ⟨⟨ws, es, hws, hes, hgr h⟩, (isV_in.1 h2).1, (isV_in.1 h2).2, (isV_in.1 h3).1, (isV_in.1 h3).2⟩
    generalize H_f_isGr : f_isGr = F_f_isGr
    generalize H_q_G : q_G = F_q_G
    generalize H_f_isV : f_isV = F_f_isV
    generalize H_q_isV : q_isV = F_q_isV
    generalize H_f_pth : f_pth = F_f_pth
    generalize H_q_pth : q_pth = F_q_pth
    refine fnOk_ofI (T := tab) (B := [(29, c_G_b F_f_isGr F_q_G), (30, c_Gi_b F_f_isV F_q_isV), (31, c_Gii_l F_f_pth F_q_pth)]) (Bi := []) [0, 1, 2, 3, 6, 7, 8] Try.func7 rfl rfl (by kernel_rfl) (Nat.le_of_ble_eq_true rfl) mixed tabOk (by subst H_f_isGr H_q_G H_f_isV H_q_isV H_f_pth H_q_pth; exact (bookCons s_spec_l11Is (bookCons s_spec_l11Vertex (bookCons s_spec_l11Path bookNil)))) (by subst H_f_isGr H_q_G H_f_isV H_q_isV H_f_pth H_q_pth; exact bookINil) (by kernel_rfl) ?_
    intro L lp rr hL hr hf hlp
    conv => cbv
    simp only [stdEqs hL, imp_self, true_and, and_true, bif_or, bif_and, Bool.or_eq_true, Bool.or_eq_false_iff, Bool.and_eq_true, Bool.and_eq_false_iff, decide_eq_true_eq, decide_eq_false_iff_not, Bool.not_eq_true', Bool.not_eq_false', beq_iff_eq, beq_eq_false_iff_ne, ne_eq, toNat0, toNat1, ok_int, toI_int, I_frzs, I_length, I_getD, ok_ints, toL_slc, g0, g1]
    subst H_f_isGr H_q_G H_f_isV H_q_isV H_f_pth H_q_pth
    simp only [hfp, I_length, I_frzs]
    have hV := isVq hq
    refine ⟨hq, fun h => by rw [hr, hf0, h]; rfl, fun h => ⟨hV h i, fun _ => hV h k, fun h2 => ?_, fun ⟨h2, h3⟩ => ⟨hqp h h2 h3, fun h4 => ?_, fun h4 => ?_⟩⟩⟩
    · have h3 : (f_isV a0 a1 i && f_isV a0 a1 k) = false := by rw [Bool.and_eq_false_iff]; exact h2
      rw [hr, hf0, h, h3]; rfl
    · have h5 : pthG es i k = [] := List.eq_nil_of_length_eq_zero (by omega)
      rw [hr, hf0, h, h2, h3, h5]; rfl
    · have h5 : pthG es i k ≠ [] := fun h5 => by rw [h5] at h4; exact h4 rfl
      rw [hr, hf0, h, h2, h3]
      simp only [Bool.and_self, cond_true, if_neg h5]
  · cases h
end Go.Ax
