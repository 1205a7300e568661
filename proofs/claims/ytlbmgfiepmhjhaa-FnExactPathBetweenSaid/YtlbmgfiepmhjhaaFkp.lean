/-
  What the laws do with graphs: sizes, copies, comparisons. No conditions but those of the contracts.
-/
import Derived.Test.YtlbmgfiepmhjhaaFjp
set_option linter.all false
namespace Go.Ax
open Go.Proofs

def szGo : List (List Int) → Int → Int
  | [], left => left
  | x :: l, left => bif decide (szL x.length left < 0) then -1 else szGo l (szL x.length left)
def szSS (l : List (List Int)) (left : Int) : Int := bif decide (W (left - l.length) < 0) then -1 else szGo l (W (left - l.length))
def c_mi_i (f : List V → Int → Int) (q : List V → Int → Prop) : Contract := fun
  | [.slc false 22 (.slc false 2 (.int .i64 0) []) a0, .int .i64 a1] => some ([q a0 a1], .int .i64 (f a0 a1))
  | _ => none
def f_szSS (es : List V) (left : Int) : Int := szSS (unII es) left
def q_szSS (es : List V) (_ : Int) : Prop := IsII false es
theorem lenOks_II {o : Bool} {xss : List (List Int)} (h : V.lenOks (II o xss)) : ∀ i, i < xss.length → (xss.getD i []).length ≤ 9223372036854775807 := by
  intro i hi
  have h1 := lenOks_iff.1 h (.slc o 2 (.int .i64 0) (I (xss.getD i []))) (by
    rw [II, List.mem_map]
    exact ⟨xss.getD i [], by rw [List.getD_eq_getElem?_getD, List.getElem?_eq_getElem hi]; exact List.getElem_mem hi, rfl⟩)
  have h2 := h1.1
  rwa [I_length] at h2
set_option maxRecDepth 100000 in
theorem s_laws_szInt64SS : Sat Try.prog 28 (c_mi_i f_szSS q_szSS) := by
  intro args ps r h hp
  unfold c_mi_i at h
  split at h
  · rename_i a0 a1
    simp only [Option.some.injEq, Prod.mk.injEq] at h
    obtain ⟨rfl, rfl⟩ := h
    obtain ⟨xss, hes⟩ : IsII false a0 := (alls_cons.1 hp).1
    have hel : a0.length = xss.length := by rw [hes, II_length]
    have hf0 : f_szSS a0 a1 = szSS xss a1 := by rw [f_szSS, hes, unII_II]
    generalize H_f0_sz : f0_sz = F_f0_sz
    refine fnOk_ofI (T := tab) (B := [(27, c_li_i F_f0_sz)]) (Bi := []) [0, 1, 4, 5] Try.func28 rfl rfl (by kernel_rfl) (Nat.le_of_ble_eq_true rfl) mixed tabOk (by subst H_f0_sz; exact (bookCons s_laws_szInt64S bookNil)) (by subst H_f0_sz; exact bookINil) (by kernel_rfl) ?_
    intro L lp rr hL hr hf hlp
    have hlen := hf.1.1
    rw [hel] at hlen
    conv => cbv
    simp only [stdEqs hL, hel]
    refine ⟨fun h => ?_, fun h => ?_⟩
    · rw [hr, hf0, szSS, h]; rfl
    refine hlp (Int × Int) _ _ _ [0, 1, 5] (fun x => [(0, none, .val (.slc false 22 (.slc false 2 (.int .i64 0) []) a0)), (1, none, .val (.int .i64 x.1)), (5, none, .val (.int .i64 x.2))])
      (fun x => 0 ≤ x.2 ∧ x.2 ≤ xss.length ∧ szSS xss a1 = szGo (xss.drop x.2.toNat) x.1) (fun x => (xss.length - x.2).toNat) ((_, 0)) (by subst hL; rfl) ?_ ?_
    · refine ⟨by simp, by simp, ?_⟩
      rw [szSS, h]; rfl
    rintro ⟨left, i⟩ ⟨i0, i1, hI⟩ hfx ag hag
    conv => cbv
    simp only at i0 i1 hI
    subst hes
    simp only [stdEqs hL, hel, II_getD, ok_ints, toL_slc, I_frzs, imp_self, true_and, decide_eq_true_eq, decide_eq_false_iff_not]
    subst H_f0_sz
    have e0 : f0_sz (I (xss.getD i.toNat [])) left = szL (xss.getD i.toNat []).length left := by rw [f0_sz, I_length]
    rw [e0]
    refine ⟨fun h => ?_, fun h => ?_⟩
    · have hd : xss.drop i.toNat = xss.getD i.toNat [] :: xss.drop (i.toNat + 1) := drop_cons [] (by omega)
      refine ⟨i0, by omega, fun h2 => ?_, fun h2 => ?_⟩
      · rw [hr, hf0, hI, hd, szGo, decide_eq_true h2]; rfl
      · rw [wrap_id (n := i + 1) (by omega) (by omega)]
        refine hag (_, i + 1) ⟨by simp only; omega, by simp only; omega, ?_⟩ (by simp only; omega)
        simp only [toNat_succ i0]
        rw [hI, hd, szGo, decide_eq_false h2]; rfl
    · rw [hr, hf0, hI, List.drop_eq_nil_of_le (by omega)]; rfl
  · cases h
def c_Gi_i (f : List V → List V → Int → Int) (q : List V → List V → Int → Prop) : Contract := fun
  | [.agg [.slc false 2 (.int .i64 0) a0, .slc false 22 (.slc false 2 (.int .i64 0) []) a1], .int .i64 a2] => some ([q a0 a1 a2], .int .i64 (f a0 a1 a2))
  | _ => none
def f_szG (ws es : List V) (left : Int) : Int := bif decide (szL ws.length left < 0) then -1 else szSS (unII es) (szL ws.length left)
def q_szG (_ es : List V) (_ : Int) : Prop := IsII false es
theorem szGo_neg : ∀ (l : List (List Int)) (left : Int), 0 ≤ left → szGo l left < 0 → szGo l left = -1
  | [], left, h, h' => by simp only [szGo] at h'; omega
  | x :: l, left, h, h' => by
    simp only [szGo] at h' ⊢
    cases hh : decide (szL x.length left < 0) with
    | true => rfl
    | false =>
      rw [hh] at h'
      exact szGo_neg l _ (by simpa using hh) h'
theorem szSS_neg {l : List (List Int)} {left : Int} (h : szSS l left < 0) : szSS l left = -1 := by
  unfold szSS at h ⊢
  cases hh : decide (W (left - l.length) < 0) with
  | true => rfl
  | false =>
    rw [hh] at h
    exact szGo_neg l _ (by simpa using hh) h
set_option maxRecDepth 100000 in
theorem s_laws_szGraph : Sat Try.prog 6 (c_Gi_i f_szG q_szG) := by
  intro args ps r h hp
  unfold c_Gi_i at h
  split at h
  · rename_i a0 a1 a2
    simp only [Option.some.injEq, Prod.mk.injEq] at h
    obtain ⟨rfl, rfl⟩ := h
    have hq : IsII false a1 := (alls_cons.1 hp).1
    have g0 := frzs_II hq
    have hf0 : f_szG a0 a1 a2 = bif decide (szL a0.length a2 < 0) then -1 else szSS (unII a1) (szL a0.length a2) := rfl
    have e0 : f0_sz (V.frzs a0) a2 = szL a0.length a2 := by rw [f0_sz, V.frzs_eq, List.length_map]
    generalize H_f0_sz : f0_sz = F_f0_sz
    generalize H_f_szSS : f_szSS = F_f_szSS
    generalize H_q_szSS : q_szSS = F_q_szSS
    refine fnOk_ofI (T := tab) (B := [(27, c_li_i F_f0_sz), (28, c_mi_i F_f_szSS F_q_szSS)]) (Bi := []) [0, 1, 2, 4] Try.func6 rfl rfl (by kernel_rfl) (Nat.le_of_ble_eq_true rfl) mixed tabOk (by subst H_f0_sz H_f_szSS H_q_szSS; exact (bookCons s_laws_szInt64S (bookCons s_laws_szInt64SS bookNil))) (by subst H_f0_sz H_f_szSS H_q_szSS; exact bookINil) (by kernel_rfl) ?_
    intro L lp rr hL hr hf hlp
    conv => cbv
    simp only [stdEqs hL, g0]
    subst H_f0_sz H_f_szSS H_q_szSS
    simp only [e0]
    refine ⟨fun h => ?_, fun h => ⟨hq, fun h2 => ?_, fun h2 => ?_⟩⟩
    · rw [hr, hf0, h]; rfl
    · have := szSS_neg (l := unII a1) (left := szL a0.length a2) (of_decide_eq_true h2)
      rw [hr, hf0, h, cond_false, this]
    · rw [hr, hf0, h]; rfl
  · cases h

def c_m_m (f : List V → List V) (q : List V → Prop) : Contract := fun
  | [.slc false 22 (.slc false 2 (.int .i64 0) []) a0] => some ([q a0], .slc true 22 (.slc true 2 (.int .i64 0) []) (f a0))
  | _ => none
def f_cpSS (es : List V) : List V := II true (unII es)
def IsIIs (es : List V) : Prop := ∃ xss, es = II false xss ∧ xss.length ≤ 2147483647 ∧ ∀ xs ∈ xss, xs.length ≤ 2147483647
set_option maxRecDepth 100000 in
theorem s_laws_toInt64SS : Sat Try.prog 33 (c_m_m f_cpSS IsIIs) := by
  intro args ps r h hp
  unfold c_m_m at h
  split at h
  · rename_i a0
    simp only [Option.some.injEq, Prod.mk.injEq] at h
    obtain ⟨rfl, rfl⟩ := h
    obtain ⟨xss, hes, hl1, hl2⟩ : IsIIs a0 := (alls_cons.1 hp).1
    have hel : a0.length = xss.length := by rw [hes, II_length]
    have hf0 : f_cpSS a0 = II true xss := by rw [f_cpSS, hes, unII_II]
    generalize H_same : same = F_same
    generalize H_IsIs : IsIs = F_IsIs
    refine fnOk_ofI (T := tab) (B := [(32, c_laws_toInt64S F_same F_IsIs)]) (Bi := []) [0, 2, 3, 4] Try.func33 rfl rfl (by kernel_rfl) (Nat.le_of_ble_eq_true rfl) mixed tabOk (by subst H_same H_IsIs; exact (bookCons s_laws_toInt64S bookNil)) (by subst H_same H_IsIs; exact bookINil) (by kernel_rfl) ?_
    intro L lp rr hL hr hf hlp
    conv => cbv
    simp only [stdEqs hL, hel, true_and]
    refine ⟨by omega, by omega, by omega, ?_⟩
    refine hlp (List V × Int) _ _ _ [0, 3, 4] (fun x => [(0, none, .val (.slc false 22 (.slc false 2 (.int .i64 0) []) a0)), (3, none, .val (.slc true 22 (.slc true 2 (.int .i64 0) []) x.1)), (4, none, .val (.int .i64 x.2))])
      (fun x => 0 ≤ x.2 ∧ x.2 ≤ xss.length ∧ x.1 = II true (xss.take x.2.toNat ++ List.replicate (xss.length - x.2.toNat) [])) (fun x => (xss.length - x.2).toNat) ((_, 0)) (by subst hL; rfl) ?_ ?_
    · simp [II_replicate]
    rintro ⟨es, i⟩ ⟨i0, i1, hI⟩ hfx ag hag
    conv => cbv
    simp only at i0 i1 hI
    have hl : es.length = xss.length := by rw [hI, II_length]; simp; omega
    subst hes
    simp only [stdEqs hL, hel, hl, II_getD, ok_ints, toL_slc, I_frzs, imp_self, true_and, decide_eq_true_eq, decide_eq_false_iff_not]
    subst H_same H_IsIs
    refine ⟨fun h => ?_, fun h => ?_⟩
    · have hm : xss.getD i.toNat [] ∈ xss := by
        rw [List.getD_eq_getElem?_getD, List.getElem?_eq_getElem (by omega)]
        exact List.getElem_mem _
      refine ⟨i0, by omega, ⟨⟨_, rfl⟩, by rw [I_length]; exact hl2 _ hm⟩, i0, by omega, by omega, by rw [hI, II_getD]; exact .inl (ok_ints _ _ _), ?_⟩
      rw [wrap_id (n := i + 1) (by omega) (by omega)]
      refine hag (_, i + 1) ⟨by simp only; omega, by simp only; omega, ?_⟩ (by simp only; omega)
      simp only [toNat_succ i0, same]
      rw [hI, II_set, fill_set [] [] (by omega)]
    · rw [hr, hf0, hI, List.take_of_length_le (by omega), show xss.length - i.toNat = 0 by omega]
      simp
  · cases h
def c_G_G (f : List V → List V → List V × List V) (q : List V → List V → Prop) : Contract := fun
  | [.agg [.slc false 2 (.int .i64 0) a0, .slc false 22 (.slc false 2 (.int .i64 0) []) a1]] => some ([q a0 a1], .agg [.slc true 2 (.int .i64 0) ((f a0 a1).1), .slc true 22 (.slc true 2 (.int .i64 0) []) ((f a0 a1).2)])
  | _ => none
def f_cpG (ws es : List V) : List V × List V := (ws, II true (unII es))
def q_cpG (ws es : List V) : Prop := IsIs ws ∧ IsIIs es
theorem IsIIs.isII {es : List V} (h : IsIIs es) : IsII false es := by
  obtain ⟨x, h, _⟩ := h
  exact ⟨x, h⟩
theorem IsIs.frz {es : List V} (h : IsIs es) : V.frzs es = es := by
  obtain ⟨⟨x, h⟩, _⟩ := h
  rw [h, I_frzs]
set_option maxRecDepth 100000 in
theorem s_laws_toGraph : Sat Try.prog 8 (c_G_G f_cpG q_cpG) := by
  intro args ps r h hp
  unfold c_G_G at h
  split at h
  · rename_i a0 a1
    simp only [Option.some.injEq, Prod.mk.injEq] at h
    obtain ⟨rfl, rfl⟩ := h
    obtain ⟨h0, h1⟩ : q_cpG a0 a1 := (alls_cons.1 hp).1
    have g0 := h0.frz
    have g1 := frzs_II h1.isII
    have hf0 : f_cpG a0 a1 = (a0, II true (unII a1)) := rfl
    generalize H_same : same = F_same
    generalize H_IsIs : IsIs = F_IsIs
    generalize H_f_cpSS : f_cpSS = F_f_cpSS
    generalize H_IsIIs : IsIIs = F_IsIIs
    refine fnOk_ofI (T := tab) (B := [(32, c_laws_toInt64S F_same F_IsIs), (33, c_m_m F_f_cpSS F_IsIIs)]) (Bi := []) [0, 1, 2, 3] Try.func8 rfl rfl (by kernel_rfl) (Nat.le_of_ble_eq_true rfl) mixed tabOk (by subst H_same H_IsIs H_f_cpSS H_IsIIs; exact (bookCons s_laws_toInt64S (bookCons s_laws_toInt64SS bookNil))) (by subst H_same H_IsIs H_f_cpSS H_IsIIs; exact bookINil) (by kernel_rfl) ?_
    intro L lp rr hL hr hf hlp
    conv => cbv
    simp only [stdEqs hL, g0, g1]
    subst H_same H_IsIs H_f_cpSS H_IsIIs
    rw [hr, hf0]
    exact ⟨h0, h1, rfl⟩
  · cases h
def c_GG_b (f : List V → List V → List V → List V → Bool) (q : List V → List V → List V → List V → Prop) : Contract := fun
  | [.agg [.slc false 2 (.int .i64 0) a0, .slc false 22 (.slc false 2 (.int .i64 0) []) a1], .agg [.slc false 2 (.int .i64 0) a2, .slc false 22 (.slc false 2 (.int .i64 0) []) a3]] => some ([q a0 a1 a2 a3], .bool (f a0 a1 a2 a3))
  | _ => none
def f_eqG (a0 a1 b0 b1 : List V) : Bool := f0_eqI a0 b0 && f0_eqSS a1 b1
def q_eqG (a0 a1 b0 b1 : List V) : Prop := q_eqI a0 b0 ∧ q_eqSS a1 b1
theorem IsI.frz {es : List V} (h : IsI es) : V.frzs es = es := by
  obtain ⟨x, h⟩ := h
  rw [h, I_frzs]
set_option maxRecDepth 100000 in
theorem s_laws_eqGraph : Sat Try.prog 11 (c_GG_b f_eqG q_eqG) := by
  intro args ps r h hp
  unfold c_GG_b at h
  split at h
  · rename_i a0 a1 b0 b1
    simp only [Option.some.injEq, Prod.mk.injEq] at h
    obtain ⟨rfl, rfl⟩ := h
    obtain ⟨h0, h1⟩ : q_eqG a0 a1 b0 b1 := (alls_cons.1 hp).1
    have g := h0.1.frz
    have g' := h0.2.frz
    have g2 := frzs_II h1.1
    have g2' := frzs_II h1.2
    have hf0 : f_eqG a0 a1 b0 b1 = (f0_eqI a0 b0 && f0_eqSS a1 b1) := rfl
    generalize H_f0_eqI : f0_eqI = F_f0_eqI
    generalize H_q_eqI : q_eqI = F_q_eqI
    generalize H_f0_eqSS : f0_eqSS = F_f0_eqSS
    generalize H_q_eqSS : q_eqSS = F_q_eqSS
    refine fnOk_ofI (T := tab) (B := [(10, c_laws_eqInt64S F_f0_eqI F_q_eqI), (38, c_eqSS F_f0_eqSS F_q_eqSS)]) (Bi := []) [0, 1, 2, 3, 4] Try.func11 rfl rfl (by kernel_rfl) (Nat.le_of_ble_eq_true rfl) mixed tabOk (by subst H_f0_eqI H_q_eqI H_f0_eqSS H_q_eqSS; exact (bookCons s_laws_eqInt64S (bookCons s_laws_eqInt64SS bookNil))) (by subst H_f0_eqI H_q_eqI H_f0_eqSS H_q_eqSS; exact bookINil) (by kernel_rfl) ?_
    intro L lp rr hL hr hf hlp
    conv => cbv
    simp only [stdEqs hL, g, g', g2, g2']
    subst H_f0_eqI H_q_eqI H_f0_eqSS H_q_eqSS
    rw [hr, hf0]
    refine ⟨h0, fun h => ?_, fun h => ⟨h1, fun h' => ?_, fun h' => ?_⟩⟩
    · simp only [Bool.not_eq_true'] at h; rw [h]; rfl
    · simp only [Bool.not_eq_true', Bool.not_eq_false'] at h h'; rw [h, h']; rfl
    · simp only [Bool.not_eq_false'] at h h'; rw [h, h']; rfl
  · cases h
end Go.Ax
