/-
  What the laws do with graphs: sizes, copies, comparisons. No conditions but those of the contracts.
-/
import Derived.Test.YtpbkkbjgmlfloaaFjp
set_option linter.all false
namespace Go.Ax
open Go.Proofs

def szGo : List (List Int) → Int → Int
  | [], left => left
  | x :: l, left => bif decide (szL x.length left < 0) then -1 else szGo l (szL x.length left)
def szSS (l : List (List Int)) (left : Int) : Int := bif decide (W (left - l.length) < 0) then -1 else szGo l (W (left - l.length))
def c_mi_i (f : List V → Int → Int) (q : List V → Int → Prop) : Contract := fun
  | [.slc false 53 (.slc false 2 (.int .i64 0) []) a0, .int .i64 a1] => some ([q a0 a1], .int .i64 (f a0 a1))
  | _ => none
def f_szSS (es : List V) (left : Int) : Int := szSS (unII es) left
def q_szSS (es : List V) (_ : Int) : Prop := IsII false es
theorem lenOks_II {o : Bool} {xss : List (List Int)} (h : V.lenOks (II o xss)) : ∀ i, i < xss.length → (xss.getD i []).length ≤ 9223372036854775807 := by
  intro i hi
  have h1 := lenOks_iff.1 h (.slc o 2 (.int .i64 0) (I (xss.getD i []))) (by
    rw [II, List.mem_map]
    exact ⟨xss.getD i [], by rw [List.getD_eq_getElem?_getD, List.getElem?_eq_getElem hi]; exact List.getElem_mem hi, rfl⟩)
  have h2 := h1.1
  rwa [I_length] at h2
set_option maxRecDepth 100000 in
theorem s_laws_szInt64SS : Sat Try.prog 17 (c_mi_i f_szSS q_szSS) := by
  intro args ps r h hp
  unfold c_mi_i at h
  split at h
  · rename_i a0 a1
    simp only [Option.some.injEq, Prod.mk.injEq] at h
    obtain ⟨rfl, rfl⟩ := h
    obtain ⟨xss, hes⟩ : IsII false a0 := (alls_cons.1 hp).1
    have hel : a0.length = xss.length := by rw [hes, II_length]
    have hf0 : f_szSS a0 a1 = szSS xss a1 := by rw [f_szSS, hes, unII_II]
    generalize H_f0_sz : f0_sz = F_f0_sz
    refine fnOk_ofI (T := tab) (B := [(33, c_li_i F_f0_sz)]) (Bi := []) [0, 1, 4, 5] Try.func17 rfl rfl (by kernel_rfl) (Nat.le_of_ble_eq_true rfl) mixed tabOk (by subst H_f0_sz; exact (bookCons s_laws_szInt64S bookNil)) (by subst H_f0_sz; exact bookINil) (by kernel_rfl) ?_
    intro L lp rr hL hr hf hlp
    have hlen := hf.1.1
    rw [hel] at hlen
    conv => cbv
    simp only [stdEqs hL, hel]
    refine ⟨fun h => ?_, fun h => ?_⟩
    · rw [hr, hf0, szSS, h]; rfl
    refine hlp (Int × Int) _ _ _ [0, 1, 5] (fun x => [(0, none, .val (.slc false 53 (.slc false 2 (.int .i64 0) []) a0)), (1, none, .val (.int .i64 x.1)), (5, none, .val (.int .i64 x.2))])
      (fun x => 0 ≤ x.2 ∧ x.2 ≤ xss.length ∧ szSS xss a1 = szGo (xss.drop x.2.toNat) x.1) (fun x => (xss.length - x.2).toNat) ((_, 0)) (by subst hL; rfl) ?_ ?_
    · refine ⟨by simp, by simp, ?_⟩
      rw [szSS, h]; rfl
    rintro ⟨left, i⟩ ⟨i0, i1, hI⟩ hfx ag hag
    conv => cbv
    simp only at i0 i1 hI
    subst hes
    simp only [stdEqs hL, hel, II_getD, ok_ints, toL_slc, I_frzs, imp_self, true_and, decide_eq_true_eq, decide_eq_false_iff_not]
    subst H_f0_sz
    have e0 : f0_sz (I (xss.getD i.toNat [])) left = szL (xss.getD i.toNat []).length left := by rw [f0_sz, I_length]
    rw [e0]
    refine ⟨fun h => ?_, fun h => ?_⟩
    · have hd : xss.drop i.toNat = xss.getD i.toNat [] :: xss.drop (i.toNat + 1) := drop_cons [] (by omega)
      refine ⟨i0, by omega, fun h2 => ?_, fun h2 => ?_⟩
      · rw [hr, hf0, hI, hd, szGo, decide_eq_true h2]; rfl
      · rw [wrap_id (n := i + 1) (by omega) (by omega)]
        refine hag (_, i + 1) ⟨by simp only; omega, by simp only; omega, ?_⟩ (by simp only; omega)
        simp only [toNat_succ i0]
        rw [hI, hd, szGo, decide_eq_false h2]; rfl
    · rw [hr, hf0, hI, List.drop_eq_nil_of_le (by omega)]; rfl
  · cases h
theorem szGo_neg : ∀ (l : List (List Int)) (left : Int), 0 ≤ left → szGo l left < 0 → szGo l left = -1
  | [], left, h, h' => by simp only [szGo] at h'; omega
  | x :: l, left, h, h' => by
    simp only [szGo] at h' ⊢
    cases hh : decide (szL x.length left < 0) with
    | true => rfl
    | false =>
      rw [hh] at h'
      exact szGo_neg l _ (by simpa using hh) h'
theorem szSS_neg {l : List (List Int)} {left : Int} (h : szSS l left < 0) : szSS l left = -1 := by
  unfold szSS at h ⊢
  cases hh : decide (W (left - l.length) < 0) with
  | true => rfl
  | false =>
    rw [hh] at h
    exact szGo_neg l _ (by simpa using hh) h
def c_m_m (f : List V → List V) (q : List V → Prop) : Contract := fun
  | [.slc false 53 (.slc false 2 (.int .i64 0) []) a0] => some ([q a0], .slc true 53 (.slc true 2 (.int .i64 0) []) (f a0))
  | _ => none
def f_cpSS (es : List V) : List V := II true (unII es)
def IsIIs (es : List V) : Prop := ∃ xss, es = II false xss ∧ xss.length ≤ 2147483647 ∧ ∀ xs ∈ xss, xs.length ≤ 2147483647
set_option maxRecDepth 100000 in
theorem s_laws_toInt64SS : Sat Try.prog 22 (c_m_m f_cpSS IsIIs) := by
  intro args ps r h hp
  unfold c_m_m at h
  split at h
  · rename_i a0
    simp only [Option.some.injEq, Prod.mk.injEq] at h
    obtain ⟨rfl, rfl⟩ := h
    obtain ⟨xss, hes, hl1, hl2⟩ : IsIIs a0 := (alls_cons.1 hp).1
    have hel : a0.length = xss.length := by rw [hes, II_length]
    have hf0 : f_cpSS a0 = II true xss := by rw [f_cpSS, hes, unII_II]
    generalize H_same : same = F_same
    generalize H_IsIs : IsIs = F_IsIs
    refine fnOk_ofI (T := tab) (B := [(44, c_laws_toInt64S F_same F_IsIs)]) (Bi := []) [0, 2, 3, 4] Try.func22 rfl rfl (by kernel_rfl) (Nat.le_of_ble_eq_true rfl) mixed tabOk (by subst H_same H_IsIs; exact (bookCons s_laws_toInt64S bookNil)) (by subst H_same H_IsIs; exact bookINil) (by kernel_rfl) ?_
    intro L lp rr hL hr hf hlp
    conv => cbv
    simp only [stdEqs hL, hel, true_and]
    refine ⟨by omega, by omega, by omega, ?_⟩
    refine hlp (List V × Int) _ _ _ [0, 3, 4] (fun x => [(0, none, .val (.slc false 53 (.slc false 2 (.int .i64 0) []) a0)), (3, none, .val (.slc true 53 (.slc true 2 (.int .i64 0) []) x.1)), (4, none, .val (.int .i64 x.2))])
      (fun x => 0 ≤ x.2 ∧ x.2 ≤ xss.length ∧ x.1 = II true (xss.take x.2.toNat ++ List.replicate (xss.length - x.2.toNat) [])) (fun x => (xss.length - x.2).toNat) ((_, 0)) (by subst hL; rfl) ?_ ?_
    · simp [II_replicate]
    rintro ⟨es, i⟩ ⟨i0, i1, hI⟩ hfx ag hag
    conv => cbv
    simp only at i0 i1 hI
    have hl : es.length = xss.length := by rw [hI, II_length]; simp; omega
    subst hes
    simp only [stdEqs hL, hel, hl, II_getD, ok_ints, toL_slc, I_frzs, imp_self, true_and, decide_eq_true_eq, decide_eq_false_iff_not]
    subst H_same H_IsIs
    refine ⟨fun h => ?_, fun h => ?_⟩
    · have hm : xss.getD i.toNat [] ∈ xss := by
        rw [List.getD_eq_getElem?_getD, List.getElem?_eq_getElem (by omega)]
        exact List.getElem_mem _
      refine ⟨i0, by omega, ⟨⟨_, rfl⟩, by rw [I_length]; exact hl2 _ hm⟩, i0, by omega, by omega, by rw [hI, II_getD]; exact .inl (ok_ints _ _ _), ?_⟩
      rw [wrap_id (n := i + 1) (by omega) (by omega)]
      refine hag (_, i + 1) ⟨by simp only; omega, by simp only; omega, ?_⟩ (by simp only; omega)
      simp only [toNat_succ i0, same]
      rw [hI, II_set, fill_set [] [] (by omega)]
    · rw [hr, hf0, hI, List.take_of_length_le (by omega), show xss.length - i.toNat = 0 by omega]
      simp
  · cases h
theorem IsIIs.isII {es : List V} (h : IsIIs es) : IsII false es := by
  obtain ⟨x, h, _⟩ := h
  exact ⟨x, h⟩
theorem IsIs.frz {es : List V} (h : IsIs es) : V.frzs es = es := by
  obtain ⟨⟨x, h⟩, _⟩ := h
  rw [h, I_frzs]
theorem IsI.frz {es : List V} (h : IsI es) : V.frzs es = es := by
  obtain ⟨x, h⟩ := h
  rw [h, I_frzs]
end Go.Ax
