/-
  Lists the other way round: slices.Reverse, impl.reversed. No conditions but those of the contracts.
-/
import Derived.Test.YtpcjjklkiejeaaaFo
set_option linter.all false
namespace Go.Ax
open Go.Proofs

def revK (k : Nat) (xs : List Int) : List Int := tab' (fun t => if t < k ∨ xs.length - k ≤ t then xs.getD (xs.length - 1 - t) 0 else xs.getD t 0) xs.length
theorem revK_len (k : Nat) (xs : List Int) : (revK k xs).length = xs.length := tab_len _ _
theorem revK_get {k t : Nat} {xs : List Int} (h : t < xs.length) : (revK k xs).getD t 0 = if t < k ∨ xs.length - k ≤ t then xs.getD (xs.length - 1 - t) 0 else xs.getD t 0 := by
  rw [revK, tab_get _ _ _ _ h]
theorem revK_0 (xs : List Int) : revK 0 xs = xs := by
  apply List.ext_getElem?
  intro j
  by_cases hj : j < xs.length
  · rw [revK, tab_get? _ _ _ hj, if_neg (by omega), List.getD_eq_getElem?_getD, List.getElem?_eq_getElem hj]; rfl
  · rw [List.getElem?_eq_none (by rw [revK_len]; omega), List.getElem?_eq_none (by omega)]
theorem revK_all {k : Nat} {xs : List Int} (h : xs.length ≤ 2 * k + 1) : revK k xs = xs.reverse := by
  apply List.ext_getElem?
  intro j
  by_cases hj : j < xs.length
  · rw [revK, tab_get? _ _ _ hj, List.getElem?_reverse hj]
    split
    · rw [List.getD_eq_getElem?_getD, List.getElem?_eq_getElem (by omega)]; rfl
    · rw [show xs.length - 1 - j = j by omega, List.getD_eq_getElem?_getD, List.getElem?_eq_getElem hj]; rfl
  · rw [List.getElem?_eq_none (by rw [revK_len]; omega), List.getElem?_eq_none (by rw [List.length_reverse]; omega)]
theorem tab_setR {α : Type} (f : Nat → α) {n i : Nat} (x : α) (h : i < n) : (tab' f n).set i x = tab' (fun t => if t = i then x else f t) n := by
  apply List.ext_getElem?
  intro j
  rw [List.getElem?_set]
  by_cases hj : j < n
  · rw [tab_get? _ _ _ hj, tab_get? _ _ _ hj]
    by_cases h1 : i = j
    · rw [if_pos h1, if_pos (by rw [tab_len]; exact h), if_pos h1.symm]
    · rw [if_neg h1, if_neg (Ne.symm h1)]
  · rw [if_neg (by omega), List.getElem?_eq_none (by rw [tab_len]; omega), List.getElem?_eq_none (by rw [tab_len]; omega)]
theorem revK_step {k l : Nat} {xs : List Int} (h : k < l) (hl : k + l + 1 = xs.length) : ((revK k xs).set k (xs.getD l 0)).set l (xs.getD k 0) = revK (k + 1) xs := by
  rw [revK, tab_setR _ _ (by omega), tab_setR _ _ (by omega), revK]
  refine tab_congr fun j hj => ?_
  by_cases e1 : j = l
  · subst e1
    rw [if_pos rfl, if_pos (by omega), show xs.length - 1 - j = k by omega]
  · rw [if_neg e1]
    by_cases e2 : j = k
    · subst e2
      rw [if_pos rfl, if_pos (by omega), show xs.length - 1 - j = l by omega]
    · rw [if_neg e2]
      by_cases e3 : j < k ∨ xs.length - k ≤ j
      · rw [if_pos e3, if_pos (by omega)]
      · rw [if_neg e3, if_neg (by omega)]
def ic_rev (f1 : List V → List V) (q : List V → Prop) : IContract := fun
  | [.slc true 2 (.int .i64 0) a0] => some ([q a0], .tup [], .slc true 2 (.int .i64 0) (f1 a0))
  | _ => none
def f_rev (a : List V) : List V := I (unI a).reverse
set_option maxRecDepth 100000 in
theorem s_reverse : SatI Try.prog 57 0 (ic_rev f_rev IsIs) := by
  intro args ps r y h hp
  unfold ic_rev at h
  split at h
  · rename_i a0
    simp only [Option.some.injEq, Prod.mk.injEq] at h
    obtain ⟨rfl, rfl, rfl⟩ := h
    obtain ⟨⟨xs, hes⟩, hl⟩ : IsIs a0 := (alls_cons.1 hp).1
    have hel : a0.length = xs.length := by rw [hes, I_length]
    rw [hel] at hl
    refine fnIO_of (T := tab) (B := []) (Bi := []) 0 [3000003002, 3000003003, 0, 2, 3] Try.func57 rfl rfl (by kernel_rfl) (Nat.le_of_ble_eq_true rfl) mixed tabOk (by exact bookNil) (by exact bookINil) (by kernel_rfl) rfl rfl rfl (by rw [f_rev, hes, unI_I]; exact Sh.ints (by simp)) rfl ?_
    intro L lp rr yy hL hr hy hf hlp
    conv => cbv
    simp only [stdEqs hL, imp_self, true_and, and_true, bif_or, bif_and, Bool.or_eq_true, Bool.or_eq_false_iff, Bool.and_eq_true, Bool.and_eq_false_iff, decide_eq_true_eq, decide_eq_false_iff_not, Bool.not_eq_true', Bool.not_eq_false', beq_iff_eq, beq_eq_false_iff_ne, ne_eq, toNat0, toNat1, ok_int, toI_int, I_frzs, I_length, I_getD, ok_ints, toL_slc, hel]
    rw [wrap_id (n := (xs.length : Int) - 1) (by omega) (by omega)]
    refine hlp (List V × Int × Int) _ _ _ [0, 2, 3] (fun x => [(0, none, .val (.slc true 2 (.int .i64 0) x.1)), (2, none, .val (.int .i64 x.2.1)), (3, none, .val (.int .i64 x.2.2))])
      (fun x => 0 ≤ x.2.1 ∧ x.2.1 ≤ x.2.2 + 1 ∧ x.2.1 + x.2.2 + 1 = xs.length ∧ x.1 = I (revK x.2.1.toNat xs)) (fun x => (x.2.2 - x.2.1 + 1).toNat) ((a0, 0, (xs.length : Int) - 1)) (by subst hL; rfl) ?_ ?_
    · exact ⟨by simp, by simp only; omega, by simp only; omega, by simp only; rw [show (0 : Int).toNat = 0 from rfl, revK_0, hes]⟩
    rintro ⟨os, i, j⟩ ⟨i0, i1, i2, hO⟩ hfx ag hag
    simp only at i0 i1 i2 hO
    have hol : os.length = xs.length := by rw [hO, I_length, revK_len]
    have gos : ∀ k, os.getD k (.int .i64 0) = .int .i64 ((revK i.toNat xs).getD k 0) := fun k => by rw [hO, I_getD]
    conv => cbv
    simp only [stdEqs hL, imp_self, true_and, and_true, bif_or, bif_and, Bool.or_eq_true, Bool.or_eq_false_iff, Bool.and_eq_true, Bool.and_eq_false_iff, decide_eq_true_eq, decide_eq_false_iff_not, Bool.not_eq_true', Bool.not_eq_false', beq_iff_eq, beq_eq_false_iff_ne, ne_eq, toNat0, toNat1, ok_int, toI_int, I_frzs, I_length, I_getD, ok_ints, toL_slc, hol, gos, List.length_set]
    rw [wrap_id (n := i + 1) (by omega) (by omega), wrap_id (n := j - 1) (by omega) (by omega)]
    refine ⟨fun h2 => ?_, fun h2 => ?_⟩
    · have hs : ∀ x, (os.set i.toNat x).getD j.toNat (.int .i64 0) = .int .i64 ((revK i.toNat xs).getD j.toNat 0) := fun x => by
        rw [List.getD_eq_getElem?_getD, List.getElem?_set_ne (by omega), ← List.getD_eq_getElem?_getD, gos]
      simp only [hs]
      have hgi : (revK i.toNat xs).getD i.toNat 0 = xs.getD i.toNat 0 := by rw [revK_get (by omega), if_neg (by omega)]
      have hgj : (revK i.toNat xs).getD j.toNat 0 = xs.getD j.toNat 0 := by rw [revK_get (by omega), if_neg (by omega)]
      rw [hgi, hgj]
      have b1 : i.toNat < xs.length := by omega
      have b2 : j.toNat < xs.length := by omega
      refine ⟨by omega, by omega, b2, i0, by omega, b1, i0, by omega, b1, by omega, by omega, b2, rfl, ?_⟩
      refine hag (_, i + 1, j - 1) ⟨by simp only; omega, by simp only; omega, by simp only; omega, ?_⟩ (by simp only; omega)
      simp only [toNat_succ i0]
      rw [hO, I_set, I_set, revK_step (by omega) (by omega)]
    · rw [hr, hy, hO, revK_all (by omega), f_rev, hes, unI_I]
      exact ⟨rfl, rfl⟩
  · cases h
def q_rev (a : List V) : Prop := IsIs a
set_option maxRecDepth 100000 in
theorem s_impl_reversed : Sat Try.prog 37 (c_laws_toInt64S f_rev IsIs) := by
  intro args ps r h hp
  unfold c_laws_toInt64S at h
  split at h
  · rename_i a0
    simp only [Option.some.injEq, Prod.mk.injEq] at h
    obtain ⟨rfl, rfl⟩ := h
    have hq : IsIs a0 := (alls_cons.1 hp).1
    obtain ⟨⟨xs, hes⟩, hl⟩ := id hq
    have g0 : V.frzs a0 = a0 := by rw [hes, I_frzs]
    generalize H_same : same = F_same
    generalize H_IsIs : IsIs = F_IsIs
    generalize H_f_rev : f_rev = F_f_rev
    refine fnOk_ofI (T := tab) (B := [(56, c_laws_toInt64S F_same F_IsIs)]) (Bi := [(57, 0, false, ic_rev F_f_rev F_IsIs)]) [0, 2, 3] Try.func37 rfl rfl (by kernel_rfl) (Nat.le_of_ble_eq_true rfl) mixed tabOk (by subst H_same H_IsIs H_f_rev; exact (bookCons s_clone bookNil)) (by subst H_same H_IsIs H_f_rev; exact (bookICons s_reverse bookINil)) (by kernel_rfl) ?_
    intro L lp rr hL hr hf hlp
    conv => cbv
    simp only [stdEqs hL, imp_self, true_and, and_true, bif_or, bif_and, Bool.or_eq_true, Bool.or_eq_false_iff, Bool.and_eq_true, Bool.and_eq_false_iff, decide_eq_true_eq, decide_eq_false_iff_not, Bool.not_eq_true', Bool.not_eq_false', beq_iff_eq, beq_eq_false_iff_ne, ne_eq, toNat0, toNat1, ok_int, toI_int, I_frzs, I_length, I_getD, ok_ints, toL_slc, g0]
    subst H_same H_IsIs H_f_rev
    exact ⟨hq, hq, hr.symm⟩
  · cases h
end Go.Ax
