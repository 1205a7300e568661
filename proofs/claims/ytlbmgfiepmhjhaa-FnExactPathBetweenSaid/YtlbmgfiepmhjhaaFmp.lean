/-
  Graphs: comparison of lists, labels of components, what a graph is. No conditions but those of the contracts.
-/
import Derived.Test.YtlbmgfiepmhjhaaFlp
set_option linter.all false
namespace Go.Ax
open Go.Proofs

theorem bif_and (a b : Bool) : (bif a then b else false) = (a && b) := by cases a <;> rfl
theorem bif_or (a b : Bool) : (bif a then true else b) = (a || b) := by cases a <;> rfl
def c_i_b (f : Int → Bool) (q : Int → Prop) : Contract := fun
  | [.int .i64 a0] => some ([q a0], .bool (f a0))
  | _ => none
def f_nan (_ : Int) : Bool := false
def always1 (_ : Int) : Prop := True
set_option maxRecDepth 100000 in
theorem s_isNaN : Sat Try.prog 113 (c_i_b f_nan always1) := by
  intro args ps r h hp
  unfold c_i_b at h
  split at h
  · rename_i a0
    simp only [Option.some.injEq, Prod.mk.injEq] at h
    obtain ⟨rfl, rfl⟩ := h
    refine fnOk_ofI (T := tab) (B := []) (Bi := []) [0, 2] Try.func113 rfl rfl (by kernel_rfl) (Nat.le_of_ble_eq_true rfl) mixed tabOk (by exact bookNil) (by exact bookINil) (by kernel_rfl) ?_
    intro L lp rr hL hr hf hlp
    conv => cbv
    simp only [stdEqs hL]
    rw [hr, f_nan]
    simp
  · cases h
def cmp3 (x y : Int) : Int := bif decide (x < y) then -1 else bif decide (y < x) then 1 else 0
set_option maxRecDepth 100000 in
theorem s_cmpCompare : Sat Try.prog 101 (c_ii_i cmp3 always) := by
  intro args ps r h hp
  unfold c_ii_i at h
  split at h
  · rename_i a0 a1
    simp only [Option.some.injEq, Prod.mk.injEq] at h
    obtain ⟨rfl, rfl⟩ := h
    have hc : cmp3 a0 a1 = bif decide (a0 < a1) then -1 else bif decide (a1 < a0) then 1 else 0 := rfl
    generalize H_f_nan : f_nan = F_f_nan
    generalize H_always1 : always1 = F_always1
    refine fnOk_ofI (T := tab) (B := [(113, c_i_b F_f_nan F_always1)]) (Bi := []) [0, 1, 4, 5, 6] Try.func101 rfl rfl (by kernel_rfl) (Nat.le_of_ble_eq_true rfl) mixed tabOk (by subst H_f_nan H_always1; exact (bookCons s_isNaN bookNil)) (by subst H_f_nan H_always1; exact bookINil) (by kernel_rfl) ?_
    intro L lp rr hL hr hf hlp
    conv => cbv
    simp only [stdEqs hL]
    subst H_f_nan H_always1
    rw [hr, hc]
    simp only [f_nan, always1, true_and, Bool.false_eq_true, false_imp_iff, true_imp_iff, decide_eq_true_eq, decide_eq_false_iff_not]
    refine ⟨fun h => ?_, fun h => ⟨fun h2 => ?_, fun h2 => ?_⟩⟩
    · rw [decide_eq_true h]; rfl
    · rw [decide_eq_false h, decide_eq_true h2]; rfl
    · rw [decide_eq_false h, decide_eq_false h2]; rfl
  · cases h
def cmpL : List Int → List Int → Int
  | x :: a, y :: b => bif !(cmp3 x y == 0) then cmp3 x y else cmpL a b
  | _ :: _, [] => 1
  | [], b => bif decide ((0 : Int) < b.length) then -1 else 0
theorem cmpL_lt : ∀ a b : List Int, decide (0 ≤ cmpL a b) = !lexLt a b
  | [], [] => rfl
  | [], y :: b => by simp [cmpL, lexLt]
  | x :: a, [] => rfl
  | x :: a, y :: b => by
    simp only [cmpL, lexLt]
    rcases (by omega : x < y ∨ x = y ∨ y < x) with h | h | h
    · have h1 : cmp3 x y = -1 := by rw [cmp3, decide_eq_true h]; rfl
      have h2 : (x == y) = false := by simp; omega
      simp [h1, h2, h]
    · subst h
      have h1 : cmp3 x x = 0 := by rw [cmp3, decide_eq_false (Int.lt_irrefl x)]; rfl
      simp [h1, cmpL_lt a b]
    · have h1 : cmp3 x y = 1 := by rw [cmp3, decide_eq_false (by omega), decide_eq_true h]; rfl
      have h2 : (x == y) = false := by simp; omega
      have h3 : ¬ x < y := by omega
      simp [h1, h2, h3]
def c_ll_i (f : List V → List V → Int) (q : List V → List V → Prop) : Contract := fun
  | [.slc false 2 (.int .i64 0) a0, .slc false 2 (.int .i64 0) a1] => some ([q a0 a1], .int .i64 (f a0 a1))
  | _ => none
def f_cmpL (a b : List V) : Int := cmpL (unI a) (unI b)
def q_II (a b : List V) : Prop := IsI a ∧ IsI b
set_option maxRecDepth 100000 in
theorem s_slicesCompare : Sat Try.prog 73 (c_ll_i f_cmpL q_II) := by
  intro args ps r h hp
  unfold c_ll_i at h
  split at h
  · rename_i a0 a1
    simp only [Option.some.injEq, Prod.mk.injEq] at h
    obtain ⟨rfl, rfl⟩ := h
    obtain ⟨⟨xs, hxs⟩, ys, hys⟩ : q_II a0 a1 := (alls_cons.1 hp).1
    have hxl : a0.length = xs.length := by rw [hxs, I_length]
    have hyl : a1.length = ys.length := by rw [hys, I_length]
    have hf0 : f_cmpL a0 a1 = cmpL xs ys := by rw [f_cmpL, hxs, hys, unI_I, unI_I]
    obtain ⟨m, hm⟩ : ∃ m : Int, m = a0.length := ⟨_, rfl⟩
    generalize H_cmp3 : cmp3 = F_cmp3
    generalize H_always : always = F_always
    refine fnOk_ofI (T := tab) (B := [(101, c_ii_i F_cmp3 F_always)]) (Bi := []) [0, 1, 4, 5, 6, 7, 8, 9, 10, 11] Try.func73 rfl rfl (by kernel_rfl) (Nat.le_of_ble_eq_true rfl) mixed tabOk (by subst H_cmp3 H_always; exact (bookCons s_cmpCompare bookNil)) (by subst H_cmp3 H_always; exact bookINil) (by kernel_rfl) ?_
    intro L lp rr hL hr hf hlp
    have hlen := hf.1.1
    conv => cbv
    refine hlp (Int) _ _ _ [0, 1, 9, 10, 11] (fun x => [(0, none, .val (.slc false 2 (.int .i64 0) a0)), (1, none, .val (.slc false 2 (.int .i64 0) a1)), (9, none, .val (.slc false 2 (.int .i64 0) a0)), (10, none, .val (.int .i64 m)), (11, none, .val (.int .i64 x))])
      (fun x => 0 ≤ x ∧ x ≤ xs.length ∧ x ≤ ys.length ∧ cmpL xs ys = cmpL (xs.drop x.toNat) (ys.drop x.toNat)) (fun x => (xs.length - x).toNat) (0) (by subst hL hm; rfl) ?_ ?_
    · simp
    rintro i ⟨i0, i1, i2, hI⟩ hfx ag hag
    conv => cbv
    rw [hxl] at hm hlen
    subst hxs hys hm
    simp only [stdEqs hL, I_length, I_getD, ok_int, toI_int, imp_self, true_and, decide_eq_true_eq, decide_eq_false_iff_not]
    subst H_cmp3 H_always
    refine ⟨fun h => ?_, fun h => ⟨fun h2 => ?_, fun h2 => ?_⟩⟩
    · have hd : xs.drop i.toNat = xs.getD i.toNat 0 :: xs.drop (i.toNat + 1) := drop_cons 0 (by omega)
      refine ⟨i0, by omega, fun h2 => ?_, fun h2 => ⟨i0, by omega, trivial, fun h3 => ?_, fun h3 => ?_⟩⟩
      · have e2 : ys.drop i.toNat = [] := List.drop_eq_nil_of_le (by omega)
        rw [hr, hf0, hI, hd, e2]; rfl
      · have hd2 : ys.drop i.toNat = ys.getD i.toNat 0 :: ys.drop (i.toNat + 1) := drop_cons 0 (by omega)
        rw [hr, hf0, hI, hd, hd2, cmpL, h3]; rfl
      · have hd2 : ys.drop i.toNat = ys.getD i.toNat 0 :: ys.drop (i.toNat + 1) := drop_cons 0 (by omega)
        rw [wrap_id (n := i + 1) (by omega) (by omega)]
        refine hag (i + 1) ⟨by omega, by omega, by omega, ?_⟩ (by omega)
        rw [toNat_succ i0, hI, hd, hd2, cmpL, h3]; rfl
    · have e1 : xs.drop i.toNat = [] := List.drop_eq_nil_of_le (by omega)
      have e2 : (0 : Int) < (ys.drop i.toNat).length := by rw [List.length_drop]; omega
      rw [hr, hf0, hI, e1, cmpL, decide_eq_true e2]; rfl
    · have e1 : xs.drop i.toNat = [] := List.drop_eq_nil_of_le (by omega)
      have e2 : ¬ (0 : Int) < (ys.drop i.toNat).length := by rw [List.length_drop]; omega
      rw [hr, hf0, hI, e1, cmpL, decide_eq_false e2]; rfl
  · cases h
def c_ll_b (f : List V → List V → Bool) (q : List V → List V → Prop) : Contract := fun
  | [.slc false 2 (.int .i64 0) a0, .slc false 2 (.int .i64 0) a1] => some ([q a0 a1], .bool (f a0 a1))
  | _ => none
def f_lexLt (a b : List V) : Bool := lexLt (unI a) (unI b)
set_option maxRecDepth 100000 in
theorem s_spec_l01Less : Sat Try.prog 70 (c_ll_b f_lexLt q_II) := by
  intro args ps r h hp
  unfold c_ll_b at h
  split at h
  · rename_i a0 a1
    simp only [Option.some.injEq, Prod.mk.injEq] at h
    obtain ⟨rfl, rfl⟩ := h
    obtain ⟨⟨xs, hxs⟩, ys, hys⟩ : q_II a0 a1 := (alls_cons.1 hp).1
    have hxl : a0.length = xs.length := by rw [hxs, I_length]
    have hyl : a1.length = ys.length := by rw [hys, I_length]
    have hf0 : f_lexLt a0 a1 = lexLt xs ys := by rw [f_lexLt, hxs, hys, unI_I, unI_I]
    refine fnOk_ofI (T := tab) (B := []) (Bi := []) [0, 1, 4, 5] Try.func70 rfl rfl (by kernel_rfl) (Nat.le_of_ble_eq_true rfl) mixed tabOk (by exact bookNil) (by exact bookINil) (by kernel_rfl) ?_
    intro L lp rr hL hr hf hlp
    have hlen := hf.1.1
    conv => cbv
    refine hlp (Int) _ _ _ [0, 1, 5] (fun x => [(0, none, .val (.slc false 2 (.int .i64 0) a0)), (1, none, .val (.slc false 2 (.int .i64 0) a1)), (5, none, .val (.int .i64 x))])
      (fun x => 0 ≤ x ∧ x ≤ xs.length ∧ x ≤ ys.length ∧ lexLt xs ys = lexLt (xs.drop x.toNat) (ys.drop x.toNat)) (fun x => (xs.length - x).toNat) (0) (by subst hL; rfl) ?_ ?_
    · simp
    rintro i ⟨i0, i1, i2, hI⟩ hfx ag hag
    conv => cbv
    rw [hxl] at hlen
    subst hxs hys
    simp only [stdEqs hL, I_length, I_getD, ok_int, toI_int, imp_self, true_and, bif_and, Bool.and_eq_true, Bool.and_eq_false_iff, decide_eq_true_eq, decide_eq_false_iff_not, Bool.not_eq_true', Bool.not_eq_false', beq_eq_false_iff_ne, beq_iff_eq, ne_eq]
    refine ⟨fun ⟨h, h2⟩ => ?_, fun h => ?_⟩
    · have hd : xs.drop i.toNat = xs.getD i.toNat 0 :: xs.drop (i.toNat + 1) := drop_cons 0 (by omega)
      have hd2 : ys.drop i.toNat = ys.getD i.toNat 0 :: ys.drop (i.toNat + 1) := drop_cons 0 (by omega)
      refine ⟨i0, h, i0, h2, fun h3 => ⟨i0, h, i0, h2, ?_⟩, fun h3 => ?_⟩
      · have h4 : (xs.getD i.toNat 0 == ys.getD i.toNat 0) = false := by simpa using h3
        rw [hr, hf0, hI, hd, hd2, lexLt, h4]; rfl
      · have h4 : (xs.getD i.toNat 0 == ys.getD i.toNat 0) = true := by simpa using h3
        rw [wrap_id (n := i + 1) (by omega) (by omega)]
        refine hag (i + 1) ⟨by omega, by omega, by omega, ?_⟩ (by omega)
        rw [toNat_succ i0, hI, hd, hd2, lexLt, h4]; rfl
    · rw [hr, hf0, hI]
      by_cases hx : i < xs.length
      · have hd : xs.drop i.toNat = xs.getD i.toNat 0 :: xs.drop (i.toNat + 1) := drop_cons 0 (by omega)
        have e2 : ys.drop i.toNat = [] := List.drop_eq_nil_of_le (by omega)
        rw [hd, e2, lexLt, decide_eq_false (by omega)]
      · have e1 : xs.drop i.toNat = [] := List.drop_eq_nil_of_le (by omega)
        by_cases hy : i < ys.length
        · have hd2 : ys.drop i.toNat = ys.getD i.toNat 0 :: ys.drop (i.toNat + 1) := drop_cons 0 (by omega)
          rw [e1, hd2, lexLt, decide_eq_true (by omega)]
        · have e2 : ys.drop i.toNat = [] := List.drop_eq_nil_of_le (by omega)
          rw [e1, e2, lexLt, decide_eq_false (by omega)]
  · cases h
def c_l_i (f : List V → Int) (q : List V → Prop) : Contract := fun
  | [.slc false 2 (.int .i64 0) a0] => some ([q a0], .int .i64 (f a0))
  | _ => none
def f_maxL (a : List V) : Int := maxL (unI a)
def q_ne (a : List V) : Prop := IsI a ∧ a ≠ []
set_option maxRecDepth 100000 in
theorem s_slicesMax : Sat Try.prog 74 (c_l_i f_maxL q_ne) := by
  intro args ps r h hp
  unfold c_l_i at h
  split at h
  · rename_i a0
    simp only [Option.some.injEq, Prod.mk.injEq] at h
    obtain ⟨rfl, rfl⟩ := h
    obtain ⟨⟨xs, hxs⟩, hne⟩ : q_ne a0 := (alls_cons.1 hp).1
    have hxl : a0.length = xs.length := by rw [hxs, I_length]
    have hf0 : f_maxL a0 = maxL xs := by rw [f_maxL, hxs, unI_I]
    have hpos : 0 < xs.length := by
      cases xs with
      | nil => exact absurd hxs hne
      | cons x l => simp
    have hmx : maxL xs = maxGo (xs.drop 1) (xs.getD 0 0) := by
      cases xs with
      | nil => simp at hpos
      | cons x l => rfl
    refine fnOk_ofI (T := tab) (B := []) (Bi := []) [0, 2, 3, 4] Try.func74 rfl rfl (by kernel_rfl) (Nat.le_of_ble_eq_true rfl) mixed tabOk (by exact bookNil) (by exact bookINil) (by kernel_rfl) ?_
    intro L lp rr hL hr hf hlp
    have hlen := hf.1.1
    conv => cbv
    simp only [stdEqs hL, hxl]
    refine ⟨fun h => ?_, fun h => ⟨by omega, by omega, ?_⟩⟩
    · simp only [decide_eq_true_eq] at h; omega
    obtain ⟨m0, hm0⟩ : ∃ m0, a0.getD (Int.toNat 0) (.int .i64 0) = .int .i64 m0 ∧ m0 = xs.getD 0 0 := ⟨_, by rw [hxs, I_getD]; rfl, rfl⟩
    simp only [hm0.1, ok_int, toI_int, true_and]
    refine hlp (Int × Int) _ _ _ [0, 3, 4] (fun x => [(0, none, .val (.slc false 2 (.int .i64 0) a0)), (3, none, .val (.int .i64 x.1)), (4, none, .val (.int .i64 x.2))])
      (fun x => 0 ≤ x.2 ∧ x.2 ≤ xs.length ∧ maxL xs = maxGo (xs.drop x.2.toNat) x.1) (fun x => (xs.length - x.2).toNat) ((m0, 1)) (by subst hL; rfl) ?_ ?_
    · exact ⟨by simp, by simp only; omega, by rw [hmx, hm0.2]; rfl⟩
    rintro ⟨m, i⟩ ⟨i0, i1, hI⟩ hfx ag hag
    conv => cbv
    simp only at i0 i1 hI
    rw [hxl] at hlen
    subst hxs
    simp only [stdEqs hL, I_length, I_getD, ok_int, toI_int, imp_self, true_and, decide_eq_true_eq, decide_eq_false_iff_not]
    refine ⟨fun h => ⟨i0, by omega, ?_⟩, fun h => ?_⟩
    · rw [wrap_id (n := i + 1) (by omega) (by omega)]
      refine hag (_, i + 1) ⟨by simp only; omega, by simp only; omega, ?_⟩ (by simp only; omega)
      simp only [toNat_succ i0]
      rw [hI, drop_cons 0 (show i.toNat < xs.length by omega), maxGo]
    · rw [hr, hf0, hI, List.drop_eq_nil_of_le (by omega)]; rfl
  · cases h
end Go.Ax
