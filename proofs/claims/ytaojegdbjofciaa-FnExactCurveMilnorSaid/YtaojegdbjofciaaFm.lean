/-
  Graphs: comparison of lists, labels of components, what a graph is. No conditions but those of the contracts.
-/
import Derived.Test.YtaojegdbjofciaaFl
set_option linter.all false
namespace Go.Ax
open Go.Proofs

/-! comparison -/
theorem bif_and (a b : Bool) : (bif a then b else false) = (a && b) := by cases a <;> rfl
theorem bif_or (a b : Bool) : (bif a then true else b) = (a || b) := by cases a <;> rfl
def c_i_b (f : Int → Bool) (q : Int → Prop) : Contract := fun
  | [.int .i64 a0] => some ([q a0], .bool (f a0))
  | _ => none
def f_nan (_ : Int) : Bool := false
def always1 (_ : Int) : Prop := True
def cmp3 (x y : Int) : Int := bif decide (x < y) then -1 else bif decide (y < x) then 1 else 0
def c_ii_int (f : Int → Int → Int) (q : Int → Int → Prop) : Contract := fun
  | [.int .i64 a0, .int .i64 a1] => some ([q a0 a1], .int .i64 (f a0 a1))
  | _ => none
def always2 (_ _ : Int) : Prop := True
def cmpL : List Int → List Int → Int
  | x :: a, y :: b => bif !(cmp3 x y == 0) then cmp3 x y else cmpL a b
  | _ :: _, [] => 1
  | [], b => bif decide ((0 : Int) < b.length) then -1 else 0
theorem cmpL_lt : ∀ a b : List Int, decide (0 ≤ cmpL a b) = !lexLt a b
  | [], [] => rfl
  | [], y :: b => by simp [cmpL, lexLt]
  | x :: a, [] => rfl
  | x :: a, y :: b => by
    simp only [cmpL, lexLt]
    rcases (by omega : x < y ∨ x = y ∨ y < x) with h | h | h
    · have h1 : cmp3 x y = -1 := by rw [cmp3, decide_eq_true h]; rfl
      have h2 : (x == y) = false := by simp; omega
      simp [h1, h2, h]
    · subst h
      have h1 : cmp3 x x = 0 := by rw [cmp3, decide_eq_false (Int.lt_irrefl x)]; rfl
      simp [h1, cmpL_lt a b]
    · have h1 : cmp3 x y = 1 := by rw [cmp3, decide_eq_false (by omega), decide_eq_true h]; rfl
      have h2 : (x == y) = false := by simp; omega
      have h3 : ¬ x < y := by omega
      simp [h1, h2, h3]
def c_ll_i (f : List V → List V → Int) (q : List V → List V → Prop) : Contract := fun
  | [.slc false 2 (.int .i64 0) a0, .slc false 2 (.int .i64 0) a1] => some ([q a0 a1], .int .i64 (f a0 a1))
  | _ => none
def f_cmpL (a b : List V) : Int := cmpL (unI a) (unI b)
def q_II (a b : List V) : Prop := IsI a ∧ IsI b
def c_ll_b (f : List V → List V → Bool) (q : List V → List V → Prop) : Contract := fun
  | [.slc false 2 (.int .i64 0) a0, .slc false 2 (.int .i64 0) a1] => some ([q a0 a1], .bool (f a0 a1))
  | _ => none
def f_lexLt (a b : List V) : Bool := lexLt (unI a) (unI b)
/-! greatest numbers -/
def c_l_i (f : List V → Int) (q : List V → Prop) : Contract := fun
  | [.slc false 2 (.int .i64 0) a0] => some ([q a0], .int .i64 (f a0))
  | _ => none
def f_maxL (a : List V) : Int := maxL (unI a)
def q_ne (a : List V) : Prop := IsI a ∧ a ≠ []
set_option maxRecDepth 100000 in
theorem s_slicesMax : Sat Try.prog 103 (c_l_i f_maxL q_ne) := by
  intro args ps r h hp
  unfold c_l_i at h
  split at h
  · rename_i a0
    simp only [Option.some.injEq, Prod.mk.injEq] at h
    obtain ⟨rfl, rfl⟩ := h
    obtain ⟨⟨xs, hxs⟩, hne⟩ : q_ne a0 := (alls_cons.1 hp).1
    have hxl : a0.length = xs.length := by rw [hxs, I_length]
    have hf0 : f_maxL a0 = maxL xs := by rw [f_maxL, hxs, unI_I]
    have hpos : 0 < xs.length := by
      cases xs with
      | nil => exact absurd hxs hne
      | cons x l => simp
    have hmx : maxL xs = maxGo (xs.drop 1) (xs.getD 0 0) := by
      cases xs with
      | nil => simp at hpos
      | cons x l => rfl
    refine fnOk_ofI (T := tab) (B := []) (Bi := []) [0, 2, 3, 4] Try.func103 rfl rfl (by kernel_rfl) (Nat.le_of_ble_eq_true rfl) mixed tabOk (by exact bookNil) (by exact bookINil) (by kernel_rfl) ?_
    intro L lp rr hL hr hf hlp
    have hlen := hf.1.1
    conv => cbv
    simp only [stdEqs hL, hxl]
    refine ⟨fun h => ?_, fun h => ⟨by omega, by omega, ?_⟩⟩
    · simp only [decide_eq_true_eq] at h; omega
    obtain ⟨m0, hm0⟩ : ∃ m0, a0.getD (Int.toNat 0) (.int .i64 0) = .int .i64 m0 ∧ m0 = xs.getD 0 0 := ⟨_, by rw [hxs, I_getD]; rfl, rfl⟩
    simp only [hm0.1, ok_int, toI_int, true_and]
    refine hlp (Int × Int) _ _ _ [0, 3, 4] (fun x => [(0, none, .val (.slc false 2 (.int .i64 0) a0)), (3, none, .val (.int .i64 x.1)), (4, none, .val (.int .i64 x.2))])
      (fun x => 0 ≤ x.2 ∧ x.2 ≤ xs.length ∧ maxL xs = maxGo (xs.drop x.2.toNat) x.1) (fun x => (xs.length - x.2).toNat) ((m0, 1)) (by subst hL; rfl) ?_ ?_
    · exact ⟨by simp, by simp only; omega, by rw [hmx, hm0.2]; rfl⟩
    rintro ⟨m, i⟩ ⟨i0, i1, hI⟩ hfx ag hag
    conv => cbv
    simp only at i0 i1 hI
    rw [hxl] at hlen
    subst hxs
    simp only [stdEqs hL, I_length, I_getD, ok_int, toI_int, imp_self, true_and, decide_eq_true_eq, decide_eq_false_iff_not]
    refine ⟨fun h => ⟨i0, by omega, ?_⟩, fun h => ?_⟩
    · rw [wrap_id (n := i + 1) (by omega) (by omega)]
      refine hag (_, i + 1) ⟨by simp only; omega, by simp only; omega, ?_⟩ (by simp only; omega)
      simp only [toNat_succ i0]
      rw [hI, drop_cons 0 (show i.toNat < xs.length by omega), maxGo]
    · rw [hr, hf0, hI, List.drop_eq_nil_of_le (by omega)]; rfl
  · cases h
end Go.Ax
