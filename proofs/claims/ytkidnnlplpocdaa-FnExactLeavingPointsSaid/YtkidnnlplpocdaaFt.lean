/-
  The greatest number of common points. No conditions but those of the contracts.
-/
import Derived.Test.YtkidnnlplpocdaaFs
set_option linter.all false
namespace Go.Ax
open Go.Proofs

def c_Bi_m (f : List V → Int → List V) (q : List V → Int → Prop) : Contract := fun
  | [.agg [.slc false 2 (.int .i64 0) a0], .int .i64 a1] => some ([q a0 a1], .slc true 27 (.slc true 2 (.int .i64 0) []) (f a0 a1))
  | _ => none
def f_pof (es : List V) (k : Int) : List V := II true (proxL (firstK (unI es) k.toNat))
set_option maxRecDepth 100000 in
theorem s_impl_proximatesOf : Sat Try.prog 129 (c_Bi_m f_pof q_first) := by
  intro args ps r h hp
  unfold c_Bi_m at h
  split at h
  · rename_i a0 a1
    simp only [Option.some.injEq, Prod.mk.injEq] at h
    obtain ⟨rfl, rfl⟩ := h
    obtain ⟨hq, k1, k2⟩ : q_first a0 a1 := (alls_cons.1 hp).1
    have hqb := hq
    obtain ⟨xs, hxs, hb⟩ := hq
    have g1 : V.frzs a0 = a0 := by rw [hxs, I_frzs]
    obtain ⟨ms, hms⟩ : ∃ ms, ms = I (firstK xs a1.toNat) := ⟨_, rfl⟩
    have e1 : f_first a0 a1 = ms := by rw [f_first, hxs, unI_I, hms]
    have g2 : V.frzs ms = ms := by rw [hms, I_frzs]
    generalize H_f_first : f_first = F_f_first
    generalize H_q_first : q_first = F_q_first
    generalize H_f_prox : f_prox = F_f_prox
    generalize H_q_prox : q_prox = F_q_prox
    refine fnOk_ofI (T := tab) (B := [(132, c_Bi_L F_f_first F_q_first), (133, c_l_m F_f_prox F_q_prox)]) (Bi := []) [0, 1, 2, 4] Try.func129 rfl rfl (by kernel_rfl) (Nat.le_of_ble_eq_true rfl) mixed tabOk (by subst H_f_first H_q_first H_f_prox H_q_prox; exact (bookCons s_impl_firstOf (bookCons s_impl_proximates bookNil))) (by subst H_f_first H_q_first H_f_prox H_q_prox; exact bookINil) (by kernel_rfl) ?_
    intro L lp rr hL hr hf hlp
    conv => cbv
    have hF : F_f_first a0 a1 = ms := by rw [← H_f_first, e1]
    simp only [stdEqs hL, imp_self, true_and, and_true, bif_or, bif_and, Bool.or_eq_true, Bool.or_eq_false_iff, Bool.and_eq_true, Bool.and_eq_false_iff, decide_eq_true_eq, decide_eq_false_iff_not, Bool.not_eq_true', Bool.not_eq_false', beq_iff_eq, beq_eq_false_iff_ne, ne_eq, toNat0, toNat1, ok_int, toI_int, I_frzs, I_length, I_getD, ok_ints, toL_slc, g1, hF, g2]
    refine ⟨by rw [← H_q_first]; exact ⟨hqb, k1, k2⟩, by rw [← H_q_prox]; exact ⟨xs, _, hb, hms, by omega⟩, ?_⟩
    rw [hr, f_pof, ← H_f_prox, f_prox, hms, unI_I, hxs, unI_I]
  · cases h
theorem nf : ∀ l : List Int, V.noFzs (I l) = true
  | [] => rfl
  | x :: l => by
    have := nf l
    simpa [I, V.noFzs, V.noFz] using this
def c_BB_ll (f : List V → List V → List V × List V) (q : List V → List V → Prop) : Contract := fun
  | [.agg [.slc false 2 (.int .i64 0) a0], .agg [.slc false 2 (.int .i64 0) a1]] => some ([q a0 a1], .tup [.slc true 2 (.int .i64 0) ((f a0 a1).1), .slc true 2 (.int .i64 0) ((f a0 a1).2)])
  | _ => none
def q_BB (a b : List V) : Prop := IsBr a ∧ IsBr b
def f_codes (a b : List V) : List V × List V := (I (codeK (unI a) 201), I (codeK (unI b) 201))
/-! the first place where two lists differ -/
def fstD (X Y : List Int) : Option Nat := (List.range X.length).find? fun t => X.getD t 0 != Y.getD t 0
theorem fstD_some {X Y : List Int} {i : Nat} (hi : i < X.length) (hb : ∀ t, t < i → X.getD t 0 = Y.getD t 0) (hd : X.getD i 0 ≠ Y.getD i 0) : fstD X Y = some i := by
  rw [fstD, List.find?_range_eq_some]
  refine ⟨by simpa using hd, by simpa using hi, fun j hj => ?_⟩
  simpa using hb j hj
theorem fstD_none {X Y : List Int} (hb : ∀ t, t < X.length → X.getD t 0 = Y.getD t 0) : fstD X Y = none := by
  rw [fstD, List.find?_eq_none]
  intro t ht
  simpa using hb t (by simpa using ht)
def gc (xs ys : List Int) : Int × Int := match fstD (codeK xs 201) (codeK ys 201) with
  | some i => ((i : Int) + 1, 0)
  | none => (0, 4)
def f_gc (a b : List V) : Int × Int := bif isBr (unI a) && isBr (unI b) then gc (unI a) (unI b) else (0, 1)
def c_BB_ii (f : List V → List V → Int × Int) (q : List V → List V → Prop) : Contract := fun
  | [.agg [.slc false 2 (.int .i64 0) a0], .agg [.slc false 2 (.int .i64 0) a1]] => some ([q a0 a1], .tup [.int .i64 ((f a0 a1).1), .int .i64 ((f a0 a1).2)])
  | _ => none
def q_IsIs2 (a b : List V) : Prop := IsIs a ∧ IsIs b
theorem codeK_len (xs : List Int) (k : Nat) : (codeK xs k).length = k - 1 := tab_len _ _
def c_BB_i (f : List V → List V → Int) (q : List V → List V → Prop) : Contract := fun
  | [.agg [.slc false 2 (.int .i64 0) a0], .agg [.slc false 2 (.int .i64 0) a1]] => some ([q a0 a1], .int .i64 (f a0 a1))
  | _ => none
def grt (xs ys : List Int) : Int := match fstD (codeK xs 201) (codeK ys 201) with
  | some i => (i : Int) + 1
  | none => 0
def f_grt (a b : List V) : Int := grt (unI a) (unI b)
def c_BB_b (f : List V → List V → Bool) (q : List V → List V → Prop) : Contract := fun
  | [.agg [.slc false 2 (.int .i64 0) a0], .agg [.slc false 2 (.int .i64 0) a1]] => some ([q a0 a1], .bool (f a0 a1))
  | _ => none
def yesBB (_ _ : List V) : Bool := true
def q_I2 (a b : List V) : Prop := IsI a ∧ IsI b
theorem szL_le {n : Nat} {left : Int} (hn : n ≤ 9223372036854775807) (h0 : 0 ≤ left) (h1 : left ≤ 1048576) (h : (decide (szL n left < 0)) = false) : n ≤ 1048576 ∧ 0 ≤ szL n left ∧ szL n left ≤ 1048576 := by
  rw [decide_eq_false_iff_not] at h
  have ew : IntKind.wrap .i64 (left - n) = left - n := wrap_id (by omega) (by omega)
  rw [szL, ew] at h ⊢
  by_cases hh : left - n < 0
  · simp [hh] at h
  · simp only [hh, decide_false, cond_false]
    omega
end Go.Ax
