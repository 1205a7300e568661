/-
  The greatest number of common points. No conditions but those of the contracts.
-/
import Derived.Test.YtpbkkbjgmlfloaaFsp
set_option linter.all false
namespace Go.Ax
open Go.Proofs

def c_Bi_m (f : List V → Int → List V) (q : List V → Int → Prop) : Contract := fun
  | [.agg [.slc false 2 (.int .i64 0) a0], .int .i64 a1] => some ([q a0 a1], .slc true 53 (.slc true 2 (.int .i64 0) []) (f a0 a1))
  | _ => none
def f_pof (es : List V) (k : Int) : List V := II true (proxL (firstK (unI es) k.toNat))
set_option maxRecDepth 100000 in
theorem s_impl_proximatesOf : Sat Try.prog 48 (c_Bi_m f_pof q_first) := by
  intro args ps r h hp
  unfold c_Bi_m at h
  split at h
  · rename_i a0 a1
    simp only [Option.some.injEq, Prod.mk.injEq] at h
    obtain ⟨rfl, rfl⟩ := h
    obtain ⟨hq, k1, k2⟩ : q_first a0 a1 := (alls_cons.1 hp).1
    have hqb := hq
    obtain ⟨xs, hxs, hb⟩ := hq
    have g1 : V.frzs a0 = a0 := by rw [hxs, I_frzs]
    obtain ⟨ms, hms⟩ : ∃ ms, ms = I (firstK xs a1.toNat) := ⟨_, rfl⟩
    have e1 : f_first a0 a1 = ms := by rw [f_first, hxs, unI_I, hms]
    have g2 : V.frzs ms = ms := by rw [hms, I_frzs]
    generalize H_f_first : f_first = F_f_first
    generalize H_q_first : q_first = F_q_first
    generalize H_f_prox : f_prox = F_f_prox
    generalize H_q_prox : q_prox = F_q_prox
    refine fnOk_ofI (T := tab) (B := [(77, c_Bi_L F_f_first F_q_first), (76, c_l_m F_f_prox F_q_prox)]) (Bi := []) [0, 1, 2, 4] Try.func48 rfl rfl (by kernel_rfl) (Nat.le_of_ble_eq_true rfl) mixed tabOk (by subst H_f_first H_q_first H_f_prox H_q_prox; exact (bookCons s_impl_firstOf (bookCons s_impl_proximates bookNil))) (by subst H_f_first H_q_first H_f_prox H_q_prox; exact bookINil) (by kernel_rfl) ?_
    intro L lp rr hL hr hf hlp
    conv => cbv
    have hF : F_f_first a0 a1 = ms := by rw [← H_f_first, e1]
    simp only [stdEqs hL, imp_self, true_and, and_true, bif_or, bif_and, Bool.or_eq_true, Bool.or_eq_false_iff, Bool.and_eq_true, Bool.and_eq_false_iff, decide_eq_true_eq, decide_eq_false_iff_not, Bool.not_eq_true', Bool.not_eq_false', beq_iff_eq, beq_eq_false_iff_ne, ne_eq, toNat0, toNat1, ok_int, toI_int, I_frzs, I_length, I_getD, ok_ints, toL_slc, g1, hF, g2]
    refine ⟨by rw [← H_q_first]; exact ⟨hqb, k1, k2⟩, by rw [← H_q_prox]; exact ⟨xs, _, hb, hms, by omega⟩, ?_⟩
    rw [hr, f_pof, ← H_f_prox, f_prox, hms, unI_I, hxs, unI_I]
  · cases h
theorem nf : ∀ l : List Int, V.noFzs (I l) = true
  | [] => rfl
  | x :: l => by
    have := nf l
    simpa [I, V.noFzs, V.noFz] using this
def fstD (X Y : List Int) : Option Nat := (List.range X.length).find? fun t => X.getD t 0 != Y.getD t 0
def gc (xs ys : List Int) : Int × Int := match fstD (codeK xs 201) (codeK ys 201) with
  | some i => ((i : Int) + 1, 0)
  | none => (0, 4)
theorem codeK_len (xs : List Int) (k : Nat) : (codeK xs k).length = k - 1 := tab_len _ _
end Go.Ax
