/-
  Strict transforms: spec. No conditions but those of the contracts.
-/
import Derived.Test.YtpbkkbjgmlfloaaJfp
set_option linter.all false
namespace Go.Ax
open Go.Proofs

set_option maxRecDepth 100000 in
theorem s_spec_StrictTransform : Sat Try.prog 40 (c_B_Bi f_str IsBr) := by
  intro args ps r h hp
  unfold c_B_Bi at h
  split at h
  · rename_i a0
    simp only [Option.some.injEq, Prod.mk.injEq] at h
    obtain ⟨rfl, rfl⟩ := h
    have hq : IsBr a0 := (alls_cons.1 hp).1
    obtain ⟨xs, hxs, hb⟩ := id hq
    have g0 : V.frzs a0 = a0 := by rw [hxs, I_frzs]
    obtain ⟨sn, hsn⟩ : ∃ sn : Int, sn = (sq1 xs).length := ⟨_, rfl⟩
    have hsl := sq1_len hb
    obtain ⟨code, hcode⟩ : ∃ c : Int, c = if 400 < sn + 1 then 3 else 0 := ⟨_, rfl⟩
    obtain ⟨vf, hvf⟩ : ∃ vf, vf = I (sq1 xs ++ [1]) := ⟨_, rfl⟩
    have hvl : vf.length = (sq1 xs).length + 1 := by rw [hvf, I_length]; simp
    have hvz : V.frzs vf = vf := by rw [hvf, I_frzs]
    obtain ⟨hbs, n, l, hstr, hseq⟩ := str_seq hb
    generalize H_f_long4 : f_long4 = F_f_long4
    generalize H_q_long4 : q_long4 = F_q_long4
    generalize H_f_full4 : f_full4 = F_f_full4
    generalize H_q_full4 : q_full4 = F_q_full4
    generalize H_f_bos : f_bos = F_f_bos
    generalize H_q_l4b : q_l4b = F_q_l4b
    refine fnOk_ofI (T := tab) (B := [(66, c_Bi_i F_f_long4 F_q_long4), (68, c_Bi_l F_f_full4 F_q_full4), (67, c_l_Bb F_f_bos F_q_l4b)]) (Bi := []) [2000004615, 0, 1, 2, 3, 4, 5] Try.func40 rfl rfl (by kernel_rfl) (Nat.le_of_ble_eq_true rfl) mixed tabOk (by subst H_f_long4 H_q_long4 H_f_full4 H_q_full4 H_f_bos H_q_l4b; exact (bookCons s_spec_l04Long (bookCons s_spec_l04Full (bookCons s_spec_l04Branch bookNil)))) (by subst H_f_long4 H_q_long4 H_f_full4 H_q_full4 H_f_bos H_q_l4b; exact bookINil) (by kernel_rfl) ?_
    intro L lp rr hL hr hf hlp
    have El : F_f_long4 a0 1 = code := by rw [← H_f_long4, f_long4, hxs, unI_I, hcode, hsn]
    have Ef : F_f_full4 a0 1 = vf := by rw [← H_f_full4, f_full4, hxs, unI_I, hvf]; rfl
    have hdr : List.drop 1 (List.take (vf.length : Int).toNat vf) = I ((sq1 xs ++ [1]).drop 1) := by
      rw [Int.toNat_natCast, List.take_length, hvf, I_drop]
    have EB : F_f_bos (I ((sq1 xs ++ [1]).drop 1)) = (I (strI xs), true) := by rw [← H_f_bos, f_bos, unI_I, bosI_eq hseq, hstr]
    conv => cbv
    simp only [stdEqs hL, imp_self, true_and, and_true, bif_or, bif_and, Bool.or_eq_true, Bool.or_eq_false_iff, Bool.and_eq_true, Bool.and_eq_false_iff, decide_eq_true_eq, decide_eq_false_iff_not, Bool.not_eq_true', Bool.not_eq_false', beq_iff_eq, beq_eq_false_iff_ne, ne_eq, toNat0, toNat1, ok_int, toI_int, I_frzs, I_length, I_getD, ok_ints, toL_slc, g0, El, Ef, hvz]
    rw [hdr, I_frzs, EB]
    have hf0 : f_str a0 = if 399 < (sq1 xs).length then ([], 3) else (I (strI xs), 0) := by rw [f_str, hxs, unI_I]
    refine ⟨by rw [← H_q_long4]; exact ⟨hq, by omega, by omega⟩, fun h => ?_, fun h => ⟨?_, by omega, by omega, by omega, ?_, ?_⟩⟩
    · have h2 : 400 < sn + 1 := by
        rcases Int.lt_or_le 400 (sn + 1) with h3 | h3
        · exact h3
        · rw [if_neg (by omega)] at hcode
          exact absurd hcode h
      rw [if_pos h2] at hcode
      rw [hr, hf0, if_pos (by omega), hcode]
    · rw [← H_q_full4]; exact ⟨hq, by omega, by omega⟩
    · have h2 : ¬ 400 < sn + 1 := fun h3 => by
        rw [if_pos h3] at hcode
        omega
      rw [← H_q_l4b]
      exact ⟨n, l, _, rfl, hseq, by rw [List.length_drop, List.length_append, List.length_singleton]; omega⟩
    · have h2 : ¬ 400 < sn + 1 := fun h3 => by
        rw [if_pos h3] at hcode
        omega
      rw [hr, hf0, if_neg (by omega)]
  · cases h
end Go.Ax
