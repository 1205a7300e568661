/-
  The law of PossibleIntersections. No conditions but those of the contracts.
-/
import Derived.Test.YtogjbbmndhlfaaaFx
set_option linter.all false
namespace Go.Ax
open Go.Proofs

set_option maxRecDepth 100000 in
theorem s_laws_FnExactPossibleIntersections : Sat Try.prog 3 (c_BBi_law yesBBi q_I2i) := by
  intro args ps r h hp
  unfold c_BBi_law at h
  split at h
  · rename_i a0 a1 a2
    simp only [Option.some.injEq, Prod.mk.injEq] at h
    obtain ⟨rfl, rfl⟩ := h
    obtain ⟨⟨xs, hxs⟩, ⟨ys, hys⟩⟩ : q_I2i a0 a1 a2 := (alls_cons.1 hp).1
    have hxl : a0.length = xs.length := by rw [hxs, I_length]
    have hyl : a1.length = ys.length := by rw [hys, I_length]
    have g1 : V.frzs a0 = a0 := by rw [hxs, I_frzs]
    have g2 : V.frzs a1 = a1 := by rw [hys, I_frzs]
    generalize H_f0_sz : f0_sz = F_f0_sz
    generalize H_noq : noq = F_noq
    generalize H_same : same = F_same
    generalize H_IsIs : IsIs = F_IsIs
    generalize H_f_pos : f_pos = F_f_pos
    generalize H_q_IsIs3 : q_IsIs3 = F_q_IsIs3
    generalize H_f0_eqI : f0_eqI = F_f0_eqI
    generalize H_q_eqI : q_eqI = F_q_eqI
    generalize H_f0_held : f0_held = F_f0_held
    generalize H_q_mark : q_mark = F_q_mark
    generalize H_f0_mark : f0_mark = F_f0_mark
    generalize H_f1_mark : f1_mark = F_f1_mark
    refine fnOk_ofI (T := tab) (B := [(14, c_bi_i F_f0_sz F_noq), (16, c_b_b F_same F_IsIs), (15, c_BBi_li F_f_pos F_q_IsIs3), (17, c_BBi_li F_f_pos F_q_IsIs3), (18, c_laws_eqInt64S F_f0_eqI F_q_eqI), (19, c_bb_bool F_f0_eqI F_q_eqI), (22, c_heldInt64S F_f0_held F_q_mark)]) (Bi := [(20, 0, false, ic_markBranch F_f0_mark F_f1_mark F_q_mark), (21, 0, false, ic_markInt64S F_f0_mark F_f1_mark F_q_mark)]) [2000008036, 2000008635, 2000031105, 2000031704, 0, 1, 2, 3, 4, 6, 7, 8, 9, 10, 11, 12, 13, 14, 15, 16, 17, 18] Try.func3 rfl rfl (by kernel_rfl) (Nat.le_of_ble_eq_true rfl) mixed tabOk (by subst H_f0_sz H_noq H_same H_IsIs H_f_pos H_q_IsIs3 H_f0_eqI H_q_eqI H_f0_held H_q_mark H_f0_mark H_f1_mark; exact (bookCons s_laws_szBranch (bookCons s_laws_toBranch (bookCons s_spec_PossibleIntersections (bookCons s_impl_PossibleIntersections (bookCons s_laws_eqInt64S (bookCons s_laws_eqBranch (bookCons s_laws_heldInt64S bookNil)))))))) (by subst H_f0_sz H_noq H_same H_IsIs H_f_pos H_q_IsIs3 H_f0_eqI H_q_eqI H_f0_held H_q_mark H_f0_mark H_f1_mark; exact (bookICons s_laws_markBranch (bookICons s_laws_markInt64S bookINil))) (by kernel_rfl) ?_
    intro L lp rr hL hr hf hlp
    have hlen := hf.1.1.1
    have hlen2 := hf.2.1.1.1
    conv => cbv
    simp only [stdEqs hL, g1, g2]
    subst H_f0_sz H_noq H_same H_IsIs H_f_pos H_q_IsIs3 H_f0_eqI H_q_eqI H_f0_held H_f0_mark H_f1_mark H_q_mark
    have hsz : ∀ n, f0_sz a0 n = szL xs.length n := fun n => by rw [f0_sz, hxl]
    have hsz2 : ∀ n, f0_sz a1 n = szL ys.length n := fun n => by rw [f0_sz, hyl]
    simp only [hsz, hsz2, same, g1, g2]
    refine ⟨trivial, fun h => by rw [hr]; rfl, fun h => ?_⟩
    obtain ⟨lx, l1, l2⟩ := szL_le (by omega) (by omega) (by omega) h
    refine ⟨trivial, fun h => by rw [hr]; rfl, fun h => ?_⟩
    obtain ⟨ly, _, _⟩ := szL_le (by omega) l1 l2 h
    obtain ⟨kx, kx', kx'', _⟩ := ints_keys xs (by omega)
    obtain ⟨ky, ky', ky'', _⟩ := ints_keys ys (by omega)
    rw [← hxs] at kx kx' kx''
    rw [← hys] at ky ky' ky''
    have q2 : q_IsIs3 a0 a1 a2 := ⟨kx, ky⟩
    obtain ⟨zs, code, e0, hzl⟩ : ∃ (zs : List Int) (code : Int), f_pos a0 a1 a2 = (I zs, code) ∧ zs.length ≤ 200 := by
      rw [f_pos, hxs, hys, unI_I, unI_I]
      split
      · rename_i h0
        refine ⟨_, _, rfl, ?_⟩
        have := posL_len xs ys a2.toNat
        have := (chk1_0 h0).2.2.2
        omega
      · exact ⟨[], _, rfl, by simp⟩
    rw [e0]
    have ck := ints_keys zs (by omega)
    have dk := ints_keysK xs 1 (by omega) (by omega)
    have ek := ints_keysK ys (1 + xs.length) (by omega) (by omega)
    rw [← hxs] at dk
    rw [← hys] at ek
    have hn : ∀ n : Nat, decide ((1 : Int) + n < 0) = false := fun n => by simp; omega
    have hn2 : ∀ n m : Nat, decide ((1 : Int) + n + m < 0) = false := fun n m => by simp; omega
    simp only [kx, ky, kx', ky', kx'', ky'', q2, ck, dk, ek, hn, hn2, hr, yesBBi, I_frzs]
    simp
  · cases h
end Go.Ax
