/-
  Paths in graphs: impl.pathFrom by induction on the depth. No conditions but those of the contracts.
-/
import Derived.Test.YtlbmgfiepmhjhaaKap
set_option linter.all false
namespace Go.Ax
open Go.Proofs

def nrF (rs : List (List Int)) (v : Int) : List Int := rs.getD v.toNat []
def f_pf (a : List V) (i k fr : Int) : List V := I (pf (nrF (unII a)) 64 i k fr)
def q_pf (N : Nat) (a : List V) (i _ fr : Int) : Prop := ∃ rs, a = II false rs ∧ rs.length ≤ 40 ∧ 0 ≤ i ∧ i < rs.length ∧ (∀ v : Int, (nrF rs v).length ≤ 100 ∧ ∀ x ∈ nrF rs v, 0 ≤ x ∧ x < rs.length) ∧ N ≤ 60 ∧ Dp (nrF rs) N i fr
def c_pf (f : List V → Int → Int → Int → List V) (q : List V → Int → Int → Int → Prop) : Contract := fun
  | [.slc false 22 (.slc false 2 (.int .i64 0) []) a0, .int .i64 a1, .int .i64 a2, .int .i64 a3] => some ([q a0 a1 a2 a3], .slc true 2 V.nilG (f a0 a1 a2 a3))
  | _ => none
theorem s_pf_zero : Sat Try.prog 36 (c_pf f_pf (q_pf 0)) := by
  intro args ps r h hp
  unfold c_pf at h
  split at h
  · simp only [Option.some.injEq, Prod.mk.injEq] at h
    obtain ⟨rfl, rfl⟩ := h
    obtain ⟨rs, _, _, _, _, _, _, hD⟩ := (alls_cons.1 hp).1
    exact hD.elim
  · cases h
set_option maxRecDepth 100000 in
theorem s_pf_step {N : Nat} {qN : List V → Int → Int → Int → Prop} (hqN : qN = q_pf N) (ih : Sat Try.prog 36 (c_pf f_pf qN)) : Sat Try.prog 36 (c_pf f_pf (q_pf (N + 1))) := by
  intro args ps r h hp
  unfold c_pf at h
  split at h
  · rename_i a0 i k fr
    simp only [Option.some.injEq, Prod.mk.injEq] at h
    obtain ⟨rfl, rfl⟩ := h
    obtain ⟨rs, hrs, n2, i0, i1, hrw, hN, hD⟩ : q_pf (N + 1) a0 i k fr := (alls_cons.1 hp).1
    have g0 : V.frzs a0 = a0 := by rw [hrs, II_frzs]
    have hal : a0.length = rs.length := by rw [hrs, II_length]
    have gr0 : ∀ j, a0.getD j (.slc false 2 (.int .i64 0) []) = .slc false 2 (.int .i64 0) (I (rs.getD j [])) := fun j => by rw [hrs, II_getD]
    have hf0 : ∀ j k fr, f_pf a0 j k fr = I (pf (nrF rs) 64 j k fr) := fun j k fr => by rw [f_pf, hrs, unII_II]
    obtain ⟨row, hrow⟩ : ∃ row, row = rs.getD i.toNat [] := ⟨_, rfl⟩
    have hnr : nrF rs i = row := hrow.symm
    obtain ⟨vr, hvr⟩ : ∃ vr, vr = I row := ⟨_, rfl⟩
    have hvl : vr.length = row.length := by rw [hvr, I_length]
    have gvr : ∀ j, vr.getD j (.int .i64 0) = .int .i64 (row.getD j 0) := fun j => by rw [hvr, I_getD]
    have hrl : row.length ≤ 100 := by rw [← hnr]; exact (hrw i).1
    have hri : ∀ x ∈ row, 0 ≤ x ∧ x < rs.length := by rw [← hnr]; exact (hrw i).2
    obtain ⟨n, hn⟩ : ∃ n : Int, n = row.length := ⟨_, rfl⟩
    obtain ⟨g, hg⟩ : ∃ g : Int → List Int, g = fun j => if j = fr then [] else pf (nrF rs) 63 j k i := ⟨_, rfl⟩
    have hst : ∀ j ∈ row, j ≠ fr → pf (nrF rs) 64 j k i = g j := fun j hj hne => by
      have hd := hD j (by rw [hnr]; exact hj) hne
      rw [hg]
      show _ = if j = fr then [] else pf (nrF rs) 63 j k i
      rw [if_neg hne, pf_stable N j i 64 hd (by omega), pf_stable N j i 63 hd (by omega)]
    have hpf : pf (nrF rs) 64 i k fr = if i = k then [i] else if pfL g row = [] then [] else i :: pfL g row := by rw [pf, hnr, ← hg]
    have hgl : ∀ j, (g j).length ≤ 64 := fun j => by
      rw [hg]
      show (if j = fr then [] else pf (nrF rs) 63 j k i).length ≤ 64
      split
      · exact Nat.zero_le _
      · exact Nat.le_trans (pf_len _ _ _) (by omega)
    have hq1 : ∀ j ∈ row, j ≠ fr → qN a0 j k i := fun j hj hne => by
      rw [hqN]
      exact ⟨rs, hrs, n2, (hri j hj).1, (hri j hj).2, hrw, by omega, hD j (by rw [hnr]; exact hj) hne⟩
    generalize H_f_pf : f_pf = F_f_pf
    generalize H_qN : qN = F_qN
    refine fnOk_ofI (T := tab) (B := [(36, c_pf F_f_pf F_qN)]) (Bi := []) [2000002408, 2000009408, 2000011408, 0, 1, 2, 3, 8, 10, 11, 20, 21, 22] Try.func36 rfl rfl (by kernel_rfl) (Nat.le_of_ble_eq_true rfl) mixed tabOk (by subst H_f_pf H_qN; exact (bookCons ih bookNil)) (by subst H_f_pf H_qN; exact bookINil) (by kernel_rfl) ?_
    intro L lp rr hL hr hf hlp
    have Ep : ∀ j k fr, F_f_pf a0 j k fr = I (pf (nrF rs) 64 j k fr) := by rw [← H_f_pf]; exact hf0
    have Qp : ∀ j ∈ row, j ≠ fr → F_qN a0 j k i := by rw [← H_qN]; exact hq1
    conv => cbv
    simp only [stdEqs hL, imp_self, true_and, and_true, bif_or, bif_and, Bool.or_eq_true, Bool.or_eq_false_iff, Bool.and_eq_true, Bool.and_eq_false_iff, decide_eq_true_eq, decide_eq_false_iff_not, Bool.not_eq_true', Bool.not_eq_false', beq_iff_eq, beq_eq_false_iff_ne, ne_eq, toNat0, toNat1, ok_int, toI_int, I_frzs, I_length, I_getD, ok_ints, toL_slc, g0, gr0, hal, ← hrow, ← hvr, hvl, ← hn]
    refine ⟨fun h1 => ?_, fun h1 => ?_⟩
    · refine ⟨by simp, ?_⟩
      rw [hr, Ep, hpf, if_pos h1]
      rfl
    · refine ⟨i0, i1, rfl, ?_⟩
      refine hlp (Int) _ _ _ [0, 1, 2, 3, 20, 21, 22] (fun x => [(0, none, .val (.slc false 22 (.slc false 2 (.int .i64 0) []) a0)), (1, none, .val (.int .i64 i)), (2, none, .val (.int .i64 k)), (3, none, .val (.int .i64 fr)), (20, none, .val (.slc false 2 (.int .i64 0) vr)), (21, none, .val (.int .i64 n)), (22, none, .val (.int .i64 x))])
        (fun x => 0 ≤ x ∧ x ≤ n ∧ ∀ s, s < x.toNat → g (row.getD s 0) = []) (fun x => (n - x).toNat) (0) (by subst hL; rfl) ?_ ?_
      · exact ⟨by simp, by omega, fun s hs => by simp at hs⟩
      rintro x ⟨x0, x1, hx⟩ hfx ag hag
      conv => cbv
      simp only [stdEqs hL, imp_self, true_and, and_true, bif_or, bif_and, Bool.or_eq_true, Bool.or_eq_false_iff, Bool.and_eq_true, Bool.and_eq_false_iff, decide_eq_true_eq, decide_eq_false_iff_not, Bool.not_eq_true', Bool.not_eq_false', beq_iff_eq, beq_eq_false_iff_ne, ne_eq, toNat0, toNat1, ok_int, toI_int, I_frzs, I_length, I_getD, ok_ints, toL_slc, g0, gvr, hvl, Ep]
      refine ⟨fun h2 => ?_, fun h2 => ?_⟩
      · obtain ⟨j, hj⟩ : ∃ j, j = row.getD x.toNat 0 := ⟨_, rfl⟩
        have hjm : j ∈ row := by rw [hj]; exact getD_mem (by omega)
        have hnext : g j = [] → 0 ≤ x + 1 ∧ x + 1 ≤ n ∧ ∀ s, s < (x + 1).toNat → g (row.getD s 0) = [] := fun h => ⟨by omega, by omega, fun s hs => by
          by_cases hsx : s < x.toNat
          · exact hx s hsx
          · rw [show s = x.toNat by omega, ← hj]; exact h⟩
        simp only [← hj]
        rw [wrap_id (n := x + 1) (by omega) (by omega)]
        refine ⟨x0, by omega, fun h3 => ?_, fun h3 => ?_⟩
        · refine hag (x + 1) (hnext ?_) (by omega)
          rw [hg]; exact if_pos h3
        · have hgj := hst j hjm h3
          rw [hgj]
          simp only [Bool.false_eq_true, false_implies, true_and, and_true, true_implies, reduceCtorEq]
          refine ⟨Qp j hjm h3, fun h4 => ?_, fun h4 => ?_⟩
          · refine hag (x + 1) (hnext ?_) (by omega)
            exact List.eq_nil_of_length_eq_zero (by omega)
          · have hne : g j ≠ [] := fun h => by rw [h] at h4; exact h4 rfl
            have hlen := hgl j
            refine ⟨I_owneds _, by simp only [List.length_cons, List.length_nil]; omega, I_solid _, by simp only [List.length_append, List.length_cons, List.length_nil]; omega, ?_⟩
            rw [hr, Ep, hpf, if_neg h1]
            have hp2 := pfL_at (g := g) (l := row) (t := x.toNat) (by omega) hx (by rw [← hj]; exact hne)
            rw [hp2, ← hj, if_neg hne]
            rfl
      · rw [hr, Ep, hpf, if_neg h1, if_pos]
        · rfl
        refine pfL_nil.2 fun j hj => ?_
        obtain ⟨t, ht, rfl⟩ := mem_at hj
        exact hx t (by omega)
  · cases h
theorem s_pf : ∀ N, Sat Try.prog 36 (c_pf f_pf (q_pf N))
  | 0 => s_pf_zero
  | N + 1 => s_pf_step rfl (s_pf N)
def q_pfE (a : List V) (i k fr : Int) : Prop := ∃ N, q_pf N a i k fr
theorem s_impl_pathFrom : Sat Try.prog 36 (c_pf f_pf q_pfE) := by
  intro args ps r h hp
  unfold c_pf at h
  split at h
  · simp only [Option.some.injEq, Prod.mk.injEq] at h
    obtain ⟨rfl, rfl⟩ := h
    obtain ⟨N, hN⟩ := (alls_cons.1 hp).1
    exact s_pf N _ _ _ rfl (alls_cons.2 ⟨hN, fun q hq => by cases hq⟩)
  · cases h
end Go.Ax
