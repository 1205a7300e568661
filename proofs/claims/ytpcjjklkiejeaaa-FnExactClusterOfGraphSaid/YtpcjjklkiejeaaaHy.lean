/-
  The least vertex that can be contracted; minimal graphs: spec. No conditions but those of the contracts.
-/
import Derived.Test.YtpcjjklkiejeaaaHs
import Derived.Test.YtpcjjklkiejeaaaHw
set_option linter.all false
namespace Go.Ax
open Go.Proofs

theorem can_I (ws : List Int) (es : List (List Int)) (v : Int) : f_can (I ws) (II false es) v = canI ws es v := by
  rw [f_can, canI, unI_I, unII_II, I_length]
def cblI (ws : List Int) (es : List (List Int)) : Int := match fstC ws es with
  | some v => (v : Int)
  | none => -1
def f_cbl (a b : List V) : Int := cblI (unI a) (unII b)
def c_G_i (f : List V → List V → Int) (q : List V → List V → Prop) : Contract := fun
  | [.agg [.slc false 2 (.int .i64 0) a0, .slc false 22 (.slc false 2 (.int .i64 0) []) a1]] => some ([q a0 a1], .int .i64 (f a0 a1))
  | _ => none
set_option maxRecDepth 100000 in
theorem s_impl_contractible : Sat Try.prog 51 (c_G_i f_cbl q_GrN) := by
  intro args ps r h hp
  unfold c_G_i at h
  split at h
  · rename_i a0 a1
    simp only [Option.some.injEq, Prod.mk.injEq] at h
    obtain ⟨rfl, rfl⟩ := h
    have hqg : q_GrN a0 a1 := (alls_cons.1 hp).1
    obtain ⟨ws, es, hws, hes, g⟩ := id hqg
    have g0 : V.frzs a0 = a0 := by rw [hws, I_frzs]
    have g1 : V.frzs a1 = a1 := by rw [hes, II_frzs]
    have hwl : a0.length = ws.length := by rw [hws, I_length]
    have n2 := g.n2
    obtain ⟨n, hn⟩ : ∃ n : Int, n = ws.length := ⟨_, rfl⟩
    have hf1 : ∀ v : Nat, fstC ws es = some v → f_cbl a0 a1 = (v : Int) := fun v h => by rw [f_cbl, hws, hes, unI_I, unII_II, cblI, h]
    have hf2 : fstC ws es = none → f_cbl a0 a1 = -1 := fun h => by rw [f_cbl, hws, hes, unI_I, unII_II, cblI, h]
    generalize H_f_can : f_can = F_f_can
    generalize H_q_ctd : q_ctd = F_q_ctd
    refine fnOk_ofI (T := tab) (B := [(63, c_Gi_b F_f_can F_q_ctd)]) (Bi := []) [0, 1, 2, 3, 6, 7] Try.func51 rfl rfl (by kernel_rfl) (Nat.le_of_ble_eq_true rfl) mixed tabOk (by subst H_f_can H_q_ctd; exact (bookCons s_impl_canContract bookNil)) (by subst H_f_can H_q_ctd; exact bookINil) (by kernel_rfl) ?_
    intro L lp rr hL hr hf hlp
    conv => cbv
    simp only [stdEqs hL, imp_self, true_and, and_true, bif_or, bif_and, Bool.or_eq_true, Bool.or_eq_false_iff, Bool.and_eq_true, Bool.and_eq_false_iff, decide_eq_true_eq, decide_eq_false_iff_not, Bool.not_eq_true', Bool.not_eq_false', beq_iff_eq, beq_eq_false_iff_ne, ne_eq, toNat0, toNat1, ok_int, toI_int, I_frzs, I_length, I_getD, ok_ints, toL_slc, g0, g1, hwl, ← hn]
    refine hlp (Int) _ _ _ [1, 6, 7] (fun x => [(1, none, .val (.box 29 (.agg [.slc false 2 (.int .i64 0) a0, .slc false 22 (.slc false 2 (.int .i64 0) []) a1]))), (6, none, .val (.int .i64 n)), (7, none, .val (.int .i64 x))])
      (fun x => 0 ≤ x ∧ x ≤ n ∧ ∀ u : Nat, u < x.toNat → canI ws es (u : Int) = false) (fun x => (n - x).toNat) (0) (by subst hL; rfl) ?_ ?_
    · exact ⟨by omega, by omega, fun u hu => by simp at hu⟩
    intro i ⟨i0, i1, hI⟩ hfx ag hag
    obtain ⟨b, hb⟩ : ∃ b, b = canI ws es i := ⟨_, rfl⟩
    have Eb : F_f_can a0 a1 i = b := by rw [← H_f_can, hws, hes, can_I, hb]
    conv => cbv
    simp only [stdEqs hL, imp_self, true_and, and_true, bif_or, bif_and, Bool.or_eq_true, Bool.or_eq_false_iff, Bool.and_eq_true, Bool.and_eq_false_iff, decide_eq_true_eq, decide_eq_false_iff_not, Bool.not_eq_true', Bool.not_eq_false', beq_iff_eq, beq_eq_false_iff_ne, ne_eq, toNat0, toNat1, ok_int, toI_int, I_frzs, I_length, I_getD, ok_ints, toL_slc, g0, g1, Eb]
    rw [wrap_id (n := i + 1) (by omega) (by omega)]
    have hit : ((i.toNat : Nat) : Int) = i := by omega
    refine ⟨fun h2 => ⟨?_, fun h3 => ?_, fun h3 => ?_⟩, fun h2 => ?_⟩
    · rw [← H_q_ctd]; exact ⟨hqg, i0, by omega⟩
    · have h4 := fstC_some (ws := ws) (es := es) (v := i.toNat) (by omega) (by rw [hit, ← hb]; exact h3) hI
      rw [hr, hf1 _ h4, hit]
    · refine hag (i + 1) ⟨by omega, by omega, fun u hu => ?_⟩ (by omega)
      rw [toNat_succ i0] at hu
      by_cases e : u = i.toNat
      · rw [e, hit, ← hb]; exact h3
      · exact hI u (by omega)
    · have h4 := fstC_none (ws := ws) (es := es) (fun u hu => hI u (by omega))
      rw [hr, hf2 h4]
  · cases h
def itM (ws : List Int) (es : List (List Int)) : Option (List Int × List (List Int) × Unit) := itS (fun _ _ s => s) ws es ()
def c_G_Xi (f : List V → List V → List V × List V × Int) (q : List V → List V → Prop) : Contract := fun
  | [.agg [.slc false 2 (.int .i64 0) a0, .slc false 22 (.slc false 2 (.int .i64 0) []) a1]] => some ([q a0 a1], .tup [.agg [.slc false 2 (.int .i64 0) ((f a0 a1).1), .slc false 22 (.slc false 2 (.int .i64 0) []) ((f a0 a1).2.1)], .int .i64 ((f a0 a1).2.2)])
  | _ => none
def f_mins (a b : List V) : List V × List V × Int := bif isGr (unI a) (unII b) then (match itM (unI a) (unII b) with
  | some x => (I x.1, II false x.2.1, 0)
  | none => ([], [], 3)) else ([], [], 1)
end Go.Ax
