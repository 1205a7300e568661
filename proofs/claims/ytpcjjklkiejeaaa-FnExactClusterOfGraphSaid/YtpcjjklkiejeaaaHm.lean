/-
  Edges in order: spec.l11Sorted. No conditions but those of the contracts.
-/
import Derived.Test.YtpcjjklkiejeaaaHk
import Derived.Test.YtpcjjklkiejeaaaHp
import Derived.Test.YtpcjjklkiejeaaaGv
set_option linter.all false
namespace Go.Ax
open Go.Proofs

def c_Gi_b (f : List V → List V → Int → Bool) (q : List V → List V → Int → Prop) : Contract := fun
  | [.agg [.slc false 2 (.int .i64 0) a0, .slc false 22 (.slc false 2 (.int .i64 0) []) a1], .int .i64 a2] => some ([q a0 a1 a2], .bool (f a0 a1 a2))
  | _ => none
def q_srtE (a : List V) : Prop := ∃ es, a = II true es ∧ es.length ≤ 1000000

def ic_srtF (f : List V → List V) (q : List V → Prop) : IContract := fun
  | [.slc true 22 (.slc true 2 (.int .i64 0) []) a0] => some ([q a0], .slc true 22 (.slc false 2 (.int .i64 0) []) (f a0), .hole 0)
  | _ => none
def f_srtF (a : List V) : List V := II false (srtE (unII a))
theorem lexLt_asym {a b : List Int} (h : lexLt a b = true) : lexLt b a = false := by
  cases h2 : lexLt b a with
  | false => rfl
  | true => have := lexLt_trans a b a h h2; rw [lexLt_irrefl] at this; cases this
theorem ins_pw {l : List (List Int)} {E : List Int} {k : Nat} (hl : l.Pairwise (fun a b => lexLt b a = false)) (h1 : ∀ t, t < k → lexLt (l.getD t []) E = true) (h2 : k < l.length → lexLt (l.getD k []) E = false) (hk : k ≤ l.length) :
    (l.take k ++ E :: l.drop k).Pairwise (fun a b => lexLt b a = false) := by
  have hl' := hl
  rw [← List.take_append_drop k l, List.pairwise_append] at hl'
  obtain ⟨p1, p2, p3⟩ := hl'
  rw [List.pairwise_append, List.pairwise_cons]
  refine ⟨p1, ⟨fun y hy => ?_, p2⟩, fun x hx y hy => ?_⟩
  · by_cases hkl : k < l.length
    · rw [List.drop_eq_getElem_cons hkl, List.pairwise_cons] at p2
      have h3 := h2 hkl
      rw [List.getD_eq_getElem?_getD, List.getElem?_eq_getElem hkl] at h3
      rw [List.drop_eq_getElem_cons hkl, List.mem_cons] at hy
      rcases hy with rfl | hy
      · exact h3
      · exact lexLt_ntrans _ _ _ (p2.1 y hy) h3
    · rw [List.drop_eq_nil_of_le (by omega)] at hy
      cases hy
  · rcases List.mem_cons.1 hy with rfl | hy
    · obtain ⟨t, ht, rfl⟩ := List.mem_iff_getElem.1 hx
      rw [List.length_take] at ht
      have h3 := h1 t (by omega)
      rw [List.getD_eq_getElem?_getD, List.getElem?_eq_getElem (by omega)] at h3
      rw [List.getElem_take]
      exact lexLt_asym h3
    · exact p3 x hx y hy
theorem II_ownedsF (l : List (List Int)) : V.owneds (II false l) = false := by
  induction l with
  | nil => rfl
  | cons x l ih => simp only [II, List.map_cons, V.owneds, V.owned] at ih ⊢; simp [ih]
theorem II_take (o : Bool) (l : List (List Int)) (k : Nat) : (II o l).take k = II o (l.take k) := by simp [II, List.map_take]
theorem II_drop (o : Bool) (l : List (List Int)) (k : Nat) : (II o l).drop k = II o (l.drop k) := by simp [II, List.map_drop]
theorem II_solidF (l : List (List Int)) : ∀ x ∈ II false l, x.solid = true := fun x hx => by
  simp only [II, List.mem_map] at hx
  obtain ⟨y, _, rfl⟩ := hx
  simp [V.solid]
set_option maxRecDepth 100000 in
theorem s_spec_l11Sorted : SatM Try.prog 59 0 (ic_srtF f_srtF q_srtE) := by
  intro args ps r y h hp
  unfold ic_srtF at h
  split at h
  · rename_i a0
    simp only [Option.some.injEq, Prod.mk.injEq] at h
    obtain ⟨rfl, rfl, rfl⟩ := h
    obtain ⟨es, hes, hn2⟩ : q_srtE a0 := (alls_cons.1 hp).1
    have g0 : V.frzs a0 = II false es := by rw [hes, II_frzs]
    have hel : a0.length = es.length := by rw [hes, II_length]
    have hf0 : f_srtF a0 = II false (srtE es) := by rw [f_srtF, hes, unII_II]
    obtain ⟨ve, hve⟩ : ∃ ve, ve = II false es := ⟨_, rfl⟩
    have hvel : ve.length = es.length := by rw [hve, II_length]
    have gve : ∀ k, ve.getD k (.slc false 2 (.int .i64 0) []) = .slc false 2 (.int .i64 0) (I (es.getD k [])) := fun k => by rw [hve, II_getD]
    obtain ⟨n, hn⟩ : ∃ n : Int, n = es.length := ⟨_, rfl⟩
    generalize H_f_lexLt : f_lexLt = F_f_lexLt
    generalize H_q_II : q_II = F_q_II
    refine fnMv_of (T := tab) (B := [(39, c_ll_b F_f_lexLt F_q_II)]) (Bi := []) 0 [1000002000, 1000002503, 1000004503, 1000008003, 0, 2, 3, 4, 5, 6] Try.func59 rfl rfl (by kernel_rfl) (Nat.le_of_ble_eq_true rfl) mixed tabOk (by subst H_f_lexLt H_q_II; exact (bookCons s_spec_l01Less bookNil)) (by subst H_f_lexLt H_q_II; exact bookINil) (by kernel_rfl) (Nat.le_of_ble_eq_true rfl) ?_
    intro L lp rr hL hr hf hlp
    conv => cbv
    simp only [stdEqs hL, imp_self, true_and, and_true, bif_or, bif_and, Bool.or_eq_true, Bool.or_eq_false_iff, Bool.and_eq_true, Bool.and_eq_false_iff, decide_eq_true_eq, decide_eq_false_iff_not, Bool.not_eq_true', Bool.not_eq_false', beq_iff_eq, beq_eq_false_iff_ne, ne_eq, toNat0, toNat1, ok_int, toI_int, I_frzs, I_length, I_getD, ok_ints, toL_slc, g0]
    rw [← hve]
    refine hlp (List V × Int) _ _ _ [0, 3, 4] (fun x => [(0, none, .val (.slc false 22 (.slc false 2 (.int .i64 0) []) ve)), (3, none, .val (.slc true 22 (.slc false 2 (.int .i64 0) []) x.1)), (4, none, .val (.int .i64 x.2))])
      (fun x => 0 ≤ x.2 ∧ x.2 ≤ n ∧ ∃ l, x.1 = II false l ∧ l.Perm (es.take x.2.toNat) ∧ l.Pairwise (fun a b => lexLt b a = false)) (fun x => (n - x.2).toNat) (([], 0)) (by subst hL; rfl) ?_ ?_
    · exact ⟨by simp, by simp only; omega, [], rfl, by simp, List.Pairwise.nil⟩
    rintro ⟨os, i⟩ ⟨i0, i1, l, hL1, hL2, hL3⟩ hfx ag hag
    simp only at i0 i1 hL1 hL2 hL3
    have hll : l.length = i.toNat := by rw [hL2.length_eq, List.length_take]; omega
    have hol : os.length = i.toNat := by rw [hL1, II_length, hll]
    have gos : ∀ k, os.getD k (.slc false 2 (.int .i64 0) []) = .slc false 2 (.int .i64 0) (I (l.getD k [])) := fun k => by rw [hL1, II_getD]
    conv => cbv
    simp only [stdEqs hL, imp_self, true_and, and_true, bif_or, bif_and, Bool.or_eq_true, Bool.or_eq_false_iff, Bool.and_eq_true, Bool.and_eq_false_iff, decide_eq_true_eq, decide_eq_false_iff_not, Bool.not_eq_true', Bool.not_eq_false', beq_iff_eq, beq_eq_false_iff_ne, ne_eq, toNat0, toNat1, ok_int, toI_int, I_frzs, I_length, I_getD, ok_ints, toL_slc, hvel, ← hn]
    refine ⟨fun h2 => ?_, fun h2 => ?_⟩
    · have hin : i.toNat < es.length := by omega
      obtain ⟨E, hE⟩ : ∃ E, E = es.getD i.toNat [] := ⟨_, rfl⟩
      refine hlp (Int) _ _ _ [0, 3, 4, 5] (fun x => [(0, none, .val (.slc false 22 (.slc false 2 (.int .i64 0) []) ve)), (3, none, .val (.slc true 22 (.slc false 2 (.int .i64 0) []) os)), (4, none, .val (.int .i64 i)), (5, none, .val (.int .i64 x))])
        (fun x => 0 ≤ x ∧ x ≤ i ∧ ∀ t, t < x.toNat → lexLt (l.getD t []) E = true) (fun x => (i - x).toNat) (0) (by subst hL; rfl) ?_ ?_
      · exact ⟨by omega, i0, fun t ht => by simp at ht⟩
      intro a ⟨a0', a1', hA⟩ hfx2 ag2 hag2
      have El : ∀ xs ys : List Int, F_f_lexLt (I xs) (I ys) = lexLt xs ys := fun xs ys => by rw [← H_f_lexLt, f_lexLt, unI_I, unI_I]
      have Ql : ∀ xs ys : List Int, F_q_II (I xs) (I ys) := fun xs ys => by rw [← H_q_II]; exact ⟨⟨_, rfl⟩, ⟨_, rfl⟩⟩
      conv => cbv
      simp only [stdEqs hL, imp_self, true_and, and_true, bif_or, bif_and, Bool.or_eq_true, Bool.or_eq_false_iff, Bool.and_eq_true, Bool.and_eq_false_iff, decide_eq_true_eq, decide_eq_false_iff_not, Bool.not_eq_true', Bool.not_eq_false', beq_iff_eq, beq_eq_false_iff_ne, ne_eq, toNat0, toNat1, ok_int, toI_int, I_frzs, I_length, I_getD, ok_ints, toL_slc, hvel, ← hn, hol, gos, gve, ← hE, El]
      have hfo : V.frzs os = II false l := by rw [hL1, II_frzs]
      obtain ⟨at', hat⟩ : ∃ k, k = a.toNat := ⟨_, rfl⟩
      have hti : (i.toNat : Int) = i := by omega
      have hll2 : ((II false l).length : Int) = i := by rw [II_length, hll]; omega
      simp only [hfo, hll2, ← hat, II_take, II_drop, hti]
      have htk : l.take i.toNat = l := List.take_of_length_le (by omega)
      simp only [htk, List.drop_zero, II_length, List.nil_append]
      rw [wrap_id (n := i + 1) (by omega) (by omega), wrap_id (n := a + 1) (by omega) (by omega)]
      have hc1 : [V.slc false 2 (.int .i64 0) (I E)] = II false [E] := rfl
      rw [hc1, ← II_append, ← II_append]
      refine ⟨fun _ => a0', fun _ => by omega, fun _ => trivial, fun _ => i0, fun _ => h2, fun _ => trivial, fun _ => Ql _ _, fun h3 => ?_, fun h3 => ?_⟩
      · refine hag2 (a + 1) ⟨by omega, by omega, fun t ht => ?_⟩ (by omega)
        rw [toNat_succ a0'] at ht
        by_cases e : t = a.toNat
        · rw [e, ← hat]; exact h3.2
        · exact hA t (by omega)
      · have hins := ins_pw (k := at') hL3 (E := E) (fun t ht => hA t (by omega)) (fun hk => by
          rcases h3 with h3 | h3
          · omega
          · exact h3) (by omega)
        refine ⟨i0, h2, a0', a1', Int.le_refl _, II_ownedsF _, ?_, II_solidF _, by omega, a0', a1', II_ownedsF _, ?_, II_solidF _, ?_, II_solidF _, ?_⟩
        · simp only [List.length_cons, List.length_nil, II_length, List.length_drop]; omega
        · simp only [List.length_nil, List.length_take]; omega
        · simp only [List.length_take, II_length, List.length_append, List.length_cons, List.length_nil, List.length_drop]; omega
        · refine hag (_, i + 1) ⟨by simp only; omega, by simp only; omega, _, rfl, ?_, ?_⟩ (by simp only; omega)
          · simp only [toNat_succ i0]
            rw [take_succ_tot _ _ hin, ← hE]
            have h4 : (l.take at' ++ ([E] ++ l.drop at')).Perm (E :: (l.take at' ++ l.drop at')) := List.perm_middle
            rw [List.take_append_drop] at h4
            exact h4.trans ((hL2.cons E).trans (List.perm_append_singleton E _).symm)
          · exact hins
    · have h5 : es.take i.toNat = es := List.take_of_length_le (by omega)
      rw [h5] at hL2
      rw [hr, hf0, hL1, srtE_eq hL2.symm hL3]
  · cases h
end Go.Ax
