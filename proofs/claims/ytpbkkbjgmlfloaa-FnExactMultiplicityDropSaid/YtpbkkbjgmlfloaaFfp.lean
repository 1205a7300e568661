/-
  Lists of lists of numbers, and of branches: copies, comparisons, marks; curves of one branch. No conditions but those of the contracts.
-/
import Derived.Test.YtpbkkbjgmlfloaaFep
set_option linter.all false
namespace Go.Ax
open Go.Proofs

def II (o : Bool) (xss : List (List Int)) : List V := xss.map fun xs => .slc o 2 (.int .i64 0) (I xs)
def unII (es : List V) : List (List Int) := es.map fun v => unI v.toL
theorem unII_II (o : Bool) (xss : List (List Int)) : unII (II o xss) = xss := by
  simp only [unII, II, List.map_map]
  conv => rhs; rw [← List.map_id xss]
  apply List.map_congr_left
  intro xs _
  simp [V.toL]
theorem II_length (o : Bool) (xss : List (List Int)) : (II o xss).length = xss.length := by simp [II]
theorem II_getD (o : Bool) (xss : List (List Int)) (i : Nat) : (II o xss).getD i (.slc o 2 (.int .i64 0) []) = .slc o 2 (.int .i64 0) (I (xss.getD i [])) := by
  simp only [II, List.getD_eq_getElem?_getD, List.getElem?_map]
  cases xss[i]? <;> rfl
theorem II_set (o : Bool) (xss : List (List Int)) (i : Nat) (xs : List Int) : (II o xss).set i (.slc o 2 (.int .i64 0) (I xs)) = II o (xss.set i xs) := by simp [II, List.map_set]
theorem II_frzs (o : Bool) (xss : List (List Int)) : V.frzs (II o xss) = II false xss := by
  rw [V.frzs_eq]
  simp only [II, List.map_map]
  apply List.map_congr_left
  intro xs _
  simp [V.frz, I_frzs]
theorem II_noFzs (xss : List (List Int)) : V.noFzs (II true xss) = true := by
  rw [V.noFzs_eq]
  simp only [II, List.all_map, List.all_eq_true]
  intro xs _
  simp [V.noFz]
theorem toL_slc (o : Bool) (e : TypeId) (d : V) (es : List V) : stdV.toL (.slc o e d es) = es := rfl
def IsII (o : Bool) (es : List V) : Prop := ∃ xss, es = II o xss
theorem ok_ints (o o' : Bool) (xs : List Int) : vw stdV tab o 20 53 (.slc o' 2 (.int .i64 0) (I xs)) = some (.slc o 2 (.int .i64 0) (I xs)) := by cases o <;> rfl

def tot : List (List Int) → Nat
  | [] => 0
  | xs :: l => xs.length + tot l
def marksGo (k : Int) : List (List Int) → List (List Int)
  | [] => []
  | xs :: l => marks xs.length k :: marksGo (k + xs.length) l
theorem take_succ_tot (xss : List (List Int)) (i : Nat) (h : i < xss.length) : xss.take (i + 1) = xss.take i ++ [xss.getD i []] := by
  rw [List.take_succ_eq_append_getElem h, List.getD_eq_getElem?_getD, List.getElem?_eq_getElem h]
  rfl
def f0_markSS (es : List V) (k : Int) : Int := k + tot (unII es)
def f1_markSS (es : List V) (k : Int) : List V := II true (marksGo k (unII es))
def q_markSS (o : Bool) (es : List V) (k : Int) : Prop := IsII o es ∧ 0 ≤ k ∧ k + tot (unII es) ≤ 9223372036854775807
def q_markO (es : List V) (k : Int) : Prop := q_markSS true es k
def f0_heldSS (es : List V) (k : Int) : Int := if unII es = marksGo k (unII es) then k + tot (unII es) else -1
def c_eqSS (f0 : List V → List V → Bool) (q : List V → List V → Prop) : Contract := fun
  | [.slc false 53 (.slc false 2 (.int .i64 0) []) a0, .slc false 53 (.slc false 2 (.int .i64 0) []) a1] => some ([q a0 a1], .bool (f0 a0 a1))
  | _ => none
def f0_eqSS (a b : List V) : Bool := decide (unII a = unII b)
def q_eqSS (a b : List V) : Prop := IsII false a ∧ IsII false b
set_option maxRecDepth 100000 in
theorem s_laws_eqInt64SS : Sat Try.prog 27 (c_eqSS f0_eqSS q_eqSS) := by
  intro args ps r h hp
  unfold c_eqSS at h
  split at h
  · rename_i a0 a1
    simp only [Option.some.injEq, Prod.mk.injEq] at h
    obtain ⟨rfl, rfl⟩ := h
    obtain ⟨⟨xs, hxs⟩, ys, hys⟩ : q_eqSS a0 a1 := (alls_cons.1 hp).1
    have hxl : a0.length = xs.length := by rw [hxs, II_length]
    have hyl : a1.length = ys.length := by rw [hys, II_length]
    have hf0 : f0_eqSS a0 a1 = decide (xs = ys) := by rw [f0_eqSS, hxs, hys, unII_II, unII_II]
    generalize H_f0_eqI : f0_eqI = F_f0_eqI
    generalize H_q_eqI : q_eqI = F_q_eqI
    refine fnOk_ofI (T := tab) (B := [(58, c_laws_eqInt64S F_f0_eqI F_q_eqI)]) (Bi := []) [0, 1, 4, 5] Try.func27 rfl rfl (by kernel_rfl) (Nat.le_of_ble_eq_true rfl) mixed tabOk (by subst H_f0_eqI H_q_eqI; exact (bookCons s_laws_eqInt64S bookNil)) (by subst H_f0_eqI H_q_eqI; exact bookINil) (by kernel_rfl) ?_
    intro L lp rr hL hr hf hlp
    have hlen := hf.1.1
    have hrr : rr = .bool (decide (xs = ys)) := by rw [hr, hf0]
    conv => cbv
    simp only [stdEqs hL, hxl, hyl]
    refine ⟨fun h => ?_, fun h => ?_⟩
    · have : xs ≠ ys := by
        rintro rfl
        simp at h
      rw [hrr, decide_eq_false this]
    have hll : xs.length = ys.length := by
      simp only [Bool.not_eq_false', beq_iff_eq] at h
      omega
    refine hlp (Int) _ _ _ [0, 1, 5] (fun i => [(0, none, .val (.slc false 53 (.slc false 2 (.int .i64 0) []) a0)), (1, none, .val (.slc false 53 (.slc false 2 (.int .i64 0) []) a1)), (5, none, .val (.int .i64 i))])
      (fun i => 0 ≤ i ∧ i ≤ xs.length ∧ xs.take i.toNat = ys.take i.toNat) (fun i => (xs.length - i).toNat) 0 (by subst hL; rfl) (by simp) ?_
    rintro i ⟨i0, i1, i2⟩ hfx ag hag
    conv => cbv
    by_cases hb : i < xs.length
    · have hg : a0.getD i.toNat (.slc false 2 (.int .i64 0) []) = .slc false 2 (.int .i64 0) (I (xs.getD i.toNat [])) := by rw [hxs, II_getD]
      have hg' : a1.getD i.toNat (.slc false 2 (.int .i64 0) []) = .slc false 2 (.int .i64 0) (I (ys.getD i.toNat [])) := by rw [hys, II_getD]
      simp only [stdEqs hL, hxl, hyl, hg, hg', ok_ints, toL_slc, I_frzs, imp_self, true_and, decide_eq_true_eq, decide_eq_false_iff_not]
      subst H_f0_eqI H_q_eqI
      have e1 : i.toNat < xs.length := by omega
      have e2 : i.toNat < ys.length := by omega
      refine ⟨fun h => ⟨i0, by omega, i0, by omega, ⟨⟨_, rfl⟩, ⟨_, rfl⟩⟩, fun h4 => ?_, fun h4 => ?_⟩, fun h => absurd hb h⟩
      · simp only [f0_eqI, unI_I, Bool.not_eq_true', decide_eq_false_iff_not] at h4
        rw [hrr, decide_eq_false]
        rintro rfl
        exact h4 rfl
      · simp only [f0_eqI, unI_I, Bool.not_eq_false', decide_eq_true_eq] at h4
        rw [wrap_id (by omega) (by omega)]
        refine hag _ ⟨by omega, by omega, ?_⟩ (by omega)
        rw [toNat_succ i0, take_succ_tot xs _ e1, take_succ_tot ys _ e2, i2, h4]
    · simp only [stdEqs hL, hxl, hyl, decide_eq_true_eq, decide_eq_false_iff_not]
      refine ⟨fun h => absurd h hb, fun _ => ?_⟩
      rw [List.take_of_length_le (by omega), List.take_of_length_le (by omega)] at i2
      rw [hrr, decide_eq_true i2]
  · cases h
end Go.Ax
