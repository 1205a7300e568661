/-
  Lists of branches; curves. No conditions but those of the contracts.
-/
import Derived.Test.YtpbkkbjgmlfloaaFfp
set_option linter.all false
namespace Go.Ax
open Go.Proofs

def bL : V → List V
  | .agg [.slc _ _ _ es] => es
  | _ => []
def BB (o : Bool) (xss : List (List Int)) : List V := xss.map fun xs => .agg [.slc o 2 (.int .i64 0) (I xs)]
def unBB (es : List V) : List (List Int) := es.map fun v => unI (bL v)
theorem unBB_BB (o : Bool) (xss : List (List Int)) : unBB (BB o xss) = xss := by
  simp only [unBB, BB, List.map_map]
  conv => rhs; rw [← List.map_id xss]
  apply List.map_congr_left
  intro xs _
  simp [bL]
theorem BB_length (o : Bool) (xss : List (List Int)) : (BB o xss).length = xss.length := by simp [BB]
theorem BB_getD (o : Bool) (xss : List (List Int)) (i : Nat) : (BB o xss).getD i (.agg [.slc o 2 (.int .i64 0) []]) = .agg [.slc o 2 (.int .i64 0) (I (xss.getD i []))] := by
  simp only [BB, List.getD_eq_getElem?_getD, List.getElem?_map]
  cases xss[i]? <;> rfl
theorem BB_set (o : Bool) (xss : List (List Int)) (i : Nat) (xs : List Int) : (BB o xss).set i (.agg [.slc o 2 (.int .i64 0) (I xs)]) = BB o (xss.set i xs) := by simp [BB, List.map_set]
theorem BB_frzs (o : Bool) (xss : List (List Int)) : V.frzs (BB o xss) = BB false xss := by
  rw [V.frzs_eq]
  simp only [BB, List.map_map]
  apply List.map_congr_left
  intro xs _
  simp [V.frz, V.frzs, I_frzs]
theorem BB_noFzs (xss : List (List Int)) : V.noFzs (BB true xss) = true := by
  rw [V.noFzs_eq]
  simp only [BB, List.all_map, List.all_eq_true]
  intro xs _
  simp [V.noFz, V.noFzs]
theorem fld_bran (o : Bool) (e : TypeId) (d : V) (es : List V) : stdV.fld (.agg [.slc o e d es]) 0 = .slc o e d es := rfl
theorem toL_bran (o : Bool) (e : TypeId) (d : V) (es : List V) : stdV.toL (stdV.fld (.agg [.slc o e d es]) 0) = es := rfl
def IsBB (o : Bool) (es : List V) : Prop := ∃ xss, es = BB o xss
theorem ok_bran (o o' : Bool) (xs : List Int) : vw stdV tab o 20 58 (.agg [.slc o' 2 (.int .i64 0) (I xs)]) = some (.agg [.slc o 2 (.int .i64 0) (I xs)]) := by cases o <;> rfl

def f0_markBS (es : List V) (k : Int) : Int := k + tot (unBB es)
def f1_markBS (es : List V) (k : Int) : List V := BB true (marksGo k (unBB es))
def q_markBS (o : Bool) (es : List V) (k : Int) : Prop := IsBB o es ∧ 0 ≤ k ∧ k + tot (unBB es) ≤ 9223372036854775807
def q_markBO (es : List V) (k : Int) : Prop := q_markBS true es k
def f0_heldBS (es : List V) (k : Int) : Int := if unBB es = marksGo k (unBB es) then k + tot (unBB es) else -1
def q_markBF (es : List V) (k : Int) : Prop := q_markBS false es k
def c_eqBS (f0 : List V → List V → Bool) (q : List V → List V → Prop) : Contract := fun
  | [.slc false 58 (.agg [.slc false 2 (.int .i64 0) []]) a0, .slc false 58 (.agg [.slc false 2 (.int .i64 0) []]) a1] => some ([q a0 a1], .bool (f0 a0 a1))
  | _ => none
def f0_eqBS (a b : List V) : Bool := decide (unBB a = unBB b)
def q_eqBS (a b : List V) : Prop := IsBB false a ∧ IsBB false b
set_option maxRecDepth 100000 in
theorem s_laws_eqBranchS : Sat Try.prog 26 (c_eqBS f0_eqBS q_eqBS) := by
  intro args ps r h hp
  unfold c_eqBS at h
  split at h
  · rename_i a0 a1
    simp only [Option.some.injEq, Prod.mk.injEq] at h
    obtain ⟨rfl, rfl⟩ := h
    obtain ⟨⟨xs, hxs⟩, ys, hys⟩ : q_eqBS a0 a1 := (alls_cons.1 hp).1
    have hxl : a0.length = xs.length := by rw [hxs, BB_length]
    have hyl : a1.length = ys.length := by rw [hys, BB_length]
    have hf0 : f0_eqBS a0 a1 = decide (xs = ys) := by rw [f0_eqBS, hxs, hys, unBB_BB, unBB_BB]
    generalize H_f0_eqI : f0_eqI = F_f0_eqI
    generalize H_q_eqI : q_eqI = F_q_eqI
    refine fnOk_ofI (T := tab) (B := [(57, c_bb_bool F_f0_eqI F_q_eqI)]) (Bi := []) [0, 1, 4, 5] Try.func26 rfl rfl (by kernel_rfl) (Nat.le_of_ble_eq_true rfl) mixed tabOk (by subst H_f0_eqI H_q_eqI; exact (bookCons s_laws_eqBranch bookNil)) (by subst H_f0_eqI H_q_eqI; exact bookINil) (by kernel_rfl) ?_
    intro L lp rr hL hr hf hlp
    have hlen := hf.1.1
    have hrr : rr = .bool (decide (xs = ys)) := by rw [hr, hf0]
    conv => cbv
    simp only [stdEqs hL, hxl, hyl]
    refine ⟨fun h => ?_, fun h => ?_⟩
    · have : xs ≠ ys := by
        rintro rfl
        simp at h
      rw [hrr, decide_eq_false this]
    have hll : xs.length = ys.length := by
      simp only [Bool.not_eq_false', beq_iff_eq] at h
      omega
    refine hlp (Int) _ _ _ [0, 1, 5] (fun i => [(0, none, .val (.slc false 58 (.agg [.slc false 2 (.int .i64 0) []]) a0)), (1, none, .val (.slc false 58 (.agg [.slc false 2 (.int .i64 0) []]) a1)), (5, none, .val (.int .i64 i))])
      (fun i => 0 ≤ i ∧ i ≤ xs.length ∧ xs.take i.toNat = ys.take i.toNat) (fun i => (xs.length - i).toNat) 0 (by subst hL; rfl) (by simp) ?_
    rintro i ⟨i0, i1, i2⟩ hfx ag hag
    conv => cbv
    by_cases hb : i < xs.length
    · have hg : a0.getD i.toNat (.agg [.slc false 2 (.int .i64 0) []]) = .agg [.slc false 2 (.int .i64 0) (I (xs.getD i.toNat []))] := by rw [hxs, BB_getD]
      have hg' : a1.getD i.toNat (.agg [.slc false 2 (.int .i64 0) []]) = .agg [.slc false 2 (.int .i64 0) (I (ys.getD i.toNat []))] := by rw [hys, BB_getD]
      simp only [stdEqs hL, hxl, hyl, hg, hg', ok_bran, ok_ints, toL_bran, toL_slc, fld_bran, I_frzs, imp_self, true_and, decide_eq_true_eq, decide_eq_false_iff_not]
      subst H_f0_eqI H_q_eqI
      have e1 : i.toNat < xs.length := by omega
      have e2 : i.toNat < ys.length := by omega
      refine ⟨fun h => ⟨i0, by omega, i0, by omega, ⟨⟨_, rfl⟩, ⟨_, rfl⟩⟩, fun h4 => ?_, fun h4 => ?_⟩, fun h => absurd hb h⟩
      · simp only [f0_eqI, unI_I, Bool.not_eq_true', decide_eq_false_iff_not] at h4
        rw [hrr, decide_eq_false]
        rintro rfl
        exact h4 rfl
      · simp only [f0_eqI, unI_I, Bool.not_eq_false', decide_eq_true_eq] at h4
        rw [wrap_id (by omega) (by omega)]
        refine hag _ ⟨by omega, by omega, ?_⟩ (by omega)
        rw [toNat_succ i0, take_succ_tot xs _ e1, take_succ_tot ys _ e2, i2, h4]
    · simp only [stdEqs hL, hxl, hyl, decide_eq_true_eq, decide_eq_false_iff_not]
      refine ⟨fun h => absurd h hb, fun _ => ?_⟩
      rw [List.take_of_length_le (by omega), List.take_of_length_le (by omega)] at i2
      rw [hrr, decide_eq_true i2]
  · cases h


end Go.Ax
