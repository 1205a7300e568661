/-
  What the laws do with branches: sizes, copies, comparisons, marks; the law of semiroots. No conditions but those of the contracts.
-/
import Derived.Test.YtlibillidihopaaFd
namespace Go.Ax
open Go.Proofs

def c_li_i (f0 : List V → Int → Int) : Contract := fun
  | [.slc false 2 (.int .i64 0) a0, .int .i64 a1] => some ([], .int .i64 (f0 a0 a1))
  | _ => none
def c_bi_i (f0 : List V → Int → Int) (q : List V → Int → Prop) : Contract := fun
  | [.agg [.slc false 2 (.int .i64 0) a0], .int .i64 a1] => some ([q a0 a1], .int .i64 (f0 a0 a1))
  | _ => none
def szL (n : Nat) (left : Int) : Int := bif decide (IntKind.wrap .i64 (left - n) < 0) then -1 else IntKind.wrap .i64 (left - n)
def f0_sz (es : List V) (left : Int) : Int := szL es.length left
def noq (_ : List V) (_ : Int) : Prop := True
set_option maxRecDepth 100000 in
theorem s_laws_szInt64S : Sat Try.prog 44 (c_li_i f0_sz) := by
  intro args ps r h hp
  unfold c_li_i at h
  split at h
  · rename_i a0 a1
    simp only [Option.some.injEq, Prod.mk.injEq] at h
    obtain ⟨rfl, rfl⟩ := h
    refine fnOk_ofI (T := tab) (B := []) (Bi := []) [0, 1, 4] Try.func44 rfl rfl (by kernel_rfl) (Nat.le_of_ble_eq_true rfl) mixed tabOk (by exact bookNil) (by exact bookINil) (by kernel_rfl) ?_
    intro L lp rr hL hr hf hlp
    conv => cbv
    simp only [stdEqs hL]
    rw [hr, f0_sz, szL]
    refine ⟨fun h => ?_, fun h => ?_⟩
    · rw [h]; rfl
    · rw [h]; rfl
  · cases h
theorem szL_neg (n : Nat) (left : Int) : (bif decide (szL n left < 0) then -1 else szL n left) = szL n left := by
  unfold szL
  cases h : decide (IntKind.wrap .i64 (left - n) < 0)
  · simp only [cond_false, h]
  · rfl
set_option maxRecDepth 100000 in
theorem s_laws_szBranch : Sat Try.prog 17 (c_bi_i f0_sz noq) := by
  intro args ps r h hp
  unfold c_bi_i at h
  split at h
  · rename_i a0 a1
    simp only [Option.some.injEq, Prod.mk.injEq] at h
    obtain ⟨rfl, rfl⟩ := h
    have g1 : f0_sz (V.frzs a0) a1 = szL a0.length a1 := by rw [f0_sz, V.frzs_eq, List.length_map]
    generalize H_f0_sz : f0_sz = F_f0_sz
    refine fnOk_ofI (T := tab) (B := [(44, c_li_i F_f0_sz)]) (Bi := []) [0, 1, 2, 4] Try.func17 rfl rfl (by kernel_rfl) (Nat.le_of_ble_eq_true rfl) mixed tabOk (by subst H_f0_sz; exact (bookCons s_laws_szInt64S bookNil)) (by subst H_f0_sz; exact bookINil) (by kernel_rfl) ?_
    intro L lp rr hL hr hf hlp
    conv => cbv
    simp only [stdEqs hL]
    subst H_f0_sz
    rw [hr, g1, f0_sz]
    refine ⟨fun h => ?_, fun h => rfl⟩
    have := szL_neg a0.length a1
    rw [h] at this
    rw [← this]
    rfl
  · cases h

def c_b_b (f0 : List V → List V) (q : List V → Prop) : Contract := fun
  | [.agg [.slc false 2 (.int .i64 0) a0]] => some ([q a0], .agg [.slc true 2 (.int .i64 0) (f0 a0)])
  | _ => none
set_option maxRecDepth 100000 in
theorem s_laws_toBranch : Sat Try.prog 19 (c_b_b same IsIs) := by
  intro args ps r h hp
  unfold c_b_b at h
  split at h
  · rename_i a0
    simp only [Option.some.injEq, Prod.mk.injEq] at h
    obtain ⟨rfl, rfl⟩ := h
    have hq : IsIs a0 := (alls_cons.1 hp).1
    have q1 : IsIs (V.frzs a0) := by
      obtain ⟨⟨xs, hxs⟩, hl⟩ := hq
      rw [hxs, I_frzs, ← hxs]
      exact ⟨⟨xs, hxs⟩, hl⟩
    have g1 : V.frzs a0 = a0 := by
      obtain ⟨⟨xs, hxs⟩, hl⟩ := hq
      rw [hxs, I_frzs]
    generalize H_same : same = F_same
    generalize H_IsIs : IsIs = F_IsIs
    refine fnOk_ofI (T := tab) (B := [(10, c_laws_toInt64S F_same F_IsIs)]) (Bi := []) [0, 1, 2, 3] Try.func19 rfl rfl (by kernel_rfl) (Nat.le_of_ble_eq_true rfl) mixed tabOk (by subst H_same H_IsIs; exact (bookCons s_laws_toInt64S bookNil)) (by subst H_same H_IsIs; exact bookINil) (by kernel_rfl) ?_
    intro L lp rr hL hr hf hlp
    conv => cbv
    simp only [stdEqs hL]
    subst H_same H_IsIs
    rw [hr, same, same, g1]
    exact ⟨hq, rfl⟩
  · cases h
def c_bb_bool (f0 : List V → List V → Bool) (q : List V → List V → Prop) : Contract := fun
  | [.agg [.slc false 2 (.int .i64 0) a0], .agg [.slc false 2 (.int .i64 0) a1]] => some ([q a0 a1], .bool (f0 a0 a1))
  | _ => none
set_option maxRecDepth 100000 in
theorem s_laws_eqBranch : Sat Try.prog 21 (c_bb_bool f0_eqI q_eqI) := by
  intro args ps r h hp
  unfold c_bb_bool at h
  split at h
  · rename_i a0 a1
    simp only [Option.some.injEq, Prod.mk.injEq] at h
    obtain ⟨rfl, rfl⟩ := h
    have hq : q_eqI a0 a1 := (alls_cons.1 hp).1
    have g1 : V.frzs a0 = a0 ∧ V.frzs a1 = a1 := by
      obtain ⟨⟨xs, hxs⟩, ys, hys⟩ := hq
      rw [hxs, hys, I_frzs, I_frzs]
      exact ⟨rfl, rfl⟩
    generalize H_f0_eqI : f0_eqI = F_f0_eqI
    generalize H_q_eqI : q_eqI = F_q_eqI
    refine fnOk_ofI (T := tab) (B := [(12, c_laws_eqInt64S F_f0_eqI F_q_eqI)]) (Bi := []) [0, 1, 2, 3, 4] Try.func21 rfl rfl (by kernel_rfl) (Nat.le_of_ble_eq_true rfl) mixed tabOk (by subst H_f0_eqI H_q_eqI; exact (bookCons s_laws_eqInt64S bookNil)) (by subst H_f0_eqI H_q_eqI; exact bookINil) (by kernel_rfl) ?_
    intro L lp rr hL hr hf hlp
    conv => cbv
    simp only [stdEqs hL, g1]
    subst H_f0_eqI H_q_eqI
    rw [hr]
    refine ⟨hq, fun h => ?_, fun h => ?_⟩
    · simp only [Bool.not_eq_true'] at h; rw [h]
    · simp only [Bool.not_eq_false'] at h; rw [h]
  · cases h
set_option maxRecDepth 100000 in
theorem s_laws_heldBranch : Sat Try.prog 23 (c_bi_i f0_held q_mark) := by
  intro args ps r h hp
  unfold c_bi_i at h
  split at h
  · rename_i a0 a1
    simp only [Option.some.injEq, Prod.mk.injEq] at h
    obtain ⟨rfl, rfl⟩ := h
    have hq : q_mark a0 a1 := (alls_cons.1 hp).1
    have g1 : V.frzs a0 = a0 := by
      obtain ⟨⟨xs, hxs⟩, _⟩ := hq
      rw [hxs, I_frzs]
    generalize H_f0_held : f0_held = F_f0_held
    generalize H_q_mark : q_mark = F_q_mark
    refine fnOk_ofI (T := tab) (B := [(16, c_heldInt64S F_f0_held F_q_mark)]) (Bi := []) [0, 1, 2, 4] Try.func23 rfl rfl (by kernel_rfl) (Nat.le_of_ble_eq_true rfl) mixed tabOk (by subst H_f0_held H_q_mark; exact (bookCons s_laws_heldInt64S bookNil)) (by subst H_f0_held H_q_mark; exact bookINil) (by kernel_rfl) ?_
    intro L lp rr hL hr hf hlp
    conv => cbv
    simp only [stdEqs hL, g1]
    subst H_f0_held H_q_mark
    rw [hr]
    refine ⟨hq, fun h => ?_, fun h => rfl⟩
    simp only [decide_eq_true_eq] at h
    unfold f0_held at h ⊢
    split at h
    · have := hq.2.1; omega
    · rename_i hh; rw [if_neg hh]
  · cases h
def ic_markBranch (f0 : List V → Int → Int) (f1 : List V → Int → List V) (q : List V → Int → Prop) : IContract := fun
  | [.agg [.slc true 2 (.int .i64 0) a0], .int .i64 a1] => some ([q a0 a1], .int .i64 (f0 a0 a1), .agg [.slc true 2 (.int .i64 0) (f1 a0 a1)])
  | _ => none
theorem Sh.agg1 {x y : V} (h : Sh x y) : Sh (.agg [x]) (.agg [y]) := by
  refine .agg _ _ rfl (fun i a b ha hb => ?_)
  cases i with
  | zero => simp at ha hb; subst ha; subst hb; exact h
  | succ i => simp at ha
set_option maxRecDepth 100000 in
theorem s_laws_markBranch : SatI Try.prog 22 0 (ic_markBranch f0_mark f1_mark q_mark) := by
  intro args ps r y h hp
  unfold ic_markBranch at h
  split at h
  · rename_i a0 a1
    simp only [Option.some.injEq, Prod.mk.injEq] at h
    obtain ⟨rfl, rfl, rfl⟩ := h
    have hq : q_mark a0 a1 := (alls_cons.1 hp).1
    generalize H_f0_mark : f0_mark = F_f0_mark
    generalize H_f1_mark : f1_mark = F_f1_mark
    generalize H_q_mark : q_mark = F_q_mark
    refine fnIO_of (T := tab) (B := []) (Bi := [(15, 0, ic_markInt64S F_f0_mark F_f1_mark F_q_mark)]) 0 [0, 1, 2, 4] Try.func22 rfl rfl (by kernel_rfl) (Nat.le_of_ble_eq_true rfl) mixed tabOk (by subst H_f0_mark H_f1_mark H_q_mark; exact bookNil) (by subst H_f0_mark H_f1_mark H_q_mark; exact (bookICons s_laws_markInt64S bookINil)) (by kernel_rfl) rfl rfl (by subst H_f1_mark; obtain ⟨⟨xs, rfl⟩, _⟩ := hq; exact Sh.agg1 (Sh.ints (by simp [marks_len]))) rfl ?_
    intro L lp rr yy hL hr hy hf hlp
    conv => cbv
    subst H_q_mark
    exact ⟨hq, hr.symm, hy.symm⟩
  · cases h

/-! the law -/
def c_bi_law (f0 : List V → Int → Bool) (q : List V → Prop) : Contract := fun
  | [.agg [.slc false 2 (.int .i64 0) a0], .int .i64 a1] => some ([q a0], .bool (f0 a0 a1))
  | _ => none
def yesB (_ : List V) (_ : Int) : Bool := true
theorem szL_ok {n : Nat} (hn : n ≤ 9223372036854775807) (h : (decide (szL n 1048576 < 0)) = false) : n ≤ 1048576 := by
  rw [decide_eq_false_iff_not, szL] at h
  have ew : IntKind.wrap .i64 ((1048576 : Int) - n) = 1048576 - n := wrap_id (by omega) (by omega)
  rw [ew] at h
  by_cases hh : (1048576 : Int) - n < 0
  · rw [decide_eq_true hh] at h
    simp at h
  · omega
theorem sr_len (xs : List Int) (i : Int) : (sr xs i).1.length ≤ xs.length := by
  unfold sr
  cases isBr xs
  · simp
  · cases inRange i 1 (IntKind.wrap .i64 ((xs.length : Int) - 1))
    · simp
    · simp only [Bool.not_true, cond_false, cut, List.length_map, List.length_take]
      omega
set_option maxRecDepth 100000 in
theorem s_laws_FnExactSemirootOf : Sat Try.prog 5 (c_bi_law yesB IsI) := by
  intro args ps r h hp
  unfold c_bi_law at h
  split at h
  · rename_i a0 a1
    simp only [Option.some.injEq, Prod.mk.injEq] at h
    obtain ⟨rfl, rfl⟩ := h
    obtain ⟨xs, hxs⟩ : IsI a0 := (alls_cons.1 hp).1
    have hxl : a0.length = xs.length := by rw [hxs, I_length]
    have g1 : V.frzs a0 = a0 := by rw [hxs, I_frzs]
    generalize H_f0_sz : f0_sz = F_f0_sz
    generalize H_noq : noq = F_noq
    generalize H_same : same = F_same
    generalize H_IsIs : IsIs = F_IsIs
    generalize H_f0_sr : f0_sr = F_f0_sr
    generalize H_f1_sr : f1_sr = F_f1_sr
    generalize H_f0_eqI : f0_eqI = F_f0_eqI
    generalize H_q_eqI : q_eqI = F_q_eqI
    generalize H_f0_held : f0_held = F_f0_held
    generalize H_q_mark : q_mark = F_q_mark
    generalize H_f0_mark : f0_mark = F_f0_mark
    generalize H_f1_mark : f1_mark = F_f1_mark
    refine fnOk_ofI (T := tab) (B := [(17, c_bi_i F_f0_sz F_noq), (19, c_b_b F_same F_IsIs), (18, c_SemirootOf F_f0_sr F_f1_sr F_IsIs), (20, c_SemirootOf F_f0_sr F_f1_sr F_IsIs), (21, c_bb_bool F_f0_eqI F_q_eqI), (23, c_bi_i F_f0_held F_q_mark)]) (Bi := [(22, 0, ic_markBranch F_f0_mark F_f1_mark F_q_mark)]) [0, 1, 2, 4, 5, 6, 7, 8, 9, 10, 11, 12, 13, 14, 15] Try.func5 rfl rfl (by kernel_rfl) (Nat.le_of_ble_eq_true rfl) mixed tabOk (by subst H_f0_sz H_noq H_same H_IsIs H_f0_sr H_f1_sr H_f0_eqI H_q_eqI H_f0_held H_q_mark H_f0_mark H_f1_mark; exact (bookCons s_laws_szBranch (bookCons s_laws_toBranch (bookCons s_spec_SemirootOf (bookCons s_impl_SemirootOf (bookCons s_laws_eqBranch (bookCons s_laws_heldBranch bookNil))))))) (by subst H_f0_sz H_noq H_same H_IsIs H_f0_sr H_f1_sr H_f0_eqI H_q_eqI H_f0_held H_q_mark H_f0_mark H_f1_mark; exact (bookICons s_laws_markBranch bookINil)) (by kernel_rfl) ?_
    intro L lp rr hL hr hf hlp
    have hlen := hf.1.1.1
    conv => cbv
    simp only [stdEqs hL, g1]
    subst H_f0_sz H_noq H_same H_IsIs H_f0_sr H_f1_sr H_f0_eqI H_q_eqI H_f0_held H_q_mark H_f0_mark H_f1_mark
    have hsz : f0_sz a0 1048576 = szL xs.length 1048576 := by rw [f0_sz, hxl]
    simp only [hsz, same, g1]
    refine ⟨trivial, fun h => by rw [hr]; rfl, fun h => ?_⟩
    have hl : xs.length ≤ 1048576 := szL_ok (by omega) h
    have q0 : IsIs a0 := ⟨⟨xs, hxs⟩, by omega⟩
    have hsr := sr_len xs a1
    have e0 : f0_sr a0 a1 = I (sr xs a1).1 := by rw [f0_sr, hxs, unI_I]
    have key : ∀ l : List Int, l.length ≤ 1048576 → q_eqI (I l) (I l) ∧ f0_eqI (I l) (I l) = true ∧ q_mark (I l) 1 ∧ q_mark (I (marks l.length 1)) 1 ∧ f0_held (I (marks l.length 1)) 1 = 1 + l.length ∧ f0_mark (I l) 1 = 1 + l.length ∧ f1_mark (I l) 1 = I (marks l.length 1) :=
      fun l hl => ⟨⟨⟨l, rfl⟩, ⟨l, rfl⟩⟩, by simp [f0_eqI], ⟨⟨l, rfl⟩, by omega, by rw [I_length]; omega⟩, ⟨⟨_, rfl⟩, by omega, by rw [I_length, marks_len]; omega⟩,
        by rw [f0_held, unI_I, I_length, marks_len, if_pos rfl], by rw [f0_mark, I_length], by rw [f1_mark, I_length]⟩
    obtain ⟨e1, e2, e3, e4, e5, e6, e7⟩ := key (sr xs a1).1 (by omega)
    obtain ⟨d1, d2, d3, d4, d5, d6, d7⟩ := key xs hl
    rw [← hxs] at d1 d2 d3 d6 d7
    have hn : ∀ n : Nat, decide ((1 : Int) + n < 0) = false := fun n => by simp; omega
    simp only [e0, e1, e2, e3, e4, e5, e6, e7, d1, d2, d3, d4, d5, d6, d7, q0, I_frzs, hn, hr, yesB]
    simp
  · cases h
end Go.Ax
