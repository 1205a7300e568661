/-
  Functions of the first laws: ranges, chain fractions, copies and comparisons of lists of numbers. No conditions but those of the contracts.
-/
import Derived.Test.YtlbmgfiepmhjhaaLbp
set_option linter.all false
namespace Go.Ax
open Go.Proofs

def c_impl_inRange (f0 : Int → Int → Int → Bool) : Contract := fun
  | [.int .i64 a0, .int .i64 a1, .int .i64 a2] => some ([], .bool (f0 a0 a1 a2))
  | _ => none
def inRange (a b c : Int) : Bool := decide (b ≤ a) && decide (a ≤ c)
set_option maxRecDepth 100000 in
theorem s_impl_inRange : Sat Try.prog 60 (c_impl_inRange inRange) := by
  intro args ps r h hp
  unfold c_impl_inRange at h
  split at h
  · rename_i a0 a1 a2
    simp only [Option.some.injEq, Prod.mk.injEq] at h
    obtain ⟨rfl, rfl⟩ := h
    refine fnOk_of (T := tab) (B := []) [0, 1, 2, 6] Try.func60 rfl rfl (by kernel_rfl) (Nat.le_of_ble_eq_true rfl) mixed tabOk bookNil (by kernel_rfl) ?_
    intro L lp rr hL hr hf hlp
    conv => cbv
    subst hL hr 
    simp [std, inRange]
  · cases h

def c_impl_within (f0 : List V → Int → Int → Bool) (q : List V → Prop) : Contract := fun
  | [.slc false 2 (.int .i64 0) a0, .int .i64 a1, .int .i64 a2] => some ([q a0], .bool (f0 a0 a1 a2))
  | _ => none
def within (l : List Int) (a b : Int) : Bool := l.all fun x => inRange x a b
def f_within (es : List V) (a b : Int) : Bool := within (unI es) a b
set_option maxRecDepth 100000 in
theorem s_impl_within : Sat Try.prog 72 (c_impl_within f_within IsI) := by
  intro args ps r h hp
  unfold c_impl_within at h
  split at h
  · rename_i a0 a1 a2
    simp only [Option.some.injEq, Prod.mk.injEq] at h
    obtain ⟨rfl, rfl⟩ := h
    obtain ⟨xs, hxs⟩ : IsI a0 := (alls_cons.1 hp).1
    generalize HF0IMPLINRANGE : inRange = F0IMPLINRANGE
    refine fnOk_of (T := tab) (B := [(60, c_impl_inRange F0IMPLINRANGE)]) [0, 1, 2, 6, 8, 9, 10, 11] Try.func72 rfl rfl (by kernel_rfl) (Nat.le_of_ble_eq_true rfl) mixed tabOk (by subst HF0IMPLINRANGE; exact (bookCons s_impl_inRange bookNil)) (by kernel_rfl) ?_
    intro L lp rr hL hr hf hlp
    obtain ⟨n, hn⟩ : ∃ n : Int, n = a0.length := ⟨_, rfl⟩
    have hlen := hf.1.1
    conv => cbv
    refine hlp (Int) _ _ _ [1, 2, 9, 10, 11] (fun i => [(1, none, .val (.int .i64 a1)), (2, none, .val (.int .i64 a2)), (9, none, .val (.slc false 2 (.int .i64 0) a0)), (10, none, .val (.int .i64 n)), (11, none, .val (.int .i64 i))]) (fun i => 0 ≤ i ∧ i ≤ n ∧ within xs a1 a2 = within (xs.drop i.toNat) a1 a2) (fun i => (n - i).toNat) 0 (by subst hL hn; rfl) ?_ ?_
    · subst hxs hn
      simp
    · rintro i ⟨i0, i1, i2⟩ hfx ag hag
      conv => cbv
      subst hL hr HF0IMPLINRANGE hxs
      simp only [std, I_getD, ok_int, toI_int, I_length, imp_self, true_and, decide_eq_true_eq, decide_eq_false_iff_not, Bool.not_eq_true', Bool.not_eq_false', V.bool.injEq, f_within, unI_I] at hn hlen ⊢
      refine ⟨fun h => ⟨i0, by omega, fun h1 => ?_, fun h1 => ?_⟩, fun h => ?_⟩
      · rw [i2, within, all_drop (by omega), h1]
        rfl
      · rw [wrap_id (by omega) (by omega)]
        refine hag _ ⟨by omega, by omega, ?_⟩ (by omega)
        rw [i2, within, within, all_drop (by omega), toNat_succ i0, h1]
        rfl
      · rw [i2, List.drop_eq_nil_of_le (by omega)]
        rfl
  · cases h

def cfGo (xs : List Int) : Nat → Int → Int → Int × Int × Int
  | 0, t, b => (t, b, 0)
  | k + 1, t, b =>
    if 1000000000000 < IntKind.wrap .i64 (IntKind.wrap .i64 (xs.getD k 0 * t) - b) then (0, 0, 3)
    else cfGo xs k (IntKind.wrap .i64 (IntKind.wrap .i64 (xs.getD k 0 * t) - b)) t
def cf (xs : List Int) : Int × Int × Int := bif (bif (bif decide ((xs.length : Int) < 1) then true else decide (30 < (xs.length : Int))) then true else !within xs 2 1000) then (0, 0, 1) else cfGo xs xs.length 1 0
set_option maxRecDepth 100000 in
theorem s_spec_l01In : Sat Try.prog 69 (c_impl_inRange inRange) := by
  intro args ps r h hp
  unfold c_impl_inRange at h
  split at h
  · rename_i a0 a1 a2
    simp only [Option.some.injEq, Prod.mk.injEq] at h
    obtain ⟨rfl, rfl⟩ := h
    refine fnOk_of (T := tab) (B := []) [0, 1, 2, 6] Try.func69 rfl rfl (by kernel_rfl) (Nat.le_of_ble_eq_true rfl) mixed tabOk bookNil (by kernel_rfl) ?_
    intro L lp rr hL hr hf hlp
    cbv
    subst hL hr 
    simp [std, inRange]
  · cases h

def c_laws_toInt64S (f0 : List V → List V) (q : List V → Prop) : Contract := fun
  | [.slc false 2 (.int .i64 0) a0] => some ([q a0], .slc true 2 (.int .i64 0) (f0 a0))
  | _ => none
def same (es : List V) : List V := es
def IsIs (es : List V) : Prop := (∃ l, es = I l) ∧ es.length ≤ 2147483647
set_option maxRecDepth 100000 in
theorem s_laws_toInt64S : Sat Try.prog 32 (c_laws_toInt64S same IsIs) := by
  intro args ps r h hp
  unfold c_laws_toInt64S at h
  split at h
  · rename_i a0
    simp only [Option.some.injEq, Prod.mk.injEq] at h
    obtain ⟨rfl, rfl⟩ := h
    obtain ⟨⟨xs, hxs⟩, hlen⟩ : IsIs a0 := (alls_cons.1 hp).1
    refine fnOk_of (T := tab) (B := []) [0, 2, 3, 4] Try.func32 rfl rfl (by kernel_rfl) (Nat.le_of_ble_eq_true rfl) mixed tabOk bookNil (by kernel_rfl) ?_
    intro L lp rr hL hr hf hlp
    have hxl : a0.length = xs.length := by rw [hxs, I_length]
    rw [hxl] at hlen
    conv => cbv
    (simp only [stdEqs hL, hxl, imp_self, true_and]) <;> (repeat' first | (intro _) | (apply And.intro)) <;> try omega
    refine hlp (Int × List V) _ _ _ [0, 3, 4] (fun x => [(0, none, .val (.slc false 2 (.int .i64 0) a0)), (3, none, .val (.slc true 2 (.int .i64 0) x.2)), (4, none, .val (.int .i64 x.1))])
      (fun x => 0 ≤ x.1 ∧ x.1 ≤ xs.length ∧ x.2 = I (xs.take x.1.toNat ++ List.replicate (xs.length - x.1.toNat) 0)) (fun x => (xs.length - x.1).toNat) (0, _) (by subst hL; rfl) (by simp) ?_
    rintro ⟨i, es⟩ ⟨i0, i1, i2⟩ hfx ag hag
    conv => cbv
    have hg : a0.getD i.toNat (.int .i64 0) = .int .i64 (xs.getD i.toNat 0) := by rw [hxs, I_getD]
    simp only [stdEqs hL, hxl, hg, ok_int, toI_int, imp_self, true_and, decide_eq_true_eq, decide_eq_false_iff_not]
    simp only at i0 i1 i2
    have hel : es.length = xs.length := by
      rw [i2]
      simp
      omega
    refine ⟨fun h => ⟨i0, by omega, i0, by omega, by omega, by rw [i2, I_getD, ok_int], ?_⟩, fun h => ?_⟩
    · rw [wrap_id (n := i + 1) (by omega) (by omega)]
      refine hag (i + 1, _) ⟨by simp only; omega, by simp only; omega, ?_⟩ (by simp only; omega)
      simp only [i2, I_set, toNat_succ i0]
      rw [fill_set 0 0 (by omega)]
    · subst hr hxs i2
      obtain rfl : i = xs.length := by omega
      simp [same]
  · cases h

def c_laws_eqInt64S (f0 : List V → List V → Bool) (q : List V → List V → Prop) : Contract := fun
  | [.slc false 2 (.int .i64 0) a0, .slc false 2 (.int .i64 0) a1] => some ([q a0 a1], .bool (f0 a0 a1))
  | _ => none
def f0_eqI (a b : List V) : Bool := decide (unI a = unI b)
def q_eqI (a b : List V) : Prop := IsI a ∧ IsI b
set_option maxRecDepth 100000 in
theorem s_laws_eqInt64S : Sat Try.prog 10 (c_laws_eqInt64S f0_eqI q_eqI) := by
  intro args ps r h hp
  unfold c_laws_eqInt64S at h
  split at h
  · rename_i a0 a1
    simp only [Option.some.injEq, Prod.mk.injEq] at h
    obtain ⟨rfl, rfl⟩ := h
    obtain ⟨⟨xs, hxs⟩, ys, hys⟩ : q_eqI a0 a1 := (alls_cons.1 hp).1
    refine fnOk_of (T := tab) (B := []) [0, 1, 4, 5] Try.func10 rfl rfl (by kernel_rfl) (Nat.le_of_ble_eq_true rfl) mixed tabOk bookNil (by kernel_rfl) ?_
    intro L lp rr hL hr hf hlp
    have hlen := hf.1.1
    have hxl : a0.length = xs.length := by rw [hxs, I_length]
    have hyl : a1.length = ys.length := by rw [hys, I_length]
    conv => cbv
    simp only [stdEqs hL, hxl, hyl]
    have hrr : rr = .bool (decide (xs = ys)) := by rw [hr, hxs, hys]; simp only [f0_eqI, unI_I]
    refine ⟨fun h => ?_, fun h => ?_⟩
    · have : xs ≠ ys := by
        rintro rfl
        simp at h
      rw [hrr, decide_eq_false this]
    have hll : xs.length = ys.length := by
      simp only [Bool.not_eq_false', beq_iff_eq] at h
      omega
    refine hlp (Int) _ _ _ [0, 1, 5] (fun i => [(0, none, .val (.slc false 2 (.int .i64 0) a0)), (1, none, .val (.slc false 2 (.int .i64 0) a1)), (5, none, .val (.int .i64 i))])
      (fun i => 0 ≤ i ∧ i ≤ xs.length ∧ xs.take i.toNat = ys.take i.toNat) (fun i => (xs.length - i).toNat) 0 (by subst hL; rfl) (by simp) ?_
    rintro i ⟨i0, i1, i2⟩ hfx ag hag
    conv => cbv
    have hg : a0.getD i.toNat (.int .i64 0) = .int .i64 (xs.getD i.toNat 0) := by rw [hxs, I_getD]
    have hg' : a1.getD i.toNat (.int .i64 0) = .int .i64 (ys.getD i.toNat 0) := by rw [hys, I_getD]
    simp only [stdEqs hL, hxl, hyl, hg, hg', ok_int, toI_int, imp_self, true_and, decide_eq_true_eq, decide_eq_false_iff_not, Bool.not_eq_true', Bool.not_eq_false', beq_eq_false_iff_ne, beq_iff_eq]
    refine ⟨fun h => ⟨i0, by omega, i0, by omega, fun h4 => ?_, fun h4 => ?_⟩, fun h => ?_⟩
    · rw [hrr, decide_eq_false]
      rintro rfl
      exact h4 rfl
    · rw [wrap_id (by omega) (by omega)]
      refine hag _ ⟨by omega, by omega, ?_⟩ (by omega)
      have e1 : i.toNat < xs.length := by omega
      have e2 : i.toNat < ys.length := by omega
      rw [toNat_succ i0, List.take_succ_eq_append_getElem e1, List.take_succ_eq_append_getElem e2, i2]
      simp only [List.getD_eq_getElem?_getD, List.getElem?_eq_getElem e1, List.getElem?_eq_getElem e2, Option.getD_some] at h4
      rw [h4]
    · rw [List.take_of_length_le (by omega), List.take_of_length_le (by omega)] at i2
      rw [hrr, decide_eq_true i2]
  · cases h

end Go.Ax
