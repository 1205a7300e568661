/-
  Functions of the second law: greatest divisors, chains of a fraction, marks. No conditions but those of the contracts.
-/
import Derived.Test.YtpbkkbjgmlfloaaFap
import Derived.Test.YtpbkkbjgmlfloaaAxP4p
set_option linter.all false
namespace Go.Ax
open Go.Proofs

def c_i_i (f0 : Int → Int) : Contract := fun
  | [.int .i64 a0] => some ([], .int .i64 (f0 a0))
  | _ => none
def absW (a : Int) : Int := bif decide (a < 0) then IntKind.wrap .i64 (0 - a) else a
set_option maxRecDepth 100000 in
theorem s_impl_abs : Sat Try.prog 98 (c_i_i absW) := by
  intro args ps r h hp
  unfold c_i_i at h
  split at h
  · rename_i a0
    simp only [Option.some.injEq, Prod.mk.injEq] at h
    obtain ⟨rfl, rfl⟩ := h
    refine fnOk_of (T := tab) (B := []) [0, 2] Try.func98 rfl rfl (by kernel_rfl) (Nat.le_of_ble_eq_true rfl) mixed tabOk bookNil (by kernel_rfl) ?_
    intro L lp rr hL hr hf hlp
    conv => cbv
    simp only [stdEqs hL, imp_self, true_and]
    subst hr
    refine ⟨fun h => ?_, fun h => ?_⟩ <;> simp only [absW, h, cond_true, cond_false]
  · cases h

def c_ii_i (f0 : Int → Int → Int) (q : Int → Int → Prop) : Contract := fun
  | [.int .i64 a0, .int .i64 a1] => some ([q a0 a1], .int .i64 (f0 a0 a1))
  | _ => none
def ne0 (_ b : Int) : Prop := b ≠ 0
def gcdGo (a b : Int) : Int := if _h : 0 < b then gcdGo b (a.tmod b) else a
termination_by b.toNat
decreasing_by
  have := Int.tmod_lt_of_pos a (by assumption)
  omega
def gcdW (a b : Int) : Int := gcdGo (absW a) (absW b)
def always (_ _ : Int) : Prop := True
theorem gcdGo_pos {a b : Int} (h : 0 < b) : gcdGo a b = gcdGo b (a.tmod b) := by rw [gcdGo, dif_pos h]
theorem gcdGo_neg {a b : Int} (h : ¬ 0 < b) : gcdGo a b = a := by rw [gcdGo, dif_neg h]

set_option maxRecDepth 100000 in
theorem s_impl_divisor : Sat Try.prog 94 (c_ii_i gcdW always) := by
  intro args ps r h hp
  unfold c_ii_i at h
  split at h
  · rename_i a0 a1
    simp only [Option.some.injEq, Prod.mk.injEq] at h
    obtain ⟨rfl, rfl⟩ := h
    generalize HA : absW = A0
    refine fnOk_of (T := tab) (B := [(98, c_i_i A0)]) [0, 1, 4] Try.func94 rfl rfl (by kernel_rfl) (Nat.le_of_ble_eq_true rfl) mixed tabOk (by subst HA; exact bookCons s_impl_abs bookNil) (by kernel_rfl) ?_
    intro L lp rr hL hr hf hlp
    conv => cbv
    refine hlp (Int × Int) _ _ _ [0, 1] (fun x => [(0, none, .val (.int .i64 x.1)), (1, none, .val (.int .i64 x.2))])
      (fun x => gcdW a0 a1 = gcdGo x.1 x.2) (fun x => x.2.toNat) (A0 a0, A0 a1) (by subst hL; rfl) (by subst HA; rfl) ?_
    rintro ⟨a, b⟩ hI hfx ag hag
    conv => cbv
    simp only [stdEqs hL, imp_self, true_and, decide_eq_true_eq, decide_eq_false_iff_not]
    simp only at hI
    refine ⟨fun h => ⟨by omega, hag (b, a.tmod b) (by rw [hI, gcdGo_pos h]) ?_⟩, fun h => ?_⟩
    · have := Int.tmod_lt_of_pos a h
      simp only
      omega
    · subst hr
      rw [hI, gcdGo_neg h]
  · cases h

set_option maxRecDepth 100000 in
theorem s_spec_l01Gcd : Sat Try.prog 61 (c_ii_i gcdW always) := by
  intro args ps r h hp
  unfold c_ii_i at h
  split at h
  · rename_i a0 a1
    simp only [Option.some.injEq, Prod.mk.injEq] at h
    obtain ⟨rfl, rfl⟩ := h
    refine fnOk_of (T := tab) (B := []) [0, 1, 4, 5] Try.func61 rfl rfl (by kernel_rfl) (Nat.le_of_ble_eq_true rfl) mixed tabOk bookNil (by kernel_rfl) ?_
    intro L lp rr hL hr hf hlp
    conv => cbv
    simp only [stdEqs hL, imp_self, true_and, decide_eq_true_eq, decide_eq_false_iff_not]
    refine ⟨fun h0 => ⟨fun h1 => ?_, fun h1 => ?_⟩, fun h0 => ⟨fun h1 => ?_, fun h1 => ?_⟩⟩
    · refine hlp (Int × Int) _ _ _ [0, 1] (fun x => [(0, none, .val (.int .i64 x.1)), (1, none, .val (.int .i64 x.2))])
        (fun x => gcdW a0 a1 = gcdGo x.1 x.2) (fun x => x.2.toNat) (IntKind.wrap .i64 (0 - a0), IntKind.wrap .i64 (0 - a1)) (by subst hL; rfl) (by simp [gcdW, absW, h0, h1]) ?_
      rintro ⟨a, b⟩ hI hfx ag hag
      conv => cbv
      simp only [stdEqs hL, imp_self, true_and, decide_eq_true_eq, decide_eq_false_iff_not]
      simp only at hI
      refine ⟨fun h => ⟨by omega, hag (b, a.tmod b) (by rw [hI, gcdGo_pos h]) ?_⟩, fun h => ?_⟩
      · have := Int.tmod_lt_of_pos a h
        simp only
        omega
      · subst hr
        rw [hI, gcdGo_neg h]
    · refine hlp (Int × Int) _ _ _ [0, 1] (fun x => [(0, none, .val (.int .i64 x.1)), (1, none, .val (.int .i64 x.2))])
        (fun x => gcdW a0 a1 = gcdGo x.1 x.2) (fun x => x.2.toNat) (IntKind.wrap .i64 (0 - a0), a1) (by subst hL; rfl) (by simp [gcdW, absW, h0, h1]) ?_
      rintro ⟨a, b⟩ hI hfx ag hag
      conv => cbv
      simp only [stdEqs hL, imp_self, true_and, decide_eq_true_eq, decide_eq_false_iff_not]
      simp only at hI
      refine ⟨fun h => ⟨by omega, hag (b, a.tmod b) (by rw [hI, gcdGo_pos h]) ?_⟩, fun h => ?_⟩
      · have := Int.tmod_lt_of_pos a h
        simp only
        omega
      · subst hr
        rw [hI, gcdGo_neg h]
    · refine hlp (Int × Int) _ _ _ [0, 1] (fun x => [(0, none, .val (.int .i64 x.1)), (1, none, .val (.int .i64 x.2))])
        (fun x => gcdW a0 a1 = gcdGo x.1 x.2) (fun x => x.2.toNat) (a0, IntKind.wrap .i64 (0 - a1)) (by subst hL; rfl) (by simp [gcdW, absW, h0, h1]) ?_
      rintro ⟨a, b⟩ hI hfx ag hag
      conv => cbv
      simp only [stdEqs hL, imp_self, true_and, decide_eq_true_eq, decide_eq_false_iff_not]
      simp only at hI
      refine ⟨fun h => ⟨by omega, hag (b, a.tmod b) (by rw [hI, gcdGo_pos h]) ?_⟩, fun h => ?_⟩
      · have := Int.tmod_lt_of_pos a h
        simp only
        omega
      · subst hr
        rw [hI, gcdGo_neg h]
    · refine hlp (Int × Int) _ _ _ [0, 1] (fun x => [(0, none, .val (.int .i64 x.1)), (1, none, .val (.int .i64 x.2))])
        (fun x => gcdW a0 a1 = gcdGo x.1 x.2) (fun x => x.2.toNat) (a0, a1) (by subst hL; rfl) (by simp [gcdW, absW, h0, h1]) ?_
      rintro ⟨a, b⟩ hI hfx ag hag
      conv => cbv
      simp only [stdEqs hL, imp_self, true_and, decide_eq_true_eq, decide_eq_false_iff_not]
      simp only at hI
      refine ⟨fun h => ⟨by omega, hag (b, a.tmod b) (by rw [hI, gcdGo_pos h]) ?_⟩, fun h => ?_⟩
      · have := Int.tmod_lt_of_pos a h
        simp only
        omega
      · subst hr
        rw [hI, gcdGo_neg h]
  · cases h

def marks (n : Nat) (k : Int) : List Int := (List.range n).map fun (i : Nat) => k + (i : Int)
theorem marks_len (n : Nat) (k : Int) : (marks n k).length = n := by simp [marks]
end Go.Ax
