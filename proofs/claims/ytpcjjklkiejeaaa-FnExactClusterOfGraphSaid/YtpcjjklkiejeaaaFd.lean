/-
  What a branch is; cuts of branches; semiroots. No conditions but those of the contracts.
-/
import Derived.Test.YtpcjjklkiejeaaaFc
set_option linter.all false
namespace Go.Ax
open Go.Proofs

def isBr (xs : List Int) : Bool :=
  bif (bif (bif (bif decide (0 < (xs.length : Int)) then inRange (xs.getD 0 0) 1 64 else false) then asc xs else false) then within xs 1 2000 else false) then dec (dv xs) else false
def brGo (p e : Int) : List Int → Bool
  | [] => e == 1
  | t :: l => bif !inRange t (IntKind.wrap .i64 (p + 1)) 2000 then false else bif gcdW e t == e then false else brGo t (gcdW e t) l

theorem brGo_eq : ∀ (l : List Int) (p e : Int), 1 ≤ p → p ≤ 2000 → 1 ≤ e → brGo p e l = (asc (p :: l) && within l 1 2000 && dec (e :: dvGo e l))
  | [], p, e, _, _, _ => by simp [brGo, asc, within, dvGo, dec]
  | t :: l, p, e, h1, h2, h3 => by
    have ew : IntKind.wrap .i64 (p + 1) = p + 1 := wrap_id (by omega) (by omega)
    simp only [brGo, ew]
    by_cases hr : p + 1 ≤ t ∧ t ≤ 2000
    · have e1 : inRange t (p + 1) 2000 = true := by simp [inRange, hr]
      have e2 : asc (p :: t :: l) = asc (t :: l) := by simp [asc]; omega
      have e3 : within (t :: l) 1 2000 = within l 1 2000 := by simp [within, inRange]; omega
      obtain ⟨g1, g2, _⟩ := gcdW_le (a := e) (b := t) (by omega) (by omega)
      rw [e1, e2, e3]
      simp only [Bool.not_true, cond_false, dvGo, dec]
      by_cases hg : gcdW e t = e
      · simp [hg]
      · have e4 : decide (e ≤ gcdW e t) = false := by simp; omega
        have e5 : (gcdW e t == e) = false := by simpa using hg
        rw [e4, e5]
        simp only [cond_false]
        exact brGo_eq l t (gcdW e t) (by omega) (by omega) (by omega)
    · have e1 : inRange t (p + 1) 2000 = false := by
        simp only [inRange, Bool.and_eq_false_iff, decide_eq_false_iff_not]
        omega
      rw [e1]
      simp only [Bool.not_false, cond_true]
      by_cases hp : t ≤ p
      · simp [asc, hp]
      · have : within (t :: l) 1 2000 = false := by
          have : inRange t 1 2000 = false := by
            simp only [inRange, Bool.and_eq_false_iff, decide_eq_false_iff_not]
            omega
          simp [within, this]
        simp [this]

/-- the reference's words for it -/
def isBrS (xs : List Int) : Bool := bif (bif ((xs.length : Int) == 0) then true else !inRange (xs.getD 0 0) 1 64) then false else brGo (xs.getD 0 0) (xs.getD 0 0) (xs.drop 1)
theorem isBrS_eq (xs : List Int) : isBrS xs = isBr xs := by
  cases xs with
  | nil => rfl
  | cons t l =>
    have e0 : (((t :: l).length : Int) == 0) = false := by
      rw [beq_eq_false_iff_ne]
      simp only [List.length_cons]
      omega
    have e1 : decide (0 < ((t :: l).length : Int)) = true := by
      rw [decide_eq_true_eq]
      simp only [List.length_cons]
      omega
    simp only [isBrS, isBr, e0, e1, cond_true, cond_false, List.getD_cons_zero, List.drop_succ_cons, List.drop_zero]
    cases hr : inRange t 1 64 with
    | false => simp
    | true =>
      simp only [inRange, Bool.and_eq_true, decide_eq_true_eq] at hr
      rw [brGo_eq l t t (by omega) (by omega) (by omega)]
      have e2 : dv (t :: l) = t :: dvGo t l := by simp only [dv, dvGo]; rw [gcdW_zero (by omega)]
      have e3 : within (t :: l) 1 2000 = within l 1 2000 := by simp [within, inRange]; omega
      rw [e2, e3]
      cases asc (t :: l) <;> cases within l 1 2000 <;> simp

theorem bif3 {A B C D : Bool} (h : (bif (bif (bif D then A else false) then B else false) then C else false) = true) : D = true := by
  cases D <;> simp_all
def c_b_bool (f0 : List V → Bool) (q : List V → Prop) : Contract := fun
  | [.agg [.slc false 2 (.int .i64 0) a0]] => some ([q a0], .bool (f0 a0))
  | _ => none
def f0_isBr (es : List V) : Bool := isBr (unI es)

/-! cuts -/
def c_b_i (f0 : List V → Int) : Contract := fun
  | [.agg [.slc false 2 (.int .i64 0) a0]] => some ([], .int .i64 (f0 a0))
  | _ => none
def f0_pairs (es : List V) : Int := IntKind.wrap .i64 ((es.length : Int) - 1)
/-- the quotients of the first terms by the divisor at k -/
def cut (xs : List Int) (k : Int) : List Int := (xs.take (k.toNat + 1)).map fun t => IntKind.wrap .i64 (t.tdiv ((dv xs).getD k.toNat 0))
def c_bi_b (f0 : List V → Int → List V) (q : List V → Int → Prop) : Contract := fun
  | [.agg [.slc false 2 (.int .i64 0) a0], .int .i64 a1] => some ([q a0 a1], .agg [.slc true 2 (.int .i64 0) (f0 a0 a1)])
  | _ => none
def f0_cut (es : List V) (k : Int) : List V := I (cut (unI es) k)
def q_cut (es : List V) (k : Int) : Prop := IsP es ∧ 0 ≤ k ∧ k < es.length ∧ (dv (unI es)).getD k.toNat 0 ≠ 0
theorem IsP.isIs {es : List V} (h : IsP es) : IsIs es := by
  obtain ⟨t, l, rfl, _, hl⟩ := h
  exact ⟨⟨_, rfl⟩, by simp; omega⟩

/-! semiroots -/
theorem dvGo_pos : ∀ (l : List Int) (d : Int), 0 < d → within l 1 2000 = true → ∀ i, i < l.length → 0 < (dvGo d l).getD i 0
  | [], _, _, _, i, h => by simp at h
  | t :: l, d, hd, hw, i, h => by
    simp only [within, List.all_cons, Bool.and_eq_true, inRange, decide_eq_true_eq] at hw
    have hg := (gcdW_le hd (show 0 < t by omega)).1
    cases i with
    | zero => simpa [dvGo] using hg
    | succ i =>
      have := dvGo_pos l (gcdW d t) hg (by simpa [within, inRange] using hw.2) i (by simpa using h)
      simpa [dvGo] using this
theorem cond_and' (a b : Bool) : (bif a then b else false) = (a && b) := by cases a <;> rfl
theorem isBr_facts {xs : List Int} (h : isBr xs = true) : ∃ t l, xs = t :: l ∧ 1 ≤ t ∧ t ≤ 64 ∧ within xs 1 2000 = true ∧ (∀ i, i < xs.length → 0 < (dv xs).getD i 0) := by
  simp only [isBr, cond_and', Bool.and_eq_true] at h
  obtain ⟨⟨⟨⟨h1, h2⟩, h3⟩, h4⟩, h5⟩ := h
  cases xs with
  | nil => simp at h1
  | cons t l =>
    simp only [List.getD_cons_zero, inRange, Bool.and_eq_true, decide_eq_true_eq] at h2
    refine ⟨t, l, rfl, h2.1, h2.2, h4, fun i hi => ?_⟩
    have e2 : dv (t :: l) = t :: dvGo t l := by simp only [dv, dvGo]; rw [gcdW_zero (by omega)]
    rw [e2]
    cases i with
    | zero => simp only [List.getD_cons_zero]; omega
    | succ i =>
      have hw : within l 1 2000 = true := by
        simp only [within, List.all_cons, Bool.and_eq_true] at h4
        exact h4.2
      simpa using dvGo_pos l t (by omega) hw i (by simpa using hi)
def sr (xs : List Int) (i : Int) : List Int × Int :=
  bif !isBr xs then ([], 1) else bif !inRange i 1 (IntKind.wrap .i64 ((xs.length : Int) - 1)) then ([], 2) else (cut xs (IntKind.wrap .i64 (i - 1)), 0)
theorem sr_q {xs : List Int} {i : Int} (hlen : xs.length ≤ 2147483647) (h1 : isBr xs = true) (h2 : inRange i 1 (IntKind.wrap .i64 ((xs.length : Int) - 1)) = true) : q_cut (I xs) (IntKind.wrap .i64 (i - 1)) := by
  obtain ⟨t, l, hx, t1, t2, hw, hd⟩ := isBr_facts h1
  have hn : xs.length = l.length + 1 := by rw [hx]; rfl
  rw [wrap_id (n := (xs.length : Int) - 1) (by omega) (by omega)] at h2
  simp only [inRange, Bool.and_eq_true, decide_eq_true_eq] at h2
  rw [wrap_id (n := i - 1) (by omega) (by omega)]
  refine ⟨⟨t, l, by rw [hx], by omega, by omega⟩, by omega, by rw [I_length]; omega, ?_⟩
  rw [unI_I]
  have := hd (i - 1).toNat (by omega)
  omega
def f0_sr (es : List V) (i : Int) : List V := I (sr (unI es) i).1
def f1_sr (es : List V) (i : Int) : Int := (sr (unI es) i).2
def c_SemirootOf (f0 : List V → Int → List V) (f1 : List V → Int → Int) (q : List V → Prop) : Contract := fun
  | [.agg [.slc false 2 (.int .i64 0) a0], .int .i64 a1] => some ([q a0], .tup [.agg [.slc true 2 (.int .i64 0) (f0 a0 a1)], .int .i64 (f1 a0 a1)])
  | _ => none
end Go.Ax
