/-
  Lists that are built in order; divisors of branches, ratios, generators; polar invariants. No conditions but those of the contracts.
-/
import Derived.Test.YtpcjjklkiejeaaaFh
set_option linter.all false
namespace Go.Ax
open Go.Proofs

/-! lists that are built in order -/
def tab' {α : Type} (f : Nat → α) (n : Nat) : List α := (List.range n).map f
theorem tab_len {α : Type} (f : Nat → α) (n : Nat) : (tab' f n).length = n := by simp [tab']
theorem tab_succ {α : Type} (f : Nat → α) (n : Nat) : tab' f (n + 1) = tab' f n ++ [f n] := by simp [tab', List.range_succ]
theorem tab_get {α : Type} (f : Nat → α) (n i : Nat) (d : α) (h : i < n) : (tab' f n).getD i d = f i := by
  simp [tab', List.getD_eq_getElem?_getD, List.getElem?_map, List.getElem?_range h]
theorem tab_get? {α : Type} (f : Nat → α) (n i : Nat) (h : i < n) : (tab' f n)[i]? = some (f i) := by
  simp [tab', List.getElem?_range h]
theorem tab_congr {α : Type} {f g : Nat → α} {n : Nat} (h : ∀ i, i < n → f i = g i) : tab' f n = tab' g n := by
  simp only [tab']
  apply List.map_congr_left
  intro i hi
  exact h i (by simpa using hi)
theorem tab_zero {α : Type} (f : Nat → α) : tab' f 0 = [] := rfl
theorem take_tab {α : Type} (f : Nat → α) (n k : Nat) (h : k ≤ n) : (tab' f n).take k = tab' f k := by
  simp only [tab', ← List.map_take, List.take_range, Nat.min_eq_left h]
theorem list_tab {α : Type} (l : List α) (d : α) : l = tab' (fun i => l.getD i d) l.length := by
  apply List.ext_getElem?
  intro i
  by_cases h : i < l.length
  · rw [tab_get? _ _ _ h, List.getElem?_eq_getElem h, List.getD_eq_getElem?_getD, List.getElem?_eq_getElem h]
    rfl
  · rw [List.getElem?_eq_none (by omega), List.getElem?_eq_none (by rw [tab_len]; omega)]

/-! what a branch is -/
abbrev W (n : Int) : Int := IntKind.wrap .i64 n
theorem dvGo_div : ∀ (l : List Int) (d : Int), 0 < d → within l 1 2000 = true → ∀ i, i < l.length → (dvGo d l).getD i 0 ∣ d
  | [], _, _, _, i, h => by simp at h
  | t :: l, d, hd, hw, i, h => by
    simp only [within, List.all_cons, Bool.and_eq_true, inRange, decide_eq_true_eq] at hw
    have hg := (gcdW_le hd (show 0 < t by omega)).1
    have hdv : gcdW d t ∣ d := by
      rw [gcdW, absW_pos hd, absW_pos (by omega), gcdGo_eq _ d t (Nat.le_refl _) (by omega) (by omega)]
      have := Nat.gcd_dvd_left d.toNat t.toNat
      have h2 := Int.natCast_dvd_natCast.2 this
      rwa [Int.toNat_of_nonneg (by omega)] at h2
    cases i with
    | zero => simpa [dvGo] using hdv
    | succ i =>
      have := dvGo_div l (gcdW d t) hg (by simpa [within, inRange] using hw.2) i (by simpa using h)
      simp only [dvGo, List.getD_cons_succ]
      exact Int.dvd_trans this hdv
theorem dec_step : ∀ (l : List Int), dec l = true → ∀ i, i + 1 < l.length → l.getD (i + 1) 0 < l.getD i 0
  | [], h, _, _ => by simp [dec] at h
  | [a], _, i, hi => by simp at hi
  | a :: b :: l, h, i, hi => by
    simp only [dec] at h
    cases hab : decide (a ≤ b) with
    | true => rw [hab] at h; simp at h
    | false =>
      rw [hab] at h
      simp only [decide_eq_false_iff_not] at hab
      cases i with
      | zero => simp; omega
      | succ i => simpa using dec_step (b :: l) h i (by simpa using hi)
theorem dec_last : ∀ (l : List Int), dec l = true → l ≠ [] ∧ l.getD (l.length - 1) 0 = 1
  | [], h => by simp [dec] at h
  | [a], h => by simpa [dec] using h
  | a :: b :: l, h => by
    simp only [dec] at h
    cases hab : decide (a ≤ b) with
    | true => rw [hab] at h; simp at h
    | false =>
      rw [hab] at h
      refine ⟨by simp, ?_⟩
      have := (dec_last (b :: l) h).2
      simpa using this
theorem asc_step : ∀ (l : List Int), asc l = true → ∀ i, i + 1 < l.length → l.getD i 0 < l.getD (i + 1) 0
  | [], _, _, hi => by simp at hi
  | [a], _, i, hi => by simp at hi
  | a :: b :: l, h, i, hi => by
    simp only [asc] at h
    cases hab : decide (b ≤ a) with
    | true => rw [hab] at h; simp at h
    | false =>
      rw [hab] at h
      simp only [decide_eq_false_iff_not] at hab
      cases i with
      | zero => simp; omega
      | succ i => simpa using asc_step (b :: l) h i (by simpa using hi)

/-- what is known of a branch -/
structure Br (xs : List Int) : Prop where
  is : isBr xs = true
  pos : 0 < xs.length
  len : xs.length ≤ 64
  low : ∀ i, i < xs.length → 1 ≤ xs.getD i 0
  high : ∀ i, i < xs.length → xs.getD i 0 ≤ 2000
  up : ∀ i, i + 1 < xs.length → xs.getD i 0 < xs.getD (i + 1) 0
  first : xs.getD 0 0 ≤ 64
  dlen : (dv xs).length = xs.length
  d0 : (dv xs).getD 0 0 = xs.getD 0 0
  dpos : ∀ i, i < xs.length → 1 ≤ (dv xs).getD i 0
  dhi : ∀ i, i < xs.length → (dv xs).getD i 0 ≤ 64
  dstep : ∀ i, i + 1 < xs.length → (dv xs).getD (i + 1) 0 < (dv xs).getD i 0
  dlast : (dv xs).getD (xs.length - 1) 0 = 1
theorem br_of {xs : List Int} (h : isBr xs = true) : Br xs := by
  obtain ⟨t, l, hx, h1, h2, hw, hd⟩ := isBr_facts h
  have h' := h
  simp only [isBr, cond_and', Bool.and_eq_true] at h'
  obtain ⟨⟨⟨⟨_, _⟩, ha⟩, _⟩, hdec⟩ := h'
  have hdl : (dv xs).length = xs.length := by rw [dv, dvGo_len]
  have hpos : 0 < xs.length := by rw [hx]; simp
  have hall : ∀ i, i < xs.length → 1 ≤ xs.getD i 0 ∧ xs.getD i 0 ≤ 2000 := by
    intro i hi
    simp only [within, List.all_eq_true, inRange, Bool.and_eq_true, decide_eq_true_eq] at hw
    rw [List.getD_eq_getElem?_getD, List.getElem?_eq_getElem hi]
    exact hw _ (List.getElem_mem hi)
  have hd0 : (dv xs).getD 0 0 = xs.getD 0 0 := by rw [hx]; simp [dv, dvGo, gcdW_zero (show 0 < t by omega)]
  have hst : ∀ i, i + 1 < xs.length → (dv xs).getD (i + 1) 0 < (dv xs).getD i 0 := fun i hi => dec_step _ hdec i (by omega)
  have hx0 : xs.getD 0 0 = t := by rw [hx]; rfl
  have hhi : ∀ i : Nat, i < xs.length → (dv xs).getD i 0 ≤ 64 - i := by
    intro i
    induction i with
    | zero => intro _; rw [hd0, hx0]; omega
    | succ i ih =>
      intro hi
      have := ih (by omega)
      have := hst i hi
      omega
  have hlast := (dec_last _ hdec).2
  rw [hdl] at hlast
  refine ⟨h, hpos, ?_, fun i hi => (hall i hi).1, fun i hi => (hall i hi).2, fun i hi => asc_step _ ha i hi, by rw [hx0]; omega, hdl, hd0, fun i hi => hd i hi, fun i hi => by have := hhi i hi; omega, hst, hlast⟩
  have := hhi (xs.length - 1) (by omega)
  rw [hlast] at this
  omega
/-- the terms of a branch -/
def IsBr (es : List V) : Prop := ∃ xs, es = I xs ∧ Br xs
theorem IsBr.isP {es : List V} (h : IsBr es) : IsP es := by
  obtain ⟨xs, rfl, hb⟩ := h
  obtain ⟨t, l, rfl, h1, _⟩ := isBr_facts hb.is
  exact ⟨t, l, rfl, by omega, by have := hb.len; simp at this; omega⟩
theorem IsBr.isIs {es : List V} (h : IsBr es) : IsIs es := h.isP.isIs

/-! ratios -/
def c_B_l (f : List V → List V) (q : List V → Prop) : Contract := fun
  | [.agg [.slc false 2 (.int .i64 0) a0]] => some ([q a0], .slc true 2 (.int .i64 0) (f a0))
  | _ => none
def rat (xs : List Int) (i : Nat) : Int := W (((dv xs).getD i 0).tdiv ((dv xs).getD (i + 1) 0))
def ratF (xs : List Int) : Nat → Int
  | 0 => 0
  | i + 1 => rat xs i
def ratios (xs : List Int) : List Int := tab' (ratF xs) xs.length
def f_ratios (a : List V) : List V := I (ratios (unI a))
/-! generators -/
def genF (xs : List Int) : Nat → Int
  | 0 => xs.getD 0 0
  | 1 => xs.getD 1 0
  | i + 2 => W (W (W (rat xs i * genF xs (i + 1)) + xs.getD (i + 2) 0) - xs.getD (i + 1) 0)
def gens (xs : List Int) : List Int := tab' (genF xs) xs.length
def f_gens (a : List V) : List V := I (gens (unI a))
end Go.Ax
