/-
  Functions of branches: divisors, ascending lists, what a branch is, its cuts. No conditions but those of the contracts.
-/
import Derived.Test.YtpcjjklkiejeaaaFb
set_option linter.all false
namespace Go.Ax
open Go.Proofs

theorem drop_two {xs : List Int} {i : Nat} (h : i + 1 < xs.length) : xs.drop i = xs.getD i 0 :: xs.getD (i + 1) 0 :: xs.drop (i + 2) := by
  rw [drop_cons 0 (by omega), drop_cons 0 h]
theorem noown_one (n : Int) : V.owneds [V.int .i64 n] = false := rfl
theorem solid1 {v : V} (h : v.solid = true) : ∀ x ∈ [v], x.solid = true := by
  intro x hx
  simp at hx
  subst hx
  exact h
theorem solid_one (n : Int) : ∀ x ∈ [V.int .i64 n], x.solid = true := by
  intro x hx
  simp at hx
  subst hx
  rfl

/-! divisors -/
def dvGo (d : Int) : List Int → List Int
  | [] => []
  | t :: l => gcdW d t :: dvGo (gcdW d t) l
def dv (xs : List Int) : List Int := dvGo 0 xs
theorem dvGo_len : ∀ (l : List Int) (d : Int), (dvGo d l).length = l.length
  | [], _ => rfl
  | _ :: l, _ => by simp [dvGo, dvGo_len l]
def c_l_l (f0 : List V → List V) (q : List V → Prop) : Contract := fun
  | [.slc false 2 (.int .i64 0) a0] => some ([q a0], .slc true 2 (.int .i64 0) (f0 a0))
  | _ => none
def c_b_l (f0 : List V → List V) (q : List V → Prop) : Contract := fun
  | [.agg [.slc false 2 (.int .i64 0) a0]] => some ([q a0], .slc true 2 (.int .i64 0) (f0 a0))
  | _ => none
def f0_dv (es : List V) : List V := I (dv (unI es))

theorem gcdW_zero {t : Int} (h : 0 < t) : gcdW 0 t = t := by
  have e1 : absW 0 = 0 := rfl
  have e2 : absW t = t := by
    have : decide (t < 0) = false := by simp; omega
    rw [absW, this]
    rfl
  rw [gcdW, e1, e2, gcdGo_pos h, Int.zero_tmod, gcdGo_neg (by omega)]
/-- numbers, not too many, the first one above 0 -/
def IsP (es : List V) : Prop := ∃ (t : Int) (l : List Int), es = I (t :: l) ∧ 0 < t ∧ l.length < 2147483647
/-! ascending lists -/
def asc : List Int → Bool
  | a :: b :: l => bif decide (b ≤ a) then false else asc (b :: l)
  | _ => true
def c_l_bool (f0 : List V → Bool) (q : List V → Prop) : Contract := fun
  | [.slc false 2 (.int .i64 0) a0] => some ([q a0], .bool (f0 a0))
  | _ => none
def f0_asc (es : List V) : Bool := asc (unI es)
/-! greatest divisors as such -/
theorem gcdGo_eq : ∀ (n : Nat) (a b : Int), b.toNat ≤ n → 0 ≤ a → 0 ≤ b → gcdGo a b = (Nat.gcd a.toNat b.toNat : Int)
  | 0, a, b, hn, ha, hb => by
    obtain rfl : b = 0 := by omega
    rw [gcdGo_neg (by omega)]
    simp
    omega
  | n + 1, a, b, hn, ha, hb => by
    by_cases h : 0 < b
    · have h1 : (a.tmod b) = ((a.toNat % b.toNat : Nat) : Int) := by
        obtain ⟨x, rfl⟩ := Int.eq_ofNat_of_zero_le ha
        obtain ⟨y, rfl⟩ := Int.eq_ofNat_of_zero_le hb
        rw [Int.tmod_eq_emod_of_nonneg (Int.natCast_nonneg x)]
        simp
      have h2 : a.toNat % b.toNat < b.toNat := Nat.mod_lt _ (by omega)
      rw [gcdGo_pos h, gcdGo_eq n b (a.tmod b) (by rw [h1, Int.toNat_natCast]; omega) hb (by rw [h1]; exact Int.natCast_nonneg _), h1]
      simp only [Int.toNat_natCast]
      rw [Nat.gcd_comm a.toNat b.toNat, Nat.gcd_rec b.toNat a.toNat, Nat.gcd_comm]
    · obtain rfl : b = 0 := by omega
      rw [gcdGo_neg (by omega)]
      simp
      omega
theorem absW_pos {t : Int} (h : 0 < t) : absW t = t := by
  have : decide (t < 0) = false := by simp; omega
  rw [absW, this]
  rfl
theorem gcdW_le {a b : Int} (ha : 0 < a) (hb : 0 < b) : 0 < gcdW a b ∧ gcdW a b ≤ a ∧ gcdW a b ≤ b := by
  rw [gcdW, absW_pos ha, absW_pos hb, gcdGo_eq b.toNat a b (Nat.le_refl _) (by omega) (by omega)]
  have h1 := Nat.gcd_pos_of_pos_left b.toNat (show 0 < a.toNat by omega)
  have h2 := Nat.le_of_dvd (show 0 < a.toNat by omega) (Nat.gcd_dvd_left a.toNat b.toNat)
  have h3 := Nat.le_of_dvd (show 0 < b.toNat by omega) (Nat.gcd_dvd_right a.toNat b.toNat)
  omega

/-! what falls, and ends in 1 -/
def dec : List Int → Bool
  | a :: b :: l => bif decide (a ≤ b) then false else dec (b :: l)
  | [a] => a == 1
  | [] => false
def f0_falls (es : List V) : Bool := dec (dv (unI es))
def q_falls (es : List V) : Prop := IsIs es ∧ es ≠ []
end Go.Ax
