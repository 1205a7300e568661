/-
  Strict transforms of branches, in plain Lean. No conditions but those of the theorems.
-/
import Derived.Test.YtpbkkbjgmlfloaaFrp
set_option linter.all false
namespace Go.Ax
open Go.Proofs

def Val : Nat → Nat → List Nat → Prop
  | _, e, [] => e = 1
  | p, e, t :: l => p < t ∧ t ≤ 2000 ∧ Nat.gcd e t ≠ e ∧ Val t (Nat.gcd e t) l
def chN : Nat → Nat → List Nat → List Nat
  | _, _, [] => []
  | p, e, t :: l => ex (t - p) e ++ chN t (Nat.gcd e t) l
theorem Val.weak {p p' e : Nat} {l : List Nat} (h : Val p e l) (hp : p' ≤ p) : Val p' e l := by
  cases l with
  | nil => exact h
  | cons t l => exact ⟨by have := h.1; omega, h.2⟩
theorem gcd_shift {e t s : Nat} (he : e ∣ s) (hs : s ≤ t) : Nat.gcd e (t - s) = Nat.gcd e t := by
  obtain ⟨k, rfl⟩ := he
  have h : t = (t - e * k) + k * e := by rw [Nat.mul_comm k e]; omega
  conv => rhs; rw [h]
  rw [Nat.gcd_add_mul_right_right]
theorem Val.shift : ∀ (l : List Nat) {p e s : Nat}, e ∣ s → s ≤ p → Val p e l → Val (p - s) e (l.map (· - s)) ∧ chN (p - s) e (l.map (· - s)) = chN p e l
  | [], p, e, s, _, _, h => ⟨h, rfl⟩
  | t :: l, p, e, s, he, hs, h => by
    obtain ⟨h1, h2, h3, h4⟩ := h
    have hg := gcd_shift (t := t) he (by omega)
    obtain ⟨i1, i2⟩ := Val.shift l (s := s) (Nat.dvd_trans (Nat.gcd_dvd_left e t) he) (by omega) h4
    have c1 : p - s < t - s := by omega
    have c2 : t - s ≤ 2000 := by omega
    refine ⟨⟨c1, c2, by rw [hg]; exact h3, by rw [hg]; exact i1⟩, ?_⟩
    simp only [List.map_cons, chN]
    rw [hg, i2, show t - s - (p - s) = t - p by omega]
def strN (n : Nat) : List Nat → List Nat
  | [] => [1]
  | t :: l => if 2 * n ≤ t then n :: (t - n) :: l.map (· - n) else if n % (t - n) = 0 then (t - n) :: l.map (· - (t - n)) else (t - n) :: n :: l.map (· - (t - n))
structure BrN (n : Nat) (l : List Nat) : Prop where
  lo : 1 ≤ n
  hi : n ≤ 64
  val : Val n n l
theorem str_ok {n : Nat} {l : List Nat} (h : BrN n l) : ∃ n' l', strN n l = n' :: l' ∧ BrN n' l' ∧ ∃ m, (if l = [] then [1] else (chN 0 n l ++ [1]).drop 1) = chN 0 n' l' ++ List.replicate m 1 := by
  cases l with
  | nil => exact ⟨1, [], rfl, ⟨by omega, by omega, rfl⟩, 1, rfl⟩
  | cons t l =>
    obtain ⟨h1, h2, h3, h4, h5⟩ : 1 ≤ n ∧ n ≤ 64 ∧ n < t ∧ t ≤ 2000 ∧ (Nat.gcd n t ≠ n ∧ Val t (Nat.gcd n t) l) := ⟨h.lo, h.hi, h.val.1, h.val.2.1, h.val.2.2⟩
    obtain ⟨h5, h6⟩ := h5
    have hgn := Nat.gcd_dvd_left n t
    have hgt := Nat.gcd_dvd_right n t
    rw [if_neg (by simp), strN]
    by_cases hc : 2 * n ≤ t
    · rw [if_pos hc]
      have hne : t ≠ 2 * n := by
        rintro rfl
        exact h5 (Nat.gcd_eq_left (Nat.dvd_mul_left n 2))
      have hg := gcd_shift (e := n) (t := t) (s := n) (Nat.dvd_refl n) (by omega)
      obtain ⟨i1, i2⟩ := Val.shift l hgn (by omega) h6
      refine ⟨n, _, rfl, ⟨h1, h2, by omega, by omega, by rw [hg]; exact h5, by rw [hg]; exact i1⟩, 1, ?_⟩
      simp only [chN, Nat.sub_zero]
      rw [hg, i2]
      have e1 : ex t n = n :: ex (t - n) n := by
        have h7 : t / n = (t - n) / n + 1 := by
          conv => lhs; rw [show t = t - n + n by omega]
          rw [Nat.add_div_right _ (by omega)]
        have h8 : t % n = (t - n) % n := by
          conv => lhs; rw [show t = t - n + n by omega]
          rw [Nat.add_mod_right]
        rw [ex_pos (by omega), ex_pos (show 0 < n by omega), h7, h8, List.replicate_succ, List.cons_append]
      rw [e1]
      rfl
    · rw [if_neg hc]
      obtain ⟨r, hr⟩ : ∃ r, r = t - n := ⟨_, rfl⟩
      rw [← hr]
      have hr1 : 1 ≤ r := by omega
      have hrn : r < n := by
        rcases Nat.lt_or_ge r n with h7 | h7
        · exact h7
        · omega
      have htn : t / n = 1 := by
        rw [show t = n * 1 + r by omega, Nat.mul_add_div (by omega), Nat.div_eq_of_lt hrn]
      have htm : t % n = r := by
        rw [show t = n * 1 + r by omega, Nat.mul_add_mod, Nat.mod_eq_of_lt hrn]
      have hgr : Nat.gcd n t = Nat.gcd r n := by
        rw [Nat.gcd_comm r n, hr, gcd_shift (Nat.dvd_refl n) (by omega)]
      have hgd : Nat.gcd n t ∣ r := by rw [hgr]; exact Nat.gcd_dvd_left r n
      obtain ⟨i1, i2⟩ := Val.shift l hgd (by omega) h6
      rw [show t - r = n by omega] at i1 i2
      have e1 : ex t n = n :: ex n r := by
        rw [ex_pos (by omega), htn, htm]; rfl
      by_cases hd : n % r = 0
      · rw [if_pos hd]
        have hgr2 : Nat.gcd n t = r := by rw [hgr]; exact Nat.gcd_eq_left (Nat.dvd_of_mod_eq_zero hd)
        rw [hgr2] at i1 i2 h6
        have e2 : ex n r = List.replicate (n / r) r := by
          rw [ex_pos (by omega), hd, ex_zero, List.append_nil]
        refine ⟨r, _, rfl, ⟨hr1, by omega, i1.weak (by omega)⟩, ?_⟩
        simp only [chN, Nat.sub_zero]
        rw [e1, e2, hgr2]
        cases l with
        | nil =>
          have h7 : r = 1 := h6
          subst h7
          exact ⟨n + 1, by simp [chN, List.replicate_succ']⟩
        | cons u l =>
          refine ⟨1, ?_⟩
          have hu := h6.1
          have hg := gcd_shift (e := r) (t := u) (s := r) (Nat.dvd_refl r) (by omega)
          have i3 : chN (u - r) (Nat.gcd r u) (l.map (· - r)) = chN u (Nat.gcd r u) l := (Val.shift l (Nat.gcd_dvd_left r u) (by omega) h6.2.2.2).2
          simp only [List.map_cons, chN, Nat.sub_zero]
          rw [hg, i3]
          have e3 : ex (u - r) r = List.replicate (n / r) r ++ ex (u - t) r := by
            obtain ⟨c, hc⟩ := Nat.dvd_of_mod_eq_zero hd
            have h7 : u - r = (u - t) + r * c := by omega
            rw [ex_pos (by omega), ex_pos (show 0 < r by omega) (a := u - t), h7, Nat.add_mul_div_left _ _ (by omega), Nat.add_mul_mod_self_left, hc, Nat.mul_div_cancel_left _ (by omega), Nat.add_comm, ← List.replicate_append_replicate, List.append_assoc]
          rw [e3]
          simp
      · rw [if_neg hd]
        refine ⟨r, _, rfl, ⟨hr1, by omega, hrn, by omega, ?_, ?_⟩, 1, ?_⟩
        · intro h7
          exact hd (Nat.mod_eq_zero_of_dvd (by rw [← h7]; exact Nat.gcd_dvd_right r n))
        · rw [← hgr]; exact i1
        · simp only [chN, Nat.sub_zero]
          rw [← hgr, i2, e1]
          rfl
theorem ex_form {k e : Nat} (he : 0 < e) (hd : ¬ e ∣ k) : ∃ x, ex k e = List.replicate (k / e) e ++ (k % e) :: x ∧ 0 < k % e ∧ k % e < e := by
  have h1 : 0 < k % e := Nat.pos_of_ne_zero fun h => hd (Nat.dvd_of_mod_eq_zero h)
  have h2 : k % e < e := Nat.mod_lt _ he
  have h3 : 0 < e / (k % e) := Nat.div_pos (by omega) h1
  refine ⟨List.replicate (e / (k % e) - 1) (k % e) ++ ex (k % e) (e % (k % e)), ?_, h1, h2⟩
  rw [ex_pos he, ex_pos h1]
  conv => lhs; rw [show e / (k % e) = (e / (k % e) - 1) + 1 by omega]
  rw [List.replicate_succ, List.cons_append]
theorem not_dvd_of {p e t : Nat} (hp : e ∣ p) (h : p < t) (hg : Nat.gcd e t ≠ e) : ¬ e ∣ (t - p) := fun h2 => by
  refine hg (Nat.gcd_eq_left ?_)
  have := Nat.dvd_add h2 hp
  rwa [show t - p + p = t by omega] at this
def leadN (e : Nat) : List Nat → Nat
  | [] => 0
  | x :: l => if x = e then leadN e l + 1 else 0
theorem lead_rep {e r : Nat} (h : r ≠ e) (x : List Nat) : ∀ q, leadN e (List.replicate q e ++ r :: x) = q
  | 0 => by simp [leadN, h]
  | q + 1 => by rw [List.replicate_succ, List.cons_append, leadN, if_pos rfl, lead_rep h x q]
def parN : Nat → Nat → Nat → List Nat → List Nat
  | 0, _, _, _ => []
  | k + 1, p, e, L => if e ≤ 1 then [] else
      (p + (leadN e L * e + L.getD (leadN e L) 0)) :: parN k (p + (leadN e L * e + L.getD (leadN e L) 0)) (Nat.gcd e (p + (leadN e L * e + L.getD (leadN e L) 0))) (L.drop (ex (leadN e L * e + L.getD (leadN e L) 0) e).length)
theorem par_eq : ∀ (l : List Nat) (p e : Nat), 0 < e → e ∣ p → Val p e l → ∀ (m k : Nat), l.length < k → parN k p e (chN p e l ++ List.replicate m 1) = l
  | [], p, e, _, _, h, m, 0, hk => by simp at hk
  | [], p, e, _, _, h, m, k + 1, _ => by
    have h1 : e = 1 := h
    rw [parN, if_pos (by omega)]
  | t :: l, p, e, he, hp, h, m, 0, hk => by simp at hk
  | t :: l, p, e, he, hp, h, m, k + 1, hk => by
    obtain ⟨h1, h2, h3, h4⟩ := h
    have he2 : ¬ e ≤ 1 := fun h5 => h3 (by
      have : e = 1 := by omega
      subst this
      exact Nat.gcd_one_left t)
    obtain ⟨x, hx, hr0, hr1⟩ := ex_form he (not_dvd_of hp h1 h3)
    obtain ⟨X, hX⟩ : ∃ X, X = chN t (Nat.gcd e t) l ++ List.replicate m 1 := ⟨_, rfl⟩
    have hL : chN p e (t :: l) ++ List.replicate m 1 = ex (t - p) e ++ X := by rw [chN, List.append_assoc, hX]
    have hL2 : ex (t - p) e ++ X = List.replicate ((t - p) / e) e ++ ((t - p) % e) :: (x ++ X) := by rw [hx]; simp
    have hq : leadN e (ex (t - p) e ++ X) = (t - p) / e := by rw [hL2, lead_rep (by omega)]
    have hg : (ex (t - p) e ++ X).getD ((t - p) / e) 0 = (t - p) % e := by
      rw [hL2, List.getD_eq_getElem?_getD, List.getElem?_append_right (by rw [List.length_replicate]; exact Nat.le_refl _), List.length_replicate, Nat.sub_self]
      rfl
    have hk2 : (t - p) / e * e + (t - p) % e = t - p := by rw [Nat.mul_comm]; exact Nat.div_add_mod _ _
    rw [hL, parN, if_neg he2, hq, hg, hk2, show p + (t - p) = t by omega, List.drop_left, hX,
      par_eq l t (Nat.gcd e t) (Nat.gcd_pos_of_pos_left t he) (Nat.gcd_dvd_right e t) h4 m k (by simpa using hk)]
def natL (l : List Nat) : List Int := l.map fun x : Nat => (x : Int)
def intL (l : List Int) : List Nat := l.map Int.toNat
theorem int_nat (l : List Nat) : intL (natL l) = l := by
  rw [intL, natL, List.map_map]
  conv => rhs; rw [← List.map_id l]
  rfl
theorem natL_len (l : List Nat) : (natL l).length = l.length := by simp [natL]
theorem natL_append (a b : List Nat) : natL (a ++ b) = natL a ++ natL b := by simp [natL]
theorem natL_getD (l : List Nat) (i d : Nat) : (natL l).getD i (d : Int) = ((l.getD i d : Nat) : Int) := by
  simp only [natL, List.getD_eq_getElem?_getD, List.getElem?_map]
  cases l[i]? <;> rfl
def SeqB (n : Nat) (l : List Nat) (L : List Int) : Prop := BrN n l ∧ L ≠ [] ∧ ∃ m, L = natL (chN 0 n l ++ List.replicate m 1)
def bosI (L : List Int) : List Int := natL ((intL L).getD 0 0 :: parN 3000 0 ((intL L).getD 0 0) (intL L))
theorem val_len : ∀ (l : List Nat) (p e : Nat), Val p e l → p ≤ 2000 → l.length + p ≤ 2000
  | [], p, e, _, hp => by simpa using hp
  | t :: l, p, e, h, _ => by
    have := val_len l t _ h.2.2.2 h.2.1
    have := h.1
    simp only [List.length_cons]
    omega
theorem bosI_eq {n : Nat} {l : List Nat} {L : List Int} (h : SeqB n l L) : bosI L = natL (n :: l) := by
  obtain ⟨hb, hne, m, rfl⟩ := h
  have hlo := hb.lo
  have hhi := hb.hi
  have h0 : (chN 0 n l ++ List.replicate m 1).getD 0 0 = n := by
    cases l with
    | nil =>
      have h1 : n = 1 := hb.val
      subst h1
      cases m with
      | zero => simp [chN, natL] at hne
      | succ m => rfl
    | cons t l =>
      have h1 := hb.val.1
      have h2 : 0 < t / n := Nat.div_pos (by omega) (by omega)
      rw [chN, ex_pos (by omega), Nat.sub_zero, show t / n = (t / n - 1) + 1 by omega, List.replicate_succ]
      rfl
  rw [bosI, int_nat, h0, par_eq l 0 n (by omega) ⟨0, rfl⟩ (hb.val.weak (by omega)) m 3000 (by have := val_len l n n hb.val (by omega); omega)]
end Go.Ax
