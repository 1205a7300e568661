/-
  Clusters of curves in plain Lean: points, places, leaving points. No conditions but those of the theorems.
-/
import Derived.Test.YtkidnnlplpocdaaGc
set_option linter.all false
namespace Go.Ax
open Go.Proofs

/-- the first branch before i that has the point j in common with the branch i -/
def nmK (ms : List (List Int)) (i j : Nat) : Option Nat := (List.range i).find? fun k => decide ((j : Int) < mm ms i k)
theorem nmK_some {ms : List (List Int)} {i j k : Nat} (h : nmK ms i j = some k) : k < i ∧ (j : Int) < mm ms i k := by
  rw [nmK, List.find?_range_eq_some] at h
  exact ⟨by simpa using h.2.1, by simpa using h.1⟩
theorem nmK_none {ms : List (List Int)} {i j : Nat} (h : nmK ms i j = none) : ∀ k, k < i → ¬ (j : Int) < mm ms i k := by
  rw [nmK, List.find?_eq_none] at h
  intro k hk
  simpa using h k (by simpa using hk)
theorem nmK_of {ms : List (List Int)} {i j k : Nat} (hk : k < i) (hb : ∀ t, t < k → ¬ (j : Int) < mm ms i t) (hd : (j : Int) < mm ms i k) : nmK ms i j = some k := by
  rw [nmK, List.find?_range_eq_some]
  refine ⟨by simpa using hd, by simpa using hk, fun t ht => ?_⟩
  simpa using hb t ht
theorem nmK_of_none {ms : List (List Int)} {i j : Nat} (hb : ∀ t, t < i → ¬ (j : Int) < mm ms i t) : nmK ms i j = none := by
  rw [nmK, List.find?_eq_none]
  intro t ht
  simpa using hb t (by simpa using ht)
/-- points: parents, seconds, weights, the places of the branch so far -/
structure PSt where
  P : List Int
  S : List Int
  Q : List Int
  own : List Int
def secJ (xs own : List Int) (j : Nat) : Int := if 0 < j ∧ cd (mul xs) j j ≠ 0 then own.getD ((j : Int) - cd (mul xs) j j).toNat 0 else -1
def parJ (own : List Int) (j : Nat) : Int := if 0 < j then own.getD (j - 1) 0 else -1
def stJ (xs : List Int) (ms names : List (List Int)) (i : Nat) (s : PSt) (j : Nat) : PSt :=
  match nmK ms i j with
  | some k => ⟨s.P, s.S, s.Q.set ((names.getD k []).getD j 0).toNat (W (s.Q.getD ((names.getD k []).getD j 0).toNat 0 + mul xs j)), s.own ++ [(names.getD k []).getD j 0]⟩
  | none => ⟨s.P ++ [parJ s.own j], s.S ++ [secJ xs s.own j], s.Q ++ [(mul xs j : Int)], s.own ++ [(s.P.length : Int)]⟩
def rowS (xs : List Int) (ms names : List (List Int)) (i : Nat) (s : PSt) : Nat → PSt
  | 0 => ⟨s.P, s.S, s.Q, []⟩
  | j + 1 => stJ xs ms names i (rowS xs ms names i s j) j
def lenN (bs ms : List (List Int)) (i : Nat) : Nat := (lenAt bs ms i).toNat
def clS (bs ms : List (List Int)) : Nat → PSt × List (List Int)
  | 0 => (⟨[], [], [], []⟩, [])
  | i + 1 => (rowS (bs.getD i []) ms (clS bs ms i).2 i (clS bs ms i).1 (lenN bs ms i), (clS bs ms i).2 ++ [(rowS (bs.getD i []) ms (clS bs ms i).2 i (clS bs ms i).1 (lenN bs ms i)).own])
/-! what holds -/
structure ClOk (bs ms : List (List Int)) (i : Nat) (s : PSt) (names : List (List Int)) : Prop where
  sl : s.S.length = s.P.length
  ql : s.Q.length = s.P.length
  nl : names.length = i
  rl : ∀ k, k < i → (names.getD k []).length = lenN bs ms k
  rin : ∀ (k j : Nat), k < i → j < lenN bs ms k → 0 ≤ (names.getD k []).getD j 0 ∧ (names.getD k []).getD j 0 < s.P.length
  cmp : ∀ (k k' j : Nat), k < i → k' < i → k ≠ k' → (j : Int) < mm ms k k' → (names.getD k []).getD j 0 = (names.getD k' []).getD j 0
structure OwnOk (ms names : List (List Int)) (i : Nat) (s : PSt) (j : Nat) : Prop where
  ol : s.own.length = j
  oin : ∀ t, t < j → 0 ≤ s.own.getD t 0 ∧ s.own.getD t 0 < s.P.length
  ocmp : ∀ (k t : Nat), k < i → t < j → (t : Int) < mm ms i k → s.own.getD t 0 = (names.getD k []).getD t 0
theorem mm_len {bs ms : List (List Int)} (h : CvP bs ms) {i k : Nat} (hi : i < bs.length) (hk : k < bs.length) : (mm ms i k).toNat ≤ lenN bs ms i := by
  have hr := (h.tab.row i hi).1
  have hne : ms.getD i [] ≠ [] := fun e => by rw [e] at hr; simp at hr; omega
  have h1 := (maxL_spec hne).1 (mm ms i k) (by
    rw [mm, List.getD_eq_getElem?_getD (l := ms.getD i []), List.getElem?_eq_getElem (by omega)]
    exact List.getElem_mem _)
  rw [lenN, lenAt]
  omega
theorem getD_snoc {l : List Int} {x : Int} {t : Nat} (h : t ≤ l.length) : (l ++ [x]).getD t 0 = if t = l.length then x else l.getD t 0 := by
  simp only [List.getD_eq_getElem?_getD]
  by_cases h1 : t = l.length
  · rw [if_pos h1, h1, List.getElem?_append_right (Nat.le_refl _)]; simp
  · rw [if_neg h1, List.getElem?_append_left (by omega)]
theorem stJ_ok {bs ms names : List (List Int)} (hc : CvP bs ms) {i j : Nat} (hi : i < bs.length) (hj : j < lenN bs ms i) {s : PSt} (hk : ClOk bs ms i s names) (ho : OwnOk ms names i s j) :
    ClOk bs ms i (stJ (bs.getD i []) ms names i s j) names ∧ OwnOk ms names i (stJ (bs.getD i []) ms names i s j) (j + 1) ∧ s.P.length ≤ (stJ (bs.getD i []) ms names i s j).P.length := by
  unfold stJ
  cases hn : nmK ms i j with
  | some k =>
    obtain ⟨h1, h2⟩ := nmK_some hn
    have hsym := hc.tab.sym i hi k (by omega)
    have hmk := mm_len hc (i := k) (k := i) (by omega) hi
    have hin := hk.rin k j h1 (by omega)
    refine ⟨⟨hk.sl, by simp [hk.ql], hk.nl, hk.rl, hk.rin, hk.cmp⟩, ⟨by simp [ho.ol], fun t ht => ?_, fun k' t hk' ht htm => ?_⟩, Nat.le_refl _⟩
    · rw [getD_snoc (by have := ho.ol; omega), ho.ol]
      split
      · exact hin
      · exact ho.oin t (by omega)
    · rw [getD_snoc (by have := ho.ol; omega), ho.ol]
      split
      · rename_i hte
        rw [hte] at htm ⊢
        by_cases hkk : k = k'
        · rw [hkk]
        · refine hk.cmp k k' j h1 hk' hkk ?_
          have hu := hc.ult k k' i (by omega) (by omega) hi hkk (by omega) (by omega)
          rw [hsym] at hu
          omega
      · exact ho.ocmp k' t hk' (by omega) htm
  | none =>
    have h1 := nmK_none hn
    refine ⟨⟨by simp [hk.sl], by simp [hk.ql], hk.nl, hk.rl, fun k t h2 h3 => ?_, hk.cmp⟩, ⟨by simp [ho.ol], fun t ht => ?_, fun k' t hk' ht htm => ?_⟩, by simp⟩
    · have := hk.rin k t h2 h3
      simp only [List.length_append, List.length_cons, List.length_nil]
      omega
    · rw [getD_snoc (by have := ho.ol; omega), ho.ol]
      simp only [List.length_append, List.length_cons, List.length_nil]
      split
      · omega
      · have := ho.oin t (by omega)
        omega
    · rw [getD_snoc (by have := ho.ol; omega), ho.ol]
      split
      · rename_i hte
        rw [hte] at htm
        exact absurd htm (h1 k' hk')
      · exact ho.ocmp k' t hk' (by omega) htm
theorem rowS_ok {bs ms names : List (List Int)} (hc : CvP bs ms) {i : Nat} (hi : i < bs.length) {s : PSt} (hk : ClOk bs ms i s names) : ∀ j, j ≤ lenN bs ms i →
    ClOk bs ms i (rowS (bs.getD i []) ms names i s j) names ∧ OwnOk ms names i (rowS (bs.getD i []) ms names i s j) j ∧ s.P.length ≤ (rowS (bs.getD i []) ms names i s j).P.length
  | 0, _ => ⟨⟨hk.sl, hk.ql, hk.nl, hk.rl, hk.rin, hk.cmp⟩, ⟨rfl, fun t ht => absurd ht (by omega), fun k t _ ht => absurd ht (by omega)⟩, Nat.le_refl _⟩
  | j + 1, hj => by
    obtain ⟨h1, h2, h3⟩ := rowS_ok hc hi hk j (by omega)
    obtain ⟨h4, h5, h6⟩ := stJ_ok hc hi (by omega) h1 h2
    exact ⟨h4, h5, by rw [rowS]; omega⟩
theorem getD_snocL {l : List (List Int)} {x : List Int} {t : Nat} (h : t ≤ l.length) : (l ++ [x]).getD t [] = if t = l.length then x else l.getD t [] := by
  simp only [List.getD_eq_getElem?_getD]
  by_cases h1 : t = l.length
  · rw [if_pos h1, h1, List.getElem?_append_right (Nat.le_refl _)]; simp
  · rw [if_neg h1, List.getElem?_append_left (by omega)]
theorem clS_ok {bs ms : List (List Int)} (hc : CvP bs ms) : ∀ i, i ≤ bs.length → ClOk bs ms i (clS bs ms i).1 (clS bs ms i).2
  | 0, _ => ⟨rfl, rfl, rfl, fun k hk => absurd hk (by omega), fun k j hk => absurd hk (by omega), fun k k' j hk => absurd hk (by omega)⟩
  | i + 1, hi => by
    have h0 := clS_ok hc i (by omega)
    obtain ⟨h1, h2, h3⟩ := rowS_ok hc (i := i) (by omega) h0 (lenN bs ms i) (Nat.le_refl _)
    have hnl := h0.nl
    refine ⟨h1.sl, h1.ql, by simp [clS, hnl], fun k hk => ?_, fun k j hk hj => ?_, fun k k' j hk hk' hne hm => ?_⟩
    · simp only [clS]
      rw [getD_snocL (by omega), hnl]
      split
      · rename_i e; rw [e]; exact h2.ol
      · exact h0.rl k (by omega)
    · simp only [clS]
      rw [getD_snocL (by omega), hnl]
      split
      · rename_i e
        rw [e] at hj
        exact h2.oin j hj
      · exact h1.rin k j (by omega) hj
    · simp only [clS]
      rw [getD_snocL (by omega), getD_snocL (by omega), hnl]
      by_cases e1 : k = i
      · have e2 : ¬ k' = i := by omega
        rw [if_pos e1, if_neg e2]
        rw [e1] at hm
        have hl := mm_len hc (i := i) (k := k') (by omega) (by omega)
        exact h2.ocmp k' j (by omega) (by omega) hm
      · rw [if_neg e1]
        by_cases e2 : k' = i
        · rw [if_pos e2]
          rw [e2, ← hc.tab.sym k (by omega) i (by omega)] at hm
          have hl := mm_len hc (i := i) (k := k) (by omega) (by omega)
          exact (h2.ocmp k j (by omega) (by omega) hm).symm
        · rw [if_neg e2]
          exact h0.cmp k k' j (by omega) (by omega) hne hm
theorem clS_mono {bs ms : List (List Int)} (hc : CvP bs ms) {i : Nat} : ∀ d, i + d ≤ bs.length → (clS bs ms i).1.P.length ≤ (clS bs ms (i + d)).1.P.length
  | 0, _ => Nat.le_refl _
  | d + 1, h => by
    have h1 := clS_mono hc (i := i) d (by omega)
    obtain ⟨_, _, h3⟩ := rowS_ok hc (i := i + d) (by omega) (clS_ok hc (i + d) (by omega)) (lenN bs ms (i + d)) (Nat.le_refl _)
    have e : clS bs ms (i + (d + 1)) = clS bs ms (i + d + 1) := rfl
    rw [e]
    simp only [clS]
    omega
theorem rowS_mono {bs ms names : List (List Int)} (hc : CvP bs ms) {i : Nat} (hi : i < bs.length) {s : PSt} (hk : ClOk bs ms i s names) {j : Nat} : ∀ d, j + d ≤ lenN bs ms i → (rowS (bs.getD i []) ms names i s j).P.length ≤ (rowS (bs.getD i []) ms names i s (j + d)).P.length
  | 0, _ => Nat.le_refl _
  | d + 1, h => by
    have h1 := rowS_mono hc hi hk (j := j) d (by omega)
    obtain ⟨k1, k2, _⟩ := rowS_ok hc hi hk (j + d) (by omega)
    have h3 := (stJ_ok hc hi (by omega) k1 k2).2.2
    have e : rowS (bs.getD i []) ms names i s (j + (d + 1)) = stJ (bs.getD i []) ms names i (rowS (bs.getD i []) ms names i s (j + d)) (j + d) := rfl
    rw [e]
    omega
/-- too many points -/
def TooBig (bs ms : List (List Int)) : Prop := (∃ i, i < bs.length ∧ 24 < lenN bs ms i) ∨ 24 < (clS bs ms bs.length).1.P.length
theorem tooBig_at {bs ms : List (List Int)} (hc : CvP bs ms) {i j : Nat} (hi : i < bs.length) (hj : j ≤ lenN bs ms i) (h : 24 < (rowS (bs.getD i []) ms (clS bs ms i).2 i (clS bs ms i).1 j).P.length) : TooBig bs ms := by
  refine .inr ?_
  have h0 := clS_ok hc i (by omega)
  have h1 := rowS_mono hc hi h0 (j := j) (lenN bs ms i - j) (by omega)
  rw [show j + (lenN bs ms i - j) = lenN bs ms i by omega] at h1
  have h2 := clS_mono hc (i := i + 1) (bs.length - (i + 1)) (by omega)
  rw [show i + 1 + (bs.length - (i + 1)) = bs.length by omega] at h2
  simp only [clS] at h2
  omega
end Go.Ax
