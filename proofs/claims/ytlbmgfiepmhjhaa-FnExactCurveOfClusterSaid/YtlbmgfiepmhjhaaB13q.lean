import Derived.Test.YtlbmgfiepmhjhaaB09q
import Derived.Test.YtlbmgfiepmhjhaaB12q
import Derived.Test.YtlbmgfiepmhjhaaB11q
/-
  Paths of points of clusters and their codes, in plain Lean. No conditions but those of the theorems.
-/
set_option linter.all false
namespace Go.Ax
open Go.Proofs

def upL (P : List Int) : Nat → Int → List Int
  | 0, _ => []
  | f + 1, i => if i < 0 then [] else i :: upL P f (P.getD i.toNat 0)
def pthC (P : List Int) (i : Int) : List Int := (upL P 32 i).reverse
section
variable {P S Q : List Int}
theorem upL_stable (h : ClP P S Q) : ∀ (f : Nat) (i : Int), i < P.length → i < f → -1 ≤ i → ∀ g, f ≤ g → upL P g i = upL P f i
  | 0, i, _, h2, _, g, _ => by
    have : i = -1 := by omega
    subst this
    cases g with
    | zero => rfl
    | succ g =>
      have : upL P (g + 1) (-1) = [] := by rw [upL]; exact if_pos (by omega)
      rw [this]; rfl
  | f + 1, i, h1, h2, h3, g, hg => by
    obtain ⟨k, rfl⟩ : ∃ k, g = k + 1 := ⟨g - 1, by omega⟩
    rw [upL, upL]
    by_cases h0 : i < 0
    · rw [if_pos h0, if_pos h0]
    · rw [if_neg h0, if_neg h0]
      have hl := h.low (i := i.toNat) (by omega)
      rw [upL_stable h f _ (by omega) (by omega) (by omega) k (by omega)]
theorem pthC_neg : pthC P (-1) = [] := by
  rw [pthC, upL, if_pos (by omega)]; rfl
theorem pthC_step (h : ClP P S Q) {i : Int} (h0 : 0 ≤ i) (h1 : i < P.length) : pthC P i = pthC P (P.getD i.toNat 0) ++ [i] := by
  have hl := h.low (i := i.toNat) (by omega)
  have hn := h.n24
  rw [pthC, pthC, upL, if_neg (by omega), List.reverse_cons, upL_stable h 31 _ (by omega) (by omega) (by omega) 32 (by omega)]
theorem pthC_ind (h : ClP P S Q) {p : Int → Prop} (hn : p (-1)) (hs : ∀ i : Int, 0 ≤ i → i < P.length → p (P.getD i.toNat 0) → p i) : ∀ i : Int, -1 ≤ i → i < P.length → p i := by
  have key : ∀ (n : Nat) (i : Int), i < n → -1 ≤ i → i < P.length → p i := by
    intro n
    induction n with
    | zero =>
      intro i h1 h2 _
      have : i = -1 := by omega
      rw [this]; exact hn
    | succ n ih =>
      intro i h1 h2 h3
      by_cases h0 : i < 0
      · have : i = -1 := by omega
        rw [this]; exact hn
      · have hl := h.low (i := i.toNat) (by omega)
        exact hs i (by omega) h3 (ih _ (by omega) (by omega) (by omega))
  exact fun i h1 h2 => key (i + 1).toNat i (by omega) h1 h2
theorem pthC_mem (h : ClP P S Q) : ∀ i : Int, -1 ≤ i → i < P.length → (∀ x ∈ pthC P i, 0 ≤ x ∧ x ≤ i) ∧ (pthC P i).Pairwise (· < ·) := by
  refine pthC_ind h ?_ (fun i h0 h1 ih => ?_)
  · rw [pthC_neg]; exact ⟨fun x hx => (by cases hx), List.Pairwise.nil⟩
  · have hl := h.low (i := i.toNat) (by omega)
    rw [pthC_step h h0 h1]
    refine ⟨fun x hx => ?_, ?_⟩
    · rcases List.mem_append.1 hx with hx | hx
      · have := ih.1 x hx
        omega
      · rw [List.mem_singleton] at hx
        omega
    · rw [List.pairwise_append]
      refine ⟨ih.2, by simp, fun a ha b hb => ?_⟩
      rw [List.mem_singleton] at hb
      have := ih.1 a ha
      omega
theorem pthC_nodup (h : ClP P S Q) {i : Int} (h0 : -1 ≤ i) (h1 : i < P.length) : (pthC P i).Nodup := (pthC_mem h i h0 h1).2.imp (fun h => by omega)
theorem pthC_len (h : ClP P S Q) {i : Int} (h0 : -1 ≤ i) (h1 : i < P.length) : (pthC P i).length ≤ 24 := by
  have h2 := pthC_mem h i h0 h1
  have h3 := nodup_len (pthC P i) (n := P.length) (pthC_nodup h h0 h1) (fun x hx => by have := h2.1 x hx; omega)
  have := h.n24
  omega
theorem idx_of {l : List Int} {x : Int} (h : x ∈ l) : idx l x = (l.idxOf x : Nat) := by
  rw [idx]
  have hlt := List.idxOf_lt_length_iff.2 h
  have : ((List.range l.length).find? fun t => l.getD t 0 == x) = some (l.idxOf x) := by
    rw [List.find?_range_eq_some]
    refine ⟨?_, by simpa using hlt, fun t ht => ?_⟩
    · rw [List.getD_eq_getElem?_getD, List.getElem?_eq_getElem hlt]
      simp
    · rw [List.getD_eq_getElem?_getD, List.getElem?_eq_getElem (by omega)]
      have := List.not_of_lt_findIdx (p := (· == x)) (xs := l) (i := t) ht
      simpa using this
  rw [this]
def cod1 (S p : List Int) (j : Nat) : Nat := if 0 ≤ S.getD (p.getD j 0).toNat 0 then ((j : Int) - idx p (S.getD (p.getD j 0).toNat 0)).toNat else 0
def cdN (S p : List Int) : List Nat := tab' (fun t => cod1 S p (t + 1)) (p.length - 1)
theorem cdN_len (S p : List Int) : (cdN S p).length = p.length - 1 := tab_len _ _
theorem idx_app {l l' : List Int} {x : Int} (h : x ∈ l) : idx (l ++ l') x = idx l x := by
  rw [idx_of h, idx_of (List.mem_append.2 (.inl h)), List.idxOf_append, if_pos h]
theorem getD_app {l l' : List Int} {j : Nat} (h : j < l.length) : (l ++ l').getD j 0 = l.getD j 0 := by
  rw [List.getD_eq_getElem?_getD, List.getD_eq_getElem?_getD, List.getElem?_append_left h]
theorem getD_last (l : List Int) (x : Int) : (l ++ [x]).getD l.length 0 = x := by simp [List.getD_eq_getElem?_getD]
theorem cod1_app {S p : List Int} {i : Int} (hp : ∀ x ∈ p, 0 ≤ S.getD x.toNat 0 → S.getD x.toNat 0 ∈ p) {j : Nat} (hj : j < p.length) : cod1 S (p ++ [i]) j = cod1 S p j := by
  rw [cod1, cod1, getD_app hj]
  split
  · rename_i h0
    rw [idx_app (hp _ (by rw [List.getD_eq_getElem?_getD, List.getElem?_eq_getElem hj]; exact List.getElem_mem _) h0)]
  · rfl
theorem cdN_app {S p : List Int} {i : Int} (hp : ∀ x ∈ p, 0 ≤ S.getD x.toNat 0 → S.getD x.toNat 0 ∈ p) (hne : p ≠ []) : cdN S (p ++ [i]) = cdN S p ++ [cod1 S (p ++ [i]) p.length] := by
  have hl := List.length_pos_iff.2 hne
  rw [cdN, List.length_append, List.length_singleton, Nat.add_sub_cancel, show p.length = (p.length - 1) + 1 by omega, tab_succ]
  congr 1
  exact tab_congr fun t ht => cod1_app hp (by omega)
theorem path_code (h : ClP P S Q) : ∀ i : Int, -1 ≤ i → i < P.length → (∀ x ∈ pthC P i, 0 ≤ S.getD x.toNat 0 → S.getD x.toNat 0 ∈ pthC P i) ∧ VC (cdN S (pthC P i)) := by
  refine pthC_ind h ?_ (fun i h0 h1 ih => ?_)
  · rw [pthC_neg]
    exact ⟨fun x hx => by (cases hx), fun i hi => by (rw [cdN_len] at hi; simp at hi)⟩
  · have hl := h.low (i := i.toNat) (by omega)
    obtain ⟨ih1, ih2⟩ := ih
    rw [pthC_step h h0 h1]
    obtain ⟨q, hq⟩ : ∃ q, q = P.getD i.toNat 0 := ⟨_, rfl⟩
    rw [← hq] at ih1 ih2 hl ⊢
    -- where the second one stands
    have hsec : 0 ≤ S.getD i.toNat 0 → 0 ≤ q ∧ (S.getD i.toNat 0 = P.getD q.toNat 0 ∨ S.getD i.toNat 0 = S.getD q.toNat 0) := fun h2 => by
      have hi0 : i.toNat ≠ 0 := fun h3 => by have := (hl.2.2.2.2.2 h3).2; omega
      have h3 := (placeB_s hi0).1 (h.place i.toNat (by omega))
      rw [← hq] at h3
      refine ⟨h3.1.1, ?_⟩
      rcases h3.2 with h4 | h4
      · omega
      · exact h4.2
    have hin : 0 ≤ S.getD i.toNat 0 → S.getD i.toNat 0 ∈ pthC P q := fun h2 => by
      obtain ⟨q0, h3⟩ := hsec h2
      have hql := h.low (i := q.toNat) (by omega)
      rcases h3 with h3 | h3
      · rw [h3, pthC_step h q0 (by omega), pthC_step h (i := P.getD q.toNat 0) (by omega) (by omega)]
        simp
      · rw [h3]
        refine ih1 q ?_ (by omega)
        rw [pthC_step h q0 (by omega)]
        simp
    refine ⟨fun x hx h2 => ?_, ?_⟩
    · refine List.mem_append.2 (.inl ?_)
      rcases List.mem_append.1 hx with hx | hx
      · exact ih1 x hx h2
      · rw [List.mem_singleton] at hx
        rw [hx] at h2 ⊢
        exact hin h2
    · by_cases hne : pthC P q = []
      · rw [hne]
        intro t ht
        rw [cdN_len] at ht
        simp at ht
      · rw [cdN_app ih1 hne]
        obtain ⟨m, hm⟩ : ∃ m, m = (pthC P q).length := ⟨_, rfl⟩
        have hm1 : 1 ≤ m := by rw [hm]; exact List.length_pos_iff.2 hne
        have hcl : (cdN S (pthC P q)).length = m - 1 := by rw [cdN_len, hm]
        intro t ht
        rw [List.length_append, List.length_singleton, hcl] at ht
        have hold : ∀ t, t < m - 1 → (cdN S (pthC P q) ++ [cod1 S (pthC P q ++ [i]) (pthC P q).length]).getD t 0 = (cdN S (pthC P q)).getD t 0 := fun t ht => by
          rw [List.getD_eq_getElem?_getD, List.getD_eq_getElem?_getD, List.getElem?_append_left (by omega)]
        by_cases ht1 : t < m - 1
        · have h3 := ih2 t (by omega)
          rw [hold t ht1, hold (t - 1) (by omega)]
          exact h3
        · have ht2 : t = m - 1 := by omega
          subst ht2
          have hnew : (cdN S (pthC P q) ++ [cod1 S (pthC P q ++ [i]) (pthC P q).length]).getD (m - 1) 0 = cod1 S (pthC P q ++ [i]) m := by
            rw [List.getD_eq_getElem?_getD, List.getElem?_append_right (by omega), hcl, Nat.sub_self, ← hm]
            rfl
          rw [hnew]
          have hlast : (pthC P q ++ [i]).getD m 0 = i := by rw [hm]; exact getD_last _ _
          rw [cod1, hlast]
          by_cases h2 : 0 ≤ S.getD i.toNat 0
          · rw [if_pos h2]
            right
            obtain ⟨q0, h3⟩ := hsec h2
            have hql := h.low (i := q.toNat) (by omega)
            have hps := pthC_step h q0 (show q < P.length by omega)
            obtain ⟨r, hr⟩ : ∃ r, r = pthC P (P.getD q.toNat 0) := ⟨_, rfl⟩
            rw [← hr] at hps
            have hrm : m = r.length + 1 := by rw [hm, hps]; simp
            have hmem := hin h2
            rw [idx_app hmem, idx_of hmem]
            by_cases h4 : S.getD i.toNat 0 = P.getD q.toNat 0
            · have hr2 := pthC_step h (i := P.getD q.toNat 0) (by omega) (by omega)
              rw [← hr] at hr2
              obtain ⟨r2, hr3⟩ : ∃ r2, r2 = pthC P (P.getD (P.getD q.toNat 0).toNat 0) := ⟨_, rfl⟩
              rw [← hr3] at hr2
              have hni : P.getD q.toNat 0 ∉ r2 := fun hx => by
                have hl2 := h.low (i := (P.getD q.toNat 0).toNat) (by omega)
                rw [hr3] at hx
                have := (pthC_mem h _ (by omega) (by omega)).1 _ hx
                omega
              have hk : (pthC P q).idxOf (S.getD i.toNat 0) = r2.length := by
                rw [h4, hps, hr2, List.append_assoc, List.idxOf_append, if_neg hni]
                simp
              have hrl : r.length = r2.length + 1 := by rw [hr2]; simp
              rw [hk]
              refine ⟨by omega, .inl (by omega)⟩
            · have h5 : S.getD i.toNat 0 = S.getD q.toNat 0 := h3.resolve_left h4
              have hq0 : q.toNat ≠ 0 := fun h6 => by have := (hql.2.2.2.2.2 h6).2; omega
              have hr0 : r ≠ [] := fun h6 => by
                have h7 := pthC_step h (i := P.getD q.toNat 0) (by omega) (by omega)
                rw [← hr, h6] at h7
                simp at h7
              have hrl := List.length_pos_iff.2 hr0
              have hsq : S.getD i.toNat 0 ∈ r := by
                have h6 := hmem
                rw [hps] at h6
                rcases List.mem_append.1 h6 with h6 | h6
                · exact h6
                · rw [List.mem_singleton] at h6
                  omega
              have hk : (pthC P q).idxOf (S.getD i.toNat 0) < r.length := by
                rw [hps, List.idxOf_append, if_pos hsq]
                exact List.idxOf_lt_length_iff.2 hsq
              have hcq : (cdN S (pthC P q)).getD (m - 2) 0 = m - 1 - (pthC P q).idxOf (S.getD i.toNat 0) := by
                rw [cdN, tab_get _ _ _ _ (by omega), show m - 2 + 1 = m - 1 by omega, cod1]
                have h6 : (pthC P q).getD (m - 1) 0 = q := by
                  rw [hps, show m - 1 = r.length by omega]; exact getD_last _ _
                rw [h6, if_pos (by omega), ← h5, idx_of hmem]
                omega
              have hle := ih2.le (m - 2) (by omega)
              rw [hcq] at hle
              refine ⟨by omega, .inr ⟨by omega, ?_⟩⟩
              rw [hold (m - 1 - 1) (by omega), show m - 1 - 1 = m - 2 by omega, hcq]
              omega
          · rw [if_neg h2]
            exact .inl rfl
end
end Go.Ax
