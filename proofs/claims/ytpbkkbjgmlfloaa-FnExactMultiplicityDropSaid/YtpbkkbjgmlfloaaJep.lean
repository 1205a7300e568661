/-
  Blocks of sequences, in plain Lean. No conditions but those of the theorems.
-/
import Derived.Test.YtpbkkbjgmlfloaaJbp
set_option linter.all false
namespace Go.Ax
open Go.Proofs

theorem rep_head {e r s : Nat} {x y : List Nat} (hr : r ≠ e) (hs : s ≠ e) : ∀ a b : Nat, List.replicate a e ++ r :: x = List.replicate b e ++ s :: y → a = b ∧ r = s ∧ x = y
  | 0, 0, h => by
    simp only [List.replicate_zero, List.nil_append, List.cons.injEq] at h
    exact ⟨rfl, h⟩
  | 0, b + 1, h => by
    simp only [List.replicate_zero, List.nil_append, List.replicate_succ, List.cons_append, List.cons.injEq] at h
    exact absurd h.1 hr
  | a + 1, 0, h => by
    simp only [List.replicate_zero, List.nil_append, List.replicate_succ, List.cons_append, List.cons.injEq] at h
    exact absurd h.1.symm hs
  | a + 1, b + 1, h => by
    simp only [List.replicate_succ, List.cons_append, List.cons.injEq, true_and] at h
    obtain ⟨h1, h2⟩ := rep_head hr hs a b h
    exact ⟨by rw [h1], h2⟩
def OkB : List (Nat × Nat) → Prop
  | [] => True
  | [_] => True
  | p :: q :: l => p.1 ≠ q.1 ∧ 1 ≤ q.2 ∧ OkB (q :: l)
def expB (bl : List (Nat × Nat)) : List Nat := bl.flatMap fun p => List.replicate p.2 p.1
def rowsN (bl : List (Nat × Nat)) : List (List Int) := bl.map fun p => [(p.1 : Int), (p.2 : Int)]
theorem rowsN_len (bl : List (Nat × Nat)) : (rowsN bl).length = bl.length := by simp [rowsN]
theorem rowsN_get {bl : List (Nat × Nat)} {i : Nat} {p : Nat × Nat} (h : bl[i]? = some p) : (rowsN bl).getD i [] = [(p.1 : Int), (p.2 : Int)] := by
  rw [rowsN, List.getD_eq_getElem?_getD, List.getElem?_map, h]; rfl
theorem rowsN_set (bl : List (Nat × Nat)) (i : Nat) (p : Nat × Nat) : (rowsN bl).set i [(p.1 : Int), (p.2 : Int)] = rowsN (bl.set i p) := by
  rw [rowsN, rowsN, List.map_set]
theorem rowsN_append (a b : List (Nat × Nat)) : rowsN (a ++ b) = rowsN a ++ rowsN b := by simp [rowsN]
theorem expB_cons (p : Nat × Nat) (l : List (Nat × Nat)) : expB (p :: l) = List.replicate p.2 p.1 ++ expB l := by simp [expB]
theorem expB_append (a b : List (Nat × Nat)) : expB (a ++ b) = expB a ++ expB b := by simp [expB]
theorem blk_next {v c q r : Nat} {tl : List (Nat × Nat)} {X : List Nat} (ho : OkB ((v, c) :: tl)) (hr : r ≠ v) (h : expB ((v, c) :: tl) = List.replicate q v ++ r :: X) :
    c = q ∧ ∃ c1 tl', tl = (r, c1) :: tl' ∧ OkB tl ∧ expB tl = r :: X := by
  rw [expB_cons] at h
  match tl, ho with
  | [], _ =>
    exfalso
    have h1 : r ∈ List.replicate q v ++ r :: X := by simp
    rw [← h] at h1
    simp only [expB, List.flatMap_nil, List.append_nil] at h1
    exact hr (List.mem_replicate.1 h1).2
  | (v1, c1) :: tl', ho =>
    obtain ⟨h1, h2, h3⟩ := ho
    have h4 : expB ((v1, c1) :: tl') = v1 :: (List.replicate (c1 - 1) v1 ++ expB tl') := by
      rw [expB_cons]
      simp only
      rw [show c1 = (c1 - 1) + 1 by have : 1 ≤ c1 := h2; omega, List.replicate_succ]
      rfl
    rw [h4] at h
    obtain ⟨e1, e2, e3⟩ := rep_head (Ne.symm h1) hr _ _ h
    have e2 : v1 = r := e2
    refine ⟨e1, c1, tl', by rw [e2], h3, by rw [h4, e3, e2]⟩
theorem blk_less {v c k : Nat} {tl : List (Nat × Nat)} {Y : List Nat} (ho : OkB ((v, c) :: tl)) (h : expB ((v, c) :: tl) = List.replicate k v ++ Y) :
    k ≤ c ∧ OkB ((v, c - k) :: tl) ∧ expB ((v, c - k) :: tl) = Y := by
  rw [expB_cons] at h
  have hk : k ≤ c := by
    rcases Nat.lt_or_ge c k with h1 | h1
    · exfalso
      simp only at h
      rw [show k = c + (k - c) by omega, ← List.replicate_append_replicate, List.append_assoc, List.append_cancel_left_eq, show k - c = (k - c - 1) + 1 by omega, List.replicate_succ, List.cons_append] at h
      match tl, ho with
      | [], _ => simp [expB] at h
      | (v1, c1) :: tl', ho =>
        obtain ⟨h3, h4, _⟩ := ho
        rw [expB_cons] at h
        simp only at h h4
        rw [show c1 = (c1 - 1) + 1 by omega, List.replicate_succ, List.cons_append, List.cons.injEq] at h
        exact h3 h.1.symm
    · exact h1
  refine ⟨hk, ?_, ?_⟩
  · cases tl with
    | nil => trivial
    | cons p tl => exact ho
  · rw [expB_cons]
    simp only at h ⊢
    rw [show c = k + (c - k) by omega, ← List.replicate_append_replicate, List.append_assoc, List.append_cancel_left_eq] at h
    exact h
def addB (B : List (Nat × Nat)) (x : Nat) : List (Nat × Nat) := match B.getLast? with
  | some p => if p.1 = x then B.set (B.length - 1) (p.1, p.2 + 1) else B ++ [(x, 1)]
  | none => [(x, 1)]
def blkN (L : List Nat) : List (Nat × Nat) := L.foldl addB []
theorem blkN_snoc (L : List Nat) (x : Nat) : blkN (L ++ [x]) = addB (blkN L) x := by rw [blkN, blkN, List.foldl_append]; rfl
theorem okB_append : ∀ {B : List (Nat × Nat)} {p : Nat × Nat} {x : Nat}, OkB (B ++ [p]) → p.1 ≠ x → OkB (B ++ [p] ++ [(x, 1)])
  | [], p, x, _, h => ⟨h, Nat.le_refl _, trivial⟩
  | [q], p, x, h, h2 => ⟨h.1, h.2.1, h2, Nat.le_refl _, trivial⟩
  | q :: q2 :: B, p, x, h, h2 => ⟨h.1, h.2.1, okB_append (B := q2 :: B) h.2.2 h2⟩
theorem okB_set : ∀ {B : List (Nat × Nat)} {p : Nat × Nat}, OkB (B ++ [p]) → OkB (B ++ [(p.1, p.2 + 1)])
  | [], p, _ => trivial
  | [q], p, h => ⟨h.1, Nat.le_add_left _ _, trivial⟩
  | q :: q2 :: B, p, h => ⟨h.1, h.2.1, okB_set (B := q2 :: B) h.2.2⟩
theorem blkN_ok' : ∀ (k : Nat) (L : List Nat), L.length = k → OkB (blkN L) ∧ expB (blkN L) = L ∧ (L ≠ [] → ∃ B p, blkN L = B ++ [p] ∧ 1 ≤ p.2 ∧ L.getLast? = some p.1)
  | 0, L, h => by
    obtain rfl := List.eq_nil_of_length_eq_zero h
    exact ⟨trivial, rfl, fun h => absurd rfl h⟩
  | k + 1, L0, h => by
    obtain ⟨L, x, rfl⟩ : ∃ L x, L0 = L ++ [x] := by
      have hne : L0 ≠ [] := fun h2 => by rw [h2] at h; simp at h
      exact ⟨L0.dropLast, L0.getLast hne, (List.dropLast_concat_getLast hne).symm⟩
    obtain ⟨i1, i2, i3⟩ := blkN_ok' k L (by rw [List.length_append, List.length_singleton] at h; omega)
    rw [blkN_snoc]
    by_cases hL : L = []
    · subst hL
      exact ⟨trivial, rfl, fun _ => ⟨[], (x, 1), rfl, Nat.le_refl _, rfl⟩⟩
    · obtain ⟨B, p, hB, hp1, hp2⟩ := i3 hL
      have hlast : (blkN L).getLast? = some p := by rw [hB]; simp
      rw [addB, hlast]
      simp only
      by_cases hx : p.1 = x
      · rw [if_pos hx]
        have hset : (blkN L).set ((blkN L).length - 1) (p.1, p.2 + 1) = B ++ [(p.1, p.2 + 1)] := by
          rw [hB, List.length_append, List.length_singleton, Nat.add_sub_cancel, List.set_append_right _ _ (Nat.le_refl _), Nat.sub_self]; rfl
        rw [hset]
        refine ⟨?_, ?_, fun _ => ⟨B, _, rfl, by simp only; omega, by simp [hx]⟩⟩
        · rw [hB] at i1; exact okB_set i1
        · rw [← i2, hB, expB_append, expB_append, List.append_assoc, ← hx]
          congr 1
          simp [expB, List.replicate_succ']
      · rw [if_neg hx]
        refine ⟨?_, ?_, fun _ => ⟨blkN L, _, rfl, Nat.le_refl _, by simp⟩⟩
        · rw [hB] at i1 ⊢; exact okB_append i1 hx
        · rw [expB_append, i2]; rfl
theorem blkN_ok (L : List Nat) : OkB (blkN L) ∧ expB (blkN L) = L ∧ (L ≠ [] → ∃ B p, blkN L = B ++ [p] ∧ 1 ≤ p.2 ∧ L.getLast? = some p.1) := blkN_ok' _ L rfl
theorem val_small : ∀ (l : List Nat) (p e : Nat), 0 < e → Val p e l → 2 ^ l.length ≤ e
  | [], p, e, he, _ => he
  | t :: l, p, e, he, h => by
    have hg := Nat.gcd_pos_of_pos_left t he
    have ih := val_small l t (Nat.gcd e t) hg h.2.2.2
    obtain ⟨c, hc⟩ := Nat.gcd_dvd_left e t
    have hc2 : 2 ≤ c := by
      rcases Nat.lt_or_ge c 2 with h1 | h1
      · exfalso
        have : c = 0 ∨ c = 1 := by omega
        rcases this with rfl | rfl
        · omega
        · exact h.2.2.1 (by omega)
      · exact h1
    rw [List.length_cons, Nat.pow_succ]
    have h2 : Nat.gcd e t * 2 ≤ Nat.gcd e t * c := Nat.mul_le_mul_left _ hc2
    omega
end Go.Ax
