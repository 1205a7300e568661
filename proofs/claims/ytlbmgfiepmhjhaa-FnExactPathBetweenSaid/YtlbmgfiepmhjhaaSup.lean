/-
  Sorting in plain Lean: what is sorted; permutations. No conditions but those of the theorems.
-/
import Derived.Test.YtlbmgfiepmhjhaaSop
import Derived.Test.YtlbmgfiepmhjhaaFlp
set_option linter.all false
namespace Go.Ax
open Go.Proofs

theorem srt_eq {xs ys : List Int} (hp : xs.Perm ys) (hs : ys.Pairwise (· < ·)) : srt xs = ys := by
  refine List.Perm.eq_of_pairwise (le := fun x y => x ≤ y) (fun a b _ _ h1 h2 => by omega) ?_ (hs.imp fun h => by omega) ((List.mergeSort_perm _ _).trans hp)
  have h := List.pairwise_mergeSort (le := fun x y : Int => decide (x ≤ y)) (fun a b c h1 h2 => by simp only [decide_eq_true_eq] at *; omega) (fun a b => by simp only [Bool.or_eq_true, decide_eq_true_eq]; omega) xs
  exact h.imp fun h => by simpa using h
theorem perm_sub : ∀ (l l' : List Int), l.Nodup → (∀ x ∈ l, x ∈ l') → l'.length ≤ l.length → l.Perm l'
  | [], l', _, _, h => by
    have : l' = [] := List.eq_nil_of_length_eq_zero (by simpa using h)
    rw [this]
  | x :: t, l', hn, hs, hl => by
    obtain ⟨h1, h2⟩ := List.nodup_cons.1 hn
    have hx : x ∈ l' := hs x (by simp)
    have hp := List.perm_cons_erase hx
    have hlen := hp.length_eq
    refine (List.Perm.cons x (perm_sub t (l'.erase x) h2 (fun y hy => ?_) ?_)).trans hp.symm
    · refine (List.mem_erase_of_ne (fun e => h1 (by rw [← e]; exact hy))).2 (hs y (by simp [hy]))
    · simp only [List.length_cons] at hlen hl
      omega
theorem iota_pair (n : Nat) : (iota n).Pairwise (· < ·) := by
  rw [iota, tab', List.pairwise_map]
  exact List.pairwise_lt_range.imp fun h => by omega
theorem iota_mem {n : Nat} {x : Int} : x ∈ iota n ↔ 0 ≤ x ∧ x < n := by
  simp only [iota, tab', List.mem_map, List.mem_range]
  constructor
  · rintro ⟨k, hk, rfl⟩; omega
  · intro h; exact ⟨x.toNat, by omega, by omega⟩
def PmP (ls : List Int) : Prop := ∀ t : Nat, t < ls.length → (t : Int) ∈ ls
theorem PmP.perm {ls : List Int} (h : PmP ls) : (iota ls.length).Perm ls := by
  refine perm_sub _ _ ((iota_pair _).imp fun h => by omega) (fun x hx => ?_) (by rw [iota_len]; exact Nat.le_refl _)
  obtain ⟨h1, h2⟩ := iota_mem.1 hx
  have := h x.toNat (by omega)
  rwa [show ((x.toNat : Nat) : Int) = x by omega] at this
theorem PmP.srt {ls : List Int} (h : PmP ls) : srt ls = iota ls.length := srt_eq h.perm.symm (iota_pair _)
theorem PmP.inr {ls : List Int} (h : PmP ls) : ∀ k, k < ls.length → 0 ≤ ls.getD k 0 ∧ ls.getD k 0 < ls.length := fun k hk => by
  refine iota_mem.1 (h.perm.mem_iff.2 ?_)
  rw [List.getD_eq_getElem?_getD, List.getElem?_eq_getElem hk]
  exact List.getElem_mem _
theorem set_getD {α : Type} {l : List α} {i j : Nat} {x z : α} (hi : i < l.length) : (l.set i x).getD j z = if j = i then x else l.getD j z := by
  rw [List.getD_eq_getElem?_getD, List.getElem?_set, List.getD_eq_getElem?_getD]
  by_cases h : i = j
  · rw [if_pos h, if_pos hi, if_pos h.symm]; rfl
  · rw [if_neg h, if_neg (Ne.symm h)]
end Go.Ax
