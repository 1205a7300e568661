/-
  Sorting in plain Lean: what is sorted; permutations. No conditions but those of the theorems.
-/
import Derived.Test.YtpcjjklkiejeaaaSo
import Derived.Test.YtpcjjklkiejeaaaFl
set_option linter.all false
namespace Go.Ax
open Go.Proofs

theorem srt_eq {xs ys : List Int} (hp : xs.Perm ys) (hs : ys.Pairwise (· < ·)) : srt xs = ys := by
  refine List.Perm.eq_of_pairwise (le := fun x y => x ≤ y) (fun a b _ _ h1 h2 => by omega) ?_ (hs.imp fun h => by omega) ((List.mergeSort_perm _ _).trans hp)
  have h := List.pairwise_mergeSort (le := fun x y : Int => decide (x ≤ y)) (fun a b c h1 h2 => by simp only [decide_eq_true_eq] at *; omega) (fun a b => by simp only [Bool.or_eq_true, decide_eq_true_eq]; omega) xs
  exact h.imp fun h => by simpa using h
theorem mem_srt {xs : List Int} {x : Int} : x ∈ srt xs ↔ x ∈ xs := (List.mergeSort_perm _ _).mem_iff
theorem perm_sub : ∀ (l l' : List Int), l.Nodup → (∀ x ∈ l, x ∈ l') → l'.length ≤ l.length → l.Perm l'
  | [], l', _, _, h => by
    have : l' = [] := List.eq_nil_of_length_eq_zero (by simpa using h)
    rw [this]
  | x :: t, l', hn, hs, hl => by
    obtain ⟨h1, h2⟩ := List.nodup_cons.1 hn
    have hx : x ∈ l' := hs x (by simp)
    have hp := List.perm_cons_erase hx
    have hlen := hp.length_eq
    refine (List.Perm.cons x (perm_sub t (l'.erase x) h2 (fun y hy => ?_) ?_)).trans hp.symm
    · refine (List.mem_erase_of_ne (fun e => h1 (by rw [← e]; exact hy))).2 (hs y (by simp [hy]))
    · simp only [List.length_cons] at hlen hl
      omega
theorem iota_pair (n : Nat) : (iota n).Pairwise (· < ·) := by
  rw [iota, tab', List.pairwise_map]
  exact List.pairwise_lt_range.imp fun h => by omega
theorem iota_mem {n : Nat} {x : Int} : x ∈ iota n ↔ 0 ≤ x ∧ x < n := by
  simp only [iota, tab', List.mem_map, List.mem_range]
  constructor
  · rintro ⟨k, hk, rfl⟩; omega
  · intro h; exact ⟨x.toNat, by omega, by omega⟩
/-- every number below the length is there -/
def PmP (ls : List Int) : Prop := ∀ t : Nat, t < ls.length → (t : Int) ∈ ls
theorem PmP.perm {ls : List Int} (h : PmP ls) : (iota ls.length).Perm ls := by
  refine perm_sub _ _ ((iota_pair _).imp fun h => by omega) (fun x hx => ?_) (by rw [iota_len]; exact Nat.le_refl _)
  obtain ⟨h1, h2⟩ := iota_mem.1 hx
  have := h x.toNat (by omega)
  rwa [show ((x.toNat : Nat) : Int) = x by omega] at this
theorem PmP.srt {ls : List Int} (h : PmP ls) : srt ls = iota ls.length := srt_eq h.perm.symm (iota_pair _)
theorem pm_of_srt {ls : List Int} (h : ∀ t : Nat, t < ls.length → (Go.Ax.srt ls).getD t 0 = t) : PmP ls := fun t ht => by
  have h1 := h t ht
  rw [← mem_srt, ← h1]
  rw [List.getD_eq_getElem?_getD, List.getElem?_eq_getElem (by rw [srt_len]; exact ht)]
  exact List.getElem_mem _
theorem PmP.inr {ls : List Int} (h : PmP ls) : ∀ k, k < ls.length → 0 ≤ ls.getD k 0 ∧ ls.getD k 0 < ls.length := fun k hk => by
  refine iota_mem.1 (h.perm.mem_iff.2 ?_)
  rw [List.getD_eq_getElem?_getD, List.getElem?_eq_getElem hk]
  exact List.getElem_mem _
theorem PmP.inj {ls : List Int} (h : PmP ls) {s t : Nat} (hs : s < ls.length) (ht : t < ls.length) (he : ls.getD s 0 = ls.getD t 0) : s = t := by
  have hn : ls.Nodup := h.perm.nodup_iff.1 ((iota_pair _).imp fun h => by omega)
  rw [List.getD_eq_getElem?_getD, List.getElem?_eq_getElem hs, List.getD_eq_getElem?_getD, List.getElem?_eq_getElem ht] at he
  have hp := List.pairwise_iff_getElem.1 hn
  rcases Nat.lt_trichotomy s t with h1 | h1 | h1
  · exact absurd he (hp s t hs ht h1)
  · exact h1
  · exact absurd he.symm (hp t s ht hs h1)
theorem PmP.sur {ls : List Int} (h : PmP ls) {j : Nat} (hj : j < ls.length) : ∃ t, t < ls.length ∧ ls.getD t 0 = j := by
  obtain ⟨t, ht, he⟩ := List.mem_iff_getElem.1 (h j hj)
  exact ⟨t, ht, by rw [List.getD_eq_getElem?_getD, List.getElem?_eq_getElem ht]; exact he⟩
/-! laid by a permutation -/
def putK {α : Type} (ls : List Int) (f : Nat → α) (z : α) (n : Nat) : Nat → List α
  | 0 => List.replicate n z
  | k + 1 => (putK ls f z n k).set (ls.getD k 0).toNat (f k)
theorem putK_len {α : Type} (ls : List Int) (f : Nat → α) (z : α) (n : Nat) : ∀ k, (putK ls f z n k).length = n
  | 0 => List.length_replicate
  | k + 1 => by rw [putK, List.length_set]; exact putK_len ls f z n k
theorem set_getD {α : Type} {l : List α} {i j : Nat} {x z : α} (hi : i < l.length) : (l.set i x).getD j z = if j = i then x else l.getD j z := by
  rw [List.getD_eq_getElem?_getD, List.getElem?_set, List.getD_eq_getElem?_getD]
  by_cases h : i = j
  · rw [if_pos h, if_pos hi, if_pos h.symm]; rfl
  · rw [if_neg h, if_neg (Ne.symm h)]
theorem putK_get {α : Type} {ls : List Int} (h : PmP ls) (f : Nat → α) (z : α) : ∀ k, k ≤ ls.length → (∀ t, t < k → (putK ls f z ls.length k).getD (ls.getD t 0).toNat z = f t) ∧ (∀ t, k ≤ t → t < ls.length → (putK ls f z ls.length k).getD (ls.getD t 0).toNat z = z)
  | 0, _ => ⟨fun t ht => absurd ht (by omega), fun t _ ht => by
      rw [putK, List.getD_eq_getElem?_getD, List.getElem?_replicate]; split <;> rfl⟩
  | k + 1, hk => by
    obtain ⟨h1, h2⟩ := putK_get h f z k (by omega)
    have hb := h.inr k (by omega)
    have hs : ∀ t, t < ls.length → ((ls.getD t 0).toNat = (ls.getD k 0).toNat ↔ t = k) := fun t ht => by
      have := h.inr t ht
      exact ⟨fun e => h.inj ht (by omega) (by omega), fun e => by rw [e]⟩
    refine ⟨fun t ht => ?_, fun t ht htl => ?_⟩
    · rw [putK, set_getD (by rw [putK_len]; omega)]
      by_cases htk : t = k
      · rw [if_pos ((hs t (by omega)).2 htk), htk]
      · rw [if_neg (fun e => htk ((hs t (by omega)).1 e))]; exact h1 t (by omega)
    · rw [putK, set_getD (by rw [putK_len]; omega), if_neg (fun e => by have := (hs t htl).1 e; omega)]
      exact h2 t (by omega) htl
def ordP (ls : List Int) : List Int := putK ls (fun k => (k : Int)) 0 ls.length ls.length
theorem getD_ext {α : Type} {l l' : List α} {n : Nat} (z : α) (h1 : l.length = n) (h2 : l'.length = n) (h : ∀ j, j < n → l.getD j z = l'.getD j z) : l = l' := by
  apply List.ext_getElem?
  intro j
  by_cases hj : j < n
  · have := h j hj
    rw [List.getD_eq_getElem?_getD, List.getD_eq_getElem?_getD, List.getElem?_eq_getElem (by omega), List.getElem?_eq_getElem (by omega)] at this
    rw [List.getElem?_eq_getElem (by omega), List.getElem?_eq_getElem (by omega)]
    exact congrArg some this
  · rw [List.getElem?_eq_none (by omega), List.getElem?_eq_none (by omega)]
theorem ordP_len (ls : List Int) : (ordP ls).length = ls.length := putK_len _ _ _ _ _
theorem ordP_at {ls : List Int} (h : PmP ls) {t : Nat} (ht : t < ls.length) : (ordP ls).getD (ls.getD t 0).toNat 0 = t := (putK_get h (fun k => (k : Int)) 0 ls.length (Nat.le_refl _)).1 t ht
theorem putK_full {α : Type} {ls : List Int} (h : PmP ls) (f : Nat → α) (z : α) : putK ls f z ls.length ls.length = (ordP ls).map fun i => f i.toNat := by
  refine getD_ext z (putK_len _ _ _ _ _) (by rw [List.length_map, ordP_len]) fun j hj => ?_
  obtain ⟨t, ht, he⟩ := h.sur hj
  have h1 := (putK_get h f z ls.length (Nat.le_refl _)).1 t ht
  have h2 := ordP_at h ht
  rw [he, Int.toNat_natCast] at h1 h2
  rw [h1, List.getD_eq_getElem?_getD, List.getElem?_map]
  rw [List.getD_eq_getElem?_getD, List.getElem?_eq_getElem (by rw [ordP_len]; exact hj)] at h2
  rw [List.getElem?_eq_getElem (by rw [ordP_len]; exact hj)]
  simp only [Option.map_some, Option.getD_some] at h2 ⊢
  rw [h2, Int.toNat_natCast]
theorem putK_same {α : Type} {ls : List Int} (h : PmP ls) (f : Nat → α) (z : α) {k : Nat} (hk : k < ls.length) : (putK ls f z ls.length k).set (ls.getD k 0).toNat z = putK ls f z ls.length k := by
  have hb := h.inr k hk
  refine getD_ext z (by rw [List.length_set, putK_len]) (putK_len _ _ _ _ _) fun j hj => ?_
  rw [set_getD (by rw [putK_len]; omega)]
  split
  · rename_i e
    rw [e, (putK_get h f z k (by omega)).2 k (Nat.le_refl _) hk]
  · rfl
theorem ordP_in {ls : List Int} (h : PmP ls) : ∀ k, k < (ordP ls).length → 0 ≤ (ordP ls).getD k 0 ∧ (ordP ls).getD k 0 < ls.length := fun k hk => by
  rw [ordP_len] at hk
  obtain ⟨t, ht, he⟩ := h.sur hk
  have h2 := ordP_at h ht
  rw [he, Int.toNat_natCast] at h2
  omega
/-- the test -/
def isPm (n : Int) (ls : List Int) : Bool := decide (n = ls.length) && (iota ls.length).all fun x => ls.contains x
theorem isPm_iff {n : Int} {ls : List Int} : isPm n ls = true ↔ n = ls.length ∧ PmP ls := by
  simp only [isPm, Bool.and_eq_true, decide_eq_true_eq, List.all_eq_true, List.contains_iff_mem]
  constructor
  · rintro ⟨h1, h2⟩
    exact ⟨h1, fun t ht => h2 t (iota_mem.2 ⟨by omega, by omega⟩)⟩
  · rintro ⟨h1, h2⟩
    refine ⟨h1, fun x hx => ?_⟩
    obtain ⟨h3, h4⟩ := iota_mem.1 hx
    have := h2 x.toNat (by omega)
    rwa [show ((x.toNat : Nat) : Int) = x by omega] at this
end Go.Ax
