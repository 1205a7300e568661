/-
  Lists that are built in order; divisors of branches, ratios, generators; polar invariants. No conditions but those of the contracts.
-/
import Derived.Test.YtlbmgfiepmhjhaaFhp
set_option linter.all false
namespace Go.Ax
open Go.Proofs

def tab' {α : Type} (f : Nat → α) (n : Nat) : List α := (List.range n).map f
theorem tab_len {α : Type} (f : Nat → α) (n : Nat) : (tab' f n).length = n := by simp [tab']
theorem tab_succ {α : Type} (f : Nat → α) (n : Nat) : tab' f (n + 1) = tab' f n ++ [f n] := by simp [tab', List.range_succ]
theorem tab_get {α : Type} (f : Nat → α) (n i : Nat) (d : α) (h : i < n) : (tab' f n).getD i d = f i := by
  simp [tab', List.getD_eq_getElem?_getD, List.getElem?_map, List.getElem?_range h]
theorem tab_get? {α : Type} (f : Nat → α) (n i : Nat) (h : i < n) : (tab' f n)[i]? = some (f i) := by
  simp [tab', List.getElem?_range h]
theorem tab_congr {α : Type} {f g : Nat → α} {n : Nat} (h : ∀ i, i < n → f i = g i) : tab' f n = tab' g n := by
  simp only [tab']
  apply List.map_congr_left
  intro i hi
  exact h i (by simpa using hi)
theorem tab_zero {α : Type} (f : Nat → α) : tab' f 0 = [] := rfl
abbrev W (n : Int) : Int := IntKind.wrap .i64 n
structure Br (xs : List Int) : Prop where
  is : isBr xs = true
  pos : 0 < xs.length
  len : xs.length ≤ 64
  low : ∀ i, i < xs.length → 1 ≤ xs.getD i 0
  high : ∀ i, i < xs.length → xs.getD i 0 ≤ 2000
  up : ∀ i, i + 1 < xs.length → xs.getD i 0 < xs.getD (i + 1) 0
  first : xs.getD 0 0 ≤ 64
  dlen : (dv xs).length = xs.length
  d0 : (dv xs).getD 0 0 = xs.getD 0 0
  dpos : ∀ i, i < xs.length → 1 ≤ (dv xs).getD i 0
  dhi : ∀ i, i < xs.length → (dv xs).getD i 0 ≤ 64
  dstep : ∀ i, i + 1 < xs.length → (dv xs).getD (i + 1) 0 < (dv xs).getD i 0
  dlast : (dv xs).getD (xs.length - 1) 0 = 1
end Go.Ax
