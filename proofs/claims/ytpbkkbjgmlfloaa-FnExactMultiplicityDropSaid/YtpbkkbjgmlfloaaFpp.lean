/-
  Graphs: neighbours, intersection matrices. No conditions but those of the contracts.
-/
import Derived.Test.YtpbkkbjgmlfloaaFop
set_option linter.all false
namespace Go.Ax
open Go.Proofs

structure Gr (ws : List Int) (es : List (List Int)) : Prop where
  is : isGr ws es = true
  n1 : 1 ≤ ws.length
  n2 : ws.length ≤ 40
  wlo : ∀ i, i < ws.length → -1000 ≤ ws.getD i 0 ∧ ws.getD i 0 ≤ 1000
  eok : edsOk ws.length none es = true
  ed : ∀ e ∈ es, EdIn ws.length e
  lt : ∀ e ∈ es, e0 e < e1 e
  el : es.length < ws.length
  acyc : acy (iota ws.length) es = true
def adj (es : List (List Int)) (i j : Nat) : Bool := es.any fun e => (e0 e == i && e1 e == j) || (e0 e == j && e1 e == i)
def ent (ws : List Int) (es : List (List Int)) (i j : Nat) : Int := if i = j then ws.getD i 0 else if adj es i j = true then 1 else 0
theorem tab_set {α : Type} (f : Nat → α) (n i : Nat) (y : α) : (tab' f n).set i y = tab' (fun j => if j = i then y else f j) n := by
  apply List.ext_getElem?
  intro j
  by_cases hj : j < n
  · rw [tab_get? _ _ _ hj, List.getElem?_set]
    by_cases hij : i = j
    · subst hij
      rw [if_pos rfl, if_pos (by rw [tab_len]; exact hj), if_pos rfl]
    · rw [if_neg hij, tab_get? _ _ _ hj, if_neg (fun h => hij h.symm)]
  · rw [List.getElem?_eq_none (by rw [List.length_set, tab_len]; omega), List.getElem?_eq_none (by rw [tab_len]; omega)]
end Go.Ax
