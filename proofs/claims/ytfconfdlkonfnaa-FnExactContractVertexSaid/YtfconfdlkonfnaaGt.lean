/-
  ComponentLabels: labels by going through components; both sides, the law. No conditions but those of the contracts.
-/
import Derived.Test.YtfconfdlkonfnaaGr
set_option linter.all false
namespace Go.Ax
open Go.Proofs

def outL (lab : List Int) (i : Nat) (x : Nat) : Int := if lab.getD x 0 < i then (cntR lab (lab.getD x 0).toNat : Int) else -1
def outK (lab : List Int) (i : Nat) (l : List Int) (x : Nat) : Int := if (x : Int) ∈ l then (cntR lab i : Int) else outL lab i x
theorem tab_setG {α : Type} (f : Nat → α) {n i : Nat} (x : α) (h : i < n) : (tab' f n).set i x = tab' (fun t => if t = i then x else f t) n := by
  apply List.ext_getElem?
  intro j
  rw [List.getElem?_set]
  by_cases hj : j < n
  · rw [tab_get? _ _ _ hj, tab_get? _ _ _ hj]
    by_cases h1 : i = j
    · rw [if_pos h1, if_pos (by rw [tab_len]; exact h), if_pos h1.symm]
    · rw [if_neg h1, if_neg (Ne.symm h1)]
  · rw [if_neg (by omega), List.getElem?_eq_none (by rw [tab_len]; omega), List.getElem?_eq_none (by rw [tab_len]; omega)]
theorem outK_set (lab : List Int) (i n : Nat) (l : List Int) (v : Int) (h0 : 0 ≤ v) (h1 : v < n) : (tab' (outK lab i l) n).set v.toNat (cntR lab i : Int) = tab' (outK lab i (l ++ [v])) n := by
  rw [tab_setG _ _ (by omega)]
  refine tab_congr fun x _ => ?_
  simp only [outK, List.mem_append, List.mem_singleton]
  by_cases h : x = v.toNat
  · rw [if_pos h, if_pos (.inr (by omega))]
  · rw [if_neg h]
    by_cases h2 : (x : Int) ∈ l
    · rw [if_pos h2, if_pos (.inl h2)]
    · rw [if_neg h2, if_neg (fun h3 => h3.elim h2 (fun h4 => h (by omega)))]
theorem outL_next {n : Nat} {lab : List Int} (h : LabOk n lab) {i : Nat} (hi : i < n) (hne : lab.getD i 0 ≠ i) : tab' (outL lab (i + 1)) n = tab' (outL lab i) n ∧ cntR lab (i + 1) = cntR lab i := by
  refine ⟨tab_congr fun x hx => ?_, by simp only [cntR, if_neg hne]; omega⟩
  have h1 := h.idem x hx
  have h2 := h.nn x hx
  have h3 : lab.getD x 0 ≠ i := fun e => by
    rw [e] at h1
    exact hne h1
  simp only [outL]
  by_cases h4 : lab.getD x 0 < i
  · rw [if_pos (by omega), if_pos h4]
  · rw [if_neg (by omega), if_neg h4]
theorem outK_full {ws : List Int} {es : List (List Int)} (g : Gr ws es) {i : Nat} (hi : i < ws.length) (he : (lbl ws.length es).getD i 0 = i) {ord : List Int} (ho : ∀ x : Int, x ∈ ord ↔ Cn es i x) :
    tab' (outK (lbl ws.length es) i ord) ws.length = tab' (outL (lbl ws.length es) (i + 1)) ws.length ∧ cntR (lbl ws.length es) (i + 1) = cntR (lbl ws.length es) i + 1 := by
  refine ⟨tab_congr fun x hx => ?_, by simp only [cntR, if_pos he]⟩
  have h1 := lbl_cn g.ed hi hx
  rw [he] at h1
  simp only [outK, outL]
  by_cases h2 : (x : Int) ∈ ord
  · have h3 := h1.2 ((ho x).1 h2)
    rw [if_pos h2, if_pos (by omega), ← h3]
    simp
  · have h3 : (lbl ws.length es).getD x 0 ≠ i := fun e => h2 ((ho x).2 (h1.1 e.symm))
    rw [if_neg h2]
    by_cases h4 : (lbl ws.length es).getD x 0 < i
    · rw [if_pos h4, if_pos (by omega)]
    · rw [if_neg h4, if_neg (by omega)]
theorem outL_0 (lab : List Int) {n : Nat} (h : LabOk n lab) : tab' (outL lab 0) n = List.replicate n (-1) := by
  rw [List.eq_replicate_iff]
  refine ⟨tab_len _ _, fun b hb => ?_⟩
  simp only [tab', List.mem_map, List.mem_range] at hb
  obtain ⟨x, hx, rfl⟩ := hb
  have := h.nn x hx
  rw [outL, if_neg (by omega)]
theorem outL_n {n : Nat} {es : List (List Int)} (h : LabOk n (lbl n es)) : tab' (outL (lbl n es) n) n = labs n es := by
  have e : labs n es = rn (lbl n es) := rfl
  rw [e, list_tab (rn (lbl n es)) 0, rn_len, h.len]
  refine tab_congr fun x hx => ?_
  have h1 := h.le x hx
  rw [rn_get _ _ (by rw [h.len]; exact hx), outL, if_pos (by omega)]
def c_G_l (f : List V → List V → List V) (q : List V → List V → Prop) : Contract := fun
  | [.agg [.slc false 2 (.int .i64 0) a0, .slc false 22 (.slc false 2 (.int .i64 0) []) a1]] => some ([q a0 a1], .slc true 2 (.int .i64 0) (f a0 a1))
  | _ => none
def f_lab2 (ws es : List V) : List V := I (labs ws.length (unII es))
def c_G_li (f : List V → List V → List V × Int) (q : List V → List V → Prop) : Contract := fun
  | [.agg [.slc false 2 (.int .i64 0) a0, .slc false 22 (.slc false 2 (.int .i64 0) []) a1]] => some ([q a0 a1], .tup [.slc true 2 (.int .i64 0) ((f a0 a1).1), .int .i64 ((f a0 a1).2)])
  | _ => none
def f_cl (ws es : List V) : List V × Int := bif isGr (unI ws) (unII es) then (f_lab2 ws es, 0) else ([], 1)
def c_lawg_G (f : List V → List V → Bool) (q : List V → List V → Prop) : Contract := fun
  | [.agg [.slc false 2 (.int .i64 0) a0, .slc false 22 (.slc false 2 (.int .i64 0) []) a1]] => some ([q a0 a1], .bool (f a0 a1))
  | _ => none
def q_lawg_G (x y : List V) : Prop := q_G x y
def yesg_G : List V → List V → Bool := fun _ _  => true
end Go.Ax
