/-
  Graphs: labels of components, what a graph is. No conditions but those of the contracts.
-/
import Derived.Test.YtaojegdbjofciaaFm
set_option linter.all false
namespace Go.Ax
open Go.Proofs

theorem iota_step (n i : Nat) (h : i < n) : (iota i ++ List.replicate (n - i) 0).set i (i : Int) = iota (i + 1) ++ List.replicate (n - (i + 1)) 0 := by
  have : n - i = (n - (i + 1)) + 1 := by omega
  rw [this, List.replicate_succ, set_at _ _ _ _ _ (iota_len i), iota, iota, tab_succ, List.append_assoc]
  rfl
/-- a list that is mapped in place -/
theorem map_step (f g : List Int) (i : Nat) (hg : g.length = f.length) (h : i < f.length) : (g.take i ++ f.drop i).set i (g.getD i 0) = g.take (i + 1) ++ f.drop (i + 1) := by
  rw [List.drop_eq_getElem_cons h, set_at _ _ _ _ _ (by rw [List.length_take]; omega), List.take_succ_eq_append_getElem (by omega), List.getD_eq_getElem?_getD, List.getElem?_eq_getElem (by omega), List.append_assoc]
  rfl
theorem map_same (f g : List Int) (i : Nat) (hg : g.length = f.length) (h : i < f.length) (he : g.getD i 0 = f.getD i 0) : g.take i ++ f.drop i = g.take (i + 1) ++ f.drop (i + 1) := by
  rw [drop_cons 0 h, List.take_succ_eq_append_getElem (by omega), List.append_assoc]
  have : g[i] = g.getD i 0 := by rw [List.getD_eq_getElem?_getD, List.getElem?_eq_getElem (by omega)]; rfl
  rw [this, he]
  rfl
theorem map_at (f g : List Int) (i : Nat) (hg : g.length = f.length) (h : i < f.length) : (g.take i ++ f.drop i).getD i 0 = f.getD i 0 := by
  rw [List.getD_eq_getElem?_getD, List.getElem?_append_right (by rw [List.length_take]; omega), List.length_take, show i - min i g.length = 0 by omega, List.getElem?_drop, Nat.add_zero, ← List.getD_eq_getElem?_getD]
theorem map_before (f g : List Int) (i k : Nat) (hg : g.length = f.length) (h : i ≤ f.length) (hk : k < i) : (g.take i ++ f.drop i).getD k 0 = g.getD k 0 := by
  rw [List.getD_eq_getElem?_getD, List.getElem?_append_left (by rw [List.length_take]; omega), List.getElem?_take_of_lt hk, ← List.getD_eq_getElem?_getD]
theorem map_len (f g : List Int) (i : Nat) (hg : g.length = f.length) (h : i ≤ f.length) : (g.take i ++ f.drop i).length = f.length := by
  rw [List.length_append, List.length_take, List.length_drop]; omega
theorem uniAll_snoc (lab : List Int) (es : List (List Int)) (e : List Int) : uniAll lab (es ++ [e]) = uni (uniAll lab es) e := by
  simp [uniAll, List.foldl_append]
theorem toNat0 : Int.toNat 0 = 0 := rfl
theorem toNat1 : Int.toNat 1 = 1 := rfl
theorem mem_getD {xss : List (List Int)} {i : Nat} (h : i < xss.length) : xss.getD i [] ∈ xss := by
  rw [List.getD_eq_getElem?_getD, List.getElem?_eq_getElem h]
  exact List.getElem_mem _
theorem take_in {n : Nat} {es : List (List Int)} (h : ∀ e ∈ es, EdIn n e) (k : Nat) : ∀ e ∈ es.take k, EdIn n e := fun e he => h e (List.mem_of_mem_take he)

def c_im_l (f : Int → List V → List V) (q : Int → List V → Prop) : Contract := fun
  | [.int .i64 a0, .slc false 22 (.slc false 2 (.int .i64 0) []) a1] => some ([q a0 a1], .slc true 2 (.int .i64 0) (f a0 a1))
  | _ => none
def f_labs (n : Int) (es : List V) : List V := I (labs n.toNat (unII es))
def q_labs (n : Int) (es : List V) : Prop := 0 ≤ n ∧ n ≤ 2147483647 ∧ ∃ ess, es = II false ess ∧ ∀ e ∈ ess, EdIn n.toNat e
end Go.Ax
