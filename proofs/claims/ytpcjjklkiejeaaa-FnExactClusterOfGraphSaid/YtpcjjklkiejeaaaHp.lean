/-
  Edges in order, graphs, vertices contracted, in plain Lean. No conditions but those of the theorems.
-/
import Derived.Test.YtpcjjklkiejeaaaGt
set_option linter.all false
namespace Go.Ax
open Go.Proofs

/-! the order of lists -/
theorem lexLt_irrefl : ∀ l : List Int, lexLt l l = false
  | [] => rfl
  | x :: l => by simp only [lexLt, beq_self_eq_true, Bool.not_true, cond_false]; exact lexLt_irrefl l
theorem lexLt_cons (x y : Int) (a b : List Int) : lexLt (x :: a) (y :: b) = true ↔ x < y ∨ x = y ∧ lexLt a b = true := by
  simp only [lexLt]
  by_cases h : x = y
  · subst h; simp
  · have : (x == y) = false := by simpa using h
    rw [this]; simp [h]
theorem lexLt_trans : ∀ a b c : List Int, lexLt a b = true → lexLt b c = true → lexLt a c = true
  | _, [], _, h, _ => by cases ‹List Int› <;> simp [lexLt] at h
  | [], y :: b, [], _, h => by simp [lexLt] at h
  | [], y :: b, z :: c, _, _ => rfl
  | x :: a, y :: b, [], _, h => by simp [lexLt] at h
  | x :: a, y :: b, z :: c, h1, h2 => by
    rw [lexLt_cons] at *
    rcases h1 with h1 | ⟨h1, h1'⟩
    · rcases h2 with h2 | ⟨h2, _⟩ <;> exact .inl (by omega)
    · rcases h2 with h2 | ⟨h2, h2'⟩
      · exact .inl (by omega)
      · exact .inr ⟨by omega, lexLt_trans a b c h1' h2'⟩
theorem lexLt_tri : ∀ a b : List Int, lexLt a b = false → lexLt b a = false → a = b
  | [], [], _, _ => rfl
  | [], y :: b, h, _ => by simp [lexLt] at h
  | x :: a, [], _, h => by simp [lexLt] at h
  | x :: a, y :: b, h1, h2 => by
    have n1 : ¬ (x < y ∨ x = y ∧ lexLt a b = true) := fun h => by rw [(lexLt_cons x y a b).2 h] at h1; cases h1
    have n2 : ¬ (y < x ∨ y = x ∧ lexLt b a = true) := fun h => by rw [(lexLt_cons y x b a).2 h] at h2; cases h2
    have e : x = y := by omega
    subst e
    rw [lexLt_tri a b (by cases h : lexLt a b <;> simp_all) (by cases h : lexLt b a <;> simp_all)]
theorem lexLt_ntrans (a b c : List Int) (h1 : lexLt a b = false) (h2 : lexLt b c = false) : lexLt a c = false := by
  cases h : lexLt a c with
  | false => rfl
  | true =>
    cases h3 : lexLt b a with
    | true => rw [lexLt_trans b a c h3 h] at h2; cases h2
    | false =>
      have e := lexLt_tri a b h1 h3
      rw [e, h2] at h; cases h
def leE (a b : List Int) : Bool := !lexLt b a
def srtE (es : List (List Int)) : List (List Int) := es.mergeSort leE
theorem leE_trans (a b c : List Int) (h1 : leE a b = true) (h2 : leE b c = true) : leE a c = true := by
  simp only [leE, Bool.not_eq_true'] at *
  exact lexLt_ntrans c b a h2 h1
theorem leE_total (a b : List Int) : (leE a b || leE b a) = true := by
  simp only [leE, Bool.or_eq_true, Bool.not_eq_true']
  cases h : lexLt b a with
  | false => exact .inl rfl
  | true =>
    refine .inr ?_
    cases h2 : lexLt a b with
    | false => rfl
    | true => have := lexLt_trans a b a h2 h; rw [lexLt_irrefl] at this; cases this
theorem srtE_eq {xs ys : List (List Int)} (hp : xs.Perm ys) (hs : ys.Pairwise (fun a b => lexLt b a = false)) : srtE xs = ys := by
  refine List.Perm.eq_of_pairwise (le := fun x y => lexLt y x = false) (fun a b _ _ h1 h2 => lexLt_tri a b h2 h1) ?_ hs ((List.mergeSort_perm _ _).trans hp)
  have h := List.pairwise_mergeSort (le := leE) leE_trans leE_total xs
  exact h.imp fun h => by simpa [leE] using h
theorem srtE_len (xs : List (List Int)) : (srtE xs).length = xs.length := List.length_mergeSort _
theorem srtE_perm (xs : List (List Int)) : (srtE xs).Perm xs := List.mergeSort_perm _ _
structure GrN (n : Nat) (es : List (List Int)) : Prop where
  n1 : 1 ≤ n
  n2 : n ≤ 40
  el : es.length ≤ 400
  eok : edsOk n none es = true
  ed : ∀ e ∈ es, EdIn n e
  lt : ∀ e ∈ es, e0 e < e1 e
theorem Gr.toN {ws : List Int} {es : List (List Int)} (h : Gr ws es) : GrN ws.length es := ⟨h.n1, h.n2, by have := h.el; have := h.n2; omega, h.eok, h.ed, h.lt⟩
/-- the weights of the vertices of l go up by 1; none if one is too great -/
def incW : List Int → List Int → Option (List Int)
  | ws, [] => some ws
  | ws, i :: l => if 1000 < W (ws.getD i.toNat 0 + 1) then none else incW (ws.set i.toNat (W (ws.getD i.toNat 0 + 1))) l
theorem incW_len : ∀ (l ws ws' : List Int), incW ws l = some ws' → ws'.length = ws.length
  | [], ws, ws', h => by simp only [incW, Option.some.injEq] at h; rw [h]
  | i :: l, ws, ws', h => by
    simp only [incW] at h
    split at h
    · cases h
    · rw [incW_len l _ _ h, List.length_set]
theorem incW_snoc : ∀ (l ws ws' : List Int) (i : Int), incW ws l = some ws' → incW ws (l ++ [i]) = if 1000 < W (ws'.getD i.toNat 0 + 1) then none else some (ws'.set i.toNat (W (ws'.getD i.toNat 0 + 1)))
  | [], ws, ws', i, h => by
    simp only [incW, Option.some.injEq] at h
    subst h
    rfl
  | k :: l, ws, ws', i, h => by
    simp only [incW, List.cons_append] at h ⊢
    split at h
    · cases h
    · rename_i hh
      rw [if_neg hh]
      exact incW_snoc l _ _ i h
theorem incW_none : ∀ (l l2 ws : List Int), incW ws l = none → incW ws (l ++ l2) = none
  | [], l2, ws, h => by simp [incW] at h
  | k :: l, l2, ws, h => by
    simp only [incW, List.cons_append] at h ⊢
    split
    · rfl
    · rename_i hh
      rw [if_neg hh] at h
      exact incW_none l l2 _ h
def mapK {α : Type} (f : α → α) (k : Nat) (l : List α) : List α := (l.take k).map f ++ l.drop k
theorem mapK_get? {α : Type} (f : α → α) (k : Nat) (l : List α) (i : Nat) : (mapK f k l)[i]? = (l[i]?).map fun x => if i < k then f x else x := by
  rw [mapK]
  by_cases h : i < k
  · by_cases h2 : i < l.length
    · rw [List.getElem?_append_left (by rw [List.length_map, List.length_take]; omega), List.getElem?_map, List.getElem?_take_of_lt h]
      simp [h]
    · rw [List.getElem?_eq_none (by rw [List.length_append, List.length_map, List.length_take, List.length_drop]; omega), List.getElem?_eq_none (l := l) (by omega)]; rfl
  · by_cases h2 : k ≤ l.length
    · rw [List.getElem?_append_right (by rw [List.length_map, List.length_take]; omega), List.length_map, List.length_take, Nat.min_eq_left h2, List.getElem?_drop, show k + (i - k) = i by omega]
      simp [h]
    · rw [List.getElem?_eq_none (by rw [List.length_append, List.length_map, List.length_take, List.length_drop]; omega), List.getElem?_eq_none (l := l) (by omega)]; rfl
theorem mapK_len {α : Type} (f : α → α) (k : Nat) (l : List α) : (mapK f k l).length = l.length := by
  rw [mapK, List.length_append, List.length_map, List.length_take, List.length_drop]; omega
theorem mapK_0 {α : Type} (f : α → α) (l : List α) : mapK f 0 l = l := by simp [mapK]
theorem mapK_all {α : Type} (f : α → α) (l : List α) {k : Nat} (h : l.length ≤ k) : mapK f k l = l.map f := by rw [mapK, List.take_of_length_le h, List.drop_eq_nil_of_le h, List.append_nil]
theorem mapK_at {α : Type} (f : α → α) (k : Nat) (l : List α) (d : α) : (mapK f k l).getD k d = l.getD k d := by
  rw [List.getD_eq_getElem?_getD, mapK_get?, List.getD_eq_getElem?_getD]
  cases l[k]? <;> simp
theorem mapK_set {α : Type} (f : α → α) {k : Nat} (l : List α) (d : α) (h : k < l.length) : (mapK f k l).set k (f (l.getD k d)) = mapK f (k + 1) l := by
  apply List.ext_getElem?
  intro i
  rw [List.getElem?_set, mapK_len, mapK_get?, mapK_get?]
  by_cases e : k = i
  · subst e
    rw [if_pos rfl, if_pos h, List.getElem?_eq_getElem h, List.getD_eq_getElem?_getD, List.getElem?_eq_getElem h]
    simp
  · rw [if_neg e]
    cases l[i]? with
    | none => rfl
    | some x =>
      by_cases h3 : i < k
      · simp [h3, show i < k + 1 by omega]
      · simp [h3, show ¬ i < k + 1 by omega]
theorem mapK_keep {α : Type} (f : α → α) {k : Nat} (l : List α) (d : α) (h : k < l.length) (hk : f (l.getD k d) = l.getD k d) : mapK f k l = mapK f (k + 1) l := by
  rw [← mapK_set f l d h, hk]
  apply List.ext_getElem?
  intro i
  rw [List.getElem?_set]
  by_cases e : k = i
  · subst e
    rw [if_pos rfl, if_pos (by rw [mapK_len]; exact h), mapK_get?, List.getElem?_eq_getElem h, List.getD_eq_getElem?_getD, List.getElem?_eq_getElem h]
    simp
  · rw [if_neg e]
def decI (v x : Int) : Int := if v < x then W (x - 1) else x
def awayE (v : Int) (e : List Int) : Bool := decide (e.getD 0 0 ≠ v) && decide (e.getD 1 0 ≠ v)
def decE (v : Int) (e : List Int) : List Int := e.map (decI v)
def conE (es : List (List Int)) (v : Int) : List (List Int) := es.filter (awayE v) ++ if (near es v).length = 2 then [near es v] else []
theorem near_ne {n : Nat} {es : List (List Int)} (g : GrN n es) {v x : Int} (h : x ∈ near es v) : x ≠ v := by
  obtain ⟨e, he, h⟩ := mem_near.1 h
  have := g.lt e he
  rcases h with ⟨h1, h2⟩ | ⟨h1, h2⟩ <;> omega
theorem conE_eq {n : Nat} {es : List (List Int)} (g : GrN n es) (v : Int) : (es ++ if (near es v).length = 2 then [near es v] else []).filter (awayE v) = conE es v := by
  rw [List.filter_append, conE]
  congr 1
  split
  · rename_i h
    have h0 : (near es v).getD 0 0 ∈ near es v := by
      rw [List.getD_eq_getElem?_getD, List.getElem?_eq_getElem (by omega)]; exact List.getElem_mem _
    have h1 : (near es v).getD 1 0 ∈ near es v := by
      rw [List.getD_eq_getElem?_getD, List.getElem?_eq_getElem (by omega)]; exact List.getElem_mem _
    have ha : awayE v (near es v) = true := by
      rw [awayE, decide_eq_true (near_ne g h0), decide_eq_true (near_ne g h1)]; rfl
    simp [ha]
  · rfl
theorem decE_len (v : Int) (e : List Int) : (decE v e).length = e.length := by simp [decE]
end Go.Ax
