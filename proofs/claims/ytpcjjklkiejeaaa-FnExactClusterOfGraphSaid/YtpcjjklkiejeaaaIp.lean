/-
  Contractions in plain Lean. No conditions but those of the theorems.
-/
import Derived.Test.YtpcjjklkiejeaaaHw
set_option linter.all false
namespace Go.Ax
open Go.Proofs

/-- names, vertices, neighbours -/
abbrev CtS := List Int × List Int × List (List Int)
def nmM (nm : List Int) (l : List Int) : List Int := l.map fun i => nm.getD i.toNat 0
def ctF (es : List (List Int)) (v : Nat) (s : CtS) : CtS := (dropAt s.1 v, s.2.1 ++ [s.1.getD v 0], s.2.2 ++ [nmM s.1 (near es v)])
def ctI (ws : List Int) (es : List (List Int)) : Option (List Int × List (List Int) × CtS) := itS ctF ws es (iota ws.length, [], [])
def q_ctr (a b : List V) : Prop := ∃ ws es, a = I ws ∧ b = II false es ∧ GrN ws.length es ∧ Sep es
theorem nmM_len (nm l : List Int) : (nmM nm l).length = l.length := List.length_map ..
/-! components -/
theorem root_at {lab : List Int} : ∀ (k j : Nat), j < cntR lab k → ∃ r : Nat, r < k ∧ lab.getD r 0 = r ∧ cntR lab r = j
  | 0, j, h => by simp [cntR] at h
  | k + 1, j, h => by
    by_cases h2 : j < cntR lab k
    · obtain ⟨r, h3, h4⟩ := root_at k j h2
      exact ⟨r, by omega, h4⟩
    · simp only [cntR] at h
      by_cases hk : lab.getD k 0 = k
      · rw [if_pos hk] at h
        exact ⟨k, by omega, hk, by omega⟩
      · rw [if_neg hk] at h
        omega
theorem one_lab {n : Nat} {es : List (List Int)} (hn : 0 < n) (he : ∀ e ∈ es, EdIn n e) (ha : acy (iota n) es = true) : (labs n es).contains 1 = !decide ((es.length : Int) = n - 1) := by
  obtain ⟨h1, h2, h3, h4, h5⟩ := comp_iff hn he
  have h6 := h4.1 ha
  have hll : (labs n es).length = n := by rw [labs, rn_len, h1.len]
  have hne : labs n es ≠ [] := fun e => by
    have h0 : (labs n es).length = 0 := by rw [e]; rfl
    omega
  obtain ⟨m1, m2⟩ := maxL_spec hne
  rw [Bool.eq_iff_iff, List.contains_iff_mem, Bool.not_eq_true', decide_eq_false_iff_not]
  constructor
  · intro h
    have := m1 1 h
    omega
  · intro h
    have h7 := h1.pos hn
    obtain ⟨r, r1, r2, r3⟩ := root_at (lab := uniAll (iota n) es) n 1 (by omega)
    have hr : (labs n es).getD r 0 = 1 := by rw [labs, rn_get _ _ (by rw [h1.len]; exact r1), r2, Int.toNat_natCast, r3]; rfl
    have hrl : r < (labs n es).length := by omega
    rw [← hr, List.getD_eq_getElem?_getD, List.getElem?_eq_getElem hrl]
    exact List.getElem_mem _
/-! what is kept -/
theorem drop_split {xs : List Int} {v : Nat} (h : v < xs.length) : xs = xs.take v ++ xs.getD v 0 :: xs.drop (v + 1) := by
  rw [List.getD_eq_getElem?_getD, List.getElem?_eq_getElem h, Option.getD_some, List.getElem_cons_drop, List.take_append_drop]
theorem mem_dropAt {xs : List Int} {i v : Nat} (h : i < xs.length) (hne : i ≠ v) : xs.getD i 0 ∈ dropAt xs v := by
  rw [List.getD_eq_getElem?_getD, List.getElem?_eq_getElem h, Option.getD_some, dropAt, List.mem_append]
  by_cases hi : i < v
  · exact .inl (List.mem_take_iff_getElem.2 ⟨i, by omega, rfl⟩)
  · refine .inr (List.mem_drop_iff_getElem.2 ⟨i - (v + 1), by omega, ?_⟩)
    congr 1
    omega
theorem mem_of_dropAt {xs : List Int} {v : Nat} (h : v < xs.length) {x : Int} (hx : x ∈ xs) : x = xs.getD v 0 ∨ x ∈ dropAt xs v := by
  rw [drop_split h, List.mem_append, List.mem_cons] at hx
  rw [dropAt, List.mem_append]
  rcases hx with hx | hx | hx
  · exact .inr (.inl hx)
  · exact .inl hx
  · exact .inr (.inr hx)
structure CtQ (n0 : Nat) (ws : List Int) (es : List (List Int)) (s : CtS) : Prop where
  len : s.1.length = ws.length
  perm : (s.1 ++ s.2.1).Perm (iota n0)
  nl : s.2.2.length = s.2.1.length
  nin : ∀ k, k < s.2.1.length → ∀ x ∈ s.2.2.getD k [], x ∈ s.1 ∨ ∃ j, k < j ∧ j < s.2.1.length ∧ s.2.1.getD j 0 = x
  nb : ∀ l ∈ s.2.2, l.length ≤ 1000
theorem CtQ.first (ws : List Int) (es : List (List Int)) : CtQ ws.length ws es (iota ws.length, [], []) :=
  ⟨iota_len _, by simp, rfl, fun k hk => by simp at hk, fun l hl => by cases hl⟩
theorem CtQ.step {n0 : Nat} {ws ws' : List Int} {es : List (List Int)} {v : Nat} {s : CtS} (g : GrN ws.length es) (hv : v < ws.length) (hi : incW ws (near es v) = some ws') (h : CtQ n0 ws es s) : CtQ n0 (dropAt ws' v) (nexE es v) (ctF es v s) := by
  obtain ⟨nm, li, nr⟩ := s
  obtain ⟨h1, h2, h3, h4, h5⟩ := h
  simp only at h1 h2 h3 h4 h5
  have hw := incW_len _ _ _ hi
  have hd := dropAt_len (xs := ws') (i := v) (by omega)
  have hd2 := dropAt_len (xs := nm) (i := v) (by omega)
  refine ⟨by simp only [ctF]; omega, ?_, by simp [ctF, h3], ?_, ?_⟩
  · simp only [ctF]
    refine List.Perm.trans ?_ h2
    have e := drop_split (xs := nm) (v := v) (by omega)
    have p1 : (dropAt nm v ++ (li ++ [nm.getD v 0])).Perm (nm.getD v 0 :: (dropAt nm v ++ li)) := by
      rw [← List.append_assoc]
      exact List.perm_append_singleton _ _
    have p2 : (nm ++ li).Perm (nm.getD v 0 :: (dropAt nm v ++ li)) := by
      have p3 : nm.Perm (nm.getD v 0 :: dropAt nm v) := by
        have p4 : (nm.take v ++ nm.getD v 0 :: nm.drop (v + 1)).Perm (nm.getD v 0 :: dropAt nm v) := List.perm_middle
        rw [← e] at p4
        exact p4
      exact p3.append_right li
    exact p1.trans p2.symm
  · intro k hk x hx
    simp only [ctF, List.length_append, List.length_singleton] at hk hx ⊢
    by_cases hkl : k < li.length
    · rw [List.getD_eq_getElem?_getD, List.getElem?_append_left (by omega), ← List.getD_eq_getElem?_getD] at hx
      rcases h4 k hkl x hx with h6 | ⟨j, j1, j2, j3⟩
      · rcases mem_of_dropAt (v := v) (by omega) h6 with h7 | h7
        · refine .inr ⟨li.length, hkl, by omega, ?_⟩
          rw [List.getD_eq_getElem?_getD, List.getElem?_append_right (Nat.le_refl _), Nat.sub_self, h7]
          rfl
        · exact .inl h7
      · refine .inr ⟨j, j1, by omega, ?_⟩
        rw [List.getD_eq_getElem?_getD, List.getElem?_append_left j2, ← List.getD_eq_getElem?_getD, j3]
    · have hk2 : k = li.length := by omega
      subst hk2
      rw [List.getD_eq_getElem?_getD, List.getElem?_append_right (by omega), h3, Nat.sub_self] at hx
      simp only [List.getElem?_cons_zero, Option.getD_some, nmM, List.mem_map] at hx
      obtain ⟨i, hi, rfl⟩ := hx
      have h6 := near_in g.ed hi
      have h7 := near_ne g hi
      exact .inl (mem_dropAt (by omega) (by omega))
  · intro l hl
    simp only [ctF, List.mem_append, List.mem_singleton] at hl
    rcases hl with hl | rfl
    · exact h5 l hl
    · rw [nmM, List.length_map, near, List.length_append]
      have := nearA_len es v
      have := nearB_len es v
      have := g.el
      omega
theorem ct_ok {ws : List Int} {es : List (List Int)} (g : GrN ws.length es) (hs : Sep es) {x : List Int × List (List Int) × CtS} (h : ctI ws es = some x) : GrN x.1.length x.2.1 ∧ CtQ ws.length x.1 x.2.1 x.2.2 ∧ x.1.length ≤ ws.length := by
  obtain ⟨ws2, es2, s2⟩ := x
  obtain ⟨h1, _, h2, h3⟩ := itS_ok ctF (CtQ ws.length) (fun ws ws' es v s g hv _ hi hq => hq.step g hv hi) ws.length ws es (iota ws.length, [], []) ws2 es2 s2 rfl g hs (CtQ.first ws es) h
  exact ⟨h1, h2, h3⟩
end Go.Ax
