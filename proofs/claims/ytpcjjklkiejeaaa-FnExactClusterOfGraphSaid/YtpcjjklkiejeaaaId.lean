/-
  Clusters of smooth graphs, in plain Lean. No conditions but those of the theorems.
-/
import Derived.Test.YtpcjjklkiejeaaaIc
import Derived.Test.YtpcjjklkiejeaaaIr
set_option linter.all false
namespace Go.Ax
open Go.Proofs

def ptsG (nm li : List Int) : List Int := nm.getD 0 0 :: li.reverse
theorem ptsG_len (nm li : List Int) : (ptsG nm li).length = li.length + 1 := by simp [ptsG]
def parS (f : Int → Int) (p : Int × Int) (L : List Int) : Int × Int := L.foldl (fun p v => (max p.1 (f v), min p.1 (f v))) p
def rowG (nm li : List Int) (nr : List (List Int)) (t : Nat) : Int × Int := parS (fun v => idx (ptsG nm li) v) (-1, -1) (nr.getD (li.length - 1 - t) [])
def parG (nm li : List Int) (nr : List (List Int)) (k : Nat) : List Int := -1 :: tab' (fun t => (rowG nm li nr t).1) k
def secG (nm li : List Int) (nr : List (List Int)) (k : Nat) : List Int := -1 :: tab' (fun t => (rowG nm li nr t).2) k
theorem parG_len (nm li : List Int) (nr : List (List Int)) (k : Nat) : (parG nm li nr k).length = k + 1 := by simp [parG, tab_len]
theorem secG_len (nm li : List Int) (nr : List (List Int)) (k : Nat) : (secG nm li nr k).length = k + 1 := by simp [secG, tab_len]
theorem parG_succ (nm li : List Int) (nr : List (List Int)) (k : Nat) : parG nm li nr (k + 1) = parG nm li nr k ++ [(rowG nm li nr k).1] := by simp [parG, tab_succ]
theorem secG_succ (nm li : List Int) (nr : List (List Int)) (k : Nat) : secG nm li nr (k + 1) = secG nm li nr k ++ [(rowG nm li nr k).2] := by simp [secG, tab_succ]
def f_cog (a b : List V) : List V × List V × List V × List V × Int := bif f_isGr a b then (match ctI (unI a) (unII b) with
  | some x => bif smo x.1 && f_conn a b then (bif decide (24 < (unI a).length) then ([], [], [], [], 3) else (I (parG x.2.2.1 x.2.2.2.1 x.2.2.2.2 x.2.2.2.1.length), I (secG x.2.2.1 x.2.2.2.1 x.2.2.2.2 x.2.2.2.1.length), I (List.replicate (unI a).length 0), I (ptsG x.2.2.1 x.2.2.2.1), 0)) else ([], [], [], [], 5)
  | none => ([], [], [], [], 3)) else ([], [], [], [], 1)
def c_G_Kli (f : List V → List V → List V × List V × List V × List V × Int) (q : List V → List V → Prop) : Contract := fun
  | [.agg [.slc false 2 (.int .i64 0) a0, .slc false 22 (.slc false 2 (.int .i64 0) []) a1]] => some ([q a0 a1], .tup [.agg [.slc true 2 (.int .i64 0) ((f a0 a1).1), .slc true 2 (.int .i64 0) ((f a0 a1).2.1), .slc true 2 (.int .i64 0) ((f a0 a1).2.2.1)], .slc true 2 (.int .i64 0) ((f a0 a1).2.2.2.1), .int .i64 ((f a0 a1).2.2.2.2)])
  | _ => none
/-! places -/
theorem iota_nodup (n : Nat) : (iota n).Nodup := by
  rw [iota, tab', List.Nodup, List.pairwise_map]
  exact (List.nodup_range (n := n)).imp fun {a b} h h2 => h (by omega)
theorem mem_iota {n : Nat} {x : Int} : x ∈ iota n ↔ 0 ≤ x ∧ x < n := by
  rw [iota, tab', List.mem_map]
  constructor
  · rintro ⟨i, hi, rfl⟩
    rw [List.mem_range] at hi
    omega
  · rintro ⟨h1, h2⟩
    exact ⟨x.toNat, by rw [List.mem_range]; omega, by omega⟩
theorem pts_perm {n : Nat} {nm li : List Int} (h1 : nm.length = 1) (h : (nm ++ li).Perm (iota n)) : (ptsG nm li).Perm (iota n) := by
  refine List.Perm.trans ?_ h
  match nm, h1 with
  | [a], _ => exact (List.reverse_perm li).cons a
theorem idx_at {l : List Int} (hn : l.Nodup) {k : Nat} (hk : k < l.length) : idx l (l.getD k 0) = k := by
  have h : ((List.range l.length).find? fun t => l.getD t 0 == l.getD k 0) = some k := by
    rw [List.find?_range_eq_some]
    refine ⟨by simp, by simpa using hk, fun j hj => ?_⟩
    have h2 := List.pairwise_iff_getElem.1 hn j k (by omega) hk hj
    rw [List.getD_eq_getElem?_getD, List.getElem?_eq_getElem (show j < l.length by omega), List.getD_eq_getElem?_getD, List.getElem?_eq_getElem hk]
    simpa using h2
  rw [idx, h]
/-- the places of the first k numbers -/
def atG (l : List Int) (n k : Nat) : List Int := tab' (fun v => if (v : Int) ∈ l.take k then idx l v else 0) n
theorem atG_len (l : List Int) (n k : Nat) : (atG l n k).length = n := tab_len _ _
theorem atG_0 (l : List Int) (n : Nat) : atG l n 0 = List.replicate n 0 := by
  rw [List.eq_replicate_iff]
  refine ⟨tab_len _ _, fun b hb => ?_⟩
  simp only [atG, tab', List.mem_map, List.mem_range] at hb
  obtain ⟨x, hx, rfl⟩ := hb
  simp
theorem atG_step {l : List Int} {n k : Nat} (hn : l.Nodup) (hk : k < l.length) (h0 : 0 ≤ l.getD k 0) (h1 : l.getD k 0 < n) : (atG l n k).set (l.getD k 0).toNat (k : Int) = atG l n (k + 1) := by
  rw [atG, tab_setR _ _ (by omega), atG]
  refine tab_congr fun j hj => ?_
  have ht : l.take (k + 1) = l.take k ++ [l.getD k 0] := by
    rw [List.take_succ, List.getD_eq_getElem?_getD, List.getElem?_eq_getElem hk]; rfl
  have hm : (j : Int) ∈ l.take (k + 1) ↔ (j : Int) ∈ l.take k ∨ (j : Int) = l.getD k 0 := by rw [ht, List.mem_append, List.mem_singleton]
  by_cases e : j = (l.getD k 0).toNat
  · rw [if_pos e, if_pos (hm.2 (.inr (by omega))), show (j : Int) = l.getD k 0 by omega, idx_at hn hk]
  · rw [if_neg e]
    by_cases h2 : (j : Int) ∈ l.take k
    · rw [if_pos h2, if_pos (hm.2 (.inl h2))]
    · rw [if_neg h2, if_neg (fun h3 => (hm.1 h3).elim h2 (fun h4 => by omega))]
theorem atG_get {l : List Int} {n : Nat} {v : Int} (hv : v ∈ l) (h0 : 0 ≤ v) (h1 : v < n) {k : Nat} (hk : l.length ≤ k) : (atG l n k).getD v.toNat 0 = idx l v := by
  rw [atG, tab_get _ _ _ _ (by omega), show ((v.toNat : Nat) : Int) = v by omega, List.take_of_length_le hk, if_pos hv]
theorem parS_snoc (f : Int → Int) (p : Int × Int) (L : List Int) (v : Int) : parS f p (L ++ [v]) = (max (parS f p L).1 (f v), min (parS f p L).1 (f v)) := by
  rw [parS, parS, List.foldl_append]; rfl
/-- the place of what is far in front -/
theorem idx_take {l : List Int} {k : Nat} {v : Int} (hv : v ∈ l.take k) : idx (l.take k) v = idx l v := by
  obtain ⟨t, ht, he⟩ := List.mem_iff_getElem.1 hv
  have htl : t < l.length := by rw [List.length_take] at ht; omega
  have hg : ∀ j, j < (l.take k).length → (l.take k).getD j 0 = l.getD j 0 := fun j hj => by
    rw [List.length_take] at hj
    rw [List.getD_eq_getElem?_getD, List.getElem?_take_of_lt (by omega), ← List.getD_eq_getElem?_getD]
  cases hf : (List.range (l.take k).length).find? fun t => (l.take k).getD t 0 == v with
  | none =>
    rw [List.find?_eq_none] at hf
    refine absurd ?_ (hf t (by simpa using ht))
    rw [List.getD_eq_getElem?_getD, List.getElem?_eq_getElem ht]
    simpa using he
  | some s =>
    have hf2 : ((List.range l.length).find? fun t => l.getD t 0 == v) = some s := by
      rw [List.find?_range_eq_some] at hf ⊢
      obtain ⟨f1, f2, f3⟩ := hf
      rw [List.mem_range] at f2
      refine ⟨by rw [← hg s f2]; exact f1, ?_, fun j hj => ?_⟩
      · rw [List.length_take] at f2
        rw [List.mem_range]; omega
      · rw [← hg j (by omega)]
        exact f3 j hj
    rw [idx, hf, idx, hf2]
/-- the neighbours of the point t stand ahead of it -/
theorem pts_near {n0 : Nat} {wx : List Int} {ex : List (List Int)} {nm li : List Int} {nr : List (List Int)} (h : CtQ n0 wx ex (nm, li, nr)) (h1 : nm.length = 1) {t : Nat} (ht : t < li.length) {v : Int} (hv : v ∈ nr.getD (li.length - 1 - t) []) : v ∈ (ptsG nm li).take (t + 1) := by
  have h3 := h.nin (li.length - 1 - t) (by simp only; omega) v hv
  simp only at h3
  rw [ptsG, List.take_succ_cons, List.mem_cons]
  rcases h3 with h3 | ⟨j, j1, j2, j3⟩
  · refine .inl ?_
    match nm, h1 with
    | [a], _ => exact List.mem_singleton.1 h3
  · refine .inr ?_
    rw [List.mem_take_iff_getElem]
    refine ⟨li.length - 1 - j, by rw [List.length_reverse]; omega, ?_⟩
    rw [List.getElem_reverse]
    rw [← j3, List.getD_eq_getElem?_getD, List.getElem?_eq_getElem j2, Option.getD_some]
    congr 1
    omega
end Go.Ax
