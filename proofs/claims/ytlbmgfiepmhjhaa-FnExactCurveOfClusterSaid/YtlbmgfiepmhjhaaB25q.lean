import Derived.Test.YtlbmgfiepmhjhaaB23q
import Derived.Test.YtlbmgfiepmhjhaaB24q
/-
  Curves of clusters: what they are, in plain Lean. No conditions but those of the theorems.
-/
set_option linter.all false
namespace Go.Ax
open Go.Proofs

def ptsF (fs : List (List Int)) : List Int := fs.flatMap fun r => List.replicate (r.getD 1 0).toNat (r.getD 0 0)
def sumF : List (List Int) → Int
  | [] => 0
  | r :: fs => r.getD 1 0 + sumF fs
structure FacOk (n : Nat) (fs : List (List Int)) : Prop where
  len : fs.length ≤ 24
  row : ∀ r ∈ fs, r.length = 2 ∧ 0 ≤ r.getD 0 0 ∧ r.getD 0 0 < n ∧ 0 < r.getD 1 0 ∧ r.getD 1 0 ≤ 2500000
theorem facA_mem {l : List Int} : ∀ {i : Nat} {r : List Int}, r ∈ facA l i → ∃ k, k < i ∧ r = [(k : Int), l.getD k 0] ∧ 0 < l.getD k 0
  | 0, r, h => by simp [facA] at h
  | i + 1, r, h => by
    rw [facA] at h
    rcases List.mem_append.1 h with h | h
    · obtain ⟨k, h1, h2⟩ := facA_mem h
      exact ⟨k, by omega, h2⟩
    · by_cases h0 : 0 < l.getD i 0
      · rw [if_pos h0, List.mem_singleton] at h
        exact ⟨i, by omega, h, h0⟩
      · rw [if_neg h0] at h
        cases h
theorem facs_ok {P S Q : List Int} (h : ClP P S Q) : FacOk P.length (facA (exsL P S Q) P.length) := by
  refine ⟨Nat.le_trans (facA_len _ _) h.n24, fun r hr => ?_⟩
  obtain ⟨k, h1, rfl, h3⟩ := facA_mem hr
  have h4 := exL_small h k
  have h5 : (exsL P S Q).getD k 0 = exL P S Q k := tab_get _ _ _ _ h1
  have e0 : ([(k : Int), (exsL P S Q).getD k 0] : List Int).getD 0 0 = k := rfl
  have e1 : ([(k : Int), (exsL P S Q).getD k 0] : List Int).getD 1 0 = exL P S Q k := h5
  rw [h5] at h3
  rw [e0, e1]
  exact ⟨rfl, by omega, by omega, by omega, by omega⟩
theorem sumF_snoc (r : List Int) : ∀ fs : List (List Int), sumF (fs ++ [r]) = sumF fs + r.getD 1 0
  | [] => by simp [sumF]
  | x :: fs => by rw [List.cons_append, sumF, sumF, sumF_snoc r fs]; omega
theorem ptsF_snoc (fs : List (List Int)) (r : List Int) : ptsF (fs ++ [r]) = ptsF fs ++ List.replicate (r.getD 1 0).toNat (r.getD 0 0) := by
  rw [ptsF, List.flatMap_append, ← ptsF]; simp
theorem sumF_len {n : Nat} : ∀ {fs : List (List Int)}, (∀ r ∈ fs, r.length = 2 ∧ 0 ≤ r.getD 0 0 ∧ r.getD 0 0 < n ∧ 0 < r.getD 1 0 ∧ r.getD 1 0 ≤ 2500000) → sumF fs = (ptsF fs).length ∧ 0 ≤ sumF fs ∧ sumF fs ≤ 2500000 * fs.length
  | [], _ => by simp [sumF, ptsF]
  | r :: fs, h => by
    obtain ⟨h1, h2, h3⟩ := sumF_len (fs := fs) (fun x hx => h x (List.mem_cons_of_mem _ hx))
    have h4 := h r (by simp)
    have h5 : ptsF (r :: fs) = List.replicate (r.getD 1 0).toNat (r.getD 0 0) ++ ptsF fs := rfl
    rw [sumF, h5, List.length_append, List.length_replicate, h1, List.length_cons]
    rw [h1] at h3
    omega
theorem FacOk.take {n : Nat} {fs : List (List Int)} (h : FacOk n fs) (i : Nat) : FacOk n (fs.take i) := ⟨by rw [List.length_take]; have := h.len; omega, fun r hr => h.row r (List.mem_of_mem_take hr)⟩
theorem FacOk.get {n : Nat} {fs : List (List Int)} (h : FacOk n fs) {i : Nat} (hi : i < fs.length) : (fs.getD i []).length = 2 ∧ 0 ≤ (fs.getD i []).getD 0 0 ∧ (fs.getD i []).getD 0 0 < n ∧ 0 < (fs.getD i []).getD 1 0 ∧ (fs.getD i []).getD 1 0 ≤ 2500000 :=
  h.row _ (mem_getD hi)
theorem take_snoc {fs : List (List Int)} {i : Nat} (hi : i < fs.length) : fs.take (i + 1) = fs.take i ++ [fs.getD i []] := take_succ_tot fs i hi
theorem ptsF_pre (fs : List (List Int)) (i : Nat) : ∃ t, ptsF fs = ptsF (fs.take i) ++ t := by
  refine ⟨ptsF (fs.drop i), ?_⟩
  conv => lhs; rw [← List.take_append_drop i fs]
  rw [ptsF, List.flatMap_append]; rfl
theorem ptsF_in {n : Nat} {fs : List (List Int)} (h : FacOk n fs) : ∀ x ∈ ptsF fs, 0 ≤ x ∧ x < n := by
  intro x hx
  rw [ptsF, List.mem_flatMap] at hx
  obtain ⟨r, hr, hx⟩ := hx
  have h1 := h.row r hr
  have h2 := List.eq_of_mem_replicate hx
  omega
theorem ptsF_has {n : Nat} {fs : List (List Int)} (h : FacOk n fs) {i : Nat} (hi : i < fs.length) : (fs.getD i []).getD 0 0 ∈ ptsF fs := by
  have h1 := h.get hi
  rw [ptsF, List.mem_flatMap]
  exact ⟨_, mem_getD hi, List.mem_replicate.2 ⟨by omega, rfl⟩⟩
def curX (P S : List Int) (x : Int) : List Int := curB (codI P S x)
def okX (P S : List Int) (x : Int) : Bool := okC (codI P S x)
theorem curR_yes {P S : List Int} {x : Int} (h : okX P S x = true) : curR (codI P S x) = (I (curX P S x), 0) := by rw [curR, show okC (codI P S x) = true from h]; rfl
theorem curR_no {P S : List Int} {x : Int} (h : okX P S x = false) : curR (codI P S x) = ([], 5) := by rw [curR, show okC (codI P S x) = false from h]; rfl
theorem curX_len {P S Q : List Int} (h : ClP P S Q) {x : Int} (h0 : 0 ≤ x) (h1 : x < P.length) (hok : okX P S x = true) : (curX P S x).length ≤ 3000 := by
  have hl := pthC_len h (show -1 ≤ x by omega) h1
  have hcl : (codI P S x).length ≤ 30 := by rw [codI, cdN_len]; omega
  obtain ⟨⟨n, l, hs⟩, _⟩ := seq_more hcl hok 0
  rw [List.replicate_zero, List.append_nil] at hs
  rw [curX, curB, bosI_eq hs, natL_len, List.length_cons]
  have hv := val_len l n n hs.1.val (by have := hs.1.hi; omega)
  omega
def com (P : List Int) (ps : List Int) (i k : Nat) : Int := if i = k then 0 else (shN (pthC P (ps.getD i 0)) (pthC P (ps.getD k 0)) : Nat)
def cocP (P S : List Int) (ps : List Int) : List V × List V × Int := if ps.length = 0 ∨ 6 < ps.length then ([], [], 3) else bif ps.all (okX P S) then (BB true (ps.map (curX P S)), II true (T2 ps.length (com P ps)), 0) else ([], [], 5)
noncomputable def f_coc (a b c : List V) : List V × List V × Int := bif f_isCl a b c then (bif f_cons a b c then cocP (unI a) (unI b) (ptsF (facA (exsL (unI a) (unI b) (unI c)) a.length)) else ([], [], 5)) else ([], [], 1)
def comS (P ps : List Int) (i k a b : Nat) : Int := if a < i ∨ (a = i ∧ b < k) then com P ps a b else 0
theorem comS_zero (P ps : List Int) (n : Nat) : List.replicate n (List.replicate n (0 : Int)) = T2 n (comS P ps 0 0) := by
  rw [T2_zero]
  exact T2_congr fun a b _ _ => by rw [comS, if_neg (by omega)]
theorem comS_row (P ps : List Int) (i n : Nat) : T2 n (comS P ps i n) = T2 n (comS P ps (i + 1) 0) := T2_congr fun a b ha hb => by
  rw [comS, comS]
  by_cases h : a < i + 1
  · rw [if_pos (by omega), if_pos (by omega)]
  · rw [if_neg (by omega), if_neg (by omega)]
theorem comS_all (P ps : List Int) (n : Nat) : T2 n (comS P ps n 0) = T2 n (com P ps) := T2_congr fun a b ha hb => by rw [comS, if_pos (by omega)]
theorem comS_set {P ps : List Int} {i k n : Nat} (hi : i < n) (hk : k < n) (h : i ≠ k) : (T2 n (comS P ps i k)).set i (((T2 n (comS P ps i k)).getD i []).set k (shN (pthC P (ps.getD i 0)) (pthC P (ps.getD k 0)) : Nat)) = T2 n (comS P ps i (k + 1)) := by
  refine T2_set hi hk ?_ fun a b ha hb hab => ?_
  · rw [comS, if_pos (by omega), com, if_neg h]
  · rw [comS, comS]
    by_cases h1 : a < i ∨ (a = i ∧ b < k)
    · rw [if_pos (by omega), if_pos h1]
    · rw [if_neg (by omega), if_neg h1]
theorem comS_skip {P ps : List Int} {i n : Nat} : T2 n (comS P ps i i) = T2 n (comS P ps i (i + 1)) := T2_congr fun a b ha hb => by
  rw [comS, comS]
  by_cases h1 : a < i ∨ (a = i ∧ b < i)
  · rw [if_pos h1, if_pos (by omega)]
  · by_cases h2 : a = i ∧ b = i
    · rw [if_neg h1, if_pos (by omega), com, if_pos (by omega)]
    · rw [if_neg h1, if_neg (by omega)]
end Go.Ax
