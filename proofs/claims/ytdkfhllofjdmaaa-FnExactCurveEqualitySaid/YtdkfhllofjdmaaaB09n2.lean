import Derived.Test.YtdkfhllofjdmaaaB06n2
import Derived.Test.YtdkfhllofjdmaaaB08n2
/-
  The next permutation in plain Lean: it is the least of those that are greater. No conditions but those of the theorems.
-/
set_option linter.all false
namespace Go.Ax
open Go.Proofs

theorem npI_spec (d : List Int) : ∀ m, (npI d m = 0 → ∀ t, t < m → d.getD (t + 1) 0 < d.getD t 0) ∧
    ∀ j, npI d m = j + 1 → j < m ∧ ¬ d.getD (j + 1) 0 < d.getD j 0 ∧ ∀ t, j < t → t < m → d.getD (t + 1) 0 < d.getD t 0
  | 0 => ⟨fun _ t ht => absurd ht (by omega), fun j h => by simp [npI] at h⟩
  | m + 1 => by
    obtain ⟨h1, h2⟩ := npI_spec d m
    rw [npI]
    by_cases h : d.getD (m + 1) 0 < d.getD m 0
    · rw [if_pos h]
      refine ⟨fun h0 t ht => ?_, fun j hj => ?_⟩
      · by_cases e : t = m
        · rw [e]; exact h
        · exact h1 h0 t (by omega)
      · obtain ⟨k1, k2, k3⟩ := h2 j hj
        refine ⟨by omega, k2, fun t t1 t2 => ?_⟩
        by_cases e : t = m
        · rw [e]; exact h
        · exact k3 t t1 (by omega)
    · rw [if_neg h]
      refine ⟨fun h0 => by omega, fun j hj => ?_⟩
      have e : j = m := by omega
      subst e
      exact ⟨by omega, h, fun t t1 t2 => by omega⟩
theorem npK_spec (d : List Int) (x : Int) : ∀ m, npK d x m ≤ m ∧ (0 < npK d x m → ¬ d.getD (npK d x m) 0 < x) ∧ ∀ t, npK d x m < t → t ≤ m → d.getD t 0 < x
  | 0 => ⟨Nat.le_refl _, fun h => by simp [npK] at h, fun t h1 h2 => by omega⟩
  | m + 1 => by
    obtain ⟨h1, h2, h3⟩ := npK_spec d x m
    rw [npK]
    by_cases h : d.getD (m + 1) 0 < x
    · rw [if_pos h]
      refine ⟨by omega, h2, fun t t1 t2 => ?_⟩
      by_cases e : t = m + 1
      · rw [e]; exact h
      · exact h3 t t1 (by omega)
    · rw [if_neg h]
      exact ⟨Nat.le_refl _, fun _ => h, fun t t1 t2 => by omega⟩
theorem lexF {x y : Int} {a b : List Int} : lexLt (x :: a) (y :: b) = false ↔ ¬ (x < y ∨ x = y ∧ lexLt a b = true) := by
  rw [← lexLt_cons]
  cases lexLt (x :: a) (y :: b) <;> simp
theorem sorted_least : ∀ (s u : List Int), s.Pairwise (· ≤ ·) → u.Perm s → lexLt u s = false
  | [], u, _, hp => by
    rw [hp.eq_nil]; rfl
  | a :: s, u, hs, hp => by
    cases u with
    | nil => exact absurd hp.symm.eq_nil (by simp)
    | cons b u =>
      obtain ⟨h1, h2⟩ := List.pairwise_cons.1 hs
      rw [lexF]
      have hb : b ∈ a :: s := hp.mem_iff.1 (by simp)
      have hab : a ≤ b := by
        rcases List.mem_cons.1 hb with h | h
        · omega
        · exact h1 b h
      rintro (h | ⟨h, h3⟩)
      · omega
      · subst h
        rw [sorted_least s u h2 hp.cons_inv] at h3
        cases h3
theorem desc_greatest : ∀ (s u : List Int), s.Pairwise (· ≥ ·) → u.Perm s → lexLt s u = false
  | [], u, _, hp => by
    rw [hp.eq_nil]; rfl
  | a :: s, u, hs, hp => by
    cases u with
    | nil => exact absurd hp.symm.eq_nil (by simp)
    | cons b u =>
      obtain ⟨h1, h2⟩ := List.pairwise_cons.1 hs
      rw [lexF]
      have hb : b ∈ a :: s := hp.mem_iff.1 (by simp)
      have hab : b ≤ a := by
        rcases List.mem_cons.1 hb with h | h
        · omega
        · exact h1 b h
      rintro (h | ⟨h, h3⟩)
      · omega
      · subst h
        rw [desc_greatest s u h2 hp.cons_inv] at h3
        cases h3
theorem lex_pref {r r' : List Int} (h : ∀ q, q.Perm r → lexLt r q = true → lexLt q r' = false) : ∀ (A q : List Int), q.Perm (A ++ r) → lexLt (A ++ r) q = true → lexLt q (A ++ r') = false
  | [], q, hp, hl => h q hp hl
  | a :: A, q, hp, hl => by
    cases q with
    | nil => exact absurd hp.symm.eq_nil (by simp)
    | cons b q =>
      rw [List.cons_append, lexLt_cons] at hl
      rw [List.cons_append, lexF]
      rintro (h1 | ⟨h1, h2⟩)
      · omega
      · subst h1
        rcases hl with hl | ⟨_, hl⟩
        · omega
        · rw [lex_pref h A q hp.cons_inv hl] at h2
          cases h2
theorem lexLt_pre (u v : List Int) : ∀ A : List Int, lexLt (A ++ u) (A ++ v) = lexLt u v
  | [] => rfl
  | a :: A => by
    rw [List.cons_append, List.cons_append, ← lexLt_pre u v A]
    simp [lexLt]
theorem desc_pw : ∀ l : List Int, (∀ t, t + 1 < l.length → l.getD (t + 1) 0 < l.getD t 0) → l.Pairwise (· > ·)
  | [], _ => .nil
  | [a], _ => by simp
  | a :: b :: l, h => by
    have hb := desc_pw (b :: l) (fun t ht => h (t + 1) (by simpa using ht))
    have h0 := h 0 (by simp)
    have hab : b < a := h0
    refine List.pairwise_cons.2 ⟨fun z hz => ?_, hb⟩
    rcases List.mem_cons.1 hz with e | hz
    · rw [e]; exact hab
    · have := (List.pairwise_cons.1 hb).1 z hz
      show z < a
      have h2 : z < b := this
      omega
structure NpD (A : List Int) (x : Int) (S : List Int) (y : Int) (T : List Int) : Prop where
  pw : (S ++ y :: T).Pairwise (· > ·)
  xy : x < y
  lo : ∀ z ∈ T, z < x
theorem NpD.next {A S T : List Int} {x y : Int} (h : NpD A x S y T) :
    (A ++ y :: (S ++ x :: T).reverse).Perm (A ++ x :: (S ++ y :: T)) ∧ lexLt (A ++ x :: (S ++ y :: T)) (A ++ y :: (S ++ x :: T).reverse) = true ∧
      ∀ q : List Int, q.Perm (A ++ x :: (S ++ y :: T)) → lexLt (A ++ x :: (S ++ y :: T)) q = true → lexLt q (A ++ y :: (S ++ x :: T).reverse) = false := by
  have hsw : (y :: (S ++ x :: T)).Perm (x :: (S ++ y :: T)) := by
    refine ((List.perm_middle (l₁ := S) (l₂ := T) (a := x)).cons y).trans (.trans (.swap x y _) ?_)
    exact (List.perm_middle (l₁ := S) (l₂ := T) (a := y)).symm.cons x
  obtain ⟨p1, p2, p3⟩ := List.pairwise_append.1 h.pw
  obtain ⟨p4, p5⟩ := List.pairwise_cons.1 p2
  have hpw : (S ++ x :: T).Pairwise (· > ·) := by
    refine List.pairwise_append.2 ⟨p1, List.pairwise_cons.2 ⟨fun z hz => h.lo z hz, p5⟩, fun a ha b hb => ?_⟩
    have hay : y < a := p3 a ha y (by simp)
    rcases List.mem_cons.1 hb with e | hb
    · rw [e]; have := h.xy; show x < a; omega
    · exact p3 a ha b (by simp [hb])
  refine ⟨(((List.reverse_perm _).cons y).trans hsw).append_left A, ?_, lex_pref (fun q hp hl => ?_) A⟩
  · rw [lexLt_pre, lexLt_cons]; exact .inl h.xy
  · cases q with
    | nil => exact absurd hp.symm.eq_nil (by simp)
    | cons b q =>
      rw [lexLt_cons] at hl
      rw [lexF]
      rcases hl with hl | ⟨e, hl⟩
      · have hb : b ∈ S ++ y :: T := by
          rcases List.mem_cons.1 (hp.mem_iff.1 (show b ∈ b :: q by simp)) with e | hb
          · omega
          · exact hb
        have hby : y ≤ b := by
          rcases List.mem_append.1 hb with hb | hb
          · have : y < b := p3 b hb y (by simp)
            omega
          · rcases List.mem_cons.1 hb with e | hb
            · omega
            · have := h.lo b hb; omega
        rintro (h1 | ⟨h1, h2⟩)
        · omega
        · subst h1
          have hq : q.Perm (S ++ x :: T) := (hp.trans hsw.symm).cons_inv
          rw [sorted_least _ q ?_ (hq.trans (List.reverse_perm _).symm)] at h2
          · cases h2
          · rw [List.pairwise_reverse]
            exact hpw.imp fun {a b} hab => by have : b < a := hab; omega
      · subst e
        rw [desc_greatest _ q (h.pw.imp fun {a b} hab => by have : b < a := hab; show b ≤ a; omega) hp.cons_inv] at hl
        cases hl
theorem split2 (d : List Int) {j k : Nat} (hjk : j < k) (hk : k < d.length) : ∃ A x S y T, d = A ++ x :: (S ++ y :: T) ∧ A.length = j ∧ S.length = k - (j + 1) := by
  refine ⟨d.take j, d[j]'(by omega), (d.drop (j + 1)).take (k - (j + 1)), d[k], d.drop (k + 1), ?_, by rw [List.length_take]; omega, by rw [List.length_take, List.length_drop]; omega⟩
  have e1 : (d.drop (j + 1)).take (k - (j + 1)) ++ d[k] :: d.drop (k + 1) = d.drop (j + 1) := by
    rw [← List.drop_eq_getElem_cons hk]
    have := List.take_append_drop (k - (j + 1)) (d.drop (j + 1))
    rw [List.drop_drop, show j + 1 + (k - (j + 1)) = k by omega] at this
    exact this
  rw [e1, ← List.drop_eq_getElem_cons (by omega), List.take_append_drop]
theorem np_false {d : List Int} (h : npB d = false) {q : List Int} (hp : q.Perm d) : lexLt d q = false := by
  have h0 : npI d (d.length - 1) = 0 := by
    rw [npB, npStep] at h
    cases hi : npI d (d.length - 1) with
    | zero => rfl
    | succ j => rw [hi] at h; cases h
  have h1 := (npI_spec d (d.length - 1)).1 h0
  refine desc_greatest d q ((desc_pw d fun t ht => h1 t (by omega)).imp fun {a b} hab => by have : b < a := hab; show b ≤ a; omega) hp
theorem getD_mid (A : List Int) (x : Int) (r : List Int) (t : Nat) : (A ++ x :: r).getD (A.length + 1 + t) 0 = r.getD t 0 := by
  rw [List.getD_eq_getElem?_getD, List.getElem?_append_right (by omega), show A.length + 1 + t - A.length = t + 1 by omega, List.getElem?_cons_succ, ← List.getD_eq_getElem?_getD]
theorem getD_at (A : List Int) (x : Int) (r : List Int) : (A ++ x :: r).getD A.length 0 = x := by
  rw [List.getD_eq_getElem?_getD, List.getElem?_append_right (by omega), Nat.sub_self]
  rfl
theorem set_mid (A : List Int) (x y : Int) (r : List Int) : (A ++ x :: r).set A.length y = A ++ y :: r := by
  rw [List.set_append_right _ _ (by omega), Nat.sub_self]
  rfl
theorem np_true {d : List Int} (hn : d.Nodup) (h : npB d = true) : (npL d).Perm d ∧ lexLt d (npL d) = true ∧ ∀ q : List Int, q.Perm d → lexLt d q = true → lexLt q (npL d) = false := by
  cases hi : npI d (d.length - 1) with
  | zero => rw [npB, npStep, hi] at h; cases h
  | succ j =>
    obtain ⟨i1, i2, i3⟩ := (npI_spec d (d.length - 1)).2 j hi
    obtain ⟨k, hk⟩ : ∃ k, npK d (d.getD j 0) (d.length - 1) = k := ⟨_, rfl⟩
    obtain ⟨k1, k2, k3⟩ := npK_spec d (d.getD j 0) (d.length - 1)
    rw [hk] at k1 k2 k3
    have hjk : j < k := by
      rcases Nat.lt_or_ge j k with h | h
      · exact h
      · exact absurd (k3 (j + 1) (by omega) (by omega)) i2
    have hL : npL d = npR (npS d j k) (j + 1) := by
      rw [npL, npStep, hi]
      show npR (npS d j (npK d (d.getD j 0) (d.length - 1))) (j + 1) = _
      rw [hk]
    have hkl : k < d.length := by omega
    obtain ⟨A, x, S, y, T, hd, hA, hS⟩ := split2 d hjk hkl
    have gx : d.getD j 0 = x := by rw [hd, ← hA]; exact getD_at _ _ _
    have gm : ∀ t, d.getD (j + 1 + t) 0 = (S ++ y :: T).getD t 0 := fun t => by rw [hd, ← hA]; exact getD_mid _ _ _ _
    have gy : d.getD k 0 = y := by
      have := gm (k - (j + 1))
      rw [show j + 1 + (k - (j + 1)) = k by omega, ← hS, getD_at] at this
      exact this
    have hl : d.length = j + 1 + (S ++ y :: T).length := by rw [hd, List.length_append, List.length_cons, hA]; omega
    have hT : (S ++ y :: T).length = k - (j + 1) + 1 + T.length := by rw [List.length_append, List.length_cons, hS]; omega
    have hNpD : NpD A x S y T := {
      pw := desc_pw _ fun t ht => by
        have := i3 (j + 1 + t) (by omega) (by omega)
        rw [gm t, show j + 1 + t + 1 = j + 1 + (t + 1) by omega, gm (t + 1)] at this
        exact this
      xy := by
        have h2 := k2 (by omega)
        rw [gx, gy] at h2
        have hne : x ≠ y := fun e => by
          rw [hd, e] at hn
          have := (List.nodup_append.1 hn).2.1
          simp at this
        omega
      lo := fun z hz => by
        obtain ⟨t, ht, rfl⟩ := List.mem_iff_getElem.1 hz
        have h2 := k3 (k + 1 + t) (by omega) (by omega)
        have e1 := gm (k - (j + 1) + 1 + t)
        rw [show j + 1 + (k - (j + 1) + 1 + t) = k + 1 + t by omega, ← hS, getD_mid] at e1
        rw [e1, gx, List.getD_eq_getElem?_getD, List.getElem?_eq_getElem ht] at h2
        exact h2 }
    have hR : npL d = A ++ y :: (S ++ x :: T).reverse := by
      rw [hL, npS, gx, gy, npR]
      have e1 : (d.set j y).set k x = A ++ y :: (S ++ x :: T) := by
        rw [hd, ← hA, set_mid]
        have e2 : A ++ y :: (S ++ y :: T) = (A ++ y :: S) ++ y :: T := by simp
        have e3 : A ++ y :: (S ++ x :: T) = (A ++ y :: S) ++ x :: T := by simp
        have e4 : k = (A ++ y :: S).length := by rw [List.length_append, List.length_cons]; omega
        rw [e2, e3, e4, set_mid]
      rw [e1]
      have e5 : A ++ y :: (S ++ x :: T) = (A ++ [y]) ++ (S ++ x :: T) := by simp
      have e6 : j + 1 = (A ++ [y]).length := by rw [List.length_append]; simp [hA]
      rw [e5, e6, List.take_left, List.drop_left]
      simp
    rw [hR]
    rw [hd]
    exact hNpD.next
end Go.Ax
/-
  Searches through all permutations, in plain Lean. No conditions but those of the theorems.
-/
set_option linter.all false
namespace Go.Ax
open Go.Proofs

theorem iota_pm {n : Nat} {q : List Int} (h : q.Perm (iota n)) : PmP q ∧ q.length = n := by
  have hl : q.length = n := by rw [h.length_eq, iota_len]
  exact ⟨fun t ht => h.symm.mem_iff.1 (iota_mem.2 ⟨by omega, by omega⟩), hl⟩
theorem pm_iota {n : Nat} {q : List Int} (h : PmP q) (hl : q.length = n) : q.Perm (iota n) := by
  have := h.perm
  rw [hl] at this
  exact this.symm
theorem iota_nodup (n : Nat) : (iota n).Nodup := (iota_pair n).imp fun h => by omega
theorem iota_least {n : Nat} {q : List Int} (h : q.Perm (iota n)) : lexLt q (iota n) = false := sorted_least _ q ((iota_pair n).imp fun h => by omega) h
theorem full_perm {n : Nat} {p : List Int} (hd : p.Nodup) (hin : ∀ x ∈ p, 0 ≤ x ∧ x < n) (hl : p.length = n) : p.Perm (iota n) :=
  perm_sub p (iota n) hd (fun x hx => iota_mem.2 (hin x hx)) (by rw [iota_len]; omega)
theorem ext_next {n : Nat} {p s : List Int} (h : (p ++ s).Perm (iota n)) (hp : p.length < n) : ∃ (t : Nat) (s' : List Int), t < n ∧ s = (t : Int) :: s' ∧ (t : Int) ∉ p := by
  have hl : (p ++ s).length = n := by rw [h.length_eq, iota_len]
  rw [List.length_append] at hl
  cases s with
  | nil => simp at hl; omega
  | cons y s' =>
    have hy := iota_mem.1 (h.mem_iff.1 (show y ∈ p ++ y :: s' by simp))
    refine ⟨y.toNat, s', by omega, by rw [Int.toNat_of_nonneg hy.1], ?_⟩
    rw [Int.toNat_of_nonneg hy.1]
    have hd : (p ++ y :: s').Nodup := h.nodup_iff.2 (iota_nodup n)
    intro hyp
    exact (List.nodup_append.1 hd).2.2 y hyp y (by simp) rfl
def firstNE (g : Nat → List Int) (n : Nat) : List Int := match (List.range n).find? fun y => !(g y).isEmpty with
  | some y => g y
  | none => []
theorem firstNE_at {g : Nat → List Int} {n y : Nat} (hy : y < n) (h0 : ∀ t, t < y → g t = []) (h1 : g y ≠ []) : firstNE g n = g y := by
  have : (List.range n).find? (fun y => !(g y).isEmpty) = some y := by
    rw [List.find?_range_eq_some]
    refine ⟨by simpa using h1, by simpa using hy, fun t ht => by simp [h0 t ht]⟩
  rw [firstNE, this]
theorem firstNE_no {g : Nat → List Int} {n : Nat} (h0 : ∀ t, t < n → g t = []) : firstNE g n = [] := by
  have : (List.range n).find? (fun y => !(g y).isEmpty) = none := by
    rw [List.find?_eq_none]
    intro t ht
    simp [h0 t (List.mem_range.1 ht)]
  rw [firstNE, this]
theorem firstNE_or (g : Nat → List Int) (n : Nat) : (firstNE g n = [] ∧ ∀ t, t < n → g t = []) ∨ ∃ y, y < n ∧ (∀ t, t < y → g t = []) ∧ g y ≠ [] ∧ firstNE g n = g y := by
  cases h : (List.range n).find? fun y => !(g y).isEmpty with
  | none =>
    have h0 : ∀ t, t < n → g t = [] := fun t ht => by
      have := List.find?_eq_none.1 h t (List.mem_range.2 ht)
      simpa using this
    exact .inl ⟨firstNE_no h0, h0⟩
  | some y =>
    rw [List.find?_range_eq_some] at h
    obtain ⟨h1, h2, h3⟩ := h
    have h0 : ∀ t, t < y → g t = [] := fun t ht => by simpa using h3 t ht
    exact .inr ⟨y, by simpa using h2, h0, by simpa using h1, firstNE_at (by simpa using h2) h0 (by simpa using h1)⟩
def mapsF (chk : List Int → Int → Bool) (n : Nat) : Nat → List Int → List Int
  | 0, p => p
  | m + 1, p => firstNE (fun y => if !p.contains (y : Int) && chk p y then mapsF chk n m (p ++ [(y : Int)]) else []) n
def Gd (chk : List Int → Int → Bool) (q : List Int) : Prop := ∀ i, i < q.length → chk (q.take i) (q.getD i 0) = true
theorem Gd.next {chk : List Int → Int → Bool} {p s : List Int} {y : Int} (h : Gd chk (p ++ y :: s)) : chk p y = true := by
  have := h p.length (by simp)
  rwa [List.take_left, List.getD_eq_getElem?_getD, List.getElem?_append_right (Nat.le_refl _), Nat.sub_self] at this
theorem Gd.snoc {chk : List Int → Int → Bool} {p : List Int} {y : Int} (h : Gd chk p) (hy : chk p y = true) : Gd chk (p ++ [y]) := fun i hi => by
  rw [List.length_append] at hi
  simp only [List.length_cons, List.length_nil] at hi
  by_cases e : i = p.length
  · rw [e, List.take_left, List.getD_eq_getElem?_getD, List.getElem?_append_right (Nat.le_refl _), Nat.sub_self]
    exact hy
  · have := h i (by omega)
    rwa [List.take_append_of_le_length (by omega), List.getD_eq_getElem?_getD, List.getElem?_append_left (by omega), ← List.getD_eq_getElem?_getD]
theorem snoc_ok {n : Nat} {p : List Int} {y : Nat} (hd : p.Nodup) (hin : ∀ x ∈ p, 0 ≤ x ∧ x < n) (hy : y < n) (hyp : (y : Int) ∉ p) : (p ++ [(y : Int)]).Nodup ∧ ∀ x ∈ p ++ [(y : Int)], 0 ≤ x ∧ x < n := by
  refine ⟨List.nodup_append.2 ⟨hd, by simp, fun a ha b hb => ?_⟩, fun x hx => ?_⟩
  · simp only [List.mem_singleton] at hb
    subst hb
    exact fun e => hyp (by rw [← e]; exact ha)
  · rcases List.mem_append.1 hx with hx | hx
    · exact hin x hx
    · simp only [List.mem_singleton] at hx
      omega
theorem mapsF_spec {chk : List Int → Int → Bool} {n : Nat} (hn : 1 ≤ n) : ∀ (m : Nat) (p : List Int), p.length + m = n → p.Nodup → (∀ x ∈ p, 0 ≤ x ∧ x < n) → Gd chk p →
    (mapsF chk n m p = [] → ∀ s, (p ++ s).Perm (iota n) → ¬ Gd chk (p ++ s)) ∧
    (mapsF chk n m p ≠ [] → ∃ s, mapsF chk n m p = p ++ s ∧ (p ++ s).Perm (iota n) ∧ Gd chk (p ++ s) ∧ ∀ s', (p ++ s').Perm (iota n) → Gd chk (p ++ s') → lexLt (p ++ s') (p ++ s) = false)
  | 0, p, hl, hd, hin, hg => by
    refine ⟨fun h => ?_, fun _ => ⟨[], by rw [mapsF, List.append_nil], by rw [List.append_nil]; exact full_perm hd hin (by omega), by rw [List.append_nil]; exact hg, fun s' hs' _ => ?_⟩⟩
    · rw [mapsF] at h
      rw [h] at hl
      simp at hl
      omega
    · have h1 := hs'.length_eq
      rw [List.length_append, iota_len] at h1
      have : s' = [] := List.eq_nil_of_length_eq_zero (by omega)
      rw [this]
      exact lexLt_irrefl _
  | m + 1, p, hl, hd, hin, hg => by
    obtain ⟨g, hgd⟩ : ∃ g : Nat → List Int, g = fun (y : Nat) => if !p.contains (y : Int) && chk p y then mapsF chk n m (p ++ [(y : Int)]) else [] := ⟨_, rfl⟩
    have hgy : ∀ y : Nat, y < n → (y : Int) ∉ p → chk p y = true → g y = mapsF chk n m (p ++ [(y : Int)]) ∧ ((mapsF chk n m (p ++ [(y : Int)]) = [] → ∀ s, (p ++ [(y : Int)] ++ s).Perm (iota n) → ¬ Gd chk (p ++ [(y : Int)] ++ s)) ∧
        (mapsF chk n m (p ++ [(y : Int)]) ≠ [] → ∃ s, mapsF chk n m (p ++ [(y : Int)]) = p ++ [(y : Int)] ++ s ∧ (p ++ [(y : Int)] ++ s).Perm (iota n) ∧ Gd chk (p ++ [(y : Int)] ++ s) ∧ ∀ s', (p ++ [(y : Int)] ++ s').Perm (iota n) → Gd chk (p ++ [(y : Int)] ++ s') → lexLt (p ++ [(y : Int)] ++ s') (p ++ [(y : Int)] ++ s) = false)) := fun y hy hyp hc => by
      obtain ⟨o1, o2⟩ := snoc_ok hd hin hy hyp
      refine ⟨by rw [hgd]; simp [hyp, hc], mapsF_spec hn m _ (by rw [List.length_append]; simp; omega) o1 o2 (hg.snoc hc)⟩
    have hbad : ∀ t : Nat, t < n → g t = [] → ∀ s', (p ++ (t : Int) :: s').Perm (iota n) → (t : Int) ∉ p → ¬ Gd chk (p ++ (t : Int) :: s') := fun t ht h0 s' hs' htp hG => by
      obtain ⟨k1, k2, _⟩ := hgy t ht htp hG.next
      rw [k1] at h0
      have e : p ++ (t : Int) :: s' = p ++ [(t : Int)] ++ s' := by simp
      rw [e] at hs' hG
      exact k2 h0 s' hs' hG
    have hF : mapsF chk n (m + 1) p = firstNE g n := by rw [hgd]; rfl
    rcases firstNE_or g n with ⟨h1, h2⟩ | ⟨y, hy, h0, h1, h2⟩
    · refine ⟨fun _ s hs hG => ?_, fun h => absurd (hF.trans h1) h⟩
      obtain ⟨t, s', ht, rfl, htp⟩ := ext_next hs (by omega)
      exact hbad t ht (h2 t ht) s' hs htp hG
    · refine ⟨fun h => absurd (by rw [← h2, ← hF]; exact h) h1, fun _ => ?_⟩
      have hyp : (y : Int) ∉ p := fun h => h1 (by rw [hgd]; simp [h])
      have hc : chk p y = true := by
        cases hc : chk p y with
        | true => rfl
        | false => exact absurd (by rw [hgd]; simp [hc]) h1
      obtain ⟨k1, _, k3⟩ := hgy y hy hyp hc
      obtain ⟨s, s1, s2, s3, s4⟩ := k3 (by rw [← k1]; exact h1)
      have e : ∀ u, p ++ (y : Int) :: u = p ++ [(y : Int)] ++ u := fun u => by simp
      refine ⟨(y : Int) :: s, by rw [hF, h2, k1, s1]; exact (e s).symm, by rw [e]; exact s2, by rw [e]; exact s3, fun s' hs' hG => ?_⟩
      obtain ⟨t, s'', ht, rfl, htp⟩ := ext_next hs' (by omega)
      rw [lexLt_pre, lexF]
      rintro (h3 | ⟨h3, h4⟩)
      · exact hbad t ht (h0 t (by omega)) s'' hs' htp hG
      · have e1 : t = y := by omega
        subst e1
        rw [e] at hs' hG
        have h5 := s4 s'' hs' hG
        rw [lexLt_pre] at h5
        rw [h5] at h4
        cases h4
def LeastG (G : List Int → Prop) (n : Nat) (r : List Int) : Prop :=
  (r = [] ∧ ∀ q, q.Perm (iota n) → ¬ G q) ∨ (r.Perm (iota n) ∧ G r ∧ ∀ q, q.Perm (iota n) → G q → lexLt q r = false)
theorem LeastG.unique {G : List Int → Prop} {n : Nat} {r r' : List Int} (h : LeastG G n r) (h' : LeastG G n r') : r = r' := by
  rcases h with ⟨e, h⟩ | ⟨h1, h2, h3⟩ <;> rcases h' with ⟨e', h'⟩ | ⟨h1', h2', h3'⟩
  · rw [e, e']
  · exact absurd h2' (h r' h1')
  · exact absurd h2 (h' r h1)
  · exact lexLt_tri r r' (h3' r h1 h2) (h3 r' h1' h2')
theorem mapsF_least {chk : List Int → Int → Bool} {n : Nat} (hn : 1 ≤ n) : LeastG (Gd chk) n (mapsF chk n n []) := by
  obtain ⟨h1, h2⟩ := mapsF_spec hn (chk := chk) n [] (by simp) .nil (fun x hx => by cases hx) (fun i hi => by simp at hi)
  by_cases h : mapsF chk n n [] = []
  · exact .inl ⟨h, h1 h⟩
  · obtain ⟨s, s1, s2, s3, s4⟩ := h2 h
    rw [s1]
    exact .inr ⟨s2, s3, s4⟩
theorem np_perm {n : Nat} {p : List Int} (h : p.Perm (iota n)) (hb : npB p = true) : (npL p).Perm (iota n) := (np_true (h.nodup_iff.2 (iota_nodup n)) hb).1.trans h
theorem np_step {n : Nat} {p : List Int} (h : p.Perm (iota n)) (hb : npB p = true) {q : List Int} (hq : q.Perm (iota n)) : lexLt q (npL p) = true ↔ lexLt q p = true ∨ q = p := by
  obtain ⟨_, h2, h3⟩ := np_true (h.nodup_iff.2 (iota_nodup n)) hb
  constructor
  · intro h1
    cases h4 : lexLt q p with
    | true => exact .inl rfl
    | false =>
      refine .inr ?_
      cases h5 : lexLt p q with
      | true => rw [h3 q (hq.trans h.symm) h5] at h1; cases h1
      | false => exact lexLt_tri q p h4 h5
  · rintro (h1 | rfl)
    · exact lexLt_trans _ _ _ h1 h2
    · exact h2
theorem np_last {n : Nat} {p : List Int} (h : p.Perm (iota n)) (hb : npB p = false) {q : List Int} (hq : q.Perm (iota n)) : lexLt q p = true ∨ q = p := by
  have h1 := np_false hb (hq.trans h.symm)
  cases h4 : lexLt q p with
  | true => exact .inl rfl
  | false => exact .inr (lexLt_tri q p h4 h1)
def numL (b : Nat) : List Int → Nat
  | [] => 0
  | x :: l => x.toNat * b ^ l.length + numL b l
theorem numL_lt {b : Nat} : ∀ l : List Int, (∀ x ∈ l, 0 ≤ x ∧ x < b) → numL b l < b ^ l.length
  | [], _ => by simp [numL]
  | x :: l, h => by
    have h1 := numL_lt l fun y hy => h y (by simp [hy])
    obtain ⟨h2, h3⟩ := h x (by simp)
    have h4 : (x.toNat + 1) * b ^ l.length ≤ b * b ^ l.length := Nat.mul_le_mul_right _ (by omega)
    rw [Nat.succ_mul] at h4
    rw [numL, List.length_cons, Nat.pow_succ, Nat.mul_comm (b ^ l.length) b]
    omega
theorem numL_lex {b : Nat} : ∀ p q : List Int, p.length = q.length → (∀ x ∈ p, 0 ≤ x ∧ x < b) → (∀ x ∈ q, 0 ≤ x ∧ x < b) → lexLt p q = true → numL b p < numL b q
  | [], [], _, _, _, h => by cases h
  | [], _ :: _, h, _, _, _ => by simp at h
  | _ :: _, [], h, _, _, _ => by simp at h
  | x :: p, y :: q, hl, hp, hq, h => by
    have hl' : p.length = q.length := by simpa using hl
    rw [lexLt_cons] at h
    rw [numL, numL, hl']
    have hx := hp x (by simp)
    have hy := hq y (by simp)
    rcases h with h | ⟨rfl, h⟩
    · have h1 := numL_lt p fun z hz => hp z (by simp [hz])
      rw [hl'] at h1
      have h4 : (x.toNat + 1) * b ^ q.length ≤ y.toNat * b ^ q.length := Nat.mul_le_mul_right _ (by omega)
      rw [Nat.succ_mul] at h4
      omega
    · have := numL_lex p q hl' (fun z hz => hp z (by simp [hz])) (fun z hz => hq z (by simp [hz])) h
      omega
def toCome (n : Nat) (p : List Int) : Nat := n ^ n - numL n p
theorem toCome_lt {n : Nat} {p : List Int} (h : p.Perm (iota n)) (hb : npB p = true) : toCome n (npL p) < toCome n p := by
  have h2 := np_perm h hb
  have m1 : ∀ x ∈ p, 0 ≤ x ∧ x < n := fun x hx => iota_mem.1 (h.mem_iff.1 hx)
  have m2 : ∀ x ∈ npL p, 0 ≤ x ∧ x < n := fun x hx => iota_mem.1 (h2.mem_iff.1 hx)
  have l1 : p.length = n := by rw [h.length_eq, iota_len]
  have l2 : (npL p).length = n := by rw [h2.length_eq, iota_len]
  have h3 := numL_lex p (npL p) (by omega) m1 m2 ((np_step h hb h).2 (.inr rfl))
  have h4 := numL_lt (npL p) m2
  rw [l2] at h4
  rw [toCome, toCome]
  omega
end Go.Ax
/-
  Graphs: comparison of lists, labels of components, what a graph is. No conditions but those of the contracts.
-/
set_option linter.all false
namespace Go.Ax
open Go.Proofs

theorem bif_and (a b : Bool) : (bif a then b else false) = (a && b) := by cases a <;> rfl
theorem bif_or (a b : Bool) : (bif a then true else b) = (a || b) := by cases a <;> rfl
def q_II (a b : List V) : Prop := IsI a ∧ IsI b
def c_ll_b (f : List V → List V → Bool) (q : List V → List V → Prop) : Contract := fun
  | [.slc false 2 (.int .i64 0) a0, .slc false 2 (.int .i64 0) a1] => some ([q a0 a1], .bool (f a0 a1))
  | _ => none
end Go.Ax
