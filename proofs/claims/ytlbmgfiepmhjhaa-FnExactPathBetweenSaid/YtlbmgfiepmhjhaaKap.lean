/-
  Paths in forests, in plain Lean. No conditions but those of the theorems.
-/
import Derived.Test.YtlbmgfiepmhjhaaGrp
set_option linter.all false
namespace Go.Ax
open Go.Proofs

def pfL (g : Int → List Int) : List Int → List Int
  | [] => []
  | j :: l => if g j = [] then pfL g l else g j
def pf (nr : Int → List Int) : Nat → Int → Int → Int → List Int
  | 0, _, _, _ => []
  | m + 1, i, k, fr => if i = k then [i] else if pfL (fun j => if j = fr then [] else pf nr m j k i) (nr i) = [] then [] else i :: pfL (fun j => if j = fr then [] else pf nr m j k i) (nr i)
def Dp (nr : Int → List Int) : Nat → Int → Int → Prop
  | 0, _, _ => False
  | m + 1, i, fr => ∀ j ∈ nr i, j ≠ fr → Dp nr m j i

theorem pfL_congr {g g' : Int → List Int} : ∀ {l : List Int}, (∀ j ∈ l, g j = g' j) → pfL g l = pfL g' l
  | [], _ => rfl
  | j :: l, h => by
    rw [pfL, pfL, h j (by simp), pfL_congr (fun x hx => h x (List.mem_cons_of_mem _ hx))]
theorem pfL_nil {g : Int → List Int} : ∀ {l : List Int}, pfL g l = [] ↔ ∀ j ∈ l, g j = []
  | [] => by simp [pfL]
  | j :: l => by
    rw [pfL]
    split
    · rename_i h
      rw [pfL_nil]
      simp [h]
    · rename_i h
      simp [h]
theorem pfL_at {g : Int → List Int} : ∀ {l : List Int} {t : Nat}, t < l.length → (∀ s, s < t → g (l.getD s 0) = []) → g (l.getD t 0) ≠ [] → pfL g l = g (l.getD t 0)
  | [], t, h, _, _ => by simp at h
  | j :: l, 0, _, _, h => by
    rw [pfL, if_neg (by simpa using h)]; rfl
  | j :: l, t + 1, h, hs, ht => by
    rw [pfL, if_pos (by simpa using hs 0 (by omega))]
    have := pfL_at (g := g) (l := l) (t := t) (by simpa using h) (fun s hs' => by simpa using hs (s + 1) (by omega)) (by simpa using ht)
    simpa using this
theorem pfL_one {g : Int → List Int} {x : Int} : ∀ {l : List Int}, x ∈ l → (∀ j ∈ l, j ≠ x → g j = []) → pfL g l = g x
  | [], h, _ => by cases h
  | j :: l, h, hs => by
    rw [pfL]
    by_cases hj : j = x
    · subst hj
      split
      · rename_i h0
        rw [h0]
        refine pfL_nil.2 fun y hy => ?_
        by_cases hy2 : y = j
        · rw [hy2]; exact h0
        · exact hs y (List.mem_cons_of_mem _ hy) hy2
      · rfl
    · rw [if_pos (hs j (by simp) hj)]
      exact pfL_one ((List.mem_cons.1 h).resolve_left (fun e => hj e.symm)) (fun y hy => hs y (List.mem_cons_of_mem _ hy))
theorem pf_stable {nr : Int → List Int} {k : Int} : ∀ (m : Nat) (i fr : Int) (a : Nat), Dp nr m i fr → m ≤ a → pf nr a i k fr = pf nr m i k fr
  | 0, _, _, _, h, _ => h.elim
  | m + 1, i, fr, a, h, ha => by
    obtain ⟨b, rfl⟩ : ∃ b, a = b + 1 := ⟨a - 1, by omega⟩
    have e : pfL (fun j => if j = fr then [] else pf nr b j k i) (nr i) = pfL (fun j => if j = fr then [] else pf nr m j k i) (nr i) := pfL_congr fun j hj => by
      try dsimp only
      split
      · rfl
      · rename_i hne
        exact pf_stable m j i b (h j hj hne) (by omega)
    rw [pf, pf, e]
theorem pfL_len {g : Int → List Int} {m : Nat} (h : ∀ j, (g j).length ≤ m) : ∀ l : List Int, (pfL g l).length ≤ m
  | [] => Nat.zero_le _
  | j :: l => by
    rw [pfL]
    by_cases hg : g j = []
    · rw [if_pos hg]; exact pfL_len h l
    · rw [if_neg hg]; exact h j
theorem pf_len {nr : Int → List Int} {k : Int} : ∀ (m : Nat) (i fr : Int), (pf nr m i k fr).length ≤ m
  | 0, _, _ => by simp [pf]
  | m + 1, i, fr => by
    rw [pf]
    split
    · simp
    · split
      · simp
      · have := pfL_len (g := fun j => if j = fr then [] else pf nr m j k i) (m := m) (fun j => by
          by_cases hj : j = fr
          · rw [if_pos hj]; exact Nat.zero_le _
          · rw [if_neg hj]; exact pf_len m j i) (nr i)
        simp only [List.length_cons]
        omega
theorem pf_congr {nr nr' : Int → List Int} {n : Nat} {k : Int} (hn : ∀ v : Int, 0 ≤ v ∧ v < n → nr v = nr' v) (hr : ∀ v, ∀ x ∈ nr v, 0 ≤ x ∧ x < n) : ∀ (m : Nat) (i fr : Int), 0 ≤ i ∧ i < n → pf nr m i k fr = pf nr' m i k fr
  | 0, _, _, _ => rfl
  | m + 1, i, fr, hi => by
    have e : pfL (fun j => if j = fr then [] else pf nr m j k i) (nr i) = pfL (fun j => if j = fr then [] else pf nr' m j k i) (nr i) := pfL_congr fun j hj => by
      try dsimp only
      rw [pf_congr hn hr m j i (hr i j hj)]
    rw [pf, pf, e, hn i hi]
theorem Dp_congr {nr nr' : Int → List Int} {n : Nat} (hn : ∀ v : Int, 0 ≤ v ∧ v < n → nr v = nr' v) (hr : ∀ v, ∀ x ∈ nr' v, 0 ≤ x ∧ x < n) : ∀ (m : Nat) (i fr : Int), 0 ≤ i ∧ i < n → Dp nr m i fr → Dp nr' m i fr
  | 0, _, _, _, h => h
  | m + 1, i, fr, hi, h => fun j hj hne => Dp_congr hn hr m j i (hr i j hj) (h j (by rw [hn i hi]; exact hj) hne)
theorem pf_cn {es : List (List Int)} {k : Int} : ∀ (m : Nat) (i fr : Int), pf (near es) m i k fr ≠ [] → Cn es i k
  | 0, _, _, h => absurd rfl h
  | m + 1, i, fr, h => by
    rw [pf] at h
    split at h
    · rename_i he
      rw [he]; exact .refl _
    · split at h
      · exact absurd rfl h
      · rename_i _ h2
        rw [pfL_nil] at h2
        obtain ⟨j, h2⟩ := Classical.not_forall.1 h2
        obtain ⟨hj, h3⟩ := Classical.not_imp.1 h2
        split at h3
        · exact absurd rfl h3
        · exact (Cn.one hj).trans (pf_cn m j i h3)

section
variable {n : Nat} {es : List (List Int)} {root : Int} {ord par : List Int} {i : Nat}
theorem Bfs.edge (hb : Bfs n es root ord par i 0) (hi : ord.length ≤ i) (hn : 0 < n) (hed : edsOk n none es = true) (ha : acy (iota n) es = true) {t : Nat} (ht : t < ord.length) {x : Int} (hx : x ∈ near es (ord.getD t 0)) (hw : x ≠ gI par (ord.getD t 0)) :
    ∃ s, t < s ∧ s < ord.length ∧ ord.getD s 0 = x ∧ gI par x = ord.getD t 0 := by
  obtain ⟨s, hs, hse⟩ := mem_at (hb.done t (by omega) x hx)
  have hu0 := (hb.inr _ (getD_mem ht)).1
  have he : ∀ e ∈ es, EdIn n e := fun e h => (edsOk_in hed e h).1
  generalize hu : ord.getD t 0 = u at hx hw hu0
  have hp : gI par x = u := by
    apply Classical.byContradiction
    intro hp
    obtain ⟨e, hee, hends⟩ := mem_near.1 hx
    obtain ⟨r, hr, rfl⟩ : ∃ r, r < es.length ∧ es.getD r [] = e := by
      obtain ⟨r, hr, rfl⟩ := List.mem_iff_getElem.1 hee
      exact ⟨r, hr, by rw [List.getD_eq_getElem?_getD, List.getElem?_eq_getElem hr]; rfl⟩
    have hc : ∀ s, s < ord.length → Cn (butE es r) root (ord.getD s 0) := by
      intro s
      induction s using Nat.strongRecOn with
      | ind s ih =>
        intro hs
        by_cases h0 : s = 0
        · rw [h0, hb.hd]; exact .refl _
        · obtain ⟨p, p1, p2, p3, p4, p5⟩ := hb.tree s (by omega) hs
          refine .tail (ih p p1 (by omega)) ?_
          rcases near_snoc.1 ((near_but hr).2 p4) with h | h
          · exact h
          · exfalso
            have hpu : (ord.getD p 0 = u ∧ ord.getD s 0 = x) ∨ (ord.getD p 0 = x ∧ ord.getD s 0 = u) := by omega
            rcases hpu with ⟨h1, h2⟩ | ⟨h1, h2⟩
            · rw [h2, h1] at p3
              exact hp p3
            · rw [h2, h1] at p3
              exact hw p3.symm
    have c1 := hc s hs
    have c2 := hc t ht
    rw [hse] at c1
    rw [hu] at c2
    have c3 : Cn (butE es r) x u := c1.symm.trans c2
    refine forest hn he ha hr ?_
    rcases hends with ⟨h1, h2⟩ | ⟨h1, h2⟩
    · rw [h1, h2]; exact c3
    · rw [h1, h2]; exact c3.symm
  refine ⟨s, ?_, hs, hse, hp⟩
  by_cases h0 : s = 0
  · exfalso
    rw [h0, hb.hd] at hse
    have := hb.rp
    rw [hse, hp] at this
    omega
  · obtain ⟨p, p1, _, p3, _⟩ := hb.tree s (by omega) hs
    rw [hse, hp] at p3
    have : p = t := nodup_getD hb.nd (by omega) ht (by rw [hu]; exact p3.symm)
    omega
theorem Bfs.dp (hb : Bfs n es root ord par i 0) (hi : ord.length ≤ i) (hn : 0 < n) (hed : edsOk n none es = true) (ha : acy (iota n) es = true) : ∀ (d t : Nat), t < ord.length → ord.length - t ≤ d → Dp (near es) d (ord.getD t 0) (gI par (ord.getD t 0))
  | 0, t, ht, hd => by omega
  | d + 1, t, ht, hd => fun j hj hne => by
    obtain ⟨s, s1, s2, s3, s4⟩ := hb.edge hi hn hed ha ht hj hne
    have := hb.dp hi hn hed ha d s s2 (by omega)
    rwa [s3, s4] at this
def upw (par : List Int) (root : Int) : Nat → Int → List Int
  | 0, v => [v]
  | m + 1, v => if v = root then [v] else v :: upw par root m (gI par v)
theorem upw_ne (m : Nat) (v : Int) : upw par root m v ≠ [] := by
  cases m with
  | zero => simp [upw]
  | succ m =>
    rw [upw]
    split <;> simp
theorem Bfs.up_step (hb : Bfs n es root ord par i 0) {t : Nat} (ht : t < ord.length) (h0 : ord.getD t 0 ≠ root) : ∃ s, s < t ∧ gI par (ord.getD t 0) = ord.getD s 0 ∧ ord.getD s 0 ∈ near es (ord.getD t 0) := by
  have h1 : 0 < t := by
    rcases Nat.eq_zero_or_pos t with h | h
    · rw [h, hb.hd] at h0; exact absurd rfl h0
    · exact h
  obtain ⟨s, s1, _, s3, s4, _⟩ := hb.tree t h1 ht
  exact ⟨s, s1, s3, near_symm s4⟩
theorem Bfs.up_stable (hb : Bfs n es root ord par i 0) : ∀ (t : Nat), t < ord.length → ∀ m, t ≤ m → upw par root m (ord.getD t 0) = upw par root t (ord.getD t 0) := by
  intro t
  induction t using Nat.strongRecOn with
  | ind t ih =>
    intro ht m hm
    by_cases h0 : ord.getD t 0 = root
    · have e : ∀ m, upw par root m (ord.getD t 0) = [ord.getD t 0] := by
        intro m
        cases m with
        | zero => rfl
        | succ m => rw [upw, if_pos h0]
      rw [e, e]
    · obtain ⟨s, s1, s2, _⟩ := hb.up_step ht h0
      obtain ⟨a, rfl⟩ : ∃ a, m = a + 1 := ⟨m - 1, by omega⟩
      obtain ⟨b, hb'⟩ : ∃ b, t = b + 1 := ⟨t - 1, by omega⟩
      have e1 : upw par root (a + 1) (ord.getD t 0) = ord.getD t 0 :: upw par root a (ord.getD s 0) := by rw [upw, if_neg h0, s2]
      have e2 : upw par root t (ord.getD t 0) = ord.getD t 0 :: upw par root b (ord.getD s 0) := by
        conv => lhs; rw [hb']
        rw [hb'] at h0 s2
        rw [upw, if_neg h0, s2, hb']
      rw [e1, e2, ih s s1 (by omega) a (by omega), ih s s1 (by omega) b (by omega)]
theorem Bfs.down (hb : Bfs n es root ord par i 0) (hi : ord.length ≤ i) (hn : 0 < n) (hed : edsOk n none es = true) (ha : acy (iota n) es = true) : ∀ (m t : Nat), t < ord.length → 0 < t → pf (near es) m (ord.getD t 0) root (gI par (ord.getD t 0)) = []
  | 0, _, _, _ => rfl
  | m + 1, t, ht, h0 => by
    have hne : ord.getD t 0 ≠ root := fun h => by
      have := nodup_getD hb.nd ht hb.ne (by rw [h, hb.hd])
      omega
    have e : pfL (fun j => if j = gI par (ord.getD t 0) then [] else pf (near es) m j root (ord.getD t 0)) (near es (ord.getD t 0)) = [] := pfL_nil.2 fun j hj => by
      try dsimp only
      split
      · rfl
      · rename_i hj2
        obtain ⟨s, s1, s2, s3, s4⟩ := hb.edge hi hn hed ha ht hj hj2
        have := hb.down hi hn hed ha m s s2 (by omega)
        rwa [s3, s4] at this
    rw [pf, if_neg hne, if_pos e]
theorem Bfs.up (hb : Bfs n es root ord par i 0) (hi : ord.length ≤ i) (hn : 0 < n) (hed : edsOk n none es = true) (ha : acy (iota n) es = true) : ∀ (t : Nat), t < ord.length → ∀ (m : Nat) (fr : Int), t < m → fr ≠ gI par (ord.getD t 0) → pf (near es) m (ord.getD t 0) root fr = upw par root t (ord.getD t 0) := by
  intro t
  induction t using Nat.strongRecOn with
  | ind t ih =>
    intro ht m fr hm hfr
    obtain ⟨a, rfl⟩ : ∃ a, m = a + 1 := ⟨m - 1, by omega⟩
    by_cases h0 : ord.getD t 0 = root
    · rw [pf, if_pos h0]
      cases t with
      | zero => rfl
      | succ t => rw [upw, if_pos h0]
    · obtain ⟨s, s1, s2, s3⟩ := hb.up_step ht h0
      obtain ⟨b, rfl⟩ : ∃ b, t = b + 1 := ⟨t - 1, by omega⟩
      have hpp : ord.getD (b + 1) 0 ≠ gI par (ord.getD s 0) := by
        intro h
        by_cases hs0 : s = 0
        · rw [hs0, hb.hd, hb.rp] at h
          have := (hb.inr _ (getD_mem ht)).1
          omega
        · obtain ⟨p, p1, _, p3, _⟩ := hb.tree s (by omega) (by omega)
          rw [p3] at h
          have := nodup_getD hb.nd ht (by omega) h
          omega
      have e : pfL (fun j => if j = fr then [] else pf (near es) a j root (ord.getD (b + 1) 0)) (near es (ord.getD (b + 1) 0)) = upw par root b (ord.getD s 0) := by
        rw [pfL_one s3 (fun j hj hne => ?_)]
        · try dsimp only
          rw [if_neg (fun h => hfr (by rw [s2]; exact h.symm)), ih s s1 (by omega) a _ (by omega) hpp, hb.up_stable s (by omega) b (by omega)]
        · try dsimp only
          split
          · rfl
          · obtain ⟨q, q1, q2, q3, q4⟩ := hb.edge hi hn hed ha ht hj (by rw [s2]; exact hne)
            have := hb.down hi hn hed ha a q q2 (by omega)
            rwa [q3, q4] at this
      rw [pf, if_neg h0, e, if_neg (upw_ne _ _), upw, if_neg h0, s2]
end
theorem path_eq {ws : List Int} {es : List (List Int)} (g : Gr ws es) {i k : Int} (hi : 0 ≤ i ∧ i < ws.length) (hk : 0 ≤ k ∧ k < ws.length) :
    pf (near es) 64 i k (-1) = if i ∈ (bfsE es ws.length k).1 then upw (bfsE es ws.length k).2 k ws.length i else [] := by
  obtain ⟨j, hb, hj⟩ := bfsE_full g hk
  have hn : 0 < ws.length := by have := g.n1; omega
  split
  · rename_i hm
    obtain ⟨t, ht, hte⟩ := mem_at hm
    have hl := nodup_len _ hb.nd hb.inr
    have hfr : (-1 : Int) ≠ gI (bfsE es ws.length k).2 ((bfsE es ws.length k).1.getD t 0) ∨ (bfsE es ws.length k).1.getD t 0 = k := by
      by_cases h0 : (bfsE es ws.length k).1.getD t 0 = k
      · exact .inr h0
      · left
        obtain ⟨s, s1, s2, _⟩ := hb.up_step ht h0
        rw [s2]
        have := (hb.inr _ (getD_mem (show s < _ by omega))).1
        omega
    rw [← hte]
    rcases hfr with hfr | hfr
    · rw [hb.up hj hn g.eok g.acyc t ht 64 (-1) (by have := g.n2; omega) hfr, hb.up_stable t ht ws.length (by omega)]
    · rw [pf, if_pos hfr]
      obtain ⟨b, hbb⟩ : ∃ b, ws.length = b + 1 := ⟨ws.length - 1, by omega⟩
      rw [show upw (bfsE es ws.length k).2 k ws.length = upw (bfsE es ws.length k).2 k (b + 1) by rw [hbb], upw, if_pos hfr]
  · rename_i hm
    apply Classical.byContradiction
    intro h
    exact hm ((hb.full hj i).2 (pf_cn _ _ _ h).symm)
theorem path_dp {ws : List Int} {es : List (List Int)} (g : Gr ws es) {i : Int} (hi : 0 ≤ i ∧ i < ws.length) : Dp (near es) ws.length i (-1) := by
  obtain ⟨j, hb, hj⟩ := bfsE_full g hi
  have hn : 0 < ws.length := by have := g.n1; omega
  have h := hb.dp hj hn g.eok g.acyc ws.length 0 hb.ne (by have := nodup_len _ hb.nd hb.inr; omega)
  rwa [hb.hd, hb.rp] at h
end Go.Ax
