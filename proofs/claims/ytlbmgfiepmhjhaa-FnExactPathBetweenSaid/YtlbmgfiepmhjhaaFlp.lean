/-
  Components of graphs: labels that are united. No conditions but those of the contracts.
-/
import Derived.Test.YtlbmgfiepmhjhaaFkp
set_option linter.all false
namespace Go.Ax
open Go.Proofs

abbrev gI (l : List Int) (i : Int) : Int := l.getD i.toNat 0
def relab (a b : Int) (l : List Int) : List Int := l.map fun x => if x = b then a else x
def iota (n : Nat) : List Int := tab' (fun i => (i : Int)) n
theorem relab_len (a b : Int) (l : List Int) : (relab a b l).length = l.length := by simp [relab]
theorem relab_get (a b : Int) (l : List Int) (i : Nat) (h : i < l.length) : (relab a b l).getD i 0 = if l.getD i 0 = b then a else l.getD i 0 := by
  simp only [relab, List.getD_eq_getElem?_getD, List.getElem?_map, List.getElem?_eq_getElem h, Option.map_some, Option.getD_some]
theorem iota_len (n : Nat) : (iota n).length = n := tab_len _ _
theorem iota_get (n i : Nat) (h : i < n) : (iota n).getD i 0 = i := tab_get _ _ _ _ h

def e0 (e : List Int) : Int := e.getD 0 0
def e1 (e : List Int) : Int := e.getD 1 0
def EdIn (n : Nat) (e : List Int) : Prop := e.length = 2 ∧ 0 ≤ e0 e ∧ e0 e < n ∧ 0 ≤ e1 e ∧ e1 e < n

def lo (lab e : List Int) : Int := min (gI lab (e0 e)) (gI lab (e1 e))
def hi (lab e : List Int) : Int := max (gI lab (e0 e)) (gI lab (e1 e))
def uni (lab e : List Int) : List Int := relab (lo lab e) (hi lab e) lab
def uniAll (lab : List Int) (es : List (List Int)) : List Int := es.foldl uni lab

structure LabOk (n : Nat) (lab : List Int) : Prop where
  len : lab.length = n
  nn : ∀ i, i < n → 0 ≤ lab.getD i 0
  le : ∀ i, i < n → lab.getD i 0 ≤ i
  idem : ∀ i, i < n → gI lab (lab.getD i 0) = lab.getD i 0
theorem LabOk.iota (n : Nat) : LabOk n (iota n) :=
  ⟨iota_len n, fun i h => by rw [iota_get _ _ h]; omega, fun i h => by rw [iota_get _ _ h]; omega, fun i h => by rw [iota_get _ _ h, gI, Int.toNat_natCast, iota_get _ _ h]⟩

def cntR (lab : List Int) : Nat → Nat
  | 0 => 0
  | k + 1 => cntR lab k + (if lab.getD k 0 = k then 1 else 0)
theorem cntR_le (lab : List Int) : ∀ {i j : Nat}, i ≤ j → cntR lab i ≤ cntR lab j
  | i, 0, h => by
    have : i = 0 := by omega
    rw [this]
    exact Nat.le_refl _
  | i, j + 1, h => by
    by_cases hij : i = j + 1
    · subst hij; exact Nat.le_refl _
    · have := cntR_le lab (i := i) (j := j) (by omega)
      simp only [cntR]; omega
theorem cntR_bound (lab : List Int) : ∀ k, cntR lab k ≤ k
  | 0 => Nat.le_refl _
  | k + 1 => by
    have := cntR_bound lab k
    simp only [cntR]
    split <;> omega
theorem cntR_iota (n : Nat) : ∀ k, k ≤ n → cntR (iota n) k = k
  | 0, _ => rfl
  | k + 1, h => by
    simp only [cntR, cntR_iota n k (by omega), iota_get n k (by omega)]
    simp
theorem LabOk.pos {n : Nat} {lab : List Int} (h : LabOk n lab) (hn : 0 < n) : 0 < cntR lab n := by
  have h0 : lab.getD 0 0 = 0 := by have := h.nn 0 hn; have := h.le 0 hn; omega
  have h1 : cntR lab 1 = 1 := by simp only [cntR, h0]; rfl
  have := cntR_le lab (show 1 ≤ n by omega)
  omega

theorem uni_ok {n : Nat} {lab e : List Int} (h : LabOk n lab) (he : EdIn n e) : LabOk n (uni lab e) := by
  obtain ⟨_, a1, a2, b1, b2⟩ := he
  have ha := h.nn (e0 e).toNat (by omega)
  have hb := h.nn (e1 e).toNat (by omega)
  have hal := h.le (e0 e).toNat (by omega)
  have hbl := h.le (e1 e).toNat (by omega)
  have hai := h.idem (e0 e).toNat (by omega)
  have hbi := h.idem (e1 e).toNat (by omega)
  have hlo : lo lab e = gI lab (e0 e) ∧ hi lab e = gI lab (e1 e) ∧ gI lab (e0 e) ≤ gI lab (e1 e) ∨ lo lab e = gI lab (e1 e) ∧ hi lab e = gI lab (e0 e) ∧ gI lab (e1 e) ≤ gI lab (e0 e) := by
    simp only [lo, hi]; omega
  -- the least label of the two, and what is relabelled
  have key : ∀ a b : Int, 0 ≤ a → a ≤ b → b < n → gI lab a = a → gI lab b = b → LabOk n (relab a b lab) := by
    intro a b h1 h2 h3 h4 h5
    refine ⟨by rw [relab_len, h.len], fun i hi => ?_, fun i hi => ?_, fun i hi => ?_⟩
    · rw [relab_get _ _ _ _ (by rw [h.len]; exact hi)]
      split
      · exact h1
      · exact h.nn i hi
    · rw [relab_get _ _ _ _ (by rw [h.len]; exact hi)]
      have := h.le i hi
      split
      · omega
      · exact this
    · rw [relab_get _ _ _ _ (by rw [h.len]; exact hi)]
      have h6 := h.le i hi
      have h7 := h.nn i hi
      split
      · rw [gI, relab_get _ _ _ _ (by rw [h.len]; omega)]
        split
        · rfl
        · exact h4
      · rename_i hne
        rw [gI, relab_get _ _ _ _ (by rw [h.len]; omega)]
        rw [show lab.getD (lab.getD i 0).toNat 0 = lab.getD i 0 from h.idem i hi, if_neg hne]
  rcases hlo with ⟨h1, h2, h3⟩ | ⟨h1, h2, h3⟩
  · unfold uni; rw [h1, h2]
    exact key _ _ ha h3 (by unfold gI; omega) hai hbi
  · unfold uni; rw [h1, h2]
    exact key _ _ hb h3 (by unfold gI; omega) hbi hai

theorem relab_self (a : Int) (l : List Int) : relab a a l = l := by
  have : (fun x : Int => if x = a then a else x) = id := by
    funext x
    split
    · rename_i h; rw [h]; rfl
    · rfl
  rw [relab, this, List.map_id]

theorem relab_cnt {n : Nat} {lab : List Int} (h : LabOk n lab) {a b : Int} (h1 : 0 ≤ a) (h2 : a < b) (h3 : b < n) (h4 : gI lab a = a) (h5 : gI lab b = b) :
    ∀ k, k ≤ n → cntR (relab a b lab) k + (if b < k then 1 else 0) = cntR lab k
  | 0, _ => by simp [cntR]; omega
  | k + 1, hk => by
    have ih := relab_cnt h h1 h2 h3 h4 h5 k (by omega)
    have hg := relab_get a b lab k (by rw [h.len]; omega)
    simp only [cntR, hg]
    by_cases hkb : (k : Int) = b
    · subst hkb
      rw [gI, Int.toNat_natCast] at h5
      rw [h5, if_pos rfl, if_pos rfl, if_neg (by omega), if_pos (by omega)]
      rw [if_neg (by omega)] at ih
      omega
    · by_cases hlb : lab.getD k 0 = b
      · have : ¬ lab.getD k 0 = (k : Int) := by omega
        rw [if_pos hlb, if_neg this]
        have hka : ¬ a = (k : Int) := by
          intro e
          subst e
          rw [gI, Int.toNat_natCast] at h4
          omega
        rw [if_neg hka]
        split <;> (split at ih) <;> omega
      · rw [if_neg hlb]
        split <;> (split) <;> (split at ih) <;> omega

def cntU : List Int → List (List Int) → Nat
  | _, [] => 0
  | lab, e :: es => (if gI lab (e0 e) = gI lab (e1 e) then 0 else 1) + cntU (uni lab e) es
theorem uniAll_cnt {n : Nat} : ∀ (es : List (List Int)) (lab : List Int), LabOk n lab → (∀ e ∈ es, EdIn n e) → LabOk n (uniAll lab es) ∧ cntR (uniAll lab es) n + cntU lab es = cntR lab n
  | [], lab, h, _ => ⟨h, rfl⟩
  | e :: es, lab, h, he => by
    have hE := he e (by simp)
    obtain ⟨i1, i2⟩ := uniAll_cnt es (uni lab e) (uni_ok h hE) (fun x hx => he x (by simp [hx]))
    refine ⟨i1, ?_⟩
    show cntR (uniAll (uni lab e) es) n + _ = _
    simp only [cntU]
    obtain ⟨_, a1, a2, b1, b2⟩ := hE
    by_cases hab : gI lab (e0 e) = gI lab (e1 e)
    · have : uni lab e = lab := by
        unfold uni lo hi
        rw [hab, show min (gI lab (e1 e)) (gI lab (e1 e)) = gI lab (e1 e) by omega, show max (gI lab (e1 e)) (gI lab (e1 e)) = gI lab (e1 e) by omega, relab_self]
      rw [if_pos hab, this]
      rw [this] at i2
      omega
    · rw [if_neg hab]
      have ha := h.nn (e0 e).toNat (by omega)
      have hb := h.nn (e1 e).toNat (by omega)
      have hal := h.le (e0 e).toNat (by omega)
      have hbl := h.le (e1 e).toNat (by omega)
      have hai := h.idem (e0 e).toNat (by omega)
      have hbi := h.idem (e1 e).toNat (by omega)
      have key : cntR (uni lab e) n + 1 = cntR lab n := by
        rcases (by omega : gI lab (e0 e) < gI lab (e1 e) ∨ gI lab (e1 e) < gI lab (e0 e)) with hlt | hlt
        · have := relab_cnt h (a := gI lab (e0 e)) (b := gI lab (e1 e)) ha hlt (by unfold gI; omega) hai hbi n (Nat.le_refl _)
          rw [if_pos (by unfold gI; omega)] at this
          rw [← this, uni, lo, hi, show min (gI lab (e0 e)) (gI lab (e1 e)) = gI lab (e0 e) by omega, show max (gI lab (e0 e)) (gI lab (e1 e)) = gI lab (e1 e) by omega]
        · have := relab_cnt h (a := gI lab (e1 e)) (b := gI lab (e0 e)) hb hlt (by unfold gI; omega) hbi hai n (Nat.le_refl _)
          rw [if_pos (by unfold gI; omega)] at this
          rw [← this, uni, lo, hi, show min (gI lab (e0 e)) (gI lab (e1 e)) = gI lab (e1 e) by omega, show max (gI lab (e0 e)) (gI lab (e1 e)) = gI lab (e0 e) by omega]
      omega
theorem cntU_le : ∀ (es : List (List Int)) (lab : List Int), cntU lab es ≤ es.length
  | [], _ => by simp [cntU]
  | e :: es, lab => by
    have := cntU_le es (uni lab e)
    simp only [cntU, List.length_cons]
    split <;> omega

def acy : List Int → List (List Int) → Bool
  | _, [] => true
  | lab, e :: es => !(gI lab (e0 e) == gI lab (e1 e)) && acy (relab (gI lab (e0 e)) (gI lab (e1 e)) lab) es
def SameP (n : Nat) (l l' : List Int) : Prop := l.length = n ∧ l'.length = n ∧ ∀ i j, i < n → j < n → (l.getD i 0 = l.getD j 0 ↔ l'.getD i 0 = l'.getD j 0)
theorem relab_eq {n : Nat} {l : List Int} (hl : l.length = n) {x y : Nat} (hx : x < n) (hy : y < n) {a b : Int} (hab : a = l.getD x 0 ∧ b = l.getD y 0 ∨ a = l.getD y 0 ∧ b = l.getD x 0) {i j : Nat} (hi : i < n) (hj : j < n) :
    (relab a b l).getD i 0 = (relab a b l).getD j 0 ↔ (l.getD i 0 = l.getD j 0 ∨ (l.getD i 0 = l.getD x 0 ∧ l.getD j 0 = l.getD y 0) ∨ (l.getD i 0 = l.getD y 0 ∧ l.getD j 0 = l.getD x 0)) := by
  rw [relab_get _ _ _ _ (by omega), relab_get _ _ _ _ (by omega)]
  rcases hab with ⟨rfl, rfl⟩ | ⟨rfl, rfl⟩
  · split <;> split <;> omega
  · split <;> split <;> omega
theorem SameP.step {n : Nat} {l l' : List Int} (h : SameP n l l') {e : List Int} (he : EdIn n e) : SameP n (relab (gI l (e0 e)) (gI l (e1 e)) l) (uni l' e) := by
  obtain ⟨h1, h2, h3⟩ := h
  obtain ⟨_, a1, a2, b1, b2⟩ := he
  refine ⟨by rw [relab_len, h1], by rw [uni, relab_len, h2], fun i j hi hj => ?_⟩
  have hx : (e0 e).toNat < n := by omega
  have hy : (e1 e).toNat < n := by omega
  rw [relab_eq h1 hx hy (.inl ⟨rfl, rfl⟩) hi hj, uni, relab_eq h2 hx hy (by simp only [lo, Go.Ax.hi, gI]; omega) hi hj, h3 i j hi hj, h3 i _ hi hx, h3 j _ hj hy, h3 i _ hi hy, h3 j _ hj hx]
theorem acy_cnt {n : Nat} : ∀ (es : List (List Int)) (l l' : List Int), SameP n l l' → (∀ e ∈ es, EdIn n e) → (acy l es = true ↔ cntU l' es = es.length)
  | [], _, _, _, _ => by simp [acy, cntU]
  | e :: es, l, l', h, he => by
    have hE := he e (by simp)
    have ih := acy_cnt es _ _ (h.step hE) (fun x hx => he x (by simp [hx]))
    obtain ⟨_, a1, a2, b1, b2⟩ := hE
    have hp := h.2.2 (e0 e).toNat (e1 e).toNat (by omega) (by omega)
    have hle := cntU_le es (uni l' e)
    simp only [acy, cntU, Bool.and_eq_true, ih, List.length_cons, Bool.not_eq_true', beq_eq_false_iff_ne, ne_eq, gI, hp]
    split <;> simp_all <;> omega

def rn (lab : List Int) : List Int := lab.map fun x => (cntR lab x.toNat : Int)
theorem rn_len (lab : List Int) : (rn lab).length = lab.length := by simp [rn]
theorem rn_get (lab : List Int) (i : Nat) (h : i < lab.length) : (rn lab).getD i 0 = cntR lab (lab.getD i 0).toNat := by
  simp only [rn, List.getD_eq_getElem?_getD, List.getElem?_map, List.getElem?_eq_getElem h, Option.map_some, Option.getD_some]
def labs (n : Nat) (es : List (List Int)) : List Int := rn (uniAll (iota n) es)
def maxGo : List Int → Int → Int
  | [], m => m
  | x :: l, m => maxGo l (max m x)
def maxL : List Int → Int
  | [] => 0
  | x :: l => maxGo l x
theorem maxGo_spec : ∀ (l : List Int) (m : Int), m ≤ maxGo l m ∧ (∀ x ∈ l, x ≤ maxGo l m) ∧ (maxGo l m = m ∨ maxGo l m ∈ l)
  | [], m => ⟨Int.le_refl _, fun x hx => (by cases hx), .inl rfl⟩
  | y :: l, m => by
    obtain ⟨h1, h2, h3⟩ := maxGo_spec l (max m y)
    simp only [maxGo]
    refine ⟨by omega, fun x hx => ?_, ?_⟩
    · rcases List.mem_cons.1 hx with rfl | hx
      · omega
      · exact h2 x hx
    · rcases h3 with h3 | h3
      · rw [h3]
        rcases (by omega : max m y = m ∨ max m y = y) with h | h
        · exact .inl h
        · right; rw [h]; simp
      · right; exact List.mem_cons_of_mem _ h3
theorem maxL_spec {l : List Int} (h : l ≠ []) : (∀ x ∈ l, x ≤ maxL l) ∧ maxL l ∈ l := by
  cases l with
  | nil => exact absurd rfl h
  | cons y l =>
    obtain ⟨h1, h2, h3⟩ := maxGo_spec l y
    refine ⟨fun x hx => ?_, ?_⟩
    · rcases List.mem_cons.1 hx with rfl | hx
      · exact h1
      · exact h2 x hx
    · simp only [maxL]
      rcases h3 with h3 | h3
      · rw [h3]; simp
      · exact List.mem_cons_of_mem _ h3
theorem last_root {lab : List Int} : ∀ k, 0 < cntR lab k → ∃ r, r < k ∧ lab.getD r 0 = r ∧ cntR lab r + 1 = cntR lab k
  | 0, h => by simp [cntR] at h
  | k + 1, h => by
    simp only [cntR] at h ⊢
    by_cases hk : lab.getD k 0 = k
    · exact ⟨k, by omega, hk, by rw [if_pos hk]⟩
    · rw [if_neg hk] at h ⊢
      obtain ⟨r, h1, h2, h3⟩ := last_root k (by omega)
      exact ⟨r, by omega, h2, by omega⟩
theorem max_rn {n : Nat} {lab : List Int} (h : LabOk n lab) (hn : 0 < n) : maxL (rn lab) + 1 = cntR lab n := by
  have hne : rn lab ≠ [] := by
    intro e
    have := rn_len lab
    rw [e, h.len] at this
    simp at this
    omega
  obtain ⟨h1, h2⟩ := maxL_spec hne
  obtain ⟨r, r1, r2, r3⟩ := last_root n (h.pos hn)
  have hr : (rn lab).getD r 0 = cntR lab r := by rw [rn_get _ _ (by rw [h.len]; exact r1), r2, Int.toNat_natCast]
  have hm : (cntR lab r : Int) ≤ maxL (rn lab) := h1 _ (by
    rw [← hr, List.getD_eq_getElem?_getD, List.getElem?_eq_getElem (by rw [rn_len, h.len]; exact r1)]
    exact List.getElem_mem _)
  have hx : maxL (rn lab) ≤ cntR lab r := by
    obtain ⟨x, hx1, hx2⟩ := List.mem_map.1 h2
    obtain ⟨i, hi, rfl⟩ := List.mem_iff_getElem.1 hx1
    rw [h.len] at hi
    have e : lab[i] = lab.getD i 0 := by rw [List.getD_eq_getElem?_getD, List.getElem?_eq_getElem]; rfl
    rw [← hx2, e]
    have g1 := h.nn i hi
    have g2 := h.le i hi
    have g3 := h.idem i hi
    have g4 : cntR lab ((lab.getD i 0).toNat + 1) = cntR lab (lab.getD i 0).toNat + 1 := by
      simp only [cntR]
      rw [if_pos (by rw [show lab.getD (lab.getD i 0).toNat 0 = lab.getD i 0 from g3]; omega)]
    have g5 := cntR_le lab (show (lab.getD i 0).toNat + 1 ≤ n by omega)
    omega
  omega

def lexLt : List Int → List Int → Bool
  | x :: a, y :: b => bif !(x == y) then decide (x < y) else lexLt a b
  | [], _ :: _ => true
  | _, [] => false
def edOk (n : Nat) (p : Option (List Int)) (e : List Int) : Bool := e.length == 2 && decide (0 ≤ e0 e) && decide (e0 e < e1 e) && decide (e1 e < n) && (match p with
  | none => true
  | some x => lexLt x e)
def edsOk (n : Nat) : Option (List Int) → List (List Int) → Bool
  | _, [] => true
  | p, e :: es => edOk n p e && edsOk n (some e) es
def isGr (ws : List Int) (es : List (List Int)) : Bool := decide (1 ≤ ws.length) && decide (ws.length ≤ 40) && within ws (-1000) 1000 && edsOk ws.length none es && acy (iota ws.length) es
theorem edOk_in {n : Nat} {p : Option (List Int)} {e : List Int} (h : edOk n p e = true) : EdIn n e ∧ e0 e < e1 e := by
  simp only [edOk, Bool.and_eq_true, decide_eq_true_eq, beq_iff_eq] at h
  obtain ⟨⟨⟨⟨h1, h2⟩, h3⟩, h4⟩, _⟩ := h
  exact ⟨⟨h1, h2, by omega, by omega, h4⟩, h3⟩
theorem edsOk_in {n : Nat} : ∀ {es : List (List Int)} {p : Option (List Int)}, edsOk n p es = true → ∀ e ∈ es, EdIn n e ∧ e0 e < e1 e
  | [], _, _, e, he => by cases he
  | x :: es, p, h, e, he => by
    simp only [edsOk, Bool.and_eq_true] at h
    rcases List.mem_cons.1 he with rfl | he
    · exact edOk_in h.1
    · exact edsOk_in h.2 e he
theorem comp_iff {n : Nat} {es : List (List Int)} (hn : 0 < n) (he : ∀ e ∈ es, EdIn n e) : LabOk n (uniAll (iota n) es) ∧ maxL (labs n es) + 1 = cntR (uniAll (iota n) es) n ∧ cntR (uniAll (iota n) es) n + cntU (iota n) es = n ∧ (acy (iota n) es = true ↔ maxL (labs n es) + 1 + es.length = n) ∧ (acy (iota n) es = true → es.length < n) := by
  obtain ⟨h1, h2⟩ := uniAll_cnt es (iota n) (LabOk.iota n) he
  rw [cntR_iota n n (Nat.le_refl _)] at h2
  have h3 := max_rn h1 hn
  have h4 : acy (iota n) es = true ↔ cntU (iota n) es = es.length := acy_cnt es _ _ ⟨iota_len n, iota_len n, fun _ _ _ _ => Iff.rfl⟩ he
  have h5 := cntU_le es (iota n)
  have h6 := h1.pos hn
  refine ⟨h1, h3, h2, ?_, ?_⟩
  · rw [h4]
    unfold labs
    omega
  · rw [h4]
    omega
end Go.Ax
