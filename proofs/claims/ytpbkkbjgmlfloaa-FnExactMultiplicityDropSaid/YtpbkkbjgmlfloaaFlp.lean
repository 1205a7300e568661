/-
  Components of graphs: labels that are united. No conditions but those of the contracts.
-/
import Derived.Test.YtpbkkbjgmlfloaaFkp
set_option linter.all false
namespace Go.Ax
open Go.Proofs

abbrev gI (l : List Int) (i : Int) : Int := l.getD i.toNat 0
def relab (a b : Int) (l : List Int) : List Int := l.map fun x => if x = b then a else x
def iota (n : Nat) : List Int := tab' (fun i => (i : Int)) n
theorem relab_len (a b : Int) (l : List Int) : (relab a b l).length = l.length := by simp [relab]
theorem relab_get (a b : Int) (l : List Int) (i : Nat) (h : i < l.length) : (relab a b l).getD i 0 = if l.getD i 0 = b then a else l.getD i 0 := by
  simp only [relab, List.getD_eq_getElem?_getD, List.getElem?_map, List.getElem?_eq_getElem h, Option.map_some, Option.getD_some]
theorem iota_len (n : Nat) : (iota n).length = n := tab_len _ _
theorem iota_get (n i : Nat) (h : i < n) : (iota n).getD i 0 = i := tab_get _ _ _ _ h

def e0 (e : List Int) : Int := e.getD 0 0
def e1 (e : List Int) : Int := e.getD 1 0
def EdIn (n : Nat) (e : List Int) : Prop := e.length = 2 ∧ 0 ≤ e0 e ∧ e0 e < n ∧ 0 ≤ e1 e ∧ e1 e < n

def lo (lab e : List Int) : Int := min (gI lab (e0 e)) (gI lab (e1 e))
def hi (lab e : List Int) : Int := max (gI lab (e0 e)) (gI lab (e1 e))
def uni (lab e : List Int) : List Int := relab (lo lab e) (hi lab e) lab
structure LabOk (n : Nat) (lab : List Int) : Prop where
  len : lab.length = n
  nn : ∀ i, i < n → 0 ≤ lab.getD i 0
  le : ∀ i, i < n → lab.getD i 0 ≤ i
  idem : ∀ i, i < n → gI lab (lab.getD i 0) = lab.getD i 0
theorem LabOk.iota (n : Nat) : LabOk n (iota n) :=
  ⟨iota_len n, fun i h => by rw [iota_get _ _ h]; omega, fun i h => by rw [iota_get _ _ h]; omega, fun i h => by rw [iota_get _ _ h, gI, Int.toNat_natCast, iota_get _ _ h]⟩

def cntR (lab : List Int) : Nat → Nat
  | 0 => 0
  | k + 1 => cntR lab k + (if lab.getD k 0 = k then 1 else 0)
theorem cntR_le (lab : List Int) : ∀ {i j : Nat}, i ≤ j → cntR lab i ≤ cntR lab j
  | i, 0, h => by
    have : i = 0 := by omega
    rw [this]
    exact Nat.le_refl _
  | i, j + 1, h => by
    by_cases hij : i = j + 1
    · subst hij; exact Nat.le_refl _
    · have := cntR_le lab (i := i) (j := j) (by omega)
      simp only [cntR]; omega
theorem LabOk.pos {n : Nat} {lab : List Int} (h : LabOk n lab) (hn : 0 < n) : 0 < cntR lab n := by
  have h0 : lab.getD 0 0 = 0 := by have := h.nn 0 hn; have := h.le 0 hn; omega
  have h1 : cntR lab 1 = 1 := by simp only [cntR, h0]; rfl
  have := cntR_le lab (show 1 ≤ n by omega)
  omega

def acy : List Int → List (List Int) → Bool
  | _, [] => true
  | lab, e :: es => !(gI lab (e0 e) == gI lab (e1 e)) && acy (relab (gI lab (e0 e)) (gI lab (e1 e)) lab) es
def SameP (n : Nat) (l l' : List Int) : Prop := l.length = n ∧ l'.length = n ∧ ∀ i j, i < n → j < n → (l.getD i 0 = l.getD j 0 ↔ l'.getD i 0 = l'.getD j 0)
theorem relab_eq {n : Nat} {l : List Int} (hl : l.length = n) {x y : Nat} (hx : x < n) (hy : y < n) {a b : Int} (hab : a = l.getD x 0 ∧ b = l.getD y 0 ∨ a = l.getD y 0 ∧ b = l.getD x 0) {i j : Nat} (hi : i < n) (hj : j < n) :
    (relab a b l).getD i 0 = (relab a b l).getD j 0 ↔ (l.getD i 0 = l.getD j 0 ∨ (l.getD i 0 = l.getD x 0 ∧ l.getD j 0 = l.getD y 0) ∨ (l.getD i 0 = l.getD y 0 ∧ l.getD j 0 = l.getD x 0)) := by
  rw [relab_get _ _ _ _ (by omega), relab_get _ _ _ _ (by omega)]
  rcases hab with ⟨rfl, rfl⟩ | ⟨rfl, rfl⟩
  · split <;> split <;> omega
  · split <;> split <;> omega
theorem SameP.step {n : Nat} {l l' : List Int} (h : SameP n l l') {e : List Int} (he : EdIn n e) : SameP n (relab (gI l (e0 e)) (gI l (e1 e)) l) (uni l' e) := by
  obtain ⟨h1, h2, h3⟩ := h
  obtain ⟨_, a1, a2, b1, b2⟩ := he
  refine ⟨by rw [relab_len, h1], by rw [uni, relab_len, h2], fun i j hi hj => ?_⟩
  have hx : (e0 e).toNat < n := by omega
  have hy : (e1 e).toNat < n := by omega
  rw [relab_eq h1 hx hy (.inl ⟨rfl, rfl⟩) hi hj, uni, relab_eq h2 hx hy (by simp only [lo, Go.Ax.hi, gI]; omega) hi hj, h3 i j hi hj, h3 i _ hi hx, h3 j _ hj hy, h3 i _ hi hy, h3 j _ hj hx]
def lexLt : List Int → List Int → Bool
  | x :: a, y :: b => bif !(x == y) then decide (x < y) else lexLt a b
  | [], _ :: _ => true
  | _, [] => false
def edOk (n : Nat) (p : Option (List Int)) (e : List Int) : Bool := e.length == 2 && decide (0 ≤ e0 e) && decide (e0 e < e1 e) && decide (e1 e < n) && (match p with
  | none => true
  | some x => lexLt x e)
def edsOk (n : Nat) : Option (List Int) → List (List Int) → Bool
  | _, [] => true
  | p, e :: es => edOk n p e && edsOk n (some e) es
def isGr (ws : List Int) (es : List (List Int)) : Bool := decide (1 ≤ ws.length) && decide (ws.length ≤ 40) && within ws (-1000) 1000 && edsOk ws.length none es && acy (iota ws.length) es
end Go.Ax
