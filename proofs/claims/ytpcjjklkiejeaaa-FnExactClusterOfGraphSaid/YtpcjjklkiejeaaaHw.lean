/-
  Contraction as far as it goes, in plain Lean. No conditions but those of the theorems.
-/
import Derived.Test.YtpcjjklkiejeaaaHt
import Derived.Test.YtpcjjklkiejeaaaHv
set_option linter.all false
namespace Go.Ax
open Go.Proofs

def dropAt (xs : List Int) (i : Nat) : List Int := xs.take i ++ xs.drop (i + 1)
theorem dropAt_len {xs : List Int} {i : Nat} (h : i < xs.length) : (dropAt xs i).length + 1 = xs.length := by
  rw [dropAt, List.length_append, List.length_take, List.length_drop]; omega
def canI (ws : List Int) (es : List (List Int)) (v : Int) : Bool := decide (1 < ws.length) && decide (ws.getD v.toNat 0 = -1) && decide ((near es v).length ≤ 2)
theorem canI_iff {ws : List Int} {es : List (List Int)} {v : Int} : canI ws es v = true ↔ 1 < ws.length ∧ ws.getD v.toNat 0 = -1 ∧ (near es v).length ≤ 2 := by
  simp only [canI, Bool.and_eq_true, decide_eq_true_eq, and_assoc]
def fstC (ws : List Int) (es : List (List Int)) : Option Nat := (List.range ws.length).find? fun v => canI ws es (v : Int)
theorem fstC_some {ws : List Int} {es : List (List Int)} {v : Nat} (h : v < ws.length) (hc : canI ws es (v : Int) = true) (hu : ∀ u : Nat, u < v → canI ws es (u : Int) = false) : fstC ws es = some v := by
  rw [fstC, List.find?_range_eq_some]
  exact ⟨hc, by simpa using h, fun j hj => by rw [hu j hj]; rfl⟩
theorem fstC_none {ws : List Int} {es : List (List Int)} (hu : ∀ u : Nat, u < ws.length → canI ws es (u : Int) = false) : fstC ws es = none := by
  rw [fstC, List.find?_range_eq_none]
  exact fun j hj => by rw [hu j hj]; rfl
theorem of_fstC {ws : List Int} {es : List (List Int)} {v : Nat} (h : fstC ws es = some v) : v < ws.length ∧ canI ws es (v : Int) = true ∧ ∀ u : Nat, u < v → canI ws es (u : Int) = false := by
  rw [fstC, List.find?_range_eq_some] at h
  exact ⟨by simpa using h.2.1, h.1, fun j hj => by simpa using h.2.2 j hj⟩
theorem of_fstC_none {ws : List Int} {es : List (List Int)} (h : fstC ws es = none) : ∀ u : Nat, u < ws.length → canI ws es (u : Int) = false := by
  rw [fstC, List.find?_range_eq_none] at h
  exact fun j hj => by simpa using h j hj
def nexE (es : List (List Int)) (v : Int) : List (List Int) := srtE ((conE es v).map (decE v))
/-- contraction, with a state that goes along -/
def itC {σ : Type} (f : List (List Int) → Nat → σ → σ) : Nat → List Int → List (List Int) → σ → Option (List Int × List (List Int) × σ)
  | 0, ws, es, s => some (ws, es, s)
  | k + 1, ws, es, s => match fstC ws es with
    | none => some (ws, es, s)
    | some v => match incW ws (near es v) with
      | none => none
      | some ws' => itC f k (dropAt ws' v) (nexE es v) (f es v s)
def itS {σ : Type} (f : List (List Int) → Nat → σ → σ) (ws : List Int) (es : List (List Int)) (s : σ) : Option (List Int × List (List Int) × σ) := itC f ws.length ws es s
theorem itS_end {σ : Type} (f : List (List Int) → Nat → σ → σ) {ws : List Int} {es : List (List Int)} (s : σ) (h : fstC ws es = none) : itS f ws es s = some (ws, es, s) := by
  rw [itS]
  cases ws.length with
  | zero => rfl
  | succ k => rw [itC, h]
theorem itS_step {σ : Type} (f : List (List Int) → Nat → σ → σ) {ws ws' : List Int} {es : List (List Int)} {v : Nat} (s : σ) (h : fstC ws es = some v) (hi : incW ws (near es v) = some ws') :
    itS f ws es s = itS f (dropAt ws' v) (nexE es v) (f es v s) := by
  have h1 := (of_fstC h).1
  have h2 := incW_len _ _ _ hi
  rw [itS, itS, ← h2, ← dropAt_len (xs := ws') (i := v) (by omega), itC, h]
  simp only [hi]
theorem itS_fail {σ : Type} (f : List (List Int) → Nat → σ → σ) {ws : List Int} {es : List (List Int)} {v : Nat} (s : σ) (h : fstC ws es = some v) (hi : incW ws (near es v) = none) : itS f ws es s = none := by
  have h1 := (of_fstC h).1
  rw [itS, show ws.length = (ws.length - 1) + 1 by omega, itC, h]
  simp only [hi]
/-- what a round keeps -/
theorem nex_ok {ws ws' : List Int} {es : List (List Int)} {v : Nat} (g : GrN ws.length es) (hb : Sep es) (hv : v < ws.length) (hc : canI ws es (v : Int) = true) (hi : incW ws (near es v) = some ws') :
    GrN (dropAt ws' v).length (nexE es v) ∧ Sep (nexE es v) := by
  obtain ⟨c1, _, c3⟩ := canI_iff.1 hc
  have h2 := incW_len _ _ _ hi
  have h3 := dropAt_len (xs := ws') (i := v) (by omega)
  have h4 := con_ok g hb (v := (v : Int)) (by omega) (by omega) c1 c3
  rw [show (dropAt ws' v).length = ws.length - 1 by omega]
  exact h4
theorem itS_ok {σ : Type} (f : List (List Int) → Nat → σ → σ) (Q : List Int → List (List Int) → σ → Prop)
    (hQ : ∀ (ws ws' : List Int) (es : List (List Int)) (v : Nat) (s : σ), GrN ws.length es → v < ws.length → canI ws es (v : Int) = true → incW ws (near es v) = some ws' → Q ws es s → Q (dropAt ws' v) (nexE es v) (f es v s)) :
    ∀ (n : Nat) (ws : List Int) (es : List (List Int)) (s : σ) (ws2 : List Int) (es2 : List (List Int)) (s2 : σ), ws.length = n → GrN ws.length es → Sep es → Q ws es s → itS f ws es s = some (ws2, es2, s2) → GrN ws2.length es2 ∧ Sep es2 ∧ Q ws2 es2 s2 ∧ ws2.length ≤ ws.length
  | 0, ws, es, s, ws2, es2, s2, hn, g, hb, hq, h => by have := g.n1; omega
  | n + 1, ws, es, s, ws2, es2, s2, hn, g, hb, hq, h => by
    cases hf : fstC ws es with
    | none =>
      rw [itS_end f s hf] at h
      injection h with h
      injection h with h1 h
      injection h with h2 h3
      subst h1 h2 h3
      exact ⟨g, hb, hq, Nat.le_refl _⟩
    | some v =>
      obtain ⟨k1, k2, _⟩ := of_fstC hf
      cases hi : incW ws (near es v) with
      | none => rw [itS_fail f s hf hi] at h; cases h
      | some ws' =>
        rw [itS_step f s hf hi] at h
        have h2 := incW_len _ _ _ hi
        have h3 := dropAt_len (xs := ws') (i := v) (by omega)
        obtain ⟨g2, hb2⟩ := nex_ok g hb k1 k2 hi
        obtain ⟨r1, r2, r3, r4⟩ := itS_ok f Q hQ n _ _ _ ws2 es2 s2 (by omega) g2 hb2 (hQ ws ws' es v s g k1 k2 hi hq) h
        exact ⟨r1, r2, r3, by omega⟩
theorem tot_gr {n : Nat} {es : List (List Int)} (g : GrN n es) : tot es ≤ 800 := by
  rw [tot_len2 es 2 (fun e he => (g.ed e he).1)]
  have := g.el
  omega
end Go.Ax
