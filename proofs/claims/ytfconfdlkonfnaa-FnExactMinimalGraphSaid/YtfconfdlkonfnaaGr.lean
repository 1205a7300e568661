/-
  ComponentLabels: both sides, the law. No conditions but those of the contracts.
-/
import Derived.Test.YtfconfdlkonfnaaGq
set_option linter.all false
namespace Go.Ax
open Go.Proofs

def bfsIn (nr : List Int) (u : Int) (s : List Int × List Int) : Nat → List Int × List Int
  | 0 => s
  | k + 1 => if nr.getD k 0 ≠ gI (bfsIn nr u s k).2 u then ((bfsIn nr u s k).1 ++ [nr.getD k 0], (bfsIn nr u s k).2.set (nr.getD k 0).toNat u) else bfsIn nr u s k
def bfsO (es : List (List Int)) (n : Nat) (root : Int) : Nat → List Int × List Int
  | 0 => ([root], List.replicate n (-1))
  | i + 1 => if i < (bfsO es n root i).1.length then bfsIn (near es ((bfsO es n root i).1.getD i 0)) ((bfsO es n root i).1.getD i 0) (bfsO es n root i) (near es ((bfsO es n root i).1.getD i 0)).length else bfsO es n root i
theorem List.getD_append (l l' : List Int) (d : Int) (i : Nat) (h : i < l.length) : (l ++ l').getD i d = l.getD i d := by
  simp only [List.getD_eq_getElem?_getD]; rw [List.getElem?_append_left h]
theorem bfsIn_ok {ws : List Int} {es : List (List Int)} (g : Gr ws es) {root : Int} {s : List Int × List Int} {i : Nat} (hb : Bfs ws.length es root s.1 s.2 i 0) (hi : i < s.1.length) : ∀ k, k ≤ (near es (s.1.getD i 0)).length →
    Bfs ws.length es root (bfsIn (near es (s.1.getD i 0)) (s.1.getD i 0) s k).1 (bfsIn (near es (s.1.getD i 0)) (s.1.getD i 0) s k).2 i k ∧ (bfsIn (near es (s.1.getD i 0)) (s.1.getD i 0) s k).1.getD i 0 = s.1.getD i 0 ∧ i < (bfsIn (near es (s.1.getD i 0)) (s.1.getD i 0) s k).1.length
  | 0, _ => ⟨hb, rfl, hi⟩
  | k + 1, hk => by
    obtain ⟨h1, h2, h3⟩ := bfsIn_ok g hb hi k (by omega)
    rw [bfsIn]
    split
    · rename_i hw
      have hf := h1.fresh (by have := g.n1; omega) g.eok g.acyc h3 (by rw [h2]; omega) (by rw [h2]; exact hw)
      have h4 := h1.add g.eok h3 (by rw [h2]; omega) hf
      rw [h2] at h4
      refine ⟨h4, ?_, by simp only [List.length_append]; omega⟩
      rw [List.getD_append _ _ _ _ h3]
      exact h2
    · rename_i hw
      have hw : (near es (s.1.getD i 0)).getD k 0 = gI (bfsIn (near es (s.1.getD i 0)) (s.1.getD i 0) s k).2 (s.1.getD i 0) := Classical.not_not.1 hw
      exact ⟨h1.skip g.eok h3 (by rw [h2]; omega) (by rw [h2]; exact hw), h2, h3⟩
theorem bfsO_ok {ws : List Int} {es : List (List Int)} (g : Gr ws es) {root : Int} (hr : 0 ≤ root ∧ root < ws.length) : ∀ i, ∃ j, j ≤ i ∧ Bfs ws.length es root (bfsO es ws.length root i).1 (bfsO es ws.length root i).2 j 0 ∧ (j = i ∨ (bfsO es ws.length root i).1.length ≤ j)
  | 0 => ⟨0, Nat.le_refl _, Bfs.start hr, .inl rfl⟩
  | i + 1 => by
    obtain ⟨j, h1, h2, h3⟩ := bfsO_ok g hr i
    rw [bfsO]
    split
    · rename_i hl
      have hji : j = i := by omega
      rw [hji] at h2
      obtain ⟨h4, h5, h6⟩ := bfsIn_ok g h2 hl _ (Nat.le_refl _)
      refine ⟨i + 1, Nat.le_refl _, h4.next h6 ?_, .inl rfl⟩
      rw [h5]
      exact Nat.le_refl _
    · exact ⟨j, by omega, h2, .inr (by omega)⟩
def bfsE (es : List (List Int)) (n : Nat) (root : Int) : List Int × List Int := bfsO es n root n
theorem bfsO_stay {es : List (List Int)} {n : Nat} {root : Int} {i : Nat} (h : (bfsO es n root i).1.length ≤ i) : ∀ d, bfsO es n root (i + d) = bfsO es n root i
  | 0 => rfl
  | d + 1 => by
    have e := bfsO_stay h d
    rw [show i + (d + 1) = i + d + 1 by omega, bfsO, e, if_neg (by omega)]
theorem bfsE_full {ws : List Int} {es : List (List Int)} (g : Gr ws es) {root : Int} (hr : 0 ≤ root ∧ root < ws.length) : ∃ j, Bfs ws.length es root (bfsE es ws.length root).1 (bfsE es ws.length root).2 j 0 ∧ (bfsE es ws.length root).1.length ≤ j := by
  obtain ⟨j, h1, h2, h3⟩ := bfsO_ok g hr ws.length
  refine ⟨j, h2, ?_⟩
  rcases h3 with h3 | h3
  · rw [h3]; exact nodup_len _ h2.nd h2.inr
  · exact h3
def c_Gi_ll (f : List V → List V → Int → List V × List V) (q : List V → List V → Int → Prop) : Contract := fun
  | [.agg [.slc false 2 (.int .i64 0) a0, .slc false 22 (.slc false 2 (.int .i64 0) []) a1], .int .i64 a2] => some ([q a0 a1 a2], .tup [.slc true 2 (.int .i64 0) ((f a0 a1 a2).1), .slc true 2 (.int .i64 0) ((f a0 a1 a2).2)])
  | _ => none
def f_ord (ws es : List V) (root : Int) : List V × List V := (I (bfsE (unII es) ws.length root).1, I (bfsE (unII es) ws.length root).2)
def q_ord (ws es : List V) (root : Int) : Prop := q_Gr ws es ∧ 0 ≤ root ∧ root < ws.length
end Go.Ax
