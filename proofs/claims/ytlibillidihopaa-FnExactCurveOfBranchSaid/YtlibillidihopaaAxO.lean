/-
  AX, part O: a region that draws its order: one run in the text's order serves every order.
-/
import Derived.Test.YtlibillidihopaaAxN
namespace Go.Ax

section
variable {ops : Array Oper}

/-- bits of those that come before, for each operation in turn -/
def maskOf (acc : List Nat) (o : Oper) : Nat := o.after.toList.foldl (fun s e => if Region.binds .any e then s ||| 2 ^ e.on ||| acc.getD e.on 0 else s) 0
def masks : List Oper → List Nat → List Nat
  | [], acc => acc
  | o :: l, acc => masks l (acc ++ [maskOf acc o])

/-- j waits for i -/
inductive Waits (ops : Array Oper) : Nat → Nat → Prop
  | one {i j : Nat} {o : Oper} {e : Edge} (h : ops[j]? = some o) (he : e ∈ o.after) (hb : Region.binds .any e = true) (hi : e.on = i) : Waits ops i j
  | more {i j : Nat} {o : Oper} {e : Edge} (h : ops[j]? = some o) (he : e ∈ o.after) (hb : Region.binds .any e = true) (hi : Waits ops i e.on) : Waits ops i j

def Closed (ops : Array Oper) (listed : Array Bool) : Prop := ∀ (j : Nat) (o : Oper), ops[j]? = some o → listed.getD j false = true → ∀ e ∈ o.after, Region.binds .any e = true → listed.getD e.on false = true

theorem Waits.listed {listed : Array Bool} (hc : Closed ops listed) {i j : Nat} (h : Waits ops i j) : (∀ o, ops[j]? = some o → ∀ e ∈ o.after, Region.binds .any e = true → listed.getD e.on false = true) → listed.getD i false = true := by
  induction h with
  | one h he hb hi => intro H; rw [← hi]; exact H _ h _ he hb
  | more h he hb hi ih =>
    intro H
    have h1 := H _ h _ he hb
    exact ih (fun o ho e' he' hb' => hc _ o ho h1 e' he' hb')

theorem maskOf_spec {acc : List Nat} (hacc : ∀ j i, (acc.getD j 0).testBit i = true → Waits ops i j) {k : Nat} {o : Oper} (ho : ops[k]? = some o) {i : Nat} (h : (maskOf acc o).testBit i = true) : Waits ops i k := by
  have key : ∀ (l : List Edge) (s : Nat), (∀ e ∈ l, e ∈ o.after) → (s.testBit i = true → Waits ops i k) → (l.foldl (fun s e => if Region.binds .any e then s ||| 2 ^ e.on ||| acc.getD e.on 0 else s) s).testBit i = true → Waits ops i k := by
    intro l
    induction l with
    | nil => intro s _ hs hh; exact hs hh
    | cons e l ih =>
      intro s hl hs hh
      simp only [List.foldl_cons] at hh
      refine ih _ (fun e' he' => hl e' (List.mem_cons_of_mem _ he')) ?_ hh
      intro hb
      split at hb
      · rename_i hbi
        simp only [Nat.testBit_or, Bool.or_eq_true, Nat.testBit_two_pow, decide_eq_true_eq] at hb
        rcases hb with (hb | hb) | hb
        · exact hs hb
        · exact .one ho (hl e (by simp)) hbi hb
        · exact .more ho (hl e (by simp)) hbi (hacc _ _ hb)
      · exact hs hb
  exact key o.after.toList 0 (fun e he => by simpa using he) (fun h => by simp at h) h

theorem masks_spec : ∀ (l : List Oper) (acc : List Nat), (∀ j, l[j]? = ops[acc.length + j]?) → (∀ j i, (acc.getD j 0).testBit i = true → Waits ops i j) → ∀ j i, ((masks l acc).getD j 0).testBit i = true → Waits ops i j
  | [], acc, _, h => h
  | o :: l, acc, hl, h => by
    refine masks_spec l (acc ++ [maskOf acc o]) (fun j => by have := hl (j + 1); simpa [Nat.add_assoc, Nat.add_comm 1 j] using this) (fun j i hb => ?_)
    rw [List.getD_eq_getElem?_getD, List.getElem?_append] at hb
    split at hb
    · exact h j i (by rw [List.getD_eq_getElem?_getD]; exact hb)
    · rename_i hj
      by_cases hj' : j = acc.length
      · subst hj'
        simp at hb
        exact maskOf_spec h (by simpa using (hl 0).symm) hb
      · rw [List.getElem?_eq_none (by simp; omega)] at hb
        simp at hb

/-- the static look: every two operations are in order, or both are local and apart -/
def chkPairs (ops : Array Oper) (ms : List Nat) (ts : List Bool) : List Nat → Bool
  | [] => true
  | j :: l => ((List.range j).all fun i => (ms.getD j 0).testBit i || (!ts.getD i true && !ts.getD j true &&
      (match ops[i]?, ops[j]? with | some x, some y => x.apart ops y && y.apart ops x | _, _ => false))) && chkPairs ops ms ts l
def chkEdges : List Oper → Nat → Bool
  | [], _ => true
  | o :: l, k => o.after.toList.all (fun e => !Region.binds .any e || decide (e.on < k)) && chkEdges l (k + 1)
def noSel (ops : Array Oper) : Bool := Region.noSelect ops
def chk (ops : Array Oper) (ts : List Bool) : Bool := chkEdges ops.toList 0 && chkPairs ops (masks ops.toList []) ts (List.range ops.size)

theorem chkPairs_spec {ms : List Nat} {ts : List Bool} : ∀ {l : List Nat}, chkPairs ops ms ts l = true → ∀ j ∈ l, ∀ i, i < j → (ms.getD j 0).testBit i = true ∨ (ts.getD i true = false ∧ ts.getD j true = false ∧ ∃ x y, ops[i]? = some x ∧ ops[j]? = some y ∧ x.apart ops y = true ∧ y.apart ops x = true)
  | [], _, j, hj, _, _ => by simp at hj
  | k :: l, h, j, hj, i, hij => by
    simp only [chkPairs, Bool.and_eq_true] at h
    rcases List.mem_cons.1 hj with rfl | hj
    · have := List.all_eq_true.1 h.1 i (by simpa using hij)
      simp only [Bool.or_eq_true, Bool.and_eq_true, Bool.not_eq_true'] at this
      rcases this with h1 | ⟨⟨h1, h2⟩, h3⟩
      · exact .inl h1
      · right
        refine ⟨h1, h2, ?_⟩
        split at h3
        · rename_i x y hx hy
          simp only [Bool.and_eq_true] at h3
          exact ⟨x, y, hx, hy, h3.1, h3.2⟩
        · cases h3
    · exact chkPairs_spec h.2 j hj i hij

theorem chkEdges_spec : ∀ {l : List Oper} {k : Nat}, chkEdges l k = true → ∀ (j : Nat) (o : Oper), l[j]? = some o → ∀ e ∈ o.after, Region.binds .any e = true → e.on < k + j
  | [], _, _, j, o, ho => by simp at ho
  | x :: l, k, h, j, o, ho => by
    simp only [chkEdges, Bool.and_eq_true] at h
    intro e he hb
    cases j with
    | zero =>
      simp at ho
      subst ho
      have := List.all_eq_true.1 h.1 e (by simpa using he)
      simp [hb] at this
      omega
    | succ j =>
      have := chkEdges_spec h.2 j o (by simpa using ho) e he hb
      omega

/-- whatever order: an abstract step relation -/
def anyA (St : Nat → Env → Env → Prop) (ops : Array Oper) (Q : Env → Prop) : Nat → Array Bool → Env → Prop
  | 0, listed, σ => Region.ready .any ops listed = [] ∧ Q σ
  | n + 1, listed, σ => (Region.ready .any ops listed = [] → Q σ) ∧ ∀ i ∈ Region.ready .any ops listed, ∃ σ', St i σ σ' ∧ anyA St ops Q n (listed.setIfInBounds i true) σ'

theorem anyA_first {St : Nat → Env → Env → Prop} {Q : Env → Prop} {I : Env → Prop} {i : Nat}
    (ex : ∀ (listed : Array Bool) (j : Nat) (σ σi σij : Env), Closed ops listed → i ∈ Region.ready .any ops listed → j ∈ Region.ready .any ops listed → j ≠ i → I σ → St i σ σi → St j σi σij → ∃ σj, St j σ σj ∧ St i σj σij ∧ I σj) :
    ∀ (n : Nat) (listed : Array Bool) (σ σi : Env), Closed ops listed → I σ → i ∈ Region.ready .any ops listed → St i σ σi → anyA St ops Q n (listed.setIfInBounds i true) σi → anyA St ops Q (n + 1) listed σ := by
  intro n
  induction n with
  | zero =>
    intro listed σ σi _ _ hr hs H
    refine ⟨(fun h => by rw [h] at hr; cases hr), fun j hj => ?_⟩
    by_cases hji : j = i
    · subst hji; exact ⟨σi, hs, H⟩
    · have := ready_mono hj hji
      rw [H.1] at this
      cases this
  | succ n ih =>
    intro listed σ σi hc hI hr hs H
    refine ⟨(fun h => by rw [h] at hr; cases hr), fun j hj => ?_⟩
    by_cases hji : j = i
    · subst hji; exact ⟨σi, hs, H⟩
    · obtain ⟨σij, h1, h2⟩ := H.2 j (ready_mono hj hji)
      obtain ⟨σj, e1, e2, e3⟩ := ex listed j σ σi σij hc hr hj hji hI hs h1
      refine ⟨σj, e1, ih (listed.setIfInBounds j true) σj σij ?_ e3 (ready_mono hr (Ne.symm hji)) e2 ?_⟩
      · intro k o ho hk e he hb
        by_cases hkj : k = j
        · subst hkj
          obtain ⟨_, o', ho', hall⟩ := mem_ready.1 hj
          rw [ho] at ho'
          simp only [Option.some.injEq] at ho'
          subst ho'
          exact getD_set_true (hall e he hb)
        · rw [getD_set_ne false (Ne.symm hkj)] at hk
          exact getD_set_true (hc k o ho hk e he hb)
      · rw [Array.setIfInBounds_comm _ _ hji]
        exact h2

/-- the first k are listed -/
def upto (n k : Nat) : Array Bool := ((List.range n).map fun j => decide (j < k)).toArray

theorem upto_get (n k j : Nat) (d : Bool) : (upto n k).getD j d = if j < n then decide (j < k) else d := by
  unfold upto
  by_cases h : j < n
  · simp [h]
  · simp [h]

theorem upto_set {n k : Nat} (h : k < n) : (upto n k).setIfInBounds k true = upto n (k + 1) := by
  apply Array.ext_getElem?
  intro j
  by_cases hj : j = k
  · subst hj
    have h1 : j < (upto n j).size := by simp [upto, h]
    have h2 : j < (upto n (j + 1)).size := by simp [upto, h]
    simp [h1]
    simp [upto, h]
  · rw [Array.getElem?_setIfInBounds_ne (Ne.symm hj)]
    unfold upto
    simp only [List.getElem?_toArray, List.getElem?_map]
    by_cases hjn : j < n
    · simp [List.getElem?_range hjn]; omega
    · simp [hjn]
end
end Go.Ax
