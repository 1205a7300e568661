/-
  AX, part TD: the step of a call that writes into one argument.
-/
import Derived.Test.YtlibillidihopaaAxTC
namespace Go.Ax
open Go.RowKit

def skipAt {α : Type} : Nat → List α → List α
  | _, [] => []
  | 0, _ :: l => l
  | j + 1, x :: l => x :: skipAt j l
def insAt : Nat → V → List V → List V
  | 0, y, l => y :: l
  | _ + 1, y, [] => [y]
  | j + 1, y, x :: l => x :: insAt j y l
def getAt {α : Type} : Nat → List α → Option α
  | _, [] => none
  | 0, x :: _ => some x
  | j + 1, _ :: l => getAt j l

theorem getAt_eq {α : Type} : ∀ (j : Nat) (l : List α), getAt j l = l[j]?
  | _, [] => by simp [getAt]
  | 0, _ :: _ => rfl
  | j + 1, _ :: l => by simp [getAt, getAt_eq j l]
theorem skipAt_get {α : Type} : ∀ (j i : Nat) (l : List α), (skipAt j l)[i]? = if i < j then l[i]? else l[i + 1]?
  | _, _, [] => by simp [skipAt]
  | 0, i, _ :: l => by simp [skipAt]
  | j + 1, 0, _ :: l => by simp [skipAt]
  | j + 1, i + 1, _ :: l => by simp [skipAt, skipAt_get j i l]
theorem insAt_get (y : V) : ∀ (j i : Nat) (l : List V), j ≤ l.length → (insAt j y l)[i]? = if i < j then l[i]? else if i = j then some y else l[i - 1]?
  | 0, 0, l, _ => by simp [insAt]
  | 0, i + 1, l, _ => by simp [insAt]
  | j + 1, i, [], h => by simp at h
  | j + 1, 0, _ :: l, _ => by simp [insAt]
  | j + 1, i + 1, _ :: l, h => by
    have := insAt_get y j i l (by simpa using h)
    simp only [insAt, List.getElem?_cons_succ, this]
    simp only [Nat.add_lt_add_iff_right, Nat.add_right_cancel_iff, Nat.add_sub_cancel]
    split
    · rfl
    · split
      · rfl
      · have : i ≠ 0 := by omega
        obtain ⟨m, rfl⟩ := Nat.exists_eq_succ_of_ne_zero this
        simp
theorem skipAt_length {α : Type} : ∀ (j : Nat) (l : List α), j < l.length → (skipAt j l).length + 1 = l.length
  | _, [], h => by simp at h
  | 0, _ :: l, _ => by simp [skipAt]
  | j + 1, _ :: l, h => by simp [skipAt, skipAt_length j l (by simpa using h)]
theorem insAt_length (y : V) : ∀ (j : Nat) (l : List V), (insAt j y l).length = l.length + 1
  | 0, l => by simp [insAt]
  | _ + 1, [] => by simp [insAt]
  | j + 1, _ :: l => by simp [insAt, insAt_length y j l]

/-- a call that writes into one argument -/
def istep (C : Ctx) (σ : Env) (o : Oper) : Option (Prop × Env) :=
  match o.guard, o.op with
  | none, .call ⟨.value (.func k), args, ats⟩ => match C.Ψ k with
    | some (j, c) => match getAt j args.toList with
      | some x => match opd C.P σ 0 x with
        | some (gx, A) => match ioOut σ A with
          | some (q, y, σ1, back) => match looks C.P σ1 true (skipAt j args.toList) (skipAt j ats.toList) with
            | some (p, vs, br) => match c (insAt j y vs) with
              | some (q2, r, y') => if br && !(r.noFz && y'.noFz) then none else (match o.dst with
                | some d => if C.dst d then some (gx = true ∧ q ∧ p ∧ q2, (back y').put d true (.val r)) else none
                | none => some (gx = true ∧ q ∧ p ∧ q2, back y'))
              | none => none
            | none => none
          | none => none
        | none => none
      | none => none
    | none => none
  | _, _ => none

section
variable {C : Ctx} {F : Nat → Prop} {O : Nat → Nat → Prop} {Z : Nat → Prop} {σ σ' σ1 : Env} {a : Act} {w w' : World}

theorem istep_sound (hC : IOk C) (hI : Inv C F O (fun _ => False) σ a w) {o : Oper} {p : Prop} (h : istep C σ o = some (p, σ')) (hp : p) {Q : Exit → Act → World → Prop} : o.guard = none ∧ o.wp C.P a w (G C σ') Q := by
  unfold istep at h
  split at h
  · rename_i k args ats hg hop
    refine ⟨hg, ?_⟩
    split at h
    · rename_i j c hΨ
      split at h
      · rename_i x hx
        rw [getAt_eq] at hx
        split at h
        · rename_i gx A hA
          split at h
          · rename_i q y σ1 back ho
            split at h
            · rename_i pl vs br hl
              split at h
              · rename_i q2 r y' hc
                split at h
                · cases h
                rename_i hbr
                have main : gx = true ∧ q ∧ pl ∧ q2 → o.wp C.P a w (fun a' w' => ∃ v On F' O', a' = a.put o.dst v ∧ (∃ cs, r.reg cs v ∧ Rep C.cz w' F' r cs On) ∧ Inv C F' O' On (back y') a w') Q := by
                  rintro ⟨p1, p2, p3, p4⟩
                  obtain ⟨cs, Oy, e1, e2, e3, ⟨O1, hI1⟩, e5⟩ := ioOut_sound hI (opd_sound hI hA p1).1 ho p2
                  obtain ⟨l1, l2⟩ := looks_sound hI1 rfl hl p3
                  obtain ⟨hcall, ⟨x0, hx0, hsh⟩, hfn⟩ := hC k j c _ q2 r y' hΨ hc p4
                  obtain ⟨cv, c1, c2, c3⟩ := call_run hI hop (by rfl : opd C.P σ 0 (.func k) = some (true, .val (.fn k []))) rfl hcall
                  have hcv : cv = #[] := Array.eq_empty_of_size_eq_zero (by simpa using c1)
                  subst hcv
                  have hjl : j < args.toList.length := (List.getElem?_eq_some_iff.1 hx).1
                  have hsk := skipAt_length j args.toList hjl
                  have hjv : j ≤ vs.length := by omega
                  have hx0' : x0 = y := by
                    rw [insAt_get y j j vs hjv] at hx0
                    simpa using hx0.symm
                  subst hx0'
                  have hget : ∀ i, ((args.map a.eval) ++ (#[] : Array Value)).getD i undef = ((args.toList.map a.eval).toArray).getD i undef := by
                    intro i
                    simp [Array.getD_eq_getD_getElem?]
                  have hvj : ((args.map a.eval) ++ (#[] : Array Value)).getD j undef = a.eval x := by
                    rw [hget]
                    simp only [Array.getD_eq_getD_getElem?, List.getElem?_toArray, List.getElem?_map, hx, Option.map_some, Option.getD_some]
                  have hall : ∀ i, ∃ csi : List Value, (i = j → csi = cs) ∧ ∀ x, (insAt j x0 vs)[i]? = some x → x.reg csi (((args.map a.eval) ++ (#[] : Array Value)).getD i undef) ∧ Rep C.cz w (fun b => F b ∨ (br = true ∧ ∃ s, O1 s b)) x csi (if i = j then Oy else fun _ => False) := by
                    intro i
                    by_cases hij : i = j
                    · subst hij
                      refine ⟨cs, fun _ => rfl, fun x' hx' => ?_⟩
                      rw [insAt_get x0 i i vs hjv] at hx'
                      simp only [Nat.lt_irrefl, if_false, if_true, Option.some.injEq] at hx'
                      subst hx'
                      rw [hvj, if_pos rfl]
                      exact ⟨e1, e2.mono (fun _ h => .inl h) (fun _ h => h)⟩
                    · cases hvi : (insAt j x0 vs)[i]? with
                      | none => exact ⟨[], fun h => absurd h hij, fun x' hx' => by cases hx'⟩
                      | some xi =>
                        rw [insAt_get x0 j i vs hjv] at hvi
                        have key : ∃ i', vs[i']? = some xi ∧ ((skipAt j args.toList).map a.eval).toArray.getD i' undef = ((args.map a.eval) ++ (#[] : Array Value)).getD i undef := by
                          split at hvi
                          · rename_i hlt
                            refine ⟨i, hvi, ?_⟩
                            rw [hget]
                            simp only [Array.getD_eq_getD_getElem?, List.getElem?_toArray, List.getElem?_map, skipAt_get, if_pos hlt]
                          · rename_i hlt
                            try rw [if_neg hij] at hvi
                            refine ⟨i - 1, hvi, ?_⟩
                            rw [hget]
                            simp only [Array.getD_eq_getD_getElem?, List.getElem?_toArray, List.getElem?_map, skipAt_get]
                            rw [if_neg (by omega), show i - 1 + 1 = i by omega]
                        obtain ⟨i', k1, k2⟩ := key
                        obtain ⟨csi, f1, f2⟩ := l2 i' xi k1
                        refine ⟨csi, fun h => absurd h hij, fun x' hx' => ?_⟩
                        simp only [Option.some.injEq] at hx'
                        subst hx'
                        rw [if_neg hij, ← k2]
                        exact ⟨f1, f2⟩
                  obtain ⟨css, hcss⟩ := Classical.axiomOfChoice hall
                  have hcalls := hfn ((args.map a.eval) ++ #[]) w (fun b => F b ∨ (br = true ∧ ∃ s, O1 s b)) Oy css (by
                      rw [insAt_length]
                      have : args.size = args.toList.length := rfl
                      simp only [Array.append_empty, Array.size_map]
                      omega) (fun i x' hx' => (hcss i).2 x' hx')
                    (fun b hb => hb.elim (hI.flt b) (fun hb => by obtain ⟨_, s, hb⟩ := hb; exact hI1.olt s b hb))
                    (fun b hb => ⟨(e3 b hb).1, fun hf => hf.elim (e3 b hb).2 (fun hf => by obtain ⟨_, s, hf⟩ := hf; exact hI1.oz s b hf hb)⟩)
                  unfold Oper.wp
                  rw [c3, Oper.upon_enter]
                  refine hcalls.mono (fun e w' he => ?_)
                  obtain ⟨v, cr, On, Fr, Xn, rfl, g1, g2, g3, g4, g5⟩ := he
                  have hcj : css j = cs := (hcss j).1 rfl
                  rw [hcj] at g3 g4
                  rw [hvj] at g3
                  have up : ∀ {z : V} {c : List Value} {O2 : Nat → Prop}, Rep C.cz w' (fun b => (F b ∨ (br = true ∧ ∃ s, O1 s b)) ∨ Fr b) z c O2 → (br = true → z.noFz = true) → Rep C.cz w' (fun b => F b ∨ Fr b) z c O2 := by
                    intro z c O2 hz hzf
                    cases hb : br with
                    | false => exact hz.mono (fun b h => h.imp (fun h => h.resolve_right (by simp [hb])) id) (fun _ h => h)
                    | true => exact hz.noFz (hzf hb)
                  have hnf : br = true → r.noFz = true ∧ y'.noFz = true := by
                    intro hb
                    simpa [hb] using hbr
                  obtain ⟨O', hI'⟩ := e5 w' On Fr Xn y' g5 (up g4 (fun h => (hnf h).2)) g3 hsh
                  cases hd : o.dst with
                  | none => exact ⟨v, On, _, O', by simp [Act.put], ⟨cr, g1, up g2 (fun h => (hnf h).1)⟩, hI'⟩
                  | some d => exact ⟨v, On, _, O', rfl, ⟨cr, g1, up g2 (fun h => (hnf h).1)⟩, hI'⟩
                split at h
                · rename_i d hd
                  split at h
                  · rename_i hdd
                    simp only [Option.some.injEq, Prod.mk.injEq] at h
                    obtain ⟨rfl, rfl⟩ := h
                    refine Oper.wp_mono (fun a' w' hh => ?_) (main hp)
                    obtain ⟨v, On, F', O', rfl, ⟨cr, g1, g2⟩, hI'⟩ := hh
                    rw [hd]
                    exact ⟨F', _, (hI'.putVal (by rw [hI'.ts]; exact hdd.2) (.inl hdd.1) (g := true) (On := On) (fun _ => ⟨g1, g2⟩) (fun _ h => h) (by simp)).lessZ (fun _ h => h.elim)⟩
                  · cases h
                · rename_i hd
                  simp only [Option.some.injEq, Prod.mk.injEq] at h
                  obtain ⟨rfl, rfl⟩ := h
                  refine Oper.wp_mono (fun a' w' hh => ?_) (main hp)
                  obtain ⟨v, On, F', O', rfl, ⟨cr, g1, g2⟩, hI'⟩ := hh
                  rw [hd]
                  exact ⟨F', O', (hI'.lessZ (fun _ h => h.elim))⟩
              · cases h
            · cases h
          · cases h
        · cases h
      · cases h
    · cases h
  · cases h
end
end Go.Ax
