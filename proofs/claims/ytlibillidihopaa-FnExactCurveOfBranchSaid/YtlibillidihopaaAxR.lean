/-
  AX, part R: the soundness of writing steps.
-/
import Derived.Test.YtlibillidihopaaAxQ
import Derived.Laws.OwnMore
namespace Go.Ax
open Go.RowKit

section
variable {C : Ctx} {F : Nat → Prop} {O : Nat → Nat → Prop} {Z : Nat → Prop} {σ σ' : Env} {a : Act} {w w' : World}

theorem V.solids_mem : ∀ l : List V, V.solids l = true → ∀ z ∈ l, z.solid = true := by
  intro l
  induction l with
  | nil => simp
  | cons x l ih =>
    simp only [V.solids, Bool.and_eq_true]
    rintro ⟨e1, e2⟩ z hz
    rcases List.mem_cons.1 hz with rfl | hz
    · exact e1
    · exact ih e2 z hz

theorem Rep.oneCell {cz : TypeId → Nat} {x : V} {cs : List Value} {O' : Nat → Prop} (h : Rep cz w F x cs O') : x.solid = true → ∀ v ∈ cs, v.oneCell' = true := by
  induction h with
  | agg fs cs Os O hn hOs hdis hr ih =>
    intro hs v hv
    -- v lies in some field
    have key : ∀ (l : List V) (c : List Value), c.length = V.sizes l → (∀ (i : Nat) (x : V), l[i]? = some x → ∀ u ∈ (c.drop (V.offs l i)).take x.size, u.oneCell' = true) → ∀ u ∈ c, u.oneCell' = true := by
      intro l
      induction l with
      | nil => intro c hc _ u hu; simp [V.sizes] at hc; subst hc; simp at hu
      | cons x l ih2 =>
        intro c hc hf u hu
        rw [← List.take_append_drop x.size c] at hu
        rcases List.mem_append.1 hu with hu | hu
        · exact hf 0 x rfl u (by simpa [V.offs, V.sizes] using hu)
        · refine ih2 (c.drop x.size) (by simp only [List.length_drop, hc, V.sizes]; omega) (fun i y hy u hu => hf (i + 1) y (by simpa using hy) u ?_) u hu
          have e : V.offs (x :: l) (i + 1) = x.size + V.offs l i := by simp [V.offs, V.sizes]
          rw [e, ← List.drop_drop]
          exact hu
    exact key fs cs hn (fun i x hx u hu => ih i x hx (V.solids_mem fs hs x (List.mem_of_getElem? hx)) u hu) v hv
  | hole => intro hs; simp [V.solid] at hs
  | tup => intro hs; simp [V.solid] at hs
  | _ => intro _ v hv; simp only [List.mem_singleton] at hv; subst hv; rfl

theorem reg_cells {cz : TypeId → Nat} {x : V} {cs : List Value} {O' : Nat → Prop} {v : Value} (h : Rep cz w F x cs O') (hr : x.reg cs v) (hs : x.solid = true) : v.cells.toList = cs := by
  revert hr h hs
  cases x with
  | agg fs => intro hrep hreg _; rw [hreg]; simp [Value.cells]
  | hole n => intro _ _ h; simp [V.solid] at h
  | tup n => intro _ _ h; simp [V.solid] at h
  | _ =>
    intro hrep hreg _
    have hl := hrep.length
    match cs, hl with
    | [c], _ =>
      have : v = c := hreg
      subst this
      cases hrep <;> rfl

/-- a part's block is a row of cells, none frozen -/
theorem locM_block {cz : TypeId → Nat} : ∀ (p : List Nat) (x : V) (b0 o0 : Nat) (cs : List Value) (O : Nat → Prop) (b o : Nat), Rep cz w F x cs O → Cells w b0 o0 cs → x.okp p → locM cz w p x b0 o0 = some (b, o) →
    (∃ cur e, w.heap[b0]? = some (.cells cur e (0, 0))) → ∃ cur e, w.heap[b]? = some (.cells cur e (0, 0))
  | [], x, b0, o0, cs, O, b, o, _, _, _, hl, hb => by
    simp only [locM, Option.some.injEq, Prod.mk.injEq] at hl
    rw [← hl.1]; exact hb
  | i :: p, x, b0, o0, cs, O, b, o, h, hc, hok, hl, hb0 => by
    cases h with
    | int => exact hok.1.elim
    | bool => exact hok.1.elim
    | str => exact hok.1.elim
    | hole => exact hok.1.elim
    | fz0 => have := hok.1; simp [V.hasKid] at this
    | fz => have := hok.1; simp [V.hasKid] at this
    | own0 => have := hok.1; simp [V.hasKid] at this
    | tup => exact hok.1.elim
    | fn => exact hok.1.elim
    | own e d es b1 len cap cur cs' Os O hb hsz hl' hcap hm hO hOs hdis hcs hr =>
      have hlt : i < es.length := hok.1.2
      have hh := hc 0 _ rfl
      simp only [Nat.add_zero] at hh
      simp only [locM] at hl
      rw [hh] at hl
      exact locM_block p (es.getD i d) b1 (i * cz e) (cs' i) (Os i) b o (hr i _ (some_of_lt d hlt)) (hcs i hlt).2 hok.2 hl ⟨cur, e, hb⟩
    | agg fs cs Os O hn hOs hdis hr =>
      have hlt : i < fs.length := hok.1
      simp only [locM] at hl
      exact locM_block p _ b0 _ _ (Os i) b o (hr i _ (some_of_lt (.hole 0) hlt)) (hc.part _ _) hok.2 hl hb0
    | box e c b1 cur cs' Oc O hb hcs hO hOs hr =>
      have hcells : Cells w b1 0 cs' := by
        intro j v hj
        subst hcs
        simp at hj
        simp [World.cell?, hb, hj]
      have hh := hc 0 _ rfl
      simp only [Nat.add_zero] at hh
      simp only [locM] at hl
      rw [hh] at hl
      exact locM_block p c b1 0 cs' Oc b o hr hcells hok.2 hl ⟨cur, e, hb⟩

theorem locV_block {cz : TypeId → Nat} {p : List Nat} {x : V} {cs : List Value} {O : Nat → Prop} {v : Value} {b o : Nat} (h : Rep cz w F x cs O) (hv : x.reg cs v) (hok : x.okp p) (hl : locV cz w p x v = some (b, o)) :
    ∃ cur e, w.heap[b]? = some (.cells cur e (0, 0)) := by
  cases p with
  | nil => simp [locV] at hl
  | cons i p =>
    cases h with
    | int => exact hok.1.elim
    | bool => exact hok.1.elim
    | str => exact hok.1.elim
    | hole => exact hok.1.elim
    | fz0 => have := hok.1; simp [V.hasKid] at this
    | fz => have := hok.1; simp [V.hasKid] at this
    | own0 => have := hok.1; simp [V.hasKid] at this
    | tup => exact hok.1.elim
    | fn => exact hok.1.elim
    | agg fs => simp [locV] at hl
    | own e d es b1 len cap cur cs' Os O hb hsz hl' hcap hm hO hOs hdis hcs hr =>
      have hlt : i < es.length := hok.1.2
      have hv' : v = .slice (some ⟨b1, 0, none⟩) len cap := hv
      subst hv'
      exact locM_block p (es.getD i d) b1 (i * cz e) (cs' i) (Os i) b o (hr i _ (some_of_lt d hlt)) (hcs i hlt).2 hok.2 hl ⟨cur, e, hb⟩
    | box e c b1 cur cs' Oc O hb hcs hO hOs hr =>
      have hcells : Cells w b1 0 cs' := by
        intro j v hj
        subst hcs
        simp at hj
        simp [World.cell?, hb, hj]
      have hv' : v = .pointer (some ⟨b1, 0, none⟩) := hv
      subst hv'
      exact locM_block p c b1 0 cs' Oc b o hr hcells hok.2 hl ⟨cur, e, hb⟩

theorem put_same {a : Act} {s : Nat} {v : Value} (h : a.tmps.getD s undef = v) (hs : s < a.tmps.size) : a.put (some s) v = a := by
  unfold Act.put
  simp only
  have : a.tmps.setIfInBounds s v = a.tmps := by
    apply Array.ext_getElem?
    intro j
    by_cases hj : j = s
    · subst hj
      simp only [Array.getD_eq_getD_getElem?, Array.getElem?_eq_getElem hs, Option.getD_some] at h
      simp [hs, h]
    · exact Array.getElem?_setIfInBounds_ne (Ne.symm hj)
  rw [this]

theorem wstep_assign (hI : Inv C F O (fun _ => False) σ a w) {o : Oper} {x : Operand} {d : Nat} {p : Prop} (hg : o.guard = none) (hop : o.op = .assign x) (hd : o.dst = some d) (h : wstep C σ o = some (p, σ')) (hp : p) {Q : Exit → Act → World → Prop} :
    o.wp C.P a w (G C σ') Q := by
  simp only [wstep, hg, hop, hd] at h
  split at h
  · rename_i gx A hA
    split at h
    · rename_i q y σ1 ht
      split at h
      · rename_i hc
        simp only [Bool.and_eq_true, decide_eq_true_eq] at hc
        have hdl : d < a.tmps.size := by rw [hI.ts]; exact hc.1.2
        have core : gx = true → q → ∃ O1, Inv C F O1 (fun _ => False) (σ1.put d true (.val y)) (a.put (some d) (a.eval x)) w := by
          intro hgx hq
          obtain ⟨cs, On, e1, e2⟩ := takeA_sound hI (opd_sound hI hA hgx).1 ht hq
          obtain ⟨O1, hI1⟩ := e2.inv
          exact ⟨_, (hI1.putVal hdl (.inl hc.1.1) (g := true) (fun _ => ⟨e1, e2.rep⟩) (fun b hb => .inr hb) (by simp)).lessZ (fun _ h => h.elim)⟩
        have run : (execOp a.eval o).run C.P w = .ok (.value (a.eval x)) w := by simp [execOp, hop]
        unfold Oper.wp
        rw [run, Oper.upon_value, hd]
        split at h
        · rename_i s ver
          split at h
          · cases h
          · rename_i hsd
            simp only [Option.some.injEq, Prod.mk.injEq] at h
            obtain ⟨rfl, rfl⟩ := h
            obtain ⟨O1, hI1⟩ := core hp.1 hp.2
            have hown : ∃ r, σ.own s ver = some r := by
              simp only [takeA] at ht
              split at ht
              · rename_i r hr; exact ⟨r, hr⟩
              · cases ht
            obtain ⟨r, hr⟩ := hown
            have hs : s < a.tmps.size := (hI.slot s (Env.own_elim hr).1).1
            have hv : a.eval x = a.tmps.getD s undef := (opd_sound hI hA hp.1).1 r _ hr (by cases r <;> trivial) rfl
            have hput := hI1.putRef (d := s) (g := true) (x := .rf d ((σ1 d).ver + 1) []) (v := a.eval x) (by simpa [Act.put] using hs) (.inr (by simp only [Act.put]; rw [getD_set_ne' hsd, hv])) (by simp) (fun _ => by
              intro r' h' hr' _ hh
              simp only [hdrV, Option.some.injEq] at hh
              rw [← hh]
              simp only [Act.put]
              rw [getD_set_eq' hdl]) (by simp) (fun s' ver' hr' => by
              simp only [A.refs, Option.some.injEq, Prod.mk.injEq] at hr'
              obtain ⟨rfl, rfl⟩ := hr'
              simp [Env.put])
            rw [put_same (by simp only [Act.put]; rw [getD_set_ne' hsd, hv]) (by simpa [Act.put] using hs)] at hput
            exact ⟨F, O1, hput⟩
        · simp only [Option.some.injEq, Prod.mk.injEq] at h
          obtain ⟨rfl, rfl⟩ := h
          obtain ⟨O1, hI1⟩ := core hp.1 hp.2
          exact ⟨F, O1, hI1⟩
      · cases h
    · cases h
  · cases h
end
end Go.Ax
