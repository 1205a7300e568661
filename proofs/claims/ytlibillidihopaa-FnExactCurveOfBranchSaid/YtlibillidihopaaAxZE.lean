/-
  AX, part ZE: loops, results, functions.
-/
import Derived.Test.YtlibillidihopaaAxZD
import Derived.LoopN
namespace Go.Ax
open Go.RowKit

section
variable {C : Ctx} {T : Tab} {S : Sta} {σ : Env} {B : Book}

-- every length in it fits
mutual
def _root_.Go.Ax.V.lenOk : V → Prop
  | .slc _ _ _ es => es.length ≤ 9223372036854775807 ∧ V.lenOks es
  | .agg fs => V.lenOks fs
  | .tup fs => V.lenOks fs
  | .box _ c => c.lenOk
  | _ => True
def _root_.Go.Ax.V.lenOks : List V → Prop
  | [] => True
  | x :: l => x.lenOk ∧ V.lenOks l
end

theorem lenOks_iff {l : List V} : V.lenOks l ↔ ∀ x ∈ l, x.lenOk := by
  induction l with
  | nil => simp [V.lenOks]
  | cons x l ih => simp [V.lenOks, ih]
theorem lenOks_of {l : List V} (h : ∀ (i : Nat) (x : V), l[i]? = some x → x.lenOk) : V.lenOks l := by
  rw [lenOks_iff]
  intro x hx
  obtain ⟨i, hi⟩ := List.mem_iff_getElem?.1 hx
  exact h i x hi

theorem Rep.lenOk {cz : TypeId → Nat} {w : World} {F O : Nat → Prop} {x : V} {cs : List Value} (h : Rep cz w F x cs O) : x.lenOk := by
  induction h with
  | int => trivial
  | bool => trivial
  | str => trivial
  | hole => trivial
  | fz0 => exact ⟨by simp, trivial⟩
  | fz e d es b off len cap cs O hl hc hm hF hcs hr ih => exact ⟨by have : maxLen = 9223372036854775807 := rfl; omega, lenOks_of ih⟩
  | own0 => exact ⟨by simp, trivial⟩
  | own e d es b len cap cur cs Os O hb hsz hl hc hm hO hOs hdis hcs hr ih => exact ⟨by have : maxLen = 9223372036854775807 := rfl; omega, lenOks_of ih⟩
  | agg fs cs Os O hn hOs hdis hr ih => exact lenOks_of ih
  | box e c b cur cs Oc O hb hcs hO hOs hr ih => exact ih
  | tup fs vs cs Os O hn hOs hdis hv hr ih => exact lenOks_of ih
  | fn => trivial

/-- what is known of a state's values -/
def FactS : Sta → Prop
  | [] => True
  | (_, none, .val x) :: l => x.lenOk ∧ FactS l
  | _ :: l => FactS l

theorem factS {a : Act} {w : World} : ∀ {S : Sta}, (∀ t x, (t, none, .val x) ∈ S → ∃ w : World, ∃ F O cs, Rep C.cz w F x cs O) → FactS S
  | [], _ => trivial
  | (t, some g, b) :: l, h => factS (a := a) (w := w) (S := l) (fun t x hx => h t x (List.mem_cons_of_mem _ hx))
  | (t, none, .val x) :: l, h => ⟨by obtain ⟨w, F, O, cs, hr⟩ := h t x (by simp); exact hr.lenOk, factS (a := a) (w := w) (S := l) (fun t x hx => h t x (List.mem_cons_of_mem _ hx))⟩
  | (t, none, .rf _ _ _) :: l, h => factS (a := a) (w := w) (S := l) (fun t x hx => h t x (List.mem_cons_of_mem _ hx))
  | (t, none, .ad _ _ _) :: l, h => factS (a := a) (w := w) (S := l) (fun t x hx => h t x (List.mem_cons_of_mem _ hx))
  | (t, none, .fz _) :: l, h => factS (a := a) (w := w) (S := l) (fun t x hx => h t x (List.mem_cons_of_mem _ hx))
  | (t, none, .ag _ _ _ _) :: l, h => factS (a := a) (w := w) (S := l) (fun t x hx => h t x (List.mem_cons_of_mem _ hx))

theorem GS.facts {a : Act} {w : World} (h : GS C S a w) : FactS S := by
  obtain ⟨σ, hA, F, O, hI⟩ := h
  refine factS (C := C) (a := a) (w := w) (fun t x hx => ?_)
  obtain ⟨e1, _, e3⟩ := hA.on _ _ _ hx
  obtain ⟨_, h2, _⟩ := hI.slot t e1
  obtain ⟨cs, _, hr⟩ := h2 x (e3 rfl)
  exact ⟨w, F, _, cs, hr⟩

/-- THE RULE FOR LOOPS: the slots that live, a state for each x; an invariant; a measure that falls -/
def LoopOk (L : Alg) (T : Tab) (B : Book) (Bi : IBook) (n : Nat) (ks : List Nat) (lp : LoopA) : Prop :=
  ∀ (α : Type) (c : Code) (Q : PostS) (S0 : Sta) (kl : List Nat) (st : α → Sta) (Inv : α → Prop) (m : α → Nat) (x0 : α), keepS kl S0 = st x0 → Inv x0 →
    (∀ x, Inv x → FactS (st x) → ∀ ag : Sta → Prop, (∀ x', Inv x' → m x' < m x → ag (st x')) → wpS L T lp B Bi n ks c (thenS (fun S' => ag (keepS kl S')) Q) (st x)) → lp c Q S0

def lpOf (T : Tab) (C : Ctx) : LoopA := fun c Q S => chkCode T C.lo C.st c = true → SW C (.loop c) Q S

theorem loopOk {Bi : IBook} (hC : CtxOk C) (hIO : IOk C) (hT : TabOk C.P T) (hΦ : C.Φ = phi B) (hΨ : C.Ψ = psi Bi) (hm : C.P.follows .mixedOrders = true) (ks : List Nat) : LoopOk (std T) T B Bi C.nt ks (lpOf T C) := by
  intro α c Q S0 kl st Inv m x0 h0 hi round hc
  have key : ∀ (n : Nat) (x : α), Inv x → m x < n → ∀ a w, GS C (st x) a w → Code.rounds C.P c (postC C Q) n a w := by
    intro n
    induction n with
    | zero => intro x _ h; exact absurd h (Nat.not_lt_zero _)
    | succ n ih =>
      intro x hx hn a w hG
      rw [rounds_succ]
      have hw := wpS_sound hC hIO hT hΦ hΨ hm (lp := lpOf T C) (fun c Q S h1 h2 => h2 h1) c _ (st x) hc (round x hx hG.facts (fun S' => ∃ x', S' = st x' ∧ Inv x' ∧ m x' < m x) (fun x' h1 h2 => ⟨x', rfl, h1, h2⟩)) a w hG
      refine Code.wp_mono (fun e a' w' hq => ?_) hw
      obtain ⟨S', q1, q2⟩ := hq
      cases e with
      | normal =>
        obtain ⟨x', e1, e2, e3⟩ := q1
        have q3 := q2.keep kl
        rw [e1] at q3
        exact ih x' e2 (by omega) a' w' q3
      | _ => exact ⟨S', q1, q2⟩
  intro a w hG
  have hG' := hG.keep kl
  rw [h0] at hG'
  exact wp_loop_rounds (m x0 + 1) (key _ x0 hi (Nat.lt_succ_self _) a w hG')

/-! ### results -/

/-- a result is read -/
def resM (tmps : Array Value) : ResultVar → Sem Value
  | .tmp t => pure (tmps.getD t undef)
  | .cell a t => do loadVar t (← asAddr (tmps.getD a undef))

theorem results_all {fn : Func} (tmps : Array Value) (P : Program) (w : World) (vs : Nat → Value) (h : ∀ (i : Nat) (x : ResultVar), fn.results.toList[i]? = some x → (resM tmps x).run P w = .ok (vs i) w) :
    ∃ va : Array Value, va.size = fn.results.size ∧ (∀ i, i < va.size → va.getD i undef = vs i) ∧ (results fn tmps).run P w = .ok (if h : va.size = 1 then va[0] else .tuple va) w := by
  have key : ∀ (f : ResultVar → Sem Value), (∀ x, f x = resM tmps x) → ∀ (l : List ResultVar) (vs : Nat → Value), (∀ (i : Nat) (x : ResultVar), l[i]? = some x → (resM tmps x).run P w = .ok (vs i) w) → (l.mapM f).run P w = .ok ((List.range l.length).map vs) w := by
    intro f hf l
    induction l with
    | nil => intro vs _; simp
    | cons x l ih =>
      intro vs h
      rw [List.mapM_cons]
      have h0 := h 0 x rfl
      simp only [Sem.run_bind, hf, h0, Result.andThen_ok, Sem.run_pure]
      rw [ih (fun i => vs (i + 1)) (fun i x hx => h (i + 1) x (by simpa using hx))]
      simp only [Result.andThen_ok]
      rw [List.length_cons, List.range_succ_eq_map]
      simp [Function.comp_def]
  refine ⟨((List.range fn.results.toList.length).map vs).toArray, by simp, fun i hi => ?_, ?_⟩
  · simp only [List.size_toArray, List.length_map, List.length_range] at hi
    have hi' : i < fn.results.size := by simpa using hi
    simp [Array.getD_eq_getD_getElem?, List.getElem?_range hi']
  · unfold results
    rw [Sem.run_bind, Array.mapM_eq_mapM_toList]
    simp only [Sem.run_map]
    rw [key _ ?hf fn.results.toList vs h]
    case hf => intro x; cases x <;> rfl
    rfl

theorem resS_sound (hT : TabOk C.P T) : ∀ (l : List ResultVar) (S : Sta) (σ : Env) (F : Nat → Prop) (O : Nat → Nat → Prop) (Z : Nat → Prop) (a : Act) (w : World) (ps : List Prop) (ys : List V), Inv C F O Z σ a w → Agr S σ → resS (std T) T l S = some (ps, ys) → Alls ps →
    ys.length = l.length ∧ ∃ (vs : Nat → Value) (css : Nat → List Value) (Ons : Nat → Nat → Prop), (∀ (i : Nat) (x : ResultVar), l[i]? = some x → (resM a.tmps x).run C.P w = .ok (vs i) w) ∧
      (∀ (i : Nat) (y : V), ys[i]? = some y → y.reg (css i) (vs i) ∧ Rep C.cz w F y (css i) (Ons i)) ∧
      (∀ i b, Ons i b → ¬ Z b) ∧ (∀ i j b, i ≠ j → Ons i b → ¬ Ons j b) ∧ (∀ i b, Ons i b → (C.w0.heap.size ≤ b ∨ C.X b) ∧ b < w.heap.size ∧ ¬ F b)
  | [], S, σ, F, O, Z, a, w, ps, ys, hI, hA, h, hp => by
    simp only [resS, Option.some.injEq, Prod.mk.injEq] at h
    obtain ⟨_, rfl⟩ := h
    exact ⟨rfl, fun _ => undef, fun _ => [], fun _ _ => False, fun i x hx => by simp at hx, fun i y hy => by simp at hy, fun _ _ h => h.elim, fun _ _ _ _ h => h.elim, fun _ _ h => h.elim⟩
  | x0 :: l, S, σ, F, O, Z, a, w, ps, ys, hI, hA, h, hp => by
    have step : ∃ (p1 p2 : List Prop) (y : V) (ys' : List V) (S1 : Sta) (σ1 : Env) (v : Value) (cs : List Value) (On : Nat → Prop), ps = p1 ++ p2 ∧ ys = y :: ys' ∧ resS (std T) T l S1 = some (p2, ys') ∧ Agr S1 σ1 ∧ (resM a.tmps x0).run C.P w = .ok v w ∧ y.reg cs v ∧ Rep C.cz w F y cs On ∧ (∀ b, On b → ¬ Z b) ∧
        ∃ O', Inv C F O' (fun b => Z b ∨ On b) σ1 a w := by
      cases x0 with
      | tmp t =>
        simp only [resS] at h
        split at h
        · rename_i gx A h1
          split at h
          · rename_i qs y S1 h2
            split at h
            · rename_i rs ys' h3
              simp only [Option.some.injEq, Prod.mk.injEq] at h
              obtain ⟨rfl, rfl⟩ := h
              rw [alls_append, alls_append] at hp
              obtain ⟨⟨p1, p2⟩, p3⟩ := hp
              have o1 := opdS_sound hT hA h1 (geG_sound p1 rfl)
              obtain ⟨q, σ1, t1, t2, t3⟩ := takeS_sound hA h2 p2
              obtain ⟨cs, On, e1, e2⟩ := takeA_sound hI (opd_sound hI o1 rfl).1 t1 t2
              exact ⟨_, rs, y, ys', S1, σ1, _, cs, On, rfl, rfl, h3, t3, rfl, e1, e2.rep, e2.new, e2.inv⟩
            · cases h
          · cases h
        · cases h
      | cell t ty =>
        simp only [resS] at h
        split at h
        · rename_i e c h1
          split at h
          · rename_i hfit
            split at h
            · rename_i rs ys' h3
              simp only [Option.some.injEq, Prod.mk.injEq] at h
              obtain ⟨rfl, rfl⟩ := h
              have ho := ownS_sound hA h1
              obtain ⟨hg, _, ha⟩ := Env.own_elim ho
              obtain ⟨cs, e1, e2, e3, e4⟩ := hI.takeAll hg ha
              cases e2 with
              | box _ _ b cur cs' Oc _ hb hcs hO hOs hr =>
                have hcells : Cells w b 0 cs' := by
                  intro j v hj
                  rw [← hcs, Array.getElem?_toList] at hj
                  simp only [World.cell?, hb, Option.isSome_none, Bool.false_eq_true, if_false, Nat.zero_add]
                  exact hj
                obtain ⟨v, f1, f2⟩ := loadVar_run (C := C) (fitT_sound hT hfit) hcells hr
                refine ⟨[], rs, c, ys', del t S, σ.drp t, v, cs', Oc, rfl, rfl, h3, hA.drp, ?_, f2, hr, fun b' hb' hz => hI.oz t b' (hOs b' hb').1 hz, _, e4.lessZ (fun b' hb' => hb'.imp id (fun h => (hOs b' h).1))⟩
                have hreg : a.tmps.getD t undef = .pointer (some ⟨b, 0, none⟩) := e1
                simp only [resM, Sem.run_bind, hreg, asAddr, Sem.run_pure, Result.andThen_ok]
                exact f1
            · cases h
          · cases h
        · cases h
    obtain ⟨p1, p2, y, ys', S1, σ1, v, cs, On, rfl, rfl, h3, t3, hrun, e1, e2, e3, O', hI'⟩ := step
    rw [alls_append] at hp
    obtain ⟨f2, vs, css, Ons, f1, f3, f4, f5, f6⟩ := resS_sound hT l S1 σ1 F O' _ a w p2 ys' hI' t3 h3 hp.2
    refine ⟨by simp [f2], fun i => if i = 0 then v else vs (i - 1), fun i => if i = 0 then cs else css (i - 1), fun i => if i = 0 then On else Ons (i - 1), fun i x hx => ?_, fun i z hz => ?_, fun i b hb => ?_, fun i j b hij hb => ?_, fun i b hb => ?_⟩
    · cases i with
      | zero =>
        simp at hx
        subst hx
        exact hrun
      | succ i =>
        have := f1 i x (by simpa using hx)
        simpa using this
    · cases i with
      | zero =>
        simp at hz
        subst hz
        exact ⟨e1, e2⟩
      | succ i =>
        have := f3 i z (by simpa using hz)
        exact ⟨by simpa using this.1, by simpa using this.2⟩
    · dsimp only at hb
      split at hb
      · exact e3 b hb
      · exact fun hz => f4 _ b hb (.inl hz)
    · dsimp only at hb ⊢
      split at hb
      · split
        · omega
        · exact fun hb' => f4 _ b hb' (.inr hb)
      · split
        · exact fun hb' => f4 _ b hb (.inr hb')
        · exact f5 _ _ b (by omega) hb
    · dsimp only at hb
      split at hb
      · exact ⟨hI'.zfr b (.inr hb), hI'.zlt b (.inr hb), hI'.zf b (.inr hb)⟩
      · exact f6 _ b hb
end

/-! ### functions -/

def Sat (P : Program) (k : FuncId) (f : Contract) : Prop := ∀ args ps r, f args = some (ps, r) → Alls ps → FnOk P k args r
def BookOk (P : Program) (B : Book) : Prop := ∀ k f, bget B k = some f → Sat P k f

theorem bookNil {P : Program} : BookOk P [] := fun k f h => by simp [bget] at h
theorem bookCons {P : Program} {B : Book} {k : FuncId} {f : Contract} (h : Sat P k f) (hB : BookOk P B) : BookOk P ((k, f) :: B) := by
  intro k' f' h'
  simp only [bget] at h'
  split at h'
  · rename_i hk
    simp only [Option.some.injEq] at h'
    subst h'
    rw [← Nat.eq_of_beq_eq_true hk]
    exact h
  · exact hB k' f' h'

theorem phi_ok {C : Ctx} {B : Book} (hΦ : C.Φ = phi B) (hB : BookOk C.P B) : CtxOk C := by
  intro k args q r h hq
  rw [hΦ] at h
  unfold phi at h
  split at h
  · rename_i f hf
    split at h
    · rename_i ps r' hr
      simp only [Option.some.injEq, Prod.mk.injEq, and_true] at h
      obtain ⟨rfl, rfl⟩ := h
      exact hB k f hf args ps r' hr hq
    · cases h
  · cases h

def SatI (P : Program) (k j : Nat) (f : IContract) : Prop := ∀ args ps r y, f args = some (ps, r, y) → Alls ps → FnIO P k j args r y
def BookIOk (P : Program) (Bi : IBook) : Prop := ∀ k j f, iget Bi k = some (j, f) → SatI P k j f
theorem bookINil {P : Program} : BookIOk P [] := fun k j f h => by simp [iget] at h
theorem bookICons {P : Program} {Bi : IBook} {k j : Nat} {f : IContract} (h : SatI P k j f) (hB : BookIOk P Bi) : BookIOk P ((k, j, f) :: Bi) := by
  intro k' j' f' h'
  simp only [iget] at h'
  split at h'
  · rename_i hk
    simp only [Option.some.injEq, Prod.mk.injEq] at h'
    obtain ⟨rfl, rfl⟩ := h'
    rw [← Nat.eq_of_beq_eq_true hk]
    exact h
  · exact hB k' j' f' h'
theorem psi_ok {C : Ctx} {Bi : IBook} (hΨ : C.Ψ = psi Bi) (hB : BookIOk C.P Bi) : IOk C := by
  intro k j c args q r y h hc hq
  rw [hΨ] at h
  unfold psi at h
  split at h
  · rename_i j' f hf
    simp only [Option.some.injEq, Prod.mk.injEq] at h
    obtain ⟨rfl, rfl⟩ := h
    dsimp only at hc
    split at hc
    · rename_i ps r' y' hr
      simp only [Option.some.injEq, Prod.mk.injEq] at hc
      obtain ⟨rfl, rfl, rfl⟩ := hc
      exact hB k _ f hf args ps _ _ hr hq
    · cases hc
  · cases h

theorem argS_mem : ∀ (l : List V) (i : Nat) (t : Nat) (g : Option Bool) (a : A), (t, g, a) ∈ argS i l → ∃ j x, t = i + j ∧ l[j]? = some x ∧ g = none ∧ a = .val x
  | [], i, t, g, a, h => by simp [argS] at h
  | x :: l, i, t, g, a, h => by
    simp only [argS, List.mem_cons] at h
    rcases h with h | h
    · simp only [Prod.mk.injEq] at h
      obtain ⟨rfl, rfl, rfl⟩ := h
      exact ⟨0, x, rfl, rfl, rfl, rfl⟩
    · obtain ⟨j, y, e1, e2, e3, e4⟩ := argS_mem l (i + 1) t g a h
      exact ⟨j + 1, y, by omega, by simpa using e2, e3, e4⟩
theorem mem_argS : ∀ (l : List V) (i j : Nat) (x : V), l[j]? = some x → (i + j, none, .val x) ∈ argS i l
  | [], i, j, x, h => by simp at h
  | y :: l, i, 0, x, h => by simp at h; subst h; simp [argS]
  | y :: l, i, j + 1, x, h => by
    simp only [argS, List.mem_cons]
    right
    have := mem_argS l (i + 1) j x (by simpa using h)
    rw [show i + (j + 1) = i + 1 + j from by omega]
    exact this

theorem Rep.f_lt {cz : TypeId → Nat} {w : World} {F : Nat → Prop} {x : V} {cs : List Value} (h : Rep cz w F x cs (fun _ => False)) : Rep cz w F x cs (fun _ => False) := h

/-- THE RULE FOR FUNCTIONS -/
theorem fnOk_ofI {P : Program} {T : Tab} {B : Book} {Bi : IBook} {k : FuncId} {fn : Func} {body : Code} {args : List V} {r : V} {n : Nat} (ks : List Nat) (hf : P.funcs[k]? = some fn) (hb : fn.body = some body) (hn : fn.ntmps = n) (hname : (fn.name == "runtime.NumGoroutine") = false)
    (hl : args.length ≤ n) (hm : P.follows .mixedOrders = true) (hT : TabOk P T) (hB : BookOk P B) (hBi : BookIOk P Bi) (hck : chkCode T 0 false body = true)
    (h : ∀ (L : Alg) (lp : LoopA) (rr : V), L = std T → rr = r → FactS (argS 0 args) → LoopOk L T B Bi n ks lp → wpS L T lp B Bi n ks body (retS L T fn.results.toList rr) (argS 0 args)) : FnOk P k args r := by
  refine ⟨⟨fn, hf, hname, by rw [hb]; rfl⟩, fun vals w F hsz hv hF => ?_⟩
  refine calls_of_wp hf hb ?_
  let C : Ctx := { P := P, Φ := phi B, w0 := w, X := fun _ => False, F0 := F, nt := n, Ψ := psi Bi, lo := 0, t0 := #[], st := false }
  have hC : CtxOk C := phi_ok (C := C) rfl hB
  have hIO : IOk C := psi_ok (C := C) rfl hBi
  let σ : Env := fun t => if t < args.length then ⟨true, true, 0, .val (args.getD t (.hole 0))⟩ else ⟨false, true, 0, .val (.hole 0)⟩
  have hts : (vals ++ Array.replicate (fn.ntmps - vals.size) undef).size = n := by
    simp only [Array.size_append, Array.size_replicate]
    omega
  have hgl : ∀ t, t < args.length → (vals ++ Array.replicate (fn.ntmps - vals.size) undef).getD t undef = vals.getD t undef := by
    intro t ht
    simp only [Array.getD_eq_getD_getElem?]
    rw [Array.getElem?_append_left (by omega)]
  have hgr : ∀ t, ¬ t < args.length → (vals ++ Array.replicate (fn.ntmps - vals.size) undef).getD t undef = undef := by
    intro t ht
    simp only [Array.getD_eq_getD_getElem?]
    rw [Array.getElem?_append_right (by omega)]
    by_cases h : t - vals.size < fn.ntmps - vals.size
    · simp [h]
    · simp [h]
  have hA : Agr (argS 0 args) σ := by
    refine ⟨fun t g a h => ?_, fun t h => ?_⟩
    · obtain ⟨j, x, e1, e2, e3, e4⟩ := argS_mem _ _ _ _ _ h
      subst e3; subst e4
      simp only [Nat.zero_add] at e1
      subst e1
      have hlt : t < args.length := (List.getElem?_eq_some_iff.1 e2).1
      simp only [σ, if_pos hlt, gb, vz, getD_of_some e2]
      exact ⟨trivial, trivial, fun _ => trivial⟩
    · by_cases hlt : t < args.length
      · exact absurd (by have := mem_argS args 0 t _ (some_of_lt (.hole 0) hlt); simpa using this) (h (none, .val (args.getD t (.hole 0))))
      · simp [σ, hlt, E.owner]
  have hI : Inv C F (fun _ _ => False) (fun _ => False) σ { tmps := vals ++ Array.replicate (fn.ntmps - vals.size) undef, defers := [] } w := by
    refine ⟨fun t hg => ?_, fun _ _ _ _ h => h.elim, fun _ _ h => h.elim, fun _ _ h => h.elim, fun _ h => h.elim, fun _ _ h => h.elim, fun _ h => h.elim, hF, fun _ _ h => h.elim, fun _ h => h.elim, fun _ h => h, fun _ h => .inl h, fun _ _ _ => rfl, Nat.le_refl _, rfl, rfl, rfl, rfl, fun t s ver hr => ?_, fun t hg hu => ?_, hts, fun _ h => absurd h (Nat.not_lt_zero _), fun h => by cases h⟩
    · have hlt : t < args.length := by
        by_cases hlt : t < args.length
        · exact hlt
        · simp [σ, hlt] at hg
      refine ⟨by rw [hts]; omega, fun x hx => ?_, fun hn => absurd (by simp only [σ, if_pos hlt]) (hn (args.getD t (.hole 0)))⟩
      simp only [σ, if_pos hlt, A.val.injEq] at hx
      subst hx
      rw [hgl t hlt]
      exact hv t _ (some_of_lt (.hole 0) hlt)
    · simp only [σ] at hr
      split at hr <;> simp [A.refs] at hr
    · have hlt : ¬ t < args.length := by
        intro hlt
        simp [σ, hlt] at hg
      exact hgr t hlt
  have hGS : GS C (argS 0 args) { tmps := vals ++ Array.replicate (fn.ntmps - vals.size) undef, defers := [] } w := ⟨σ, hA, F, _, hI⟩
  have hw := wpS_sound (C := C) hC hIO hT rfl rfl hm (lp := lpOf T C) (fun c Q S h1 h2 => h2 h1) body _ _ hck (h (std T) (lpOf T C) r rfl rfl hGS.facts (loopOk hC hIO hT rfl rfl hm ks)) _ w hGS
  refine Code.wp_mono (fun e a' w' hq => ?_) hw
  obtain ⟨S', q1, σ', hA', F', O', hI'⟩ := hq
  have fin : (match resS (std T) T fn.results.toList S' with
      | some (ps, l) => conj ps (oneV l = r)
      | none => False) → a'.defers = [] ∧ ∃ v, (results fn a'.tmps).run P w' = .ok v w' ∧ ∃ (v' : Value) (cs : List Value) (On Fr : Nat → Prop), Ending.returned v = .returned v' ∧ r.reg cs v' ∧ Rep P.cellsOf w' (fun b => F b ∨ Fr b) r cs On ∧ (∀ b, On b ∨ Fr b → w.heap.size ≤ b ∧ b < w'.heap.size) ∧ (∀ b, On b → ¬ Fr b) ∧ Below w.heap.size w w' := by
    intro hq
    split at hq
    · rename_i ps l hres
      rw [conj_iff] at hq
      obtain ⟨f2, vf, css, Ons, f1, f3, f4, f5, f6⟩ := resS_sound (C := C) hT _ _ _ _ _ _ _ _ _ _ hI' hA' hres hq.1
      obtain ⟨vs, g0, g1, g2⟩ := results_all (fn := fn) a'.tmps P w' vf f1
      refine ⟨hI'.defers, _, g2, ?_⟩
      have hbelow : Below w.heap.size w w' := ⟨hI'.os, hI'.tape, hI'.output, hI'.size, fun k hk => hI'.old k hk (fun h => h)⟩
      have hFr : ∀ b, F' b → F b ∨ (F' b ∧ w.heap.size ≤ b) := fun b hb => (hI'.ffr b hb).imp id (fun h => ⟨hb, h⟩)
      have hOn : ∀ i b, Ons i b → w.heap.size ≤ b ∧ b < w'.heap.size ∧ ¬ F' b := fun i b hb => ⟨(f6 i b hb).1.elim id (fun h => h.elim), (f6 i b hb).2⟩
      have hsz : vs.size = l.length := by
        rw [g0, f2, Array.length_toList]
      by_cases h1 : vs.size = 1
      · rw [dif_pos h1]
        have : ∃ y, l = [y] := by
          match l, (by omega : l.length = 1) with
          | [y], _ => exact ⟨y, rfl⟩
        obtain ⟨y, rfl⟩ := this
        have hr : y = r := hq.2
        subst hr
        obtain ⟨e1, e2⟩ := f3 0 y rfl
        have hv0 : vs[0] = vf 0 := by
          rw [← g1 0 (by omega)]
          simp [Array.getD_eq_getD_getElem?, h1]
        refine ⟨_, css 0, Ons 0, fun b => F' b ∧ w.heap.size ≤ b, rfl, by rw [hv0]; exact e1, e2.mono hFr (fun _ h => h), fun b hb => ?_, fun b hb hf => (hOn 0 b hb).2.2 hf.1, hbelow⟩
        rcases hb with hb | hb
        · exact ⟨(hOn 0 b hb).1, (hOn 0 b hb).2.1⟩
        · exact ⟨hb.2, hI'.flt b hb.1⟩
      · rw [dif_neg h1]
        have hr : .tup l = r := by
          have := hq.2
          unfold oneV at this
          split at this
          · rename_i x; exact absurd (by simpa using hsz) h1
          · exact this
        subst hr
        refine ⟨_, [.tuple vs], fun b => ∃ i, Ons i b, fun b => F' b ∧ w.heap.size ≤ b, rfl, rfl, ?_, fun b hb => ?_, fun b hb hf => ?_, hbelow⟩
        · refine .tup l vs css Ons _ hsz (fun i b hb => ⟨i, hb⟩) f5 (fun i x hx => ?_) (fun i x hx => ((f3 i x hx).2).mono hFr (fun _ h => h))
          have hil := (List.getElem?_eq_some_iff.1 hx).1
          rw [g1 i (by omega)]
          exact (f3 i x hx).1
        · rcases hb with ⟨i, hb⟩ | hb
          · exact ⟨(hOn i b hb).1, (hOn i b hb).2.1⟩
          · exact ⟨hb.2, hI'.flt b hb.1⟩
        · obtain ⟨i, hb⟩ := hb
          exact (hOn i b hb).2.2 hf.1
    · exact hq.elim
  cases e with
  | normal => exact fin q1
  | ret => exact fin q1
  | _ => exact q1.elim

theorem fnOk_of {P : Program} {T : Tab} {B : Book} {k : FuncId} {fn : Func} {body : Code} {args : List V} {r : V} {n : Nat} (ks : List Nat) (hf : P.funcs[k]? = some fn) (hb : fn.body = some body) (hn : fn.ntmps = n) (hname : (fn.name == "runtime.NumGoroutine") = false)
    (hl : args.length ≤ n) (hm : P.follows .mixedOrders = true) (hT : TabOk P T) (hB : BookOk P B) (hck : chkCode T 0 false body = true)
    (h : ∀ (L : Alg) (lp : LoopA) (rr : V), L = std T → rr = r → FactS (argS 0 args) → LoopOk L T B [] n ks lp → wpS L T lp B [] n ks body (retS L T fn.results.toList rr) (argS 0 args)) : FnOk P k args r :=
  fnOk_ofI ks hf hb hn hname hl hm hT hB bookINil hck h
end Go.Ax
