/-
  AX, part W: the true algebra; what a state says of an environment; operands and paths.
-/
import Derived.Test.YtlibillidihopaaAxV
namespace Go.Ax

def stdV : Lv := { toI := V.toI, toB := V.toB, toS := V.toS, toL := V.toL, fld := V.fld }

def std (T : Tab) : Alg where
  v := stdV
  wrap := fun k n => k.wrap n
  add := fun a b => a + b
  sub := fun a b => a - b
  mul := fun a b => a * b
  quo := fun a b => a.tdiv b
  rem := fun a b => a.tmod b
  imin := fun a b => min a b
  imax := fun a b => max a b
  eqI := fun a b => a == b
  leI := fun a b => decide (a ≤ b)
  ltI := fun a b => decide (a < b)
  eqB := fun a b => a == b
  not := fun a => !a
  and := fun a b => a && b
  pick := fun c a b => bif c then a else b
  eqS := fun a b => a.toList == b.toList
  ltS := fun a b => Op.bytesLess a.toList b.toList
  appS := fun a b => a ++ b
  lenS := fun a => (a.size : Int)
  getS := fun s n => ((s.data.getD n.toNat 0).toNat : Int)
  extS := fun s l h => s.extract l.toNat h.toNat
  len := fun es => (es.length : Int)
  get := fun es i d => es.getD i d
  set := fun es i y => es.set i y
  app := fun a b => a ++ b
  sli := fun es l h => (es.take h.toNat).drop l.toNat
  rep := fun n z => List.replicate n.toNat z
  frz := V.frzs
  nat := Int.toNat
  ltN := fun i es => i < es.length
  nofz := fun es => V.noFzs es = true
  nown := fun es => V.owneds es = false
  emp := fun es => es = []
  ok := fun o t y => vw stdV T o 20 t y = some y
  solid := fun es => ∀ x ∈ es, x.solid = true
  le := fun a b => a ≤ b
  lt := fun a b => a < b
  ne0 := fun b => b ≠ 0
  imp := fun b p => b = true → p
  tt := fun b => b = true
  ifP := fun b p q => (b = true → p) ∧ (b = false → q)

/-! ### the table -/

def fieldsOf (P : Program) (t : TypeId) : Option (List (Nat × TypeId)) := match P.underlying t with
  | some (.struct fs) => some (fs.toList.map fun x => (x.offset, x.type))
  | _ => none

structure Got where
  zero : Option V
  agg : Option Bool
  cells : Nat
  int : Option IntKind
  elem : Option TypeId
  str : Bool
  bool : Bool
  fields : Option (List (Nat × TypeId))
  struct : Option (List V)
  small : Bool

def gotT (P : Program) (t : TypeId) : Got :=
  { zero := zeroOf P t, agg := aggT P t, cells := P.cellsOf t, int := intT P t, elem := elemOf P t, str := isStr P t, bool := boolT P t, fields := fieldsOf P t, struct := structOf P t, small := decide (P.bytesOf t ≤ 65536) }

def kAgg : TK → Bool
  | .agg _ => true
  | _ => false
def zsOf : V → Option (List V)
  | .agg zs => some zs
  | _ => none
def wantT (ti : TI) : Got :=
  { zero := some ti.zero
    agg := some (kAgg ti.k)
    cells := ti.cells
    int := match ti.k with
      | .int k => some k
      | _ => none
    elem := match ti.k with
      | .slc e => some e
      | _ => none
    str := match ti.k with
      | .str => true
      | _ => false
    bool := match ti.k with
      | .bool => true
      | _ => false
    fields := match ti.k with
      | .agg fs => some fs
      | _ => none
    struct := match ti.k with
      | .agg _ => zsOf ti.zero
      | _ => none
    small := true }

/-- the sums of cells: each offset is where the cells ahead end -/
def offsC (T : Tab) : List (Nat × TypeId) → Nat → Option Nat
  | [], n => some n
  | (o, t) :: l, n => match tget T t with
    | some ti => if o = n ∧ ti.cells ≠ 0 then offsC T l (n + ti.cells) else none
    | none => none
def sameZ (e : TypeId) : V → Bool
  | .slc true e' _ [] => Nat.beq e e'
  | _ => false
def chkTI (T : Tab) (ti : TI) : Bool := match ti.k with
  | .agg fs => decide (offsC T fs 0 = some ti.cells)
  | .slc e => decide (ti.cells = 1) && (sameZ e ti.zero && (match tget T e with
    | some te => decide (te.cells ≠ 0)
    | none => false))
  | _ => decide (ti.cells = 1)
/-- the ghost default of a slice type's zero value is its element type's zero value -/
def dZ : V → V
  | .slc _ _ d _ => d
  | x => x
def wantD (T : Tab) (ti : TI) : Option V := match ti.k with
  | .slc e => match tget T e with
    | some te => some te.zero
    | none => none
  | _ => some ti.zero
def gotD (ti : TI) : Option V := match ti.k with
  | .slc _ => some (dZ ti.zero)
  | _ => some ti.zero

structure TabOk (P : Program) (T : Tab) : Prop where
  eq : (T.map fun x => gotT P x.1) = T.map fun x => wantT x.2
  chk : (T.all fun x => chkTI T x.2) = true
  dz : (T.map fun x => gotD x.2) = T.map fun x => wantD T x.2

section
variable {P : Program} {T : Tab}

theorem tget_mem {T : Tab} {t : Nat} {ti : TI} (h : tget T t = some ti) : (t, ti) ∈ T := by
  induction T with
  | nil => simp [tget] at h
  | cons x l ih =>
    obtain ⟨k, ti'⟩ := x
    simp only [tget] at h
    split at h
    · rename_i hk
      simp only [Option.some.injEq] at h
      rw [Nat.eq_of_beq_eq_true hk, h]
      simp
    · exact List.mem_cons_of_mem _ (ih h)

theorem map_eq_mem {α β : Type} {f g : α → β} : ∀ {l : List α}, l.map f = l.map g → ∀ x ∈ l, f x = g x
  | [], _, x, hx => by simp at hx
  | y :: l, h, x, hx => by
    simp only [List.map_cons, List.cons.injEq] at h
    rcases List.mem_cons.1 hx with rfl | hx
    · exact h.1
    · exact map_eq_mem h.2 x hx

theorem TabOk.got (h : TabOk P T) {t : Nat} {ti : TI} (ht : tget T t = some ti) : gotT P t = wantT ti := map_eq_mem h.eq _ (tget_mem ht)
theorem TabOk.c (h : TabOk P T) {t : Nat} {ti : TI} (ht : tget T t = some ti) : chkTI T ti = true := by
  have := List.all_eq_true.1 h.chk _ (tget_mem ht)
  exact this
theorem TabOk.zero (h : TabOk P T) {t : Nat} {ti : TI} (ht : tget T t = some ti) : zeroOf P t = some ti.zero := congrArg Got.zero (h.got ht)
theorem TabOk.agg (h : TabOk P T) {t : Nat} {ti : TI} (ht : tget T t = some ti) : aggT P t = some (kAgg ti.k) := congrArg Got.agg (h.got ht)
theorem TabOk.cells (h : TabOk P T) {t : Nat} {ti : TI} (ht : tget T t = some ti) : P.cellsOf t = ti.cells := congrArg Got.cells (h.got ht)
theorem TabOk.small (h : TabOk P T) {t : Nat} {ti : TI} (ht : tget T t = some ti) : P.bytesOf t ≤ 65536 := by
  have := congrArg Got.small (h.got ht)
  simpa [gotT, wantT] using this

theorem TabOk.elem (h : TabOk P T) {t e : Nat} (ht : elemT T t = some e) : elemOf P t = some e := by
  unfold elemT at ht
  split at ht
  · rename_i hh
    simp only [Option.some.injEq] at ht
    subst ht
    exact congrArg Got.elem (h.got hh)
  · cases ht
theorem TabOk.str (h : TabOk P T) {t : Nat} (ht : isStrT T t = true) : isStr P t = true := by
  unfold isStrT at ht
  split at ht
  · rename_i hh; exact congrArg Got.str (h.got hh)
  · cases ht
theorem TabOk.bool (h : TabOk P T) {t : Nat} (ht : isBoolT T t = true) : boolT P t = true := by
  unfold isBoolT at ht
  split at ht
  · rename_i hh; exact congrArg Got.bool (h.got hh)
  · cases ht
theorem TabOk.kind (h : TabOk P T) {t : Nat} {k : IntKind} (ht : kindT T t = some k) : intT P t = some k := by
  unfold kindT at ht
  split at ht
  · rename_i hh
    simp only [Option.some.injEq] at ht
    subst ht
    exact congrArg Got.int (h.got hh)
  · cases ht
theorem TabOk.fields (h : TabOk P T) {t : Nat} {fs : List (Nat × TypeId)} (ht : fieldsT T t = some fs) : fieldsOf P t = some fs := by
  unfold fieldsT at ht
  split at ht
  · rename_i hh
    simp only [Option.some.injEq] at ht
    subst ht
    exact congrArg Got.fields (h.got hh)
  · cases ht

theorem nthF_get (fs : List (Nat × TypeId)) (i : Nat) : nthF fs i = fs[i]? := by
  induction fs generalizing i with
  | nil => simp [nthF]
  | cons x l ih => cases i with
    | zero => simp [nthF]
    | succ i => simp [nthF, ih]
theorem nthV_get (fs : List V) (i : Nat) : nthV fs i = fs[i]? := by
  induction fs generalizing i with
  | nil => simp [nthV]
  | cons x l ih => cases i with
    | zero => simp [nthV]
    | succ i => simp [nthV, ih]
theorem nthO_get (fs : List Oper) (i : Nat) : nthO fs i = fs[i]? := by
  induction fs generalizing i with
  | nil => simp [nthO]
  | cons x l ih => cases i with
    | zero => simp [nthO]
    | succ i => simp [nthO, ih]

theorem fieldT_of {t f : Nat} {fs : List (Nat × TypeId)} (h : fieldsOf P t = some fs) : fieldT P t f = nthF fs f := by
  unfold fieldsOf at h
  unfold fieldT
  split at h
  · rename_i x hx
    simp only [Option.some.injEq] at h
    subst h
    rw [hx, nthF_get]
    simp
  · cases h

/-! ### well-made values of a type -/

mutual
theorem vw_size (h : TabOk P T) (o : Bool) : ∀ (n : Nat) (t : TypeId) (y z : V), vw stdV T o n t y = some z → z.size = tcells T t ∧ (∃ ti, tget T t = some ti) ∧ fits P t z = true ∧ (∀ fs, fieldsT T t = some fs → ∃ zs, z = .agg zs) ∧ (o = false → z.owned = false) ∧ z.isHole = false ∧ (∀ fs, z ≠ .tup fs)
  | 0, _, _, _, hv => by simp [vw] at hv
  | n + 1, t, y, z, hv => by
    simp only [vw] at hv
    have one : ∀ {ti : TI}, tget T t = some ti → kAgg ti.k = false → z.size = 1 → (∀ fs, z ≠ .agg fs) → (∀ fs, z ≠ .tup fs) → (∀ n, z ≠ .hole n) → ti.cells = 1 → (o = false → z.owned = false) → (∀ fs, ti.k ≠ .agg fs) →
        z.size = tcells T t ∧ (∃ ti, tget T t = some ti) ∧ fits P t z = true ∧ (∀ fs, fieldsT T t = some fs → ∃ zs, z = .agg zs) ∧ (o = false → z.owned = false) ∧ z.isHole = false ∧ (∀ fs, z ≠ .tup fs) := by
      intro ti ht hk hs h1 h2 h3 hc ho hna
      refine ⟨by simp [tcells, ht, hs, hc], ⟨ti, ht⟩, ?_, fun fs hf => ?_, ho, ?_, h2⟩
      · unfold fits
        rw [h.agg ht, hk, h.cells ht, hc, hs]
        cases z <;> simp_all
      · unfold fieldsT at hf
        rw [ht] at hf
        split at hf
        · rename_i e; simp only [Option.some.injEq] at e; subst e; exact absurd rfl (hna _)
        · cases hf
      · cases z <;> simp_all [V.isHole]
    split at hv
    · rename_i k c zz ht
      simp only [Option.some.injEq] at hv; subst hv
      have := h.c ht
      exact one ht rfl rfl (by simp) (by simp) (by simp) (by simpa [chkTI] using this) (fun _ => rfl) (by simp)
    · rename_i c zz ht
      simp only [Option.some.injEq] at hv; subst hv
      have := h.c ht
      exact one ht rfl rfl (by simp) (by simp) (by simp) (by simpa [chkTI] using this) (fun _ => rfl) (by simp)
    · rename_i c zz ht
      simp only [Option.some.injEq] at hv; subst hv
      have := h.c ht
      exact one ht rfl rfl (by simp) (by simp) (by simp) (by simpa [chkTI] using this) (fun _ => rfl) (by simp)
    · rename_i e c _ _ d _ ht
      simp only [Option.some.injEq] at hv; subst hv
      have := h.c ht
      simp only [chkTI, Bool.and_eq_true, decide_eq_true_eq] at this
      exact one ht rfl rfl (by simp) (by simp) (by simp) this.1 (fun h => by simp [V.owned, h]) (by simp)
    · rename_i fs c zz ht
      split at hv
      · rename_i ys hys
        simp only [Option.some.injEq] at hv; subst hv
        have hc := h.c ht
        simp only [chkTI, decide_eq_true_eq] at hc
        obtain ⟨e1, e2, _⟩ := vws_size h o n fs 0 y ys hys
        have hsz := e1 0 c hc
        refine ⟨by simp only [V.size, tcells, ht]; omega, ⟨_, ht⟩, ?_, fun fs' _ => ⟨ys, rfl⟩, fun ho => by simp only [V.owned]; exact e2 ho, rfl, by simp⟩
        unfold fits
        rw [h.agg ht, h.cells ht]
        simp only [kAgg, Bool.true_and, V.size]
        simp; omega
      · cases hv
    · cases hv
theorem vws_size (h : TabOk P T) (o : Bool) : ∀ (n : Nat) (fs : List (Nat × TypeId)) (i : Nat) (y : V) (ys : List V), vws stdV T o n fs i y = some ys →
    (∀ k m, offsC T fs k = some m → k + V.sizes ys = m) ∧ (o = false → V.owneds ys = false) ∧ ys.length = fs.length
  | _, [], _, _, ys, hv => by
    simp only [vws, Option.some.injEq] at hv
    subst hv
    exact ⟨fun k m h => by simpa [offsC, V.sizes] using h, fun _ => rfl, rfl⟩
  | 0, _ :: _, _, _, _, hv => by simp [vws] at hv
  | n + 1, (o', t) :: fs, i, y, ys, hv => by
    simp only [vws] at hv
    split at hv
    · rename_i v hv1
      split at hv
      · rename_i vs hv2
        simp only [Option.some.injEq] at hv
        subst hv
        obtain ⟨e1, ⟨ti, e2⟩, _, _, e3, _⟩ := vw_size h o n t _ v hv1
        obtain ⟨f1, f2, f3⟩ := vws_size h o n fs (i + 1) y vs hv2
        refine ⟨fun k m hm => ?_, fun ho => by simp [V.owneds, e3 ho, f2 ho], by simp [f3]⟩
        simp only [offsC, e2] at hm
        split at hm
        · have := f1 _ _ hm
          simp only [V.sizes, e1, tcells, e2]
          omega
        · cases hm
      · cases hv
    · cases hv
end
end
end Go.Ax
