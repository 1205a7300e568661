/-
  AX, part ZF: the row. An argument that is open to reading is a typed value in memory that nobody writes; a law function whose contract holds at all typed values fulfils its row.
-/
import Derived.Test.YtlibillidihopaaAxZE
import Derived.ProofKit
namespace Go.Ax
open Go.ChangeShapes Go.WideShapes Go.RowKit

/-- a value of a type, as an argument is read -/
inductive Wt (T : Tab) : TypeId → V → Prop
  | int (t : TypeId) (ti : TI) (k : IntKind) (n : Int) (h : tget T t = some ti) (hk : ti.k = .int k) (hn : (Lit.int k n).wf = true) : Wt T t (.int k n)
  | bool (t : TypeId) (ti : TI) (b : Bool) (h : tget T t = some ti) (hk : ti.k = .bool) : Wt T t (.bool b)
  | str (t : TypeId) (ti : TI) (s : ByteArray) (h : tget T t = some ti) (hk : ti.k = .str) (hs : s.size ≤ maxLen) : Wt T t (.str s)
  | slc (t : TypeId) (ti : TI) (e : TypeId) (es : List V) (h : tget T t = some ti) (hk : ti.k = .slc e) (hl : es.length ≤ maxLen) (he : ∀ (i : Nat) (y : V), es[i]? = some y → Wt T e y) : Wt T t (.slc false e (dZ ti.zero).frz es)
  | agg (t : TypeId) (ti : TI) (fts : List (Nat × TypeId)) (fs : List V) (h : tget T t = some ti) (hk : ti.k = .agg fts) (hl : fs.length = fts.length)
      (he : ∀ (i : Nat) (o : Nat) (ft : TypeId) (y : V), fts[i]? = some (o, ft) → fs[i]? = some y → Wt T ft y) : Wt T t (.agg fs)

section
variable {P : Program} {T : Tab}

theorem offs_wt : ∀ (fts : List (Nat × TypeId)) (n m : Nat) (fs : List V), offsC T fts n = some m → fs.length = fts.length →
    (∀ (i : Nat) (o : Nat) (ft : TypeId) (y : V), fts[i]? = some (o, ft) → fs[i]? = some y → y.size = tcells T ft) →
    n + V.sizes fs = m ∧ ∀ (i : Nat) (o : Nat) (ft : TypeId), fts[i]? = some (o, ft) → o = n + V.offs fs i
  | [], n, m, fs, h, hl, _ => by
    simp only [offsC, Option.some.injEq] at h
    subst h
    have : fs = [] := List.eq_nil_of_length_eq_zero hl
    subst this
    exact ⟨by simp [V.sizes], fun i o ft h => by simp at h⟩
  | (o, t) :: fts, n, m, [], h, hl, _ => by simp at hl
  | (o, t) :: fts, n, m, y :: fs, h, hl, hs => by
    simp only [offsC] at h
    split at h
    · rename_i ti hti
      split at h
      · rename_i hc
        obtain ⟨ho, _⟩ := hc
        subst ho
        have hy : y.size = ti.cells := by
          have := hs 0 o t y rfl rfl
          simp only [tcells, hti] at this
          exact this
        obtain ⟨h1, h2⟩ := offs_wt fts (o + ti.cells) m fs h (by simpa using hl) (fun i o ft y a b => hs (i + 1) o ft y (by simpa using a) (by simpa using b))
        refine ⟨by simp only [V.sizes]; omega, fun i o' ft hi => ?_⟩
        cases i with
        | zero =>
          simp only [List.getElem?_cons_zero, Option.some.injEq, Prod.mk.injEq] at hi
          obtain ⟨rfl, rfl⟩ := hi
          simp [V.offs, V.sizes]
        | succ i =>
          have := h2 i o' ft (by simpa using hi)
          simp only [V.offs, List.take_succ_cons, V.sizes] at this ⊢
          omega
      · cases h
    · cases h

theorem kind_of {T : Tab} {t : TypeId} {ti : TI} {k : IntKind} (h : tget T t = some ti) (hk : ti.k = .int k) : kindT T t = some k := by
  obtain ⟨tk, tc, tz⟩ := ti
  simp only at hk
  subst hk
  simp [kindT, h]
theorem bool_of {T : Tab} {t : TypeId} {ti : TI} (h : tget T t = some ti) (hk : ti.k = .bool) : isBoolT T t = true := by
  obtain ⟨tk, tc, tz⟩ := ti
  simp only at hk
  subst hk
  simp [isBoolT, h]
theorem str_of {T : Tab} {t : TypeId} {ti : TI} (h : tget T t = some ti) (hk : ti.k = .str) : isStrT T t = true := by
  obtain ⟨tk, tc, tz⟩ := ti
  simp only at hk
  subst hk
  simp [isStrT, h]
theorem elem_of {T : Tab} {t e : TypeId} {ti : TI} (h : tget T t = some ti) (hk : ti.k = .slc e) : elemT T t = some e := by
  obtain ⟨tk, tc, tz⟩ := ti
  simp only at hk
  subst hk
  simp [elemT, h]
theorem fields_of {T : Tab} {t : TypeId} {ti : TI} {fs : List (Nat × TypeId)} (h : tget T t = some ti) (hk : ti.k = .agg fs) : fieldsT T t = some fs := by
  obtain ⟨tk, tc, tz⟩ := ti
  simp only at hk
  subst hk
  simp [fieldsT, h]

theorem Wt.size (hT : TabOk P T) {t : TypeId} {x : V} (h : Wt T t x) : x.size = tcells T t ∧ x.owned = false := by
  induction h with
  | int t ti k n h hk hn =>
    have hc := hT.c h
    simp only [chkTI, hk, decide_eq_true_eq] at hc
    exact ⟨by simp [V.size, tcells, h, hc], rfl⟩
  | bool t ti b h hk =>
    have hc := hT.c h
    simp only [chkTI, hk, decide_eq_true_eq] at hc
    exact ⟨by simp [V.size, tcells, h, hc], rfl⟩
  | str t ti s h hk hs =>
    have hc := hT.c h
    simp only [chkTI, hk, decide_eq_true_eq] at hc
    exact ⟨by simp [V.size, tcells, h, hc], rfl⟩
  | slc t ti e es h hk hl he ih =>
    have hc := hT.c h
    simp only [chkTI, hk, Bool.and_eq_true, decide_eq_true_eq] at hc
    exact ⟨by simp [V.size, tcells, h, hc.1], rfl⟩
  | agg t ti fts fs h hk hl he ih =>
    have hc := hT.c h
    simp only [chkTI, hk, decide_eq_true_eq] at hc
    obtain ⟨h1, _⟩ := offs_wt fts 0 ti.cells fs hc hl (fun i o ft y a b => (ih i o ft y a b).1)
    refine ⟨by simp only [V.size, tcells, h]; omega, ?_⟩
    simp only [V.owned, V.owneds_eq, List.any_eq_false]
    intro y hy
    obtain ⟨i, hi⟩ := List.getElem?_of_mem hy
    have hil : i < fts.length := by
      have := (List.getElem?_eq_some_iff.1 hi).1
      omega
    rw [(ih i (fts[i]'hil).1 (fts[i]'hil).2 y (List.getElem?_eq_getElem hil) hi).2]
    simp

section
variable {H : Type} {enc : TypeId × Value → H} {w : World} {base : Nat} {spare : Nat → Bool} {held : Bool}

theorem cells_of {w : World} {base : Nat} {a : Addr} {n : Nat} {cs : List Value} (h : w.cells? base a n = some cs) (hs : a.spot = none) : cs.length = n ∧ Cells w a.block a.off cs := by
  obtain ⟨_, h1, h2⟩ := World.cells?_some h
  refine ⟨h1, fun j v hj => ?_⟩
  have hjn : j < n := by
    have := (List.getElem?_eq_some_iff.1 hj).1
    omega
  rw [← hj, ← h2 j hjn]
  congr 1
  unfold Addr.add
  split
  · rename_i h0; subst h0; cases a; simp_all
  · rfl

/-- what is read is a typed value in memory -/
theorem trod_wt (hT : TabOk P T) : ∀ (fuel : Nat) (t : TypeId) (ti : TI) (cs : List Value) (x : DataW H × List MemPlace), tget T t = some ti → ti.k ≠ .oth →
    (∀ t ti, tget T t = some ti → ti.k ≠ .oth) →
    DataW.trod enc P w base spare held fuel t cs = some x → ∃ y, Wt T t y ∧ Rep P.cellsOf w (fun b => b < w.heap.size) y cs (fun _ => False) := by
  intro fuel
  induction fuel with
  | zero => intro t ti cs x _ _ _ h; simp [DataW.trod] at h
  | succ fuel ih =>
    intro t ti cs x ht hk hno h
    have hg := hT.got ht
    cases hkk : ti.k with
    | int k =>
      have hu : P.underlying t = some (.int k) := by
        have : intT P t = some k := hT.kind (kind_of ht hkk)
        unfold intT at this
        split at this
        · rename_i heq; simp only [Option.some.injEq] at this; rw [heq, this]
        · cases this
      obtain ⟨n, rfl, _, hw⟩ := DataW.trod_int hu h
      exact ⟨.int k n, .int t ti k n ht hkk hw, .int k n _⟩
    | bool =>
      have hu : P.underlying t = some .bool := by
        have : boolT P t = true := hT.bool (bool_of ht hkk)
        unfold boolT at this
        split at this
        · rename_i heq; exact heq
        · cases this
      obtain ⟨b, rfl, _⟩ := DataW.trod_bool hu h
      exact ⟨.bool b, .bool t ti b ht hkk, .bool b _⟩
    | str =>
      have hu : P.underlying t = some .string := by
        have : isStr P t = true := hT.str (str_of ht hkk)
        unfold isStr at this
        split at this
        · rename_i heq; exact heq
        · cases this
      obtain ⟨s, rfl, _, hs⟩ := DataW.trod_string hu h
      exact ⟨.str s, .str t ti s ht hkk hs, .str s _⟩
    | slc e =>
      have hu : P.underlying t = some (.slice e) := by
        have : elemOf P t = some e := hT.elem (elem_of ht hkk)
        unfold elemOf at this
        split at this
        · rename_i heq; simp only [Option.some.injEq] at this; rw [heq, this]
        · cases this
      have hc := hT.c ht
      simp only [chkTI, hkk, Bool.and_eq_true, decide_eq_true_eq] at hc
      rcases DataW.trod_slice hu h with ⟨rfl, _⟩ | ⟨a, len, cap, elems, rest, n, hn, rfl, _, hb, hl, hm, hlen, hel, hsA, hsB⟩
      · exact ⟨.slc false e (dZ ti.zero).frz [], .slc t ti e [] ht hkk (Nat.zero_le _) (fun i y h => by simp at h), .fz0 e _ _ _ _⟩
      · obtain rfl : n = fuel := by omega
        cases hte : tget T e with
        | none => rw [hte] at hc; simp at hc
        | some te =>
          rw [hte] at hc
          simp only [decide_eq_true_eq] at hc
          have hce : P.cellsOf e = te.cells := hT.cells hte
          by_cases h0 : len = 0
          · subst h0
            exact ⟨.slc false e (dZ ti.zero).frz [], .slc t ti e [] ht hkk (Nat.zero_le _) (fun i y h => by simp at h), .fz0 e _ _ _ _⟩
          · have hspot : a.spot = none ∧ a.block < w.heap.size := by
              have h1 := hel 0 (by omega)
              obtain ⟨y0, hy0⟩ : ∃ y, elems[0]? = some y := ⟨_, List.getElem?_eq_getElem (by omega)⟩
              rw [hy0, Option.bind_eq_some_iff] at h1
              obtain ⟨cs', hcs, _⟩ := h1
              obtain ⟨_, h2, h3⟩ := World.cells?_some hcs
              have h4 := h3 0 (by omega)
              rw [Nat.zero_mul] at h4
              have hp : 0 < cs'.length := by omega
              rw [List.getElem?_eq_getElem hp] at h4
              have hadd : (a.add 0).add 0 = a := by simp [Addr.add]
              rw [hadd] at h4
              unfold World.cell? at h4
              split at h4
              · rename_i heq
                refine ⟨?_, (Array.getElem?_eq_some_iff.1 heq).1⟩
                cases hsp : a.spot with
                | none => rfl
                | some s => simp [hsp] at h4
              · cases h4
            have each : ∀ i, i < len → ∃ y cs', Wt T e y ∧ Rep P.cellsOf w (fun b => b < w.heap.size) y cs' (fun _ => False) ∧ cs'.length = P.cellsOf e ∧ Cells w a.block (a.off + i * P.cellsOf e) cs' := by
              intro i hi
              have h1 := hel i hi
              obtain ⟨y0, hy0⟩ : ∃ y, elems[i]? = some y := ⟨_, List.getElem?_eq_getElem (by omega)⟩
              rw [hy0, Option.bind_eq_some_iff] at h1
              obtain ⟨cs', hcs, htr⟩ := h1
              obtain ⟨y, hy1, hy2⟩ := ih e te cs' y0 hte (hno e te hte) hno htr
              have hadd : (a.add (i * P.cellsOf e)).spot = none ∧ (a.add (i * P.cellsOf e)).block = a.block ∧ (a.add (i * P.cellsOf e)).off = a.off + i * P.cellsOf e := by
                unfold Addr.add
                split
                · rename_i h0; exact ⟨hspot.1, rfl, by omega⟩
                · exact ⟨rfl, rfl, rfl⟩
              obtain ⟨c1, c2⟩ := cells_of hcs hadd.1
              rw [hadd.2.1, hadd.2.2] at c2
              exact ⟨y, cs', hy1, hy2, c1, c2⟩
            have : ∃ (es : List V) (cf : Nat → List Value), es.length = len ∧ ∀ i y, es[i]? = some y → Wt T e y ∧ Rep P.cellsOf w (fun b => b < w.heap.size) y (cf i) (fun _ => False) ∧ (cf i).length = P.cellsOf e ∧ Cells w a.block (a.off + i * P.cellsOf e) (cf i) := by
              clear hel hlen hl hm h0 h hsA hsB
              induction len with
              | zero => exact ⟨[], fun _ => [], rfl, fun i y h => by simp at h⟩
              | succ len ihl =>
                obtain ⟨es, cf, e1, e2⟩ := ihl (fun i hi => each i (by omega))
                obtain ⟨y, cs', q1, q2, q3, q4⟩ := each len (by omega)
                refine ⟨es ++ [y], fun i => if i = len then cs' else cf i, by simp [e1], fun i z hz => ?_⟩
                by_cases hi : i < es.length
                · rw [List.getElem?_append_left hi] at hz
                  simp only [if_neg (show ¬ i = len by omega)]
                  exact e2 i z hz
                · rw [List.getElem?_append_right (by omega)] at hz
                  have hil := (List.getElem?_eq_some_iff.1 hz).1
                  simp only [List.length_cons, List.length_nil] at hil
                  obtain rfl : i = len := by omega
                  have : i - es.length = 0 := by omega
                  rw [this] at hz
                  simp only [List.getElem?_cons_zero, Option.some.injEq] at hz
                  subst hz
                  simp only [if_true]
                  exact ⟨q1, q2, q3, q4⟩
            obtain ⟨es, cf, e1, e2⟩ := this
            have ha : (some a) = some ⟨a.block, a.off, none⟩ := by rw [← hspot.1]
            rw [ha]
            exact ⟨.slc false e (dZ ti.zero).frz es, .slc t ti e es ht hkk (by omega) (fun i y hi => (e2 i y hi).1),
              .fz e _ es a.block a.off len cap cf _ e1.symm (by omega) hm hspot.2 (fun i hi => by
                obtain ⟨y, hy⟩ : ∃ y, es[i]? = some y := ⟨_, List.getElem?_eq_getElem hi⟩
                exact ⟨(e2 i y hy).2.2.1, (e2 i y hy).2.2.2⟩) (fun i y hi => (e2 i y hi).2.1)⟩
    | agg fts =>
      have hf : fieldsOf P t = some fts := hT.fields (fields_of ht hkk)
      have hu : ∃ fs : Array Field, P.underlying t = some (.struct fs) ∧ fts = fs.toList.map fun x => (x.offset, x.type) := by
        unfold fieldsOf at hf
        split at hf
        · rename_i fs heq
          simp only [Option.some.injEq] at hf
          exact ⟨fs, heq, hf.symm⟩
        · cases hf
      obtain ⟨fa, hu, rfl⟩ := hu
      have hc := hT.c ht
      simp only [chkTI, hkk, decide_eq_true_eq] at hc
      obtain ⟨xs, n, hn, _, hcl, hxl, hxs⟩ := DataW.trod_struct hu h
      obtain rfl : n = fuel := by omega
      have hmem : ∀ (i o : Nat) (ft : TypeId), (fa.toList.map fun x => (x.offset, x.type))[i]? = some (o, ft) → ∃ te, tget T ft = some te := by
        intro i o ft hi
        have key : ∀ (l : List (Nat × TypeId)) (n m : Nat), offsC T l n = some m → ∀ (i : Nat) (o : Nat) (ft : TypeId), l[i]? = some (o, ft) → ∃ te, tget T ft = some te := by
          intro l
          induction l with
          | nil => intro n m _ i o ft h; simp at h
          | cons z l ihl =>
            intro n m hh i o ft hz
            obtain ⟨o', t'⟩ := z
            simp only [offsC] at hh
            split at hh
            · rename_i te hte
              split at hh
              · cases i with
                | zero =>
                  simp only [List.getElem?_cons_zero, Option.some.injEq, Prod.mk.injEq] at hz
                  obtain ⟨rfl, rfl⟩ := hz
                  exact ⟨te, hte⟩
                | succ i => exact ihl _ _ hh i o ft (by simpa using hz)
              · cases hh
            · cases hh
        exact key _ _ _ hc i o ft hi
      have each : ∀ (i : Nat) (f : Field), fa[i]? = some f → ∃ y, Wt T f.type y ∧ Rep P.cellsOf w (fun b => b < w.heap.size) y ((cs.drop f.offset).take (P.cellsOf f.type)) (fun _ => False) := by
        intro i f hi
        have h1 := hxs i f hi
        have hil : i < xs.length := by
          have := (Array.getElem?_eq_some_iff.1 hi).1
          omega
        rw [List.getElem?_eq_getElem hil] at h1
        obtain ⟨te, hte⟩ := hmem i f.offset f.type (by rw [List.getElem?_map, Array.getElem?_toList, hi]; rfl)
        exact ih f.type te _ _ hte (hno _ _ hte) hno h1
      have : ∃ ys : List V, ys.length = fa.size ∧ ∀ (i : Nat) (f : Field) (y : V), fa[i]? = some f → ys[i]? = some y → Wt T f.type y ∧ Rep P.cellsOf w (fun b => b < w.heap.size) y ((cs.drop f.offset).take (P.cellsOf f.type)) (fun _ => False) := by
        have key : ∀ m, m ≤ fa.size → ∃ ys : List V, ys.length = m ∧ ∀ (i : Nat) (f : Field) (y : V), fa[i]? = some f → ys[i]? = some y → Wt T f.type y ∧ Rep P.cellsOf w (fun b => b < w.heap.size) y ((cs.drop f.offset).take (P.cellsOf f.type)) (fun _ => False) := by
          intro m
          induction m with
          | zero => intro _; exact ⟨[], rfl, fun i f y _ h => by simp at h⟩
          | succ m ihm =>
            intro hm
            obtain ⟨ys, e1, e2⟩ := ihm (by omega)
            obtain ⟨y, q1, q2⟩ := each m (fa[m]'(by omega)) (Array.getElem?_eq_getElem (by omega))
            refine ⟨ys ++ [y], by simp [e1], fun i f z hf hz => ?_⟩
            by_cases hi : i < ys.length
            · rw [List.getElem?_append_left hi] at hz
              exact e2 i f z hf hz
            · rw [List.getElem?_append_right (by omega)] at hz
              have hil := (List.getElem?_eq_some_iff.1 hz).1
              simp only [List.length_cons, List.length_nil] at hil
              obtain rfl : i = m := by omega
              have : i - ys.length = 0 := by omega
              rw [this] at hz
              simp only [List.getElem?_cons_zero, Option.some.injEq] at hz
              subst hz
              rw [Array.getElem?_eq_getElem (by omega)] at hf
              simp only [Option.some.injEq] at hf
              subst hf
              exact ⟨q1, q2⟩
        exact key fa.size (Nat.le_refl _)
      obtain ⟨ys, e1, e2⟩ := this
      have hw : ∀ (i : Nat) (o : Nat) (ft : TypeId) (y : V), (fa.toList.map fun x => (x.offset, x.type))[i]? = some (o, ft) → ys[i]? = some y → Wt T ft y := by
        intro i o ft y hi hy
        rw [List.getElem?_map, Array.getElem?_toList] at hi
        cases hfi : fa[i]? with
        | none => rw [hfi] at hi; cases hi
        | some f =>
          rw [hfi] at hi
          simp only [Option.map_some, Option.some.injEq, Prod.mk.injEq] at hi
          obtain ⟨rfl, rfl⟩ := hi
          exact (e2 i f y hfi hy).1
      have hwt : Wt T t (.agg ys) := .agg t ti _ ys ht hkk (by simp [e1]) hw
      obtain ⟨o1, o2⟩ := offs_wt _ 0 ti.cells ys hc (by simp [e1]) (fun i o ft y a b => ((hw i o ft y a b).size hT).1)
      refine ⟨.agg ys, hwt, .agg ys cs (fun _ _ => False) _ ?_ (fun _ _ h => h) (fun _ _ _ _ h => h.elim) (fun i y hy => ?_)⟩
      · rw [hcl, hT.cells ht]
        omega
      · have hif : i < fa.size := by
          have := (List.getElem?_eq_some_iff.1 hy).1
          omega
        obtain ⟨w1, w2⟩ := e2 i fa[i] y (Array.getElem?_eq_getElem hif) hy
        have hoff := o2 i fa[i].offset fa[i].type (by rw [List.getElem?_map, Array.getElem?_toList, Array.getElem?_eq_getElem hif]; rfl)
        rw [Nat.zero_add] at hoff
        have hsz : y.size = P.cellsOf fa[i].type := by
          rw [(w1.size hT).1]
          obtain ⟨te, hte⟩ := hmem i fa[i].offset fa[i].type (by rw [List.getElem?_map, Array.getElem?_toList, Array.getElem?_eq_getElem hif]; rfl)
          rw [hT.cells hte]
          simp [tcells, hte]
        rw [← hoff, hsz]
        exact w2
    | oth => exact absurd hkk hk
/-- the cells that a register's value has -/
theorem reg_of {t : TypeId} {ti : TI} {r : Reach} {b0 : Nat} {v : Value} {y : V} (hT : TabOk P T) (ht : tget T t = some ti) (hv : Value.okWide P w r b0 t v) (hy : Wt T t y) : y.reg v.cells.toList v := by
  have hnagg : kAgg ti.k = false → v.cells.toList = [v] := by
    intro hk
    have hag := hT.agg ht
    rw [hk] at hag
    have hcell : ∀ w' r' b', Cell.okWide P w' r' b' t v → v.cells.toList = [v] := by
      intro w' r' b' hc
      unfold Cell.okWide at hc
      split at hc <;> first | rfl | skip
      unfold Cell.ok at hc
      split at hc <;> first | rfl | exact hc.elim
    unfold Value.okWide at hv
    unfold aggT at hag
    split at hv
    · rename_i heq; rw [heq] at hag; simp at hag
    · rename_i heq; rw [heq] at hag; simp at hag
    · exact hcell _ _ _ hv
  cases hy with
  | int _ ti' k n h hk hn => rw [ht] at h; cases h; rw [hnagg (by rw [hk]; rfl)]; rfl
  | bool _ ti' b h hk => rw [ht] at h; cases h; rw [hnagg (by rw [hk]; rfl)]; rfl
  | str _ ti' s' h hk hs => rw [ht] at h; cases h; rw [hnagg (by rw [hk]; rfl)]; rfl
  | slc _ ti' e es h hk hl he => rw [ht] at h; cases h; rw [hnagg (by rw [hk]; rfl)]; rfl
  | agg _ ti' fts fs h hk hl he =>
    rw [ht] at h; cases h
    have hag := hT.agg ht
    rw [hk] at hag
    unfold aggT at hag
    unfold Value.okWide at hv
    split at hv
    · obtain ⟨cs, rfl, _⟩ := hv; simp [V.reg, Value.cells]
    · obtain ⟨cs, rfl, _⟩ := hv; simp [V.reg, Value.cells]
    · rename_i h1 h2
      split at hag
      · rename_i heq; exact (h1 _ heq).elim
      · rename_i heq; exact (h2 _ _ heq).elim
      · simp [kAgg] at hag
      · cases hag
end
end

section
variable {H : Type} {enc : TypeId × Value → H} {P : Program} {T : Tab}

theorem trodAll_length : ∀ {ts : List TypeId} {vs : List Value} {ds : List (DataW H)} {ps : List MemPlace} {w : World} {b : Nat} {sp : Nat → Bool} {hd : Bool}, DataW.TrodAll enc P w b sp hd ts vs ds ps → vs.length = ts.length ∧ ds.length = ts.length
  | [], [], [], _, _, _, _, _, _ => ⟨rfl, rfl⟩
  | _ :: ts, _ :: vs, _ :: ds, _, _, _, _, _, h => by
    obtain ⟨p, q, _, h2, _⟩ := h
    obtain ⟨a, b⟩ := trodAll_length h2
    exact ⟨by simp [a], by simp [b]⟩
  | [], _ :: _, _, _, _, _, _, _, h => h.elim
  | [], [], _ :: _, _, _, _, _, _, h => h.elim
  | _ :: _, [], _, _, _, _, _, _, h => h.elim
  | _ :: _, _ :: _, [], _, _, _, _, _, h => h.elim

theorem trodAll_open (hT : TabOk P T) (hno : ∀ t ti, tget T t = some ti → ti.k ≠ .oth) {W : World} {r : Reach} {b0 : Nat} : ∀ {ts : List TypeId} {vs : List Value} {ds : List (DataW H)} {ps : List MemPlace} {b : Nat} {sp : Nat → Bool} {hd : Bool},
    DataW.TrodAll enc P W b sp hd ts vs ds ps → (∀ t ∈ ts, (tget T t).isSome = true) → (∀ (j : Nat) (t : TypeId) (v : Value), ts[j]? = some t → vs[j]? = some v → Value.okWide P W r b0 t v) →
    ∃ xs : List V, xs.length = ts.length ∧ (∀ (j : Nat) (t : TypeId) (x : V), ts[j]? = some t → xs[j]? = some x → Wt T t x) ∧
      ∀ (j : Nat) (x : V) (v : Value), xs[j]? = some x → vs[j]? = some v → x.reg v.cells.toList v ∧ Rep P.cellsOf W (fun b => b < W.heap.size) x v.cells.toList (fun _ => False)
  | [], [], [], _, _, _, _, _, _, _ => ⟨[], rfl, fun j t x h => by simp at h, fun j x v h => by simp at h⟩
  | t :: ts, v :: vs, d :: ds, _, _, _, _, h, ht, hv => by
    obtain ⟨p, q, ⟨fuel, h1⟩, h2, _⟩ := h
    obtain ⟨xs, e1, e2, e3⟩ := trodAll_open hT hno h2 (fun t ht' => ht t (List.mem_cons_of_mem _ ht')) (fun j t v a b => hv (j + 1) t v (by simpa using a) (by simpa using b))
    obtain ⟨ti, hti⟩ := Option.isSome_iff_exists.1 (ht t (by simp))
    obtain ⟨y, y1, y2⟩ := trod_wt hT fuel t ti _ _ hti (hno _ _ hti) hno h1
    refine ⟨y :: xs, by simp [e1], fun j t' x a b => ?_, fun j x v' a b => ?_⟩
    · cases j with
      | zero =>
        simp only [List.getElem?_cons_zero, Option.some.injEq] at a b
        subst a; subst b
        exact y1
      | succ j => exact e2 j t' x (by simpa using a) (by simpa using b)
    · cases j with
      | zero =>
        simp only [List.getElem?_cons_zero, Option.some.injEq] at a b
        subst a; subst b
        exact ⟨reg_of hT hti (hv 0 t v rfl rfl) y1, y2⟩
      | succ j => exact e3 j x v' (by simpa using a) (by simpa using b)
  | [], _ :: _, _, _, _, _, _, h, _, _ => h.elim
  | [], [], _ :: _, _, _, _, _, h, _, _ => h.elim
  | _ :: _, [], _, _, _, _, _, h, _, _ => h.elim
  | _ :: _, _ :: _, [], _, _, _, _, h, _, _ => h.elim

/-- the arguments read as before -/
theorem trodAll_below (hl : laidOutB P = true) {W W' : World} (hb : Below W.heap.size W W') : ∀ {ts : List TypeId} {vs : List Value} {ds : List (DataW H)} {ps : List MemPlace},
    (∀ t ∈ ts, P.readableRec t = true ∧ t < P.types.size) → DataW.TrodAll enc P W 0 (fun _ => true) true ts vs ds ps → (∀ x ∈ ps, x.block < W.heap.size) →
    DataW.TrodAll enc P W' 0 (fun b => decide (b < W.heap.size)) true ts vs ds ps
  | [], [], [], _, _, h, _ => h
  | t :: ts, v :: vs, d :: ds, _, ht, h, hlt => by
    obtain ⟨p, q, h1, h2, rfl⟩ := h
    exact ⟨p, q, Below.trod hl (ht t (by simp)).1 (ht t (by simp)).2 h1 hb (fun x hx => hlt x (List.mem_append_left _ hx)),
      trodAll_below hl hb (fun t ht' => ht t (List.mem_cons_of_mem _ ht')) h2 (fun x hx => hlt x (List.mem_append_right _ hx)), rfl⟩
  | [], _ :: _, _, _, _, h, _ => h.elim
  | [], [], _ :: _, _, _, h, _ => h.elim
  | _ :: _, [], _, _, _, h, _ => h.elim
  | _ :: _, _ :: _, [], _, _, h, _ => h.elim

/-- A LAW FUNCTION WHOSE CONTRACT HOLDS AT ALL TYPED VALUES FULFILS ITS ROW -/
theorem law_calls {f : Func} {k : FuncId} {s : ChangeSpec} (hl : laidOutB P = true) (hT : TabOk P T) (hno : ∀ t ti, tget T t = some ti → ti.k ≠ .oth)
    (hps : ∀ t ∈ f.params.toList, (tget T t).isSome = true ∧ P.readableRec t = true ∧ t < P.types.size) (tb : TypeId) (hres : f.resultTypes = #[tb]) (htb : P.underlying tb = some .bool)
    (hvars : s.vars = []) (hfn : ∀ ds : List (DataW H), ds.length = f.params.size → s.fn H ds = { results := [.lit (.bool true)], args := ds })
    (hok : ∀ xs : List V, xs.length = f.params.size → (∀ (j : Nat) (t : TypeId) (x : V), f.params[j]? = some t → xs[j]? = some x → Wt T t x) → FnOk P k xs (.bool true))
    {W : World} {base : Nat} {args : Array Value} {ds gs : List (DataW H)} {before : List MemPlace}
    (hval : ∀ (j : Nat) (t : TypeId) (v : Value), f.params[j]? = some t → args[j]? = some v → Value.okWide P W .any base t v)
    (hW : DataW.Whole enc P f.params.toList s.vars false W args.toList ds gs before) :
    Calls P k args W (fun e W' => ∃ v, e = .returned v ∧ s.post enc P f false true false false W args v W') := by
  have hW' := hW
  obtain ⟨p, q, hA, hV, rfl, hfz, hnd⟩ := hW
  rw [hvars] at hV
  obtain ⟨rfl, rfl⟩ := trodVars_none hV
  obtain ⟨xs, x1, x2, x3⟩ := trodAll_open hT hno hA (fun t ht => (hps t ht).1) (fun j t v a b => hval j t v (by simpa using a) (by simpa using b))
  have hlen := trodAll_length hA
  have hsz : args.size = xs.length := by
    have := hlen.1
    simp only [Array.length_toList] at this
    rw [x1, this, Array.length_toList]
  have hok' := hok xs (by rw [x1, Array.length_toList]) (fun j t x a b => x2 j t x (by simpa using a) b)
  refine (hok'.2 args W (fun b => b < W.heap.size) hsz (fun i x hx => ?_) (fun b h => h)).mono ?_
  · have hi : i < args.size := by
      have := (List.getElem?_eq_some_iff.1 hx).1
      omega
    have hgi : args.toList[i]? = some (args.getD i undef) := by
      rw [Array.getElem?_toList, Array.getElem?_eq_getElem hi, Array.getD_eq_getD_getElem?, Array.getElem?_eq_getElem hi]
      rfl
    exact ⟨_, x3 i x _ hx hgi⟩
  · rintro e W' ⟨v, cs, On, Fr, he, hreg, hrep, _, _, hbelow⟩
    have hv : v = .bool true := by
      cases hrep
      exact hreg
    subst hv
    refine ⟨_, he, ?_⟩
    have hold : ∀ p' ∈ p ++ [], (fun b => decide (b < W.heap.size)) p'.block = true := fun p' hp => by simpa using hW'.lt p' hp
    have hargs : DataW.TrodAll enc P W' 0 (fun b => decide (b < W.heap.size)) true f.params.toList args.toList ds p :=
      trodAll_below hl hbelow (fun t ht => ⟨(hps t ht).2.1, (hps t ht).2.2⟩) hA (fun x hx => hW'.lt x (List.mem_append_left _ hx))
    have hf2 := hfn ds (by rw [hlen.2, Array.length_toList])
    refine ⟨ds, [], p ++ [], [], p, [], hW', ?_, ?_, ?_, World.keptBut_mono (fun p' hp => hp.elim) (hbelow.frame (fun _ => False)), fun h => (Bool.false_ne_true h).elim⟩
    · rw [List.append_nil, hf2, hres]
      exact trodAll_mk1 (shut_bool htb true)
    · rw [List.append_nil, hf2]
      exact hargs
    · rw [List.append_nil, hf2, hvars]
      exact rfl
end
end Go.Ax
