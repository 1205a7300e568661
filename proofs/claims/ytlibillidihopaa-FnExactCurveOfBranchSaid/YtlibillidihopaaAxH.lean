/-
  AX, part H: the operations that only read and compute.
-/
import Derived.Test.YtlibillidihopaaAxG
import Derived.Laws.Strings
import Derived.Laws.Slices
namespace Go.Ax

section
variable {C : Ctx} {F : Nat → Prop} {O : Nat → Nat → Prop} {Z : Nat → Prop} {σ : Env} {a : Act} {w w' : World}

/-- The operation yields, in this world, a value of which A holds. -/
def Yld (C : Ctx) (F : Nat → Prop) (σ : Env) (a : Act) (w : World) (o : Oper) (A : A) : Prop :=
  ∃ v, (execOp a.eval o).run C.P w = .ok (.value v) w ∧ Holds C.cz w F σ a.tmps A v

theorem holds_int {cz : TypeId → Nat} {tmps : Array Value} {k : IntKind} {n : Int} {v : Value} (h : Holds cz w F σ tmps (.val (.int k n)) v) : v = .int k n := by
  obtain ⟨cs, h1, h2⟩ := h; cases h2; exact h1
theorem holds_bool {cz : TypeId → Nat} {tmps : Array Value} {b : Bool} {v : Value} (h : Holds cz w F σ tmps (.val (.bool b)) v) : v = .bool b := by
  obtain ⟨cs, h1, h2⟩ := h; cases h2; exact h1
theorem holds_str {cz : TypeId → Nat} {tmps : Array Value} {s : ByteArray} {v : Value} (h : Holds cz w F σ tmps (.val (.str s)) v) : v = .string s := by
  obtain ⟨cs, h1, h2⟩ := h; cases h2; exact h1
theorem int_holds {cz : TypeId → Nat} {tmps : Array Value} (k : IntKind) (n : Int) : Holds cz w F σ tmps (.val (.int k n)) (.int k n) := ⟨[.int k n], rfl, .int ..⟩
theorem bool_holds {cz : TypeId → Nat} {tmps : Array Value} (b : Bool) : Holds cz w F σ tmps (.val (.bool b)) (.bool b) := ⟨[.bool b], rfl, .bool ..⟩
theorem str_holds {cz : TypeId → Nat} {tmps : Array Value} (s : ByteArray) : Holds cz w F σ tmps (.val (.str s)) (.string s) := ⟨[.string s], rfl, .str ..⟩

theorem intOpd_sound (hI : Inv C F O Z σ a w) {g : Bool} {x : Operand} {p : Prop} {n : Int} (h : intOpd C.P σ g x = some (p, n)) (hg : g = true) (hp : p) : a.eval x = .int .i64 n := by
  unfold intOpd at h
  split at h
  · rename_i gx n' he
    simp only [Option.some.injEq, Prod.mk.injEq] at h
    obtain ⟨rfl, rfl⟩ := h
    exact holds_int (opd_sound hI he (hp hg)).1
  · cases h

theorem elemOf_und {P : Program} {t e : TypeId} (h : elemOf P t = some e) : P.underlying t = some (.slice e) := by
  unfold elemOf at h; split at h <;> simp_all

theorem aggT_run {P : Program} {t : TypeId} {b : Bool} (h : aggT P t = some b) (w : World) : (isAgg t).run P w = .ok b w := by
  unfold aggT at h
  cases hu : P.underlying t with
  | none => simp [hu] at h
  | some d => unfold isAgg; rw [Sem.run_bind, run_underlying hu w]; cases d <;> simp_all

theorem cellsOf_info {P : Program} {t : TypeId} {n : Nat} (h : P.cellsOf t = n) (hn : n ≠ 0) : ∃ i, P.info? t = some i ∧ i.size = n := by
  unfold Program.cellsOf at h
  cases hi : P.info? t with
  | none => simp [hi] at h; omega
  | some i => simp [hi] at h; exact ⟨i, rfl, h⟩

/-- reading a part that fits its type -/
theorem loadVar_run {t : TypeId} {y : V} {b o : Nat} {cy : List Value} {Oy : Nat → Prop} (hf : fits C.P t y = true) (hc : Cells w b o cy) (hr : Rep C.cz w F y cy Oy) :
    ∃ v, (loadVar t ⟨b, o, none⟩).run C.P w = .ok v w ∧ y.reg cy v := by
  unfold fits at hf
  rw [Bool.and_eq_true] at hf
  obtain ⟨h1, h2⟩ := hf
  have hsz : C.P.cellsOf t = cy.length := by rw [hr.length]; simpa using h2
  cases hagg : aggT C.P t with
  | none => simp [hagg] at h1
  | some bb =>
    rw [hagg] at h1
    have hrun := aggT_run hagg
    have hcells : ∀ j v, cy[j]? = some v → w.cell? ((⟨b, o, none⟩ : Addr).add j) = some v := by
      intro j v hj
      rw [Addr.add_lit]
      exact hc j v hj
    cases y with
    | agg fs =>
      simp only at h1
      subst h1
      have hl := run_loadCells_list (P := C.P) w ⟨b, o, none⟩ cy hcells
      refine ⟨.agg cy.toArray, ?_, rfl⟩
      by_cases h0 : C.P.cellsOf t = 0
      · have hi : ∃ i, C.P.info? t = some i ∧ i.size = 0 := by
          unfold aggT at hagg
          cases hi : C.P.info? t with
          | none => simp [Program.underlying, hi] at hagg
          | some i => exact ⟨i, rfl, by simpa [Program.cellsOf, hi] using h0⟩
        obtain ⟨i, hi, hi2⟩ := hi
        have hl0 : cy.length = 0 := by omega
        rw [hl0] at hl
        simp [loadVar, Sem.run_bind, hrun, Go.sizeOf, typeInfo, hi, hi2, hl]
      · obtain ⟨i, hi, hi2⟩ := cellsOf_info hsz (by omega)
        simp [loadVar, Sem.run_bind, hrun, Go.sizeOf, typeInfo, hi, hi2, hl]
    | tup => simp at h1
    | hole => simp at h1
    | _ =>
      simp only [Bool.not_eq_true'] at h1
      subst h1
      have h1c : cy.length = 1 := by rw [hr.length]; rfl
      obtain ⟨u, hu⟩ : ∃ u, cy = [u] := by
        match cy, h1c with
        | [u], _ => exact ⟨u, rfl⟩
      subst hu
      have h0 := hc 0 u rfl
      simp only [Nat.add_zero] at h0
      refine ⟨u, ?_, rfl⟩
      simp [loadVar, Sem.run_bind, hrun, h0]

theorem locV_of_box {cz : TypeId → Nat} {r : V} {e : TypeId} {c : V} {v : Value} {cs : List Value} {O' : Nat → Prop} (hat : r = .box e c) (hreg : r.reg cs v) (hrep : Rep cz w F r cs O') :
    ∃ b cc Oc, v = .pointer (some ⟨b, 0, none⟩) ∧ Cells w b 0 cc ∧ Rep cz w F c cc Oc ∧ O' b ∧ ∀ z, Oc z → O' z := by
  subst hat
  cases hrep with
  | box e c b1 cur cs' Oc O hb hcs hO hOs hr =>
    refine ⟨b1, cs', Oc, hreg, ?_, hr, hO, fun z hz => (hOs z hz).1⟩
    intro j v hj
    subst hcs
    simp at hj
    simp [World.cell?, hb, hj]

theorem fieldT_und {P : Program} {s f off : Nat} {ft : TypeId} (h : fieldT P s f = some (off, ft)) : ∃ fs x, P.underlying s = some (.struct fs) ∧ fs[f]? = some x ∧ x.offset = off ∧ x.type = ft := by
  unfold fieldT at h
  split at h
  · rename_i fs hu
    rw [Option.map_eq_some_iff] at h
    obtain ⟨x, hx, he⟩ := h
    simp only [Prod.mk.injEq] at he
    exact ⟨fs, x, hu, hx, he.1, he.2⟩
  · cases h

theorem fieldAt_run {P : Program} {s f off : Nat} {ft : TypeId} (h : fieldT P s f = some (off, ft)) (h0 : P.cellsOf ft ≠ 0) (b o : Nat) (w : World) :
    (Instr.fieldAt s (.pointer (some ⟨b, o, none⟩)) f).run P w = .ok (.pointer (some ⟨b, o + off, none⟩)) w := by
  obtain ⟨fs, x, hu, hx, rfl, rfl⟩ := fieldT_und h
  obtain ⟨i, hi, hi2⟩ := cellsOf_info (P := P) (t := x.type) rfl h0
  have h0' : ¬ i.size = 0 := by omega
  simp [Instr.fieldAt, run_underlying hu, hx, Instr.sureAddr, fieldPlace, Go.sizeOf, typeInfo, hi, h0', Addr.add_lit]

theorem indexAt_run {P : Program} {t e : TypeId} (h : elemOf P t = some e) {b o len cap : Nat} {n : Int} (h0 : 0 ≤ n) (h1 : n < (len : Int)) (w : World) (he : (P.info? e).isSome = true) :
    (Instr.indexAt t (.slice (some ⟨b, o, none⟩) len cap) (.int .i64 n)).run P w = .ok (.pointer (some ⟨b, o + n.toNat * P.cellsOf e, none⟩)) w := by
  have hu := elemOf_und h
  obtain ⟨i, hi⟩ := Option.isSome_iff_exists.1 he
  have hsz : P.cellsOf e = i.size := by simp [Program.cellsOf, hi]
  simp [Instr.indexAt, run_underlying hu, asIntOf, h0, h1, Go.sizeOf, typeInfo, hi, hsz, Addr.add_lit]

theorem move_yld {o : Oper} {x : Operand} {A : A} (ho : o.op = .move x ∨ o.op = .assign x) (h : Holds C.cz w F σ a.tmps A (a.eval x)) : Yld C F σ a w o A := by
  refine ⟨a.eval x, ?_, h⟩
  rcases ho with ho | ho <;> simp [execOp, ho]

theorem val_yld {o : Oper} {x : V} {v : Value} {cs : List Value} (hr : (execOp a.eval o).run C.P w = .ok (.value v) w) (h1 : x.reg cs v) (h2 : Rep C.cz w F x cs (fun _ => False)) : Yld C F σ a w o (.val x) :=
  ⟨v, hr, cs, h1, h2⟩

theorem run_eqlIn_bool {P : Program} {t : TypeId} (h : P.underlying t = some .bool) (d : Nat) (a b : Bool) (w : World) : (Op.equalIn (d + 1) t (.bool a) (.bool b)).run P w = .ok (a == b) w := by
  simp [Op.equalIn, run_underlying h]
theorem run_eql_bool {P : Program} {t : TypeId} (h : P.underlying t = some .bool) (a b : Bool) (w : World) : (Op.equal t (.bool a) (.bool b)).run P w = .ok (a == b) w :=
  run_eqlIn_bool h 9999 a b w

theorem binV_run {P : Program} {op : BinOp} {t : TypeId} {x y r : V} {p : Prop} {u v : Value} (h : binV op x y = some (p, r)) (hp : p) (hx : ∃ cs, x.reg cs u ∧ ∃ cz F, Rep cz w F x cs (fun _ => False)) (hy : ∃ cs, y.reg cs v ∧ ∃ cz F, Rep cz w F y cs (fun _ => False)) (X Y : Operand) :
    ∃ q, (do eqGuard op t X Y u v; binOp op t u v : Sem Value).run P w = .ok q w ∧ ∃ cs, r.reg cs q ∧ ∀ cz F, Rep cz w F r cs (fun _ => False) := by
  obtain ⟨cs1, h1, _, _, h2⟩ := hx
  obtain ⟨cs2, h3, _, _, h4⟩ := hy
  cases x with
  | int k n =>
    cases y with
    | int k' m =>
      cases h2; cases h4
      have hu : u = .int k n := h1
      have hv : v = .int k' m := h3
      subst hu; subst hv
      simp only [binV] at h
      split at h
      · rename_i hk; subst hk
        cases op <;> simp only [reduceCtorEq, Option.some.injEq, Prod.mk.injEq] at h
        all_goals obtain ⟨rfl, rfl⟩ := h
        all_goals first
          | (refine ⟨.int k _, ?_, [_], rfl, fun _ _ => .int ..⟩; simp [eqGuard_at_int, binOp, Op.intArith]; done)
          | (refine ⟨.int k _, ?_, [_], rfl, fun _ _ => .int ..⟩; simp [eqGuard_at_int, binOp, Op.intDiv, hp]; done)
          | (refine ⟨.bool _, ?_, [_], rfl, fun _ _ => .bool ..⟩; simp [eqGuard_at_int, binOp, Op.intCmp]; done)
      · cases h
    | _ => simp [binV] at h
  | str s =>
    cases y with
    | str s' =>
      cases h2; cases h4
      have hu : u = .string s := h1
      have hv : v = .string s' := h3
      subst hu; subst hv
      have hg : eqGuard op t X Y (.string s) (.string s') = pure () := by cases op <;> rfl
      cases op <;> simp only [binV, reduceCtorEq, Option.some.injEq, Prod.mk.injEq] at h
      all_goals obtain ⟨rfl, rfl⟩ := h
      · refine ⟨.string (s ++ s'), ?_, [_], rfl, fun _ _ => .str ..⟩
        have : ¬ (((s.size + s'.size : Nat) : Int) > IntKind.i64.max) := by
          have : IntKind.i64.max = 9223372036854775807 := by decide
          omega
        simp only [hg, binOp, Op.stringOp, Sem.run_bind, Sem.run_pure, Result.andThen_ok]
        rw [if_neg this]
        rfl
      all_goals (refine ⟨.bool _, ?_, [_], rfl, fun _ _ => .bool ..⟩; simp [hg, binOp, Op.stringOp]; done)
    | _ => simp [binV] at h
  | _ => simp [binV] at h

/-- The quiet operations. -/
def isQuiet (o : Oper) : Bool :=
  match o.op with
  | .move _ | .assign _ | .pick .. | .binOp .. | .unOp .. | .load .. | .fieldAddr .. | .indexAddr .. | .index .. | .extract .. | .slice .. | .convert .. | .makeFunc .. | .build .. => true
  | .call c => match c.callee with | .builtin _ => true | _ => false
  | _ => false

theorem isStr_und {P : Program} {t : TypeId} (h : isStr P t = true) : P.underlying t = some .string := by
  unfold isStr at h; split at h <;> simp_all
theorem intT_und {P : Program} {t : TypeId} {k : IntKind} (h : intT P t = some k) : P.underlying t = some (.int k) := by
  unfold intT at h; split at h <;> simp_all

theorem holds_ex {x : V} {v : Value} (h : Holds C.cz w F σ a.tmps (.val x) v) : ∃ cs, x.reg cs v ∧ ∃ cz F, Rep cz w F x cs (fun _ => False) :=
  let ⟨cs, h1, h2⟩ := h; ⟨cs, h1, _, _, h2⟩

theorem q_move (hI : Inv C F O Z σ a w) {o : Oper} {x : Operand} {g : Bool} {pre : Prop} {A : A} (ho : o.op = .move x) (h : lop C σ g o = some (pre, A)) (hg : g = true) (hp : pre) : Yld C F σ a w o A := by
  simp only [lop, ho, Option.map_eq_some_iff, Prod.mk.injEq] at h
  obtain ⟨⟨gx, a'⟩, h1, rfl, rfl⟩ := h
  exact move_yld (.inl ho) (opd_sound hI h1 (hp hg)).1

theorem q_assign (hI : Inv C F O Z σ a w) {o : Oper} {x : Operand} {g : Bool} {pre : Prop} {A : A} (ho : o.op = .assign x) (h : lop C σ g o = some (pre, A)) (hg : g = true) (hp : pre) : Yld C F σ a w o A := by
  simp only [lop, ho] at h
  split at h
  · rename_i h1
    split at h
    · cases h
    · simp only [Option.some.injEq, Prod.mk.injEq] at h
      obtain ⟨rfl, rfl⟩ := h
      exact move_yld (.inr ho) (opd_sound hI h1 (hp hg)).1
  · rename_i h1
    split at h
    · cases h
    · simp only [Option.some.injEq, Prod.mk.injEq] at h
      obtain ⟨rfl, rfl⟩ := h
      exact move_yld (.inr ho) (opd_sound hI h1 (hp hg)).1
    · cases h
  · cases h

theorem q_pick (hI : Inv C F O Z σ a w) {o : Oper} {x y z : Operand} {g : Bool} {pre : Prop} {A : A} (ho : o.op = .pick x y z) (h : lop C σ g o = some (pre, A)) (hg : g = true) (hp : pre) : Yld C F σ a w o A := by
  simp only [lop, ho] at h
  split at h
  · rename_i gc c h1
    split at h
    · rename_i gx v h2
      simp only [Option.some.injEq, Prod.mk.injEq] at h
      obtain ⟨rfl, rfl⟩ := h
      obtain ⟨p1, p2⟩ := hp
      have e1 := holds_bool (opd_sound hI h1 (p1 hg)).1
      have e2 := holds_bool (opd_sound hI h2 (p2 hg)).1
      cases c with
      | true => exact val_yld (v := .bool v) (cs := [.bool v]) (by rw [if_pos rfl] at e2; simp [execOp, ho, e1, e2, asBool]) rfl (.bool ..)
      | false => exact val_yld (v := .bool v) (cs := [.bool v]) (by rw [if_neg (by simp)] at e2; simp [execOp, ho, e1, e2, asBool]) rfl (.bool ..)
    · cases h
  · cases h

theorem q_bin (hI : Inv C F O Z σ a w) {o : Oper} {op : BinOp} {xt yt : TypeId} {x y : Operand} {g : Bool} {pre : Prop} {A : A} (ho : o.op = .binOp op xt x y yt) (h : lop C σ g o = some (pre, A)) (hg : g = true) (hp : pre) :
    Yld C F σ a w o A := by
  simp only [lop, ho] at h
  split at h
  · rename_i gx b1 gy b2 h1 h2
    split at h
    · rename_i hu' 
      rw [if_pos rfl] at h
      rw [Option.map_eq_some_iff] at h
      obtain ⟨r, hr, he⟩ := h
      simp only [Prod.mk.injEq] at he
      obtain ⟨rfl, rfl⟩ := he
      have e1 := holds_bool (opd_sound hI h1 (hp.1 hg)).1
      have e2 := holds_bool (opd_sound hI h2 (hp.2 hg)).1
      cases op <;> simp only [boolEq, reduceCtorEq, Option.some.injEq] at hr
      all_goals subst hr
      · exact val_yld (v := .bool (b1 == b2)) (cs := [_]) (by simp [execOp, ho, e1, e2, eqGuard_at_bool, binOp, run_eql_bool hu']) rfl (.bool ..)
      · exact val_yld (v := .bool !(b1 == b2)) (cs := [_]) (by simp [execOp, ho, e1, e2, eqGuard_at_bool, binOp, run_eql_bool hu']) rfl (.bool ..)
    · rw [if_neg (by simp)] at h; cases h
  · rename_i gx v1 gy v2 _ h1 h2
    rw [Option.map_eq_some_iff] at h
    obtain ⟨⟨p, r⟩, hr, he⟩ := h
    simp only [Prod.mk.injEq] at he
    obtain ⟨rfl, rfl⟩ := he
    obtain ⟨⟨p1, p2⟩, p3⟩ := hp
    have e1 := holds_ex (opd_sound hI h1 (p1 hg)).1
    have e2 := holds_ex (opd_sound hI h2 (p2 hg)).1
    obtain ⟨q, hq, cs, hreg, hrep⟩ := binV_run (P := C.P) (t := xt) hr (p3 hg) e1 e2 x y
    exact val_yld (v := q) (cs := cs) (by simp only [execOp, ho, Sem.run_bind, hq, Result.andThen_ok, Sem.run_pure]) hreg (hrep _ _)
  · cases h

theorem q_un (hI : Inv C F O Z σ a w) {o : Oper} {op : UnOp} {t : TypeId} {x : Operand} {g : Bool} {pre : Prop} {A : A} (ho : o.op = .unOp op t x) (h : lop C σ g o = some (pre, A)) (hg : g = true) (hp : pre) : Yld C F σ a w o A := by
  simp only [lop, ho] at h
  split at h
  · rename_i gx b h1
    simp only [Option.some.injEq, Prod.mk.injEq] at h
    obtain ⟨rfl, rfl⟩ := h
    have e1 := holds_bool (opd_sound hI h1 (hp hg)).1
    exact val_yld (v := .bool !b) (cs := [_]) (by simp [execOp, ho, e1, Op.unary]) rfl (.bool ..)
  · rename_i gx k n h1
    simp only [Option.some.injEq, Prod.mk.injEq] at h
    obtain ⟨rfl, rfl⟩ := h
    have e1 := holds_int (opd_sound hI h1 (hp hg)).1
    exact val_yld (v := .int k (k.wrap (0 - n))) (cs := [_]) (by simp [execOp, ho, e1, Op.unary, Op.intArith]) rfl (.int ..)
  · cases h

theorem q_load (hI : Inv C F O Z σ a w) {o : Oper} {t : TypeId} {x : Operand} {g : Bool} {pre : Prop} {A : A} (ho : o.op = .load t x) (h : lop C σ g o = some (pre, A)) (hg : g = true) (hp : pre) : Yld C F σ a w o A := by
  simp only [lop, ho] at h
  split at h
  · rename_i gx y h1
    split at h
    · rename_i hf
      simp only [Option.some.injEq, Prod.mk.injEq] at h
      obtain ⟨rfl, rfl⟩ := h
      obtain ⟨b, o', cs, e1, _, e3, e4⟩ := (opd_sound hI h1 (hp hg)).1
      obtain ⟨v, hv, hreg⟩ := loadVar_run hf e3 e4
      exact val_yld (v := v) (cs := cs) (by simp only [execOp, ho, Sem.run_bind, e1, Instr.loadAt, Instr.sureAddr, Sem.run_pure, Result.andThen_ok, hv]) hreg e4
    · cases h
  · rename_i gx s ver p h1
    split at h
    · rename_i r hr
      split at h
      · rename_i hf
        rw [Option.map_eq_some_iff] at h
        obtain ⟨A', hA, he⟩ := h
        simp only [Prod.mk.injEq] at he
        obtain ⟨rfl, rfl⟩ := he
        obtain ⟨b, o', cy, Oy, e1, e2, e3, e4, e5, e6⟩ := ad_sound hI (opd_sound hI h1 (hp.1 hg)).1 hr (hp.2 hg)
        obtain ⟨v, hv, hreg⟩ := loadVar_run hf e3 e4
        exact ⟨v, by simp only [execOp, ho, Sem.run_bind, e2, Instr.loadAt, Instr.sureAddr, Sem.run_pure, Result.andThen_ok, hv], rdA_sound hI hr (hp.2 hg) rfl e1 e3 e4 hreg hA⟩
      · cases h
    · cases h
  · rename_i gx s ver p h1
    split at h
    · rename_i r hr
      split at h
      · rename_i e c hat
        split at h
        · rename_i hf
          rw [Option.map_eq_some_iff] at h
          obtain ⟨A', hA, he⟩ := h
          simp only [Prod.mk.injEq] at he
          obtain ⟨rfl, rfl⟩ := he
          have hop := (opd_sound hI h1 (hp.1 hg)).1
          obtain ⟨cs, Oy, e1, e2, e3⟩ := rf_sound hI hop hr (hp.2 hg).1
          obtain ⟨b, cc, Oc, g1, g2, g3, g4, _⟩ := locV_of_box hat e1 e2
          obtain ⟨v, hv, hreg⟩ := loadVar_run hf g2 g3
          refine ⟨v, by simp only [execOp, ho, Sem.run_bind, g1, Instr.loadAt, Instr.sureAddr, Sem.run_pure, Result.andThen_ok, hv], ?_⟩
          -- where it lies
          have hloc : locV C.cz w (p ++ [0]) r (a.tmps.getD s undef) = some (b, 0) := by
            have hH : (r.at p).isH = true := by rw [hat]; rfl
            rcases V.okr_cases (hp.2 hg).1 with rfl | ⟨fs, i, rfl, rfl, hi⟩ | ⟨hm, _⟩
            · have hrb : r = .box e c := hat
              have hb : a.eval x = a.tmps.getD s undef := hop r _ hr (by cases r <;> trivial) rfl
              rw [hb] at g1
              rw [hrb, g1]
              rfl
            · exact (hp.2 hg).2.1.elim
            · obtain ⟨hp0, hna, hok⟩ := V.okm_okp hm
              obtain ⟨_, h2, _⟩ := hI.slot s (Env.own_elim hr).1
              obtain ⟨cs0, h3, h4⟩ := h2 r (Env.own_elim hr).2.2
              obtain ⟨b1, o1, cy, Oy1, k1, k2, k3, _, _, _, _⟩ := h4.takeV h3 hok hp0 hna
              rw [locV_append C.cz w hp0, k1, hat]
              rw [hat] at k3
              obtain ⟨u, rfl, _⟩ := isHdr_of_isH k3 rfl
              have hc := k2 0 u rfl
              simp only [Nat.add_zero] at hc
              have hvu : a.eval x = u := hop r u hr (V.okv_of_okp hok) (by rw [hdrV_okm hm, if_pos hH, k1]; exact hc)
              simp only [Option.bind_some, locM, hc]
              rw [hvu] at g1
              rw [g1]
          exact rdA_sound hI hr (hp.2 hg).2 (by rw [V.at_append, hat]; rfl) hloc g2 g3 hreg hA
        · cases h
      · cases h
    · cases h
  · cases h
end
end Go.Ax
