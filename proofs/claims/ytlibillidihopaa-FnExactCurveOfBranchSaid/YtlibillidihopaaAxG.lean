/-
  AX, part G: what operands are; reading.
-/
import Derived.Test.YtlibillidihopaaAxF
import Derived.Laws.Entries
namespace Go.Ax

section
variable {cz : TypeId → Nat} {w w' : World} {F : Nat → Prop}

theorem Rep.unowned {x : V} {cs : List Value} {O : Nat → Prop} (h : Rep cz w F x cs O) : x.owned = false → Rep cz w F x cs (fun _ => False) := by
  induction h with
  | int k n O => intros; exact .int ..
  | bool b O => intros; exact .bool ..
  | str s O => intros; exact .str ..
  | hole n cs O hn => intros; exact .hole _ _ _ hn
  | fz0 e d a cap O => intros; exact .fz0 ..
  | fz e d es b off len cap cs O hl hc hm hF hcs hr ih => intros; exact .fz e d es b off len cap cs _ hl hc hm hF hcs hr
  | own0 e d O => intros; exact .own0 ..
  | own e d es b len cap cur cs Os O hb hsz hl hc hm hO hOs hdis hcs hr ih => intro hx; simp [V.owned] at hx
  | agg fs cs Os O hn hOs hdis hr ih =>
    intro hx
    simp [V.owned, V.owneds_eq] at hx
    exact .agg fs cs (fun _ _ => False) _ hn (fun _ _ h => h) (fun _ _ _ _ h => h.elim) (fun i x hi => ih i x hi (hx x (List.mem_of_getElem? hi)))
  | box e c b cur cs Oc O hb hcs hO hOs hr ih => intro hx; simp [V.owned] at hx
  | tup fs vs cs Os O hn hOs hdis hv hr ih =>
    intro hx
    simp [V.owned, V.owneds_eq] at hx
    exact .tup fs vs cs (fun _ _ => False) _ hn (fun _ _ h => h) (fun _ _ _ _ h => h.elim) hv (fun i x hi => ih i x hi (hx x (List.mem_of_getElem? hi)))
  | fn f caps vs cs O hn hv hr ih => intros; exact .fn f caps vs cs _ hn hv hr

mutual
theorem V.frz_unowned : ∀ (x : V), x.frz.owned = false
  | .int _ _ => rfl
  | .bool _ => rfl
  | .str _ => rfl
  | .slc _ _ _ _ => rfl
  | .agg fs => by simp only [V.frz, V.owned]; exact V.frzs_unowned fs
  | .tup fs => by simp only [V.frz, V.owned]; exact V.frzs_unowned fs
  | .box _ _ => rfl
  | .fn _ _ => rfl
  | .hole _ => rfl
theorem V.frzs_unowned : ∀ (fs : List V), V.owneds (V.frzs fs) = false
  | [] => rfl
  | x :: l => by simp only [V.frzs, V.owneds, V.frz_unowned x, V.frzs_unowned l]; rfl
end

theorem isIntC_eq {k : IntKind} {n : Int} {cs : List Value} (h : isIntC k n cs = true) : cs = [.int k n] := by
  unfold isIntC at h; split at h <;> simp_all
theorem isBoolC_eq {b : Bool} {cs : List Value} (h : isBoolC b cs = true) : cs = [.bool b] := by
  unfold isBoolC at h; split at h <;> simp_all
theorem isStrC_eq {s : ByteArray} {cs : List Value} (h : isStrC s cs = true) : cs = [.string s] := by
  unfold isStrC at h; split at h
  · rename_i s'; have : s = s' := by cases s; cases s'; simp_all
    rw [this]
  · cases h
theorem isNilC_eq {cs : List Value} (h : isNilC cs = true) : cs = [.slice none 0 0] := by
  unfold isNilC at h; split at h <;> simp_all
mutual
theorem zrep_len : ∀ (x : V) (cs : List Value), zrep x cs = true → cs.length = x.size
  | .int _ _, cs, h => by simp only [zrep] at h; rw [isIntC_eq h]; rfl
  | .bool _, cs, h => by simp only [zrep] at h; rw [isBoolC_eq h]; rfl
  | .str _, cs, h => by simp only [zrep] at h; rw [isStrC_eq h]; rfl
  | .slc _ _ _ _, cs, h => by simp only [zrep, Bool.and_eq_true] at h; rw [isNilC_eq h.2]; rfl
  | .agg fs, cs, h => by simp only [zrep] at h; simp only [V.size]; exact zreps_len fs cs h
  | .box _ _, cs, h => by simp [zrep] at h
  | .tup _, cs, h => by simp [zrep] at h
  | .fn _ _, cs, h => by simp [zrep] at h
  | .hole _, cs, h => by simpa [zrep, V.size] using h
theorem zreps_len : ∀ (fs : List V) (cs : List Value), zreps fs cs = true → cs.length = V.sizes fs
  | [], cs, h => by simp only [zreps, List.isEmpty_iff] at h; subst h; rfl
  | x :: xs, cs, h => by
    simp only [zreps, Bool.and_eq_true] at h
    have h1 := zrep_len x _ h.1
    have h2 := zreps_len xs _ h.2
    simp only [List.length_take, List.length_drop, V.sizes] at *
    omega
end

theorem zreps_part : ∀ (fs : List V) (cs : List Value), zreps fs cs = true → ∀ i x, fs[i]? = some x → zrep x ((cs.drop (V.offs fs i)).take x.size) = true
  | [], cs, h => fun i x hx => by simp at hx
  | x :: xs, cs, h => by
    simp only [zreps, Bool.and_eq_true] at h
    obtain ⟨h1, h2⟩ := h
    intro i y hy
    cases i with
    | zero => simp at hy; subst hy; simpa [V.offs, V.sizes] using h1
    | succ i =>
      simp at hy
      have := zreps_part xs _ h2 i y hy
      rw [List.drop_drop] at this
      have e : V.offs (x :: xs) (i + 1) = x.size + V.offs xs i := by simp [V.offs, V.sizes]
      rw [e]
      exact this

theorem zrep_rep : ∀ (x : V) (cs : List Value), zrep x cs = true → Rep cz w F x cs (fun _ => False)
  | .int k n, cs, h => by simp only [zrep] at h; rw [isIntC_eq h]; exact .int ..
  | .bool b, cs, h => by simp only [zrep] at h; rw [isBoolC_eq h]; exact .bool ..
  | .str s, cs, h => by simp only [zrep] at h; rw [isStrC_eq h]; exact .str ..
  | .slc o e d es, cs, h => by
    simp only [zrep, Bool.and_eq_true, List.isEmpty_iff] at h
    obtain ⟨⟨rfl, rfl⟩, h⟩ := h
    rw [isNilC_eq h]; exact .own0 ..
  | .agg fs, cs, h => by
    simp only [zrep] at h
    refine .agg fs cs (fun _ _ => False) _ (zreps_len fs cs h) (fun _ _ h => h) (fun _ _ _ _ h => h.elim) (fun i x hi => ?_)
    have : SizeOf.sizeOf x < 1 + SizeOf.sizeOf fs := by have := List.sizeOf_lt_of_mem (List.mem_of_getElem? hi); omega
    exact zrep_rep x _ (zreps_part fs cs h i x hi)
  | .box e c, cs, h => by simp [zrep] at h
  | .tup fs, cs, h => by simp [zrep] at h
  | .fn f c, cs, h => by simp [zrep] at h
  | .hole n, cs, h => .hole _ _ _ (by simpa [zrep] using h)
termination_by x => SizeOf.sizeOf x

/-- a zero value's Go value -/
theorem zeroOf_rep {P : Program} {t : TypeId} {x : V} (h : zeroOf P t = some x) : ∃ i z, P.info? t = some i ∧ i.zero = some z ∧ z.cells.toList.length = i.size ∧ ∀ {w F}, Rep cz w F x z.cells.toList (fun _ => False) := by
  unfold zeroOf at h
  cases hi : P.info? t with
  | none => simp [hi] at h
  | some i =>
    cases hz : i.zero with
    | none => simp [hi, hz] at h
    | some z =>
      simp only [hi, Option.bind_some, hz] at h
      split at h
      · split at h
        · rename_i hc
          simp only [Option.some.injEq] at h
          subst h
          simp only [Bool.and_eq_true] at hc
          refine ⟨i, z, rfl, hz, ?_, fun {w F} => zrep_rep _ _ hc.1⟩
          have := hc.2
          simpa [Program.cellsOf, hi] using this
        · cases h
      · cases h

theorem locM_append (cz : TypeId → Nat) (w : World) : ∀ (p q : List Nat) (x : V) (b o : Nat), locM cz w (p ++ q) x b o = (locM cz w p x b o).bind fun a => locM cz w q (x.at p) a.1 a.2
  | [], q, x, b, o => rfl
  | i :: p, q, x, b, o => by
    cases x with
    | slc o' e d es =>
      simp only [List.cons_append, locM, V.at, V.kid]
      split
      · exact locM_append cz w p q _ _ _
      · rfl
    | agg fs => simp only [List.cons_append, locM, V.at, V.kid]; exact locM_append cz w p q _ _ _
    | box e c =>
      simp only [List.cons_append, locM, V.at, V.kid]
      split
      · exact locM_append cz w p q _ _ _
      · rfl
    | _ => simp [locM]

theorem locV_append (cz : TypeId → Nat) (w : World) {p : List Nat} (hp : p ≠ []) (q : List Nat) (x : V) (v : Value) : locV cz w (p ++ q) x v = (locV cz w p x v).bind fun a => locM cz w q (x.at p) a.1 a.2 := by
  cases p with
  | nil => exact absurd rfl hp
  | cons i p =>
    cases x with
    | slc o' e d es =>
      cases v with
      | slice ad l c => cases ad <;> simp [locV, V.at, V.kid, locM_append]
      | _ => simp [locV]
    | box e c =>
      cases v with
      | pointer ad => cases ad <;> simp [locV, V.at, V.kid, locM_append]
      | _ => simp [locV]
    | _ => simp [locV]

theorem V.at_append : ∀ (p q : List Nat) (x : V), x.at (p ++ q) = (x.at p).at q
  | [], _, _ => rfl
  | i :: p, q, x => by simp only [List.cons_append, V.at]; exact V.at_append p q _

theorem V.okp_append : ∀ (p q : List Nat) (x : V), x.okp (p ++ q) ↔ x.okp p ∧ (x.at p).okp q
  | [], _, _ => by simp [V.okp, V.at]
  | i :: p, q, x => by simp only [List.cons_append, V.okp, V.at, V.okp_append p q, and_assoc]

theorem V.okm_okp {x : V} {p : List Nat} (h : x.okm p) : p ≠ [] ∧ (∀ fs, x ≠ .agg fs) ∧ x.okp p := by
  cases p with
  | nil => simp [V.okm] at h
  | cons i p => cases x <;> first | exact ⟨by simp, by simp, h⟩ | exact h.elim

theorem V.okm_of {x : V} {p : List Nat} (h1 : p ≠ []) (h2 : ∀ fs, x ≠ .agg fs) (h3 : x.okp p) : x.okm p := by
  cases p with
  | nil => exact absurd rfl h1
  | cons i p => cases x <;> first | exact h3 | exact absurd rfl (h2 _)

theorem V.okr_cases {x : V} {p : List Nat} (h : x.okr p) : p = [] ∨ (∃ fs i, x = .tup fs ∧ p = [i] ∧ i < fs.length) ∨ (x.okm p ∧ (x.at p).isH = true) := by
  cases p with
  | nil => exact .inl rfl
  | cons i p =>
    cases x with
    | tup fs =>
      cases p with
      | nil => exact .inr (.inl ⟨fs, i, rfl, rfl, h⟩)
      | cons j p => have := h.1; exact this.1.elim
    | _ => cases p <;> exact .inr (.inr h)

theorem hdrV_okm {x : V} {p : List Nat} {v : Value} (h : x.okm p) : hdrV cz w p x v = if (x.at p).isH then (locV cz w p x v).bind fun a => w.cell? ⟨a.1, a.2, none⟩ else none := by
  cases p with
  | nil => simp [V.okm] at h
  | cons i p =>
    cases p with
    | nil => cases x <;> first | rfl | exact h.1.elim
    | cons j p => rfl
end

section
variable {C : Ctx} {F : Nat → Prop} {O : Nat → Nat → Prop} {Z : Nat → Prop} {σ : Env} {a : Act} {w w' : World}

theorem constV_sound {P : Program} {ty : TypeId} {v : Value} {x : V} (h : constV P ty v = some x) : (∃ cs, x.reg cs v ∧ ∀ {cz : TypeId → Nat} {w : World} {F : Nat → Prop}, Rep cz w F x cs (fun _ => False)) := by
  cases v <;> simp only [constV] at h <;> (try cases h)
  · exact ⟨[_], rfl, .bool ..⟩
  · exact ⟨[_], rfl, .int ..⟩
  · exact ⟨[_], rfl, .str ..⟩
  · split at h
    · rename_i hn
      have := isNilC_eq hn
      simp only [List.cons.injEq, and_true] at this
      rw [this]
      split at h
      · simp only [Option.some.injEq] at h
        subst h
        exact ⟨[.slice none 0 0], rfl, .own0 ..⟩
      · cases h
    · cases h

/-- What 'opd' says of an operand holds. -/
theorem opd_sound (hI : Inv C F O Z σ a w) {ty : TypeId} {x : Operand} {g : Bool} {A : A} (h : opd C.P σ ty x = some (g, A)) (hg : g = true) :
    Holds C.cz w F σ a.tmps A (a.eval x) ∧ (∀ s ver, A.refs = some (s, ver) → ver ≤ (σ s).ver) := by
  cases x with
  | tmp t =>
    simp only [opd] at h
    have hev : a.eval (.tmp t) = a.tmps.getD t undef := rfl
    rw [hev]
    cases ha : (σ t).a with
    | val x =>
      simp only [ha] at h
      split at h
      · simp only [Option.some.injEq, Prod.mk.injEq] at h
        obtain ⟨rfl, rfl⟩ := h
        refine ⟨fun x h _ _ hh => ?_, fun s ver hr => ?_⟩
        · simpa [hdrV] using hh
        · simp only [A.refs, Option.some.injEq, Prod.mk.injEq] at hr
          obtain ⟨rfl, rfl⟩ := hr
          exact Nat.le_refl _
      · rename_i hx
        simp only [Option.some.injEq, Prod.mk.injEq] at h
        obtain ⟨rfl, rfl⟩ := h
        obtain ⟨_, h2, _⟩ := hI.slot t hg
        obtain ⟨cs, h3, h4⟩ := h2 x ha
        exact ⟨⟨cs, h3, h4.unowned (by simpa using hx)⟩, fun s ver hr => by simp [A.refs] at hr⟩
    | _ =>
      simp only [ha] at h
      simp only [Option.some.injEq, Prod.mk.injEq] at h
      obtain ⟨rfl, rfl⟩ := h
      obtain ⟨_, _, h3⟩ := hI.slot t hg
      rw [ha] at h3
      exact ⟨h3 (by simp), fun s ver hr => hI.wf t s ver (by rw [ha]; exact hr)⟩
  | const v =>
    simp only [opd, Option.map_eq_some_iff, Prod.mk.injEq] at h
    obtain ⟨x, hx, rfl, rfl⟩ := h
    obtain ⟨cs, h1, h2⟩ := constV_sound hx
    exact ⟨⟨cs, h1, h2⟩, fun s ver hr => by simp [A.refs] at hr⟩
  | func f =>
    simp only [opd, Option.some.injEq, Prod.mk.injEq] at h
    obtain ⟨rfl, rfl⟩ := h
    exact ⟨⟨[.func (.func f) #[] #[]], rfl, .fn f [] #[] (fun _ => []) _ rfl (fun i x hx => by simp at hx) (fun i x hx => by simp at hx)⟩, fun s ver hr => by simp [A.refs] at hr⟩
  | global g => simp [opd] at h

/-- a header of a slot's own -/
theorem rf_sound (hI : Inv C F O Z σ a w) {s ver : Nat} {p : List Nat} {v : Value} {r : V} (h : Holds C.cz w F σ a.tmps (.rf s ver p) v) (ho : σ.own s ver = some r) (hk : r.okr p) :
    ∃ cs Oy, (r.at p).reg cs v ∧ Rep C.cz w F (r.at p) cs Oy ∧ ∀ b, Oy b → O s b := by
  obtain ⟨hg, _, ha⟩ := Env.own_elim ho
  obtain ⟨_, h2, _⟩ := hI.slot s hg
  obtain ⟨cs, h3, h4⟩ := h2 r ha
  rcases V.okr_cases hk with rfl | ⟨fs, i, rfl, rfl, hi⟩ | ⟨hm, hH⟩
  · have := h r _ ho (by cases r <;> trivial) rfl
    rw [this]
    exact ⟨cs, O s, h3, h4, fun _ h => h⟩
  · cases h4 with
    | tup fs vs cs' Os O' hn hOs hdis hv hr =>
      have hv0 : a.tmps.getD s undef = .tuple vs := h3
      have := h (.tup fs) (vs.getD i undef) ho (by exact ⟨hi, trivial⟩) (by rw [hv0]; rfl)
      subst this
      have hi' := some_of_lt (.hole 0) hi
      exact ⟨cs' i, Os i, hv i _ hi', hr i _ hi', fun b hb => hOs i b hb⟩
  · obtain ⟨hp, hna, hok⟩ := V.okm_okp hm
    obtain ⟨b, o, cy, Oy, g1, g2, g3, g4, _, _, _⟩ := h4.takeV h3 hok hp hna
    obtain ⟨u, rfl, hu⟩ := isHdr_of_isH g3 hH
    have hc := g2 0 u rfl
    simp only [Nat.add_zero] at hc
    have := h r u ho (V.okv_of_okp hok) (by rw [hdrV_okm hm, if_pos hH, g1]; exact hc)
    subst this
    refine ⟨[v], Oy, ?_, g3, g4⟩
    revert hH
    cases r.at p <;> simp [V.isH, V.reg]

/-- an address of a part of a slot's own -/
theorem ad_sound (hI : Inv C F O Z σ a w) {s ver : Nat} {p : List Nat} {v : Value} {r : V} (h : Holds C.cz w F σ a.tmps (.ad s ver p) v) (ho : σ.own s ver = some r) (hk : r.okm p) :
    ∃ b o cy Oy, locV C.cz w p r (a.tmps.getD s undef) = some (b, o) ∧ v = .pointer (some ⟨b, o, none⟩) ∧ Cells w b o cy ∧ Rep C.cz w F (r.at p) cy Oy ∧ (∀ z, Oy z → O s z) ∧ O s b := by
  obtain ⟨hg, _, ha⟩ := Env.own_elim ho
  obtain ⟨_, h2, _⟩ := hI.slot s hg
  obtain ⟨cs, h3, h4⟩ := h2 r ha
  obtain ⟨hp, hna, hok⟩ := V.okm_okp hk
  obtain ⟨b, o, cy, Oy, g1, g2, g3, g4, g5, _, _⟩ := h4.takeV h3 hok hp hna
  exact ⟨b, o, cy, Oy, g1, h r b o ho hok g1, g2, g3, g4, g5⟩

theorem V.flats_mem : ∀ l : List V, V.flats l = true → ∀ z ∈ l, z.flat = true := by
  intro l
  induction l with
  | nil => simp
  | cons x l ih =>
    simp only [V.flats, Bool.and_eq_true]
    rintro ⟨e1, e2⟩ z hz
    rcases List.mem_cons.1 hz with rfl | hz
    · exact e1
    · exact ih e2 z hz

/-- a struct's copy: its parts are the headers at their paths -/
theorem cp_of_rep {s ver : Nat} {r : V} (ho : σ.own s ver = some r) {y : V} {cy : List Value} {Oy : Nat → Prop} (hrep : Rep C.cz w F y cy Oy) : ∀ (p : List Nat) (b o : Nat), y.flat = true → r.okm p → r.at p = y →
    locV C.cz w p r (a.tmps.getD s undef) = some (b, o) → Cells w b o cy →
    Cp (fun q h => ∀ r h', σ.own s ver = some r → r.okv q → hdrV C.cz w q r (a.tmps.getD s undef) = some h' → h' = h) (fun y c => Rep C.cz w F y c (fun _ => False)) y p cy := by
  have leaf : ∀ (y : V) (cy : List Value) (Oy : Nat → Prop), Rep C.cz w F y cy Oy → y.isH = true → ∀ (p : List Nat) (b o : Nat), r.okm p → r.at p = y → locV C.cz w p r (a.tmps.getD s undef) = some (b, o) → Cells w b o cy →
      Cp (fun q h => ∀ r h', σ.own s ver = some r → r.okv q → hdrV C.cz w q r (a.tmps.getD s undef) = some h' → h' = h) (fun y c => Rep C.cz w F y c (fun _ => False)) y p cy := by
    intro y cy Oy hrep hH p b o hm hat hloc hcy
    obtain ⟨u, rfl, hu⟩ := isHdr_of_isH hrep hH
    refine .hd y p u hH (fun r' h' hr' _ hh => ?_)
    rw [ho] at hr'
    simp only [Option.some.injEq] at hr'
    subst hr'
    rw [hdrV_okm hm, hat, if_pos hH, hloc] at hh
    have hc := hcy 0 u rfl
    simp only [Nat.add_zero] at hc
    simp only [Option.bind_some, hc, Option.some.injEq] at hh
    exact hh.symm
  induction hrep with
  | agg fs cs Os O' hn hOs hdis hr ih =>
    intro p b o hfl hm hat hloc hcy
    refine .agg fs p cs hn (fun i z hz => ?_)
    have hlt : i < fs.length := (List.getElem?_eq_some_iff.1 hz).1
    obtain ⟨h1, h2, h3⟩ := V.okm_okp hm
    refine ih i z hz (p ++ [i]) b (o + V.offs fs i) (V.flats_mem fs hfl z (List.mem_of_getElem? hz)) (V.okm_of (by simp) h2 ((V.okp_append p [i] r).2 ⟨h3, by rw [hat]; exact ⟨hlt, trivial⟩⟩)) ?_ ?_ (hcy.part _ _)
    · rw [V.at_append, hat]; simp only [V.at, V.kid]; exact getD_of_some hz
    · rw [locV_append C.cz w h1, hloc, hat]; simp only [Option.bind_some, locM]
  | tup => intro p b o hfl; simp [V.flat] at hfl
  | own e d es b1 len cap cur cs' Os O' hb hsz hl hcap hm' hO hOs hdis hcs hr =>
    intro p b o _ hm hat hloc hcy
    exact leaf _ _ _ (.own e d es b1 len cap cur cs' Os O' hb hsz hl hcap hm' hO hOs hdis hcs hr) rfl p b o hm hat hloc hcy
  | own0 e d O => intro p b o _ hm hat hloc hcy; exact leaf _ _ _ (.own0 e d O) rfl p b o hm hat hloc hcy
  | box e c b1 cur cs' Oc O' hb hcs hO hOs hr => intro p b o _ hm hat hloc hcy; exact leaf _ _ _ (.box e c b1 cur cs' Oc O' hb hcs hO hOs hr) rfl p b o hm hat hloc hcy
  | int k n O => intro p b o _ _ _ _ _; exact .val _ p _ rfl (.int ..) rfl
  | bool k O => intro p b o _ _ _ _ _; exact .val _ p _ rfl (.bool ..) rfl
  | str k O => intro p b o _ _ _ _ _; exact .val _ p _ rfl (.str ..) rfl
  | hole n cs O hn => intro p b o _ _ _ _ _; exact .val _ p _ rfl (.hole _ _ _ hn) hn
  | fz0 e d ad cap O => intro p b o _ _ _ _ _; exact .val _ p _ rfl (.fz0 ..) rfl
  | fz e d es b1 off len cap cs O hl hc hm hF hcs hr => intro p b o _ _ _ _ _; exact .val _ p _ rfl (.fz e d es b1 off len cap cs _ hl hc hm hF hcs hr) rfl
  | fn f caps vs cs O hn hv hr => intro p b o _ _ _ _ _; exact .val _ p _ rfl (.fn f caps vs cs _ hn hv hr) rfl

/-- Reading a part. -/
theorem rdA_sound (hI : Inv C F O Z σ a w) {s ver : Nat} {p : List Nat} {r y : V} {b o : Nat} {cy : List Value} {Oy : Nat → Prop} {v : Value} {A : A} (ho : σ.own s ver = some r) (hm : r.okm p) (hat : r.at p = y)
    (hloc : locV C.cz w p r (a.tmps.getD s undef) = some (b, o)) (hcy : Cells w b o cy) (hrep : Rep C.cz w F y cy Oy) (hreg : y.reg cy v) (h : rdA s ver p y = some A) : Holds C.cz w F σ a.tmps A v := by
  unfold rdA at h
  split at h
  · split at h
    · rename_i hH
      simp only [Option.some.injEq] at h
      subst h
      intro r' h' hr' _ hh
      rw [ho] at hr'
      simp only [Option.some.injEq] at hr'
      subst hr'
      obtain ⟨u, rfl, hu⟩ := isHdr_of_isH hrep hH
      rw [hdrV_okm hm, hat, if_pos hH, hloc] at hh
      have hc := hcy 0 u rfl
      simp only [Nat.add_zero] at hc
      simp only [Option.bind_some, hc, Option.some.injEq] at hh
      subst hh
      revert hreg hH
      cases y <;> simp [V.isH, V.reg]
    · rename_i hH
      cases y with
      | agg fs =>
        simp only at h
        split at h
        · rename_i hfl
          simp only [Option.some.injEq] at h
          subst h
          exact ⟨cy, hreg, cp_of_rep ho hrep p b o hfl hm hat hloc hcy⟩
        · cases h
      | _ => cases h
  · rename_i hx
    simp only [Option.some.injEq] at h
    subst h
    exact ⟨cy, hreg, hrep.unowned (by simpa using hx)⟩

theorem rdA_refs {s ver : Nat} {p : List Nat} {y : V} {A : A} (h : rdA s ver p y = some A) : ∀ s' ver', A.refs = some (s', ver') → s' = s ∧ ver' = ver := by
  unfold rdA at h
  intro s' ver' hr
  split at h
  · split at h
    · simp only [Option.some.injEq] at h; subst h; simp only [A.refs, Option.some.injEq, Prod.mk.injEq] at hr; exact ⟨hr.1.symm, hr.2.symm⟩
    · cases y <;> simp only at h <;> (try cases h)
      split at h
      · simp only [Option.some.injEq] at h; subst h; simp only [A.refs, Option.some.injEq, Prod.mk.injEq] at hr; exact ⟨hr.1.symm, hr.2.symm⟩
      · cases h
  · simp only [Option.some.injEq] at h; subst h; simp [A.refs] at hr
end
end Go.Ax
