/-
  AX, part B: parts of a value by their path; to take a part out of a value, and to put one in.
-/
import Derived.Test.YtlibillidihopaaAxA
namespace Go.Ax

def V.kid : V → Nat → V
  | .slc _ _ d es, i => es.getD i d
  | .agg fs, i => fs.getD i (.hole 0)
  | .tup fs, i => fs.getD i (.hole 0)
  | .box _ c, _ => c
  | _, _ => .hole 0
def V.hasKid : V → Nat → Prop
  | .slc o _ _ es, i => o = true ∧ i < es.length
  | .agg fs, i => i < fs.length
  | .box _ _, _ => True
  | _, _ => False
def V.setKid : V → Nat → V → V
  | .slc o e d es, i, y => .slc o e d (es.set i y)
  | .agg fs, i, y => .agg (fs.set i y)
  | .tup fs, i, y => .tup (fs.set i y)
  | .box e _, _, y => .box e y
  | x, _, _ => x

def V.at : V → List Nat → V
  | x, [] => x
  | x, i :: p => (x.kid i).at p
def V.okp : V → List Nat → Prop
  | _, [] => True
  | x, i :: p => x.hasKid i ∧ (x.kid i).okp p
/-- the same, for a value in a register -/
def V.okv : V → List Nat → Prop
  | .tup fs, i :: p => i < fs.length ∧ (fs.getD i (.hole 0)).okp p
  | x, p => x.okp p
def V.upd : V → List Nat → V → V
  | _, [], y => y
  | x, i :: p, y => x.setKid i ((x.kid i).upd p y)

section
variable (cz : TypeId → Nat) (w : World)

/-- where the part lies, for a value that lies in block b from o on -/
def locM : List Nat → V → Nat → Nat → Option (Nat × Nat)
  | [], _, b, o => some (b, o)
  | i :: p, .slc _ e d es, b, o => match w.cell? ⟨b, o, none⟩ with
    | some (.slice (some a) _ _) => locM p (es.getD i d) a.block (i * cz e)
    | _ => none
  | i :: p, .agg fs, b, o => locM p (fs.getD i (.hole 0)) b (o + V.offs fs i)
  | _ :: p, .box _ c, b, o => match w.cell? ⟨b, o, none⟩ with
    | some (.pointer (some a)) => locM p c a.block 0
    | _ => none
  | _, _, _, _ => none

/-- where the part lies, for a value in a register -/
def locV : List Nat → V → Value → Option (Nat × Nat)
  | i :: p, .slc _ e d es, .slice (some a) _ _ => locM cz w p (es.getD i d) a.block (i * cz e)
  | _ :: p, .box _ c, .pointer (some a) => locM cz w p c a.block 0
  | _, _, _ => none
end

theorem V.sizes_set {fs : List V} {i : Nat} {x y : V} (h : fs[i]? = some x) (hs : y.size = x.size) : V.sizes (fs.set i y) = V.sizes fs := by
  induction fs generalizing i with
  | nil => simp at h
  | cons a l ih =>
    cases i with
    | zero => simp at h; subst h; simp [V.sizes, hs]
    | succ i => simp at h; simp [V.sizes, ih h]

theorem V.offs_set {fs : List V} {i : Nat} {x y : V} (j : Nat) (h : fs[i]? = some x) (hs : y.size = x.size) : V.offs (fs.set i y) j = V.offs fs j := by
  unfold V.offs
  rw [List.take_set]
  by_cases hij : i < j
  · exact V.sizes_set (x := x) (by rw [List.getElem?_take]; simp [hij, h]) hs
  · rw [List.set_eq_of_length_le]; simp; omega

theorem getD_of_some {es : List V} {i : Nat} {x d : V} (h : es[i]? = some x) : es.getD i d = x := by
  rw [List.getD_eq_getElem?_getD, h]; rfl

theorem some_of_lt {es : List V} {i : Nat} (d : V) (h : i < es.length) : es[i]? = some (es.getD i d) := by
  rw [List.getElem?_eq_getElem h, List.getD_eq_getElem?_getD, List.getElem?_eq_getElem h]; rfl

theorem V.size_upd : ∀ (p : List Nat) (x y : V), x.okp p → y.size = (x.at p).size → (x.upd p y).size = x.size
  | [], x, y, _, h => h
  | i :: p, x, y, hok, h => by
    have hk := V.size_upd p (x.kid i) y hok.2 h
    simp only [V.upd]
    cases x with
    | agg fs =>
      have hlt : i < fs.length := hok.1
      simp only [V.setKid, V.size]
      exact V.sizes_set (some_of_lt (.hole 0) hlt) hk
    | _ => simp [V.setKid, V.size]

theorem V.set_some {es : List V} {i j : Nat} {y x : V} (h : (es.set i y)[j]? = some x) : (j = i ∧ x = y) ∨ (j ≠ i ∧ es[j]? = some x) := by
  by_cases hij : i = j
  · subst hij
    rw [List.getElem?_set_self' ] at h
    cases hh : es[i]? <;> simp [hh] at h
    exact .inl ⟨rfl, h.symm⟩
  · rw [List.getElem?_set_ne hij] at h
    exact .inr ⟨fun e => hij e.symm, h⟩

section
variable {cz : TypeId → Nat} {w : World} {F : Nat → Prop}

/-- A part is taken out of a value that lies in memory: what is left has a hole. -/
theorem Rep.takeM : ∀ (p : List Nat) (x : V) (b0 o0 : Nat) (cs : List Value) (O : Nat → Prop), Rep cz w F x cs O → Cells w b0 o0 cs → x.okp p →
    ∃ b o cy Oy, locM cz w p x b0 o0 = some (b, o) ∧ Cells w b o cy ∧ Rep cz w F (x.at p) cy Oy ∧ (∀ z, Oy z → O z) ∧
      Rep cz w F (x.upd p (.hole (x.at p).size)) cs (fun z => O z ∧ ¬ Oy z) ∧ ((b = b0 ∧ o0 ≤ o ∧ o + (x.at p).size ≤ o0 + x.size) ∨ (O b ∧ ¬ Oy b))
  | [], x, b0, o0, cs, O, h, hc, _ => ⟨b0, o0, cs, O, rfl, hc, h, fun _ h => h, .hole _ _ _ h.length, .inl ⟨rfl, Nat.le_refl _, Nat.le_refl _⟩⟩
  | i :: p, x, b0, o0, cs, O, h, hc, hok => by
    cases h with
    | int => exact hok.1.elim
    | bool => exact hok.1.elim
    | str => exact hok.1.elim
    | hole => exact hok.1.elim
    | fz0 => have := hok.1; simp [V.hasKid] at this
    | fz => have := hok.1; simp [V.hasKid] at this
    | own0 => have := hok.1; simp [V.hasKid] at this
    | tup fs vs cs' Os O hn hOs hdis hv hr => exact hok.1.elim
    | fn => exact hok.1.elim
    | own e d es b len cap cur cs' Os O hb hsz hl hcap hm hO hOs hdis hcs hr =>
      have hlt : i < es.length := hok.1.2
      have hi := some_of_lt d hlt
      obtain ⟨b', o', cy, Oy, h1, h2, h3, h4, h5, h6⟩ := Rep.takeM p (es.getD i d) b (i * cz e) (cs' i) (Os i) (hr i _ hi) (hcs i hlt).2 hok.2
      refine ⟨b', o', cy, Oy, ?_, h2, h3, fun z hz => (hOs i z (h4 z hz)).1, ?_, .inr ?_⟩
      · simp only [locM]
        have hh := hc 0 _ rfl
        simp only [Nat.add_zero] at hh
        rw [hh]
        exact h1
      · simp only [V.upd, V.setKid, V.kid, V.at]
        refine .own e d _ b len cap cur cs' (fun j z => if j = i then Os i z ∧ ¬ Oy z else Os j z) _ hb hsz (by simpa using hl) (by simpa using hcap) hm ⟨hO, fun hz => (hOs i _ (h4 _ hz)).2 rfl⟩
          (fun j z hz => ?_) (fun j k z hjk hz => ?_) (fun j hj => hcs j (by simpa using hj)) (fun j y hy => ?_)
        · split at hz
          · exact ⟨⟨(hOs i z hz.1).1, hz.2⟩, (hOs i z hz.1).2⟩
          · rename_i hji
            exact ⟨⟨(hOs j z hz).1, fun hz' => hdis j i z hji hz (h4 z hz')⟩, (hOs j z hz).2⟩
        · split at hz
          · rename_i hji; subst hji
            rw [if_neg (Ne.symm hjk)]
            exact hdis j k z hjk hz.1
          · split
            · rename_i hji hki; subst hki
              exact fun hh => hdis j k z hjk hz hh.1
            · exact hdis j k z hjk hz
        · rcases V.set_some hy with ⟨rfl, rfl⟩ | ⟨hne, hy'⟩
          · simp only [if_true]; exact h5
          · simp only [hne, if_false]; exact hr j y hy'
      · rcases h6 with ⟨rfl, _, _⟩ | ⟨h6, h7⟩
        · exact ⟨hO, fun hz => (hOs i _ (h4 _ hz)).2 rfl⟩
        · exact ⟨(hOs i _ h6).1, h7⟩
    | agg fs cs Os O hn hOs hdis hr =>
      have hlt : i < fs.length := hok.1
      have hi := some_of_lt (.hole 0) hlt
      obtain ⟨b', o', cy, Oy, h1, h2, h3, h4, h5, h6⟩ := Rep.takeM p (fs.getD i (.hole 0)) b0 (o0 + V.offs fs i) _ (Os i) (hr i _ hi) (hc.part _ _) hok.2
      have hsz : ((fs.getD i (.hole 0)).upd p (.hole ((fs.getD i (.hole 0)).at p).size)).size = (fs.getD i (.hole 0)).size := V.size_upd p _ _ hok.2 rfl
      refine ⟨b', o', cy, Oy, h1, h2, h3, fun z hz => hOs i z (h4 z hz), ?_, ?_⟩
      · simp only [V.upd, V.setKid, V.kid, V.at]
        refine .agg _ cs (fun j z => if j = i then Os i z ∧ ¬ Oy z else Os j z) _ (by rw [V.sizes_set hi hsz]; exact hn) (fun j z hz => ?_) (fun j k z hjk hz => ?_) (fun j y hy => ?_)
        · split at hz
          · exact ⟨hOs i z hz.1, hz.2⟩
          · rename_i hji
            exact ⟨hOs j z hz, fun hz' => hdis j i z hji hz (h4 z hz')⟩
        · split at hz
          · rename_i hji; subst hji
            rw [if_neg (Ne.symm hjk)]
            exact hdis j k z hjk hz.1
          · split
            · rename_i hji hki; subst hki
              exact fun hh => hdis j k z hjk hz hh.1
            · exact hdis j k z hjk hz
        · rw [V.offs_set j hi hsz]
          rcases V.set_some hy with ⟨rfl, rfl⟩ | ⟨hne, hy'⟩
          · simp only [if_true]; rw [hsz]; exact h5
          · simp only [hne, if_false]; exact hr j y hy'
      · rcases h6 with ⟨rfl, h7, h8⟩ | ⟨h6, h7⟩
        · have := V.offs_succ_le hi
          refine .inl ⟨rfl, by omega, ?_⟩
          simp only [V.at, V.kid, V.size]
          omega
        · exact .inr ⟨hOs i _ h6, h7⟩
    | box e c b cur cs' Oc O hb hcs hO hOs hr =>
      have hcells : Cells w b 0 cs' := by
        intro j v hj
        subst hcs
        simp at hj
        simp [World.cell?, hb, hj]
      obtain ⟨b', o', cy, Oy, h1, h2, h3, h4, h5, h6⟩ := Rep.takeM p c b 0 cs' Oc hr hcells hok.2
      refine ⟨b', o', cy, Oy, ?_, h2, h3, fun z hz => (hOs z (h4 z hz)).1, ?_, .inr ?_⟩
      · simp only [locM]
        have hh := hc 0 _ rfl
        simp only [Nat.add_zero] at hh
        rw [hh]
        exact h1
      · simp only [V.upd, V.setKid, V.kid, V.at]
        exact .box e _ b cur cs' (fun z => Oc z ∧ ¬ Oy z) _ hb hcs ⟨hO, fun hz => (hOs _ (h4 _ hz)).2 rfl⟩ (fun z hz => ⟨⟨(hOs z hz.1).1, hz.2⟩, (hOs z hz.1).2⟩) h5
      · rcases h6 with ⟨rfl, _, _⟩ | ⟨h6, h7⟩
        · exact ⟨hO, fun hz => (hOs _ (h4 _ hz)).2 rfl⟩
        · exact ⟨(hOs _ h6).1, h7⟩

/-- Only n cells of block b, from o on, have turned. -/
structure Upd (w w' : World) (b o n : Nat) : Prop where
  other : ∀ k, k ≠ b → w'.heap[k]? = w.heap[k]?
  same : ∀ cur e fr, w.heap[b]? = some (.cells cur e fr) → ∃ cur', w'.heap[b]? = some (.cells cur' e fr) ∧ cur'.size = cur.size
  cell : ∀ j, j < o ∨ o + n ≤ j → w'.cell? ⟨b, j, none⟩ = w.cell? ⟨b, j, none⟩

theorem Upd.cells {w w' : World} {b o n b1 o1 : Nat} {cs : List Value} (h : Upd w w' b o n) (hc : Cells w b1 o1 cs) (hd : b1 ≠ b ∨ o1 + cs.length ≤ o ∨ o + n ≤ o1) : Cells w' b1 o1 cs := by
  by_cases hb : b1 = b
  · subst hb
    have hd' := hd.resolve_left (by simp)
    intro j v hj
    have hjl := (List.getElem?_eq_some_iff.1 hj).1
    rw [h.cell _ (by omega)]
    exact hc j v hj
  · exact hc.of_block (h.other _ hb)

theorem getElem?_mid {a c d : List Value} (j : Nat) : (a ++ c ++ d)[j]? = if j < a.length then a[j]? else if j < a.length + c.length then c[j - a.length]? else d[j - a.length - c.length]? := by
  rw [List.append_assoc, List.getElem?_append]
  split
  · rfl
  · rw [List.getElem?_append]
    by_cases h : j - a.length < c.length
    · rw [if_pos h, if_pos (by omega)]
    · rw [if_neg h, if_neg (by omega)]

variable {w' : World}

/-- A part is put in where a hole is. -/
theorem Rep.putM {b o : Nat} {y : V} {cy : List Value} {O' : Nat → Prop} (hy : Rep cz w' F y cy O') (hcy : Cells w' b o cy) (hF : ¬ F b) (hU : Upd w w' b o y.size) :
    ∀ (p : List Nat) (x : V) (b0 o0 : Nat) (cs : List Value) (O : Nat → Prop), Rep cz w F x cs O → Cells w b0 o0 cs → x.okp p → x.at p = .hole y.size → locM cz w p x b0 o0 = some (b, o) →
    (∀ z, O' z → ¬ O z) → ¬ O b0 → (∀ z, O' z → z ≠ b0) →
    ∃ cs', cs'.length = cs.length ∧ Cells w' b0 o0 cs' ∧ Rep cz w' F (x.upd p y) cs' (fun z => O z ∨ O' z) ∧ (b ≠ b0 → cs' = cs)
  | [], x, b0, o0, cs, O, h, hc, _, hat, hloc, _, _, _ => by
    simp only [locM, Option.some.injEq, Prod.mk.injEq] at hloc
    obtain ⟨rfl, rfl⟩ := hloc
    simp only [V.at] at hat
    subst hat
    refine ⟨cy, by rw [hy.length]; exact (h.length).symm, hcy, hy.mono (fun _ h => h) (fun _ h => .inr h), fun h => absurd rfl h⟩
  | i :: p, x, b0, o0, cs, O, h, hc, hok, hat, hloc, hdj, hb0, hO'b0 => by
    have hrange := Rep.takeM (i :: p) x b0 o0 cs O h hc hok
    have hbO : (b = b0 ∧ o0 ≤ o ∧ o + y.size ≤ o0 + x.size) ∨ O b := by
      obtain ⟨b1, o1, _, _, e1, _, _, _, _, e6⟩ := hrange
      rw [hloc] at e1
      simp only [Option.some.injEq, Prod.mk.injEq] at e1
      obtain ⟨rfl, rfl⟩ := e1
      rw [hat] at e6
      exact e6.imp id (fun h => h.1)
    clear hrange
    have hys : y.size = (x.at (i :: p)).size := by rw [hat]; rfl
    cases h with
    | int => exact hok.1.elim
    | bool => exact hok.1.elim
    | str => exact hok.1.elim
    | hole => exact hok.1.elim
    | fz0 => have := hok.1; simp [V.hasKid] at this
    | fz => have := hok.1; simp [V.hasKid] at this
    | own0 => have := hok.1; simp [V.hasKid] at this
    | tup fs vs cs' Os O hn hOs hdis hv hr => exact hok.1.elim
    | fn => exact hok.1.elim
    | own e d es b1 len cap cur cs' Os O hb hsz hl hcap hm hO hOs hdis hcs hr =>
      have hlt : i < es.length := hok.1.2
      have hi := some_of_lt d hlt
      have hbb0 : b ≠ b0 := by
        intro e
        subst e
        simp only [locM] at hloc
        have hh := hc 0 _ rfl
        simp only [Nat.add_zero] at hh
        rw [hh] at hloc
        dsimp only at hloc
        obtain ⟨b2, o2, _, _, e1, _, _, _, _, e6⟩ := Rep.takeM p (es.getD i d) b1 (i * cz e) (cs' i) (Os i) (hr i _ hi) (hcs i hlt).2 hok.2
        rw [hloc] at e1
        simp only [Option.some.injEq, Prod.mk.injEq] at e1
        obtain ⟨rfl, rfl⟩ := e1
        rcases e6 with ⟨rfl, _, _⟩ | ⟨h6, _⟩
        · exact hb0 hO
        · exact hb0 (hOs i _ h6).1
      simp only [locM] at hloc
      have hh := hc 0 _ rfl
      simp only [Nat.add_zero] at hh
      rw [hh] at hloc
      dsimp only at hloc
      have hkid : b = b1 ∧ i * cz e ≤ o ∧ o + y.size ≤ i * cz e + (es.getD i d).size ∨ Os i b := by
        obtain ⟨b2, o2, _, _, e1, _, _, _, _, e6⟩ := Rep.takeM p (es.getD i d) b1 (i * cz e) (cs' i) (Os i) (hr i _ hi) (hcs i hlt).2 hok.2
        rw [hloc] at e1
        simp only [Option.some.injEq, Prod.mk.injEq] at e1
        obtain ⟨rfl, rfl⟩ := e1
        have : y.size = ((es.getD i d).at p).size := hys
        rw [← this] at e6
        exact e6.imp id (fun h => h.1)
      obtain ⟨ci, g1, g2, g3, _⟩ := Rep.putM hy hcy hF hU p (es.getD i d) b1 (i * cz e) (cs' i) (Os i) (hr i _ hi) (hcs i hlt).2 hok.2 hat hloc
        (fun z hz hz' => hdj z hz (hOs i z hz').1) (fun hz => (hOs i _ hz).2 rfl) (fun z hz e => by subst e; exact hdj _ hz hO)
      have hszi : (es.getD i d).size = cz e := by rw [← (hr i _ hi).length]; exact (hcs i hlt).1
      refine ⟨_, rfl, hU.cells hc (.inl (fun e => hbb0 e.symm)), ?_, fun _ => rfl⟩
      have hblk : ∃ cur', w'.heap[b1]? = some (.cells cur' e (0, 0)) ∧ cur'.size = cur.size := by
        by_cases hbb : b1 = b
        · subst hbb; exact hU.same cur e (0, 0) hb
        · exact ⟨cur, (hU.other _ hbb).trans hb, rfl⟩
      obtain ⟨cur', hb', hsz'⟩ := hblk
      simp only [V.upd, V.setKid, V.kid]
      refine .own e d _ b1 len cap cur' (fun j => if j = i then ci else cs' j) (fun j z => if j = i then Os i z ∨ O' z else Os j z) _ hb' (hsz'.trans hsz) (by simpa using hl) (by simpa using hcap) hm (.inl hO)
        (fun j z hz => ?_) (fun j k z hjk hz => ?_) (fun j hj => ?_) (fun j z hz => ?_)
      · split at hz
        · rcases hz with hz | hz
          · exact ⟨.inl (hOs i z hz).1, (hOs i z hz).2⟩
          · exact ⟨.inr hz, fun e => by subst e; exact hdj _ hz hO⟩
        · exact ⟨.inl (hOs j z hz).1, (hOs j z hz).2⟩
      · split at hz
        · rename_i hji; subst hji
          rw [if_neg (Ne.symm hjk)]
          rcases hz with hz | hz
          · exact hdis j k z hjk hz
          · exact fun hz' => hdj z hz (hOs k z hz').1
        · split
          · rename_i hji hki; subst hki
            exact fun hh => hh.elim (hdis j k z hjk hz) (fun hh => hdj z hh (hOs j z hz).1)
          · exact hdis j k z hjk hz
      · have hj' : j < es.length := by simpa using hj
        split
        · rename_i hji; subst hji
          exact ⟨g1.trans (hcs j hlt).1, g2⟩
        · rename_i hji
          refine ⟨(hcs j hj').1, hU.cells (hcs j hj').2 ?_⟩
          rcases hkid with ⟨rfl, k1, k2⟩ | hk
          · right
            rw [(hcs j hj').1]
            rw [hszi] at k2
            rcases Nat.lt_or_gt_of_ne hji with hlt' | hgt
            · left
              have : (j + 1) * cz e ≤ i * cz e := Nat.mul_le_mul_right _ hlt'
              rw [Nat.add_mul] at this
              omega
            · right
              have : (i + 1) * cz e ≤ j * cz e := Nat.mul_le_mul_right _ hgt
              rw [Nat.add_mul] at this
              omega
          · exact .inl (fun e => by subst e; exact (hOs i _ hk).2 rfl)
      · rcases V.set_some hz with ⟨rfl, rfl⟩ | ⟨hne, hz'⟩
        · simp only [if_true]; exact g3
        · simp only [hne, if_false]
          refine (hr j z hz').world (fun k hk => hU.other k ?_)
          rintro rfl
          rcases hk with hk | hk
          · exact hF hk
          · rcases hkid with ⟨rfl, _, _⟩ | hk'
            · exact (hOs j _ hk).2 rfl
            · exact hdis j i _ hne hk hk'
    | agg fs cs Os O hn hOs hdis hr =>
      have hlt : i < fs.length := hok.1
      have hi := some_of_lt (.hole 0) hlt
      have hkid : b = b0 ∧ o0 + V.offs fs i ≤ o ∧ o + y.size ≤ o0 + V.offs fs i + (fs.getD i (.hole 0)).size ∨ Os i b := by
        obtain ⟨b2, o2, _, _, e1, _, _, _, _, e6⟩ := Rep.takeM p (fs.getD i (.hole 0)) b0 (o0 + V.offs fs i) _ (Os i) (hr i _ hi) (hc.part _ _) hok.2
        simp only [locM] at hloc
        rw [hloc] at e1
        simp only [Option.some.injEq, Prod.mk.injEq] at e1
        obtain ⟨rfl, rfl⟩ := e1
        have : y.size = ((fs.getD i (.hole 0)).at p).size := hys
        rw [← this] at e6
        exact e6.imp id (fun h => h.1)
      obtain ⟨ci, g1, g2, g3, g4⟩ := Rep.putM hy hcy hF hU p (fs.getD i (.hole 0)) b0 (o0 + V.offs fs i) _ (Os i) (hr i _ hi) (hc.part _ _) hok.2 hat hloc
        (fun z hz hz' => hdj z hz (hOs i z hz')) (fun hz => hb0 (hOs i _ hz)) hO'b0
      have hsz : ((fs.getD i (.hole 0)).upd p y).size = (fs.getD i (.hole 0)).size := V.size_upd p _ _ hok.2 hys
      have hle := V.offs_succ_le hi
      have hcl : ci.length = (fs.getD i (.hole 0)).size := by rw [g1, (hr i _ hi).length]
      have htl : (cs.take (V.offs fs i)).length = V.offs fs i := by simp; omega
      refine ⟨cs.take (V.offs fs i) ++ ci ++ cs.drop (V.offs fs i + (fs.getD i (.hole 0)).size), by simp only [List.length_append, List.length_take, List.length_drop, hcl]; omega, ?_, ?_, fun hbb => ?_⟩
      · intro j v hj
        rw [getElem?_mid, htl, hcl] at hj
        split at hj
        · rename_i hj1
          rw [List.getElem?_take, if_pos hj1] at hj
          rw [show w'.cell? ⟨b0, o0 + j, none⟩ = w.cell? ⟨b0, o0 + j, none⟩ from ?_]
          · exact hc j v hj
          · by_cases hbb : b0 = b
            · subst hbb
              rcases hkid with ⟨_, k1, _⟩ | hk
              · exact hU.cell _ (by omega)
              · exact absurd (hOs i _ hk) hb0
            · exact World.cell?_of_block (hU.other _ hbb)
        · split at hj
          · rename_i hj1 hj2
            have := g2 _ v hj
            rwa [show o0 + V.offs fs i + (j - V.offs fs i) = o0 + j from by omega] at this
          · rename_i hj1 hj2
            rw [List.getElem?_drop] at hj
            rw [show V.offs fs i + (fs.getD i (.hole 0)).size + (j - V.offs fs i - (fs.getD i (.hole 0)).size) = j from by omega] at hj
            rw [show w'.cell? ⟨b0, o0 + j, none⟩ = w.cell? ⟨b0, o0 + j, none⟩ from ?_]
            · exact hc j v hj
            · by_cases hbb : b0 = b
              · subst hbb
                rcases hkid with ⟨_, _, k1⟩ | hk
                · exact hU.cell _ (by omega)
                · exact absurd (hOs i _ hk) hb0
              · exact World.cell?_of_block (hU.other _ hbb)
      · simp only [V.upd, V.setKid, V.kid]
        refine .agg _ _ (fun j z => if j = i then Os i z ∨ O' z else Os j z) _ (by rw [V.sizes_set hi hsz]; simp only [List.length_append, List.length_take, List.length_drop, hcl]; omega) (fun j z hz => ?_) (fun j k z hjk hz => ?_) (fun j z hz => ?_)
        · split at hz
          · exact hz.imp (hOs i z) id
          · exact .inl (hOs j z hz)
        · split at hz
          · rename_i hji; subst hji
            rw [if_neg (Ne.symm hjk)]
            rcases hz with hz | hz
            · exact hdis j k z hjk hz
            · exact fun hz' => hdj z hz (hOs k z hz')
          · split
            · rename_i hji hki; subst hki
              exact fun hh => hh.elim (hdis j k z hjk hz) (fun hh => hdj z hh (hOs j z hz))
            · exact hdis j k z hjk hz
        · rw [V.offs_set j hi hsz]
          rcases V.set_some hz with ⟨rfl, rfl⟩ | ⟨hne, hz'⟩
          · simp only [if_true]
            rw [hsz, List.append_assoc, List.drop_append_of_le_length (by rw [htl]; exact Nat.le_refl _), List.drop_of_length_le (by rw [htl]; exact Nat.le_refl _), List.nil_append, List.take_append_of_le_length (by rw [hcl]; exact Nat.le_refl _),
              List.take_of_length_le (by rw [hcl]; exact Nat.le_refl _)]
            exact g3
          · simp only [hne, if_false]
            have hseg : List.take z.size (List.drop (V.offs fs j) (cs.take (V.offs fs i) ++ ci ++ cs.drop (V.offs fs i + (fs.getD i (.hole 0)).size))) = List.take z.size (List.drop (V.offs fs j) cs) := by
              apply List.ext_getElem?
              intro k
              rw [List.getElem?_take, List.getElem?_take]
              split
              · rename_i hk
                rw [List.getElem?_drop, List.getElem?_drop, getElem?_mid, htl, hcl]
                rcases Nat.lt_or_gt_of_ne hne with hlt' | hgt
                · have := V.offs_sep hz' hlt'
                  rw [if_pos (by omega), List.getElem?_take, if_pos (by omega)]
                · have := V.offs_sep hi hgt
                  rw [if_neg (by omega), if_neg (by omega), List.getElem?_drop]
                  congr 1
                  omega
              · rfl
            rw [hseg]
            refine (hr j z hz').world (fun k hk => hU.other k ?_)
            rintro rfl
            rcases hk with hk | hk
            · exact hF hk
            · rcases hkid with ⟨rfl, _, _⟩ | hk'
              · exact hb0 (hOs j _ hk)
              · exact hdis j i _ hne hk hk'
      · have := g4 hbb
        rw [this]
        apply List.ext_getElem?
        intro k
        rw [getElem?_mid]
        have hl2 : (List.take (fs.getD i (V.hole 0)).size (List.drop (V.offs fs i) cs)).length = (fs.getD i (V.hole 0)).size := by simp only [List.length_take, List.length_drop]; omega
        rw [htl, hl2]
        split
        · rw [List.getElem?_take, if_pos (by assumption)]
        · split
          · rw [List.getElem?_take, if_pos (by omega), List.getElem?_drop]; congr 1; omega
          · rw [List.getElem?_drop]; congr 1; omega
    | box e c b1 cur cs' Oc O hb hcs hO hOs hr =>
      have hcells : Cells w b1 0 cs' := by
        intro j v hj
        subst hcs
        simp at hj
        simp [World.cell?, hb, hj]
      have hh := hc 0 _ rfl
      simp only [Nat.add_zero] at hh
      simp only [locM] at hloc
      rw [hh] at hloc
      dsimp only at hloc
      have hkid : b = b1 ∨ Oc b := by
        obtain ⟨b2, o2, _, _, e1, _, _, _, _, e6⟩ := Rep.takeM p c b1 0 cs' Oc hr hcells hok.2
        rw [hloc] at e1
        simp only [Option.some.injEq, Prod.mk.injEq] at e1
        obtain ⟨rfl, rfl⟩ := e1
        exact e6.imp (fun h => h.1) (fun h => h.1)
      have hbb0 : b ≠ b0 := by
        rintro rfl
        rcases hkid with rfl | hk
        · exact hb0 hO
        · exact hb0 (hOs _ hk).1
      obtain ⟨ci, g1, g2, g3, _⟩ := Rep.putM hy hcy hF hU p c b1 0 cs' Oc hr hcells hok.2 hat hloc
        (fun z hz hz' => hdj z hz (hOs z hz').1) (fun hz => (hOs _ hz).2 rfl) (fun z hz e => by subst e; exact hdj _ hz hO)
      refine ⟨_, rfl, hU.cells hc (.inl (fun e => hbb0 e.symm)), ?_, fun _ => rfl⟩
      have hblk : ∃ cur', w'.heap[b1]? = some (.cells cur' e (0, 0)) ∧ cur'.size = cur.size := by
        by_cases hbb : b1 = b
        · subst hbb; exact hU.same cur e (0, 0) hb
        · exact ⟨cur, (hU.other _ hbb).trans hb, rfl⟩
      obtain ⟨cur', hb', hsz'⟩ := hblk
      have hcur : cur'.toList = ci := by
        apply List.ext_getElem?
        intro j
        have hjn : ci.length = cur'.size := by rw [g1, ← hcs, hsz']; simp
        by_cases hj : j < ci.length
        · have h1 := g2 j ci[j] (List.getElem?_eq_getElem hj)
          simp only [Nat.zero_add, World.cell?, hb'] at h1
          rw [List.getElem?_eq_getElem hj, ← h1]
          simp
        · rw [List.getElem?_eq_none (by simp; omega), List.getElem?_eq_none (by omega)]
      simp only [V.upd, V.setKid, V.kid]
      exact .box e _ b1 cur' ci (fun z => Oc z ∨ O' z) _ hb' hcur (.inl hO)
        (fun z hz => hz.elim (fun hz => ⟨.inl (hOs z hz).1, (hOs z hz).2⟩) (fun hz => ⟨.inr hz, fun e => by subst e; exact hdj _ hz hO⟩)) g3
end
end Go.Ax
