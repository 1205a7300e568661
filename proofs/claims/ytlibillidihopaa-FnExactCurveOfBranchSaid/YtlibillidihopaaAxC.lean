/-
  AX, part C: abstract environments, and what they say of a frame's registers and a world ('Inv').
-/
import Derived.Test.YtlibillidihopaaAxB
import Derived.Calls
namespace Go.Ax

/-- does its single cell bear an address of memory of the frame's own -/
def V.isH : V → Bool
  | .slc o _ _ _ => o
  | .box _ _ => true
  | _ => false

def isHdr : Value → Bool
  | .slice _ _ _ => true
  | .pointer _ => true
  | _ => false

/-- what a register holds: a value; a header that lies at a path of slot s; the address of a part of slot s; the address of frozen memory that holds x; a struct x whose own parts are those at a path of slot s -/
inductive A where
  | val (x : V)
  | rf (s ver : Nat) (p : List Nat)
  | ad (s ver : Nat) (p : List Nat)
  | fz (x : V)
  | ag (s ver : Nat) (p : List Nat) (fs : List V)
  deriving Inhabited

def A.refs : A → Option (Nat × Nat)
  | .rf s v _ => some (s, v)
  | .ad s v _ => some (s, v)
  | .ag s v _ _ => some (s, v)
  | _ => none

/-- a slot's entry: it holds 'a' where 'g' is true; where it is false, and u is true, the register is undefined -/
structure E where
  g : Bool
  u : Bool
  ver : Nat
  a : A
  deriving Inhabited

abbrev Env := Nat → E

def Env.put (σ : Env) (d : Nat) (g : Bool) (x : A) : Env := fun t => if t = d then ⟨g, true, (σ d).ver + 1, x⟩ else σ t
def Env.drp (σ : Env) (d : Nat) : Env := fun t => if t = d then ⟨false, false, (σ d).ver + 1, .val (.hole 0)⟩ else σ t
/-- the same version: what lies at other paths stays -/
def Env.mod (σ : Env) (d : Nat) (x : V) : Env := fun t => if t = d then ⟨(σ d).g, (σ d).u, (σ d).ver, .val x⟩ else σ t

/-- what slot s owns at this version -/
def Env.own (σ : Env) (s ver : Nat) : Option V :=
  if (σ s).g = true ∧ (σ s).ver = ver then (match (σ s).a with | .val x => if x.owned then some x else none | _ => none) else none

theorem Env.own_iff' {σ : Env} {s ver : Nat} {x : V} : σ.own s ver = some x ↔ (σ s).g = true ∧ (σ s).ver = ver ∧ (σ s).a = .val x ∧ x.owned = true := by
  unfold Env.own
  split
  · rename_i h
    cases ha : (σ s).a <;> simp_all
    constructor
    · rintro ⟨h1, rfl⟩; exact ⟨rfl, h1⟩
    · rintro ⟨rfl, h1⟩; exact ⟨h1, rfl⟩
  · rename_i h
    simp
    intro h1 h2
    exact absurd ⟨h1, h2⟩ h

theorem Env.own_elim {σ : Env} {s ver : Nat} {x : V} (h : σ.own s ver = some x) : (σ s).g = true ∧ (σ s).ver = ver ∧ (σ s).a = .val x :=
  let ⟨h1, h2, h3, _⟩ := Env.own_iff'.1 h; ⟨h1, h2, h3⟩

section
variable (cz : TypeId → Nat) (w : World)

def hdrV : List Nat → V → Value → Option Value
  | [], _, v => some v
  | [i], .tup _, .tuple vs => some (vs.getD i undef)
  | p, x, v => if (x.at p).isH then (locV cz w p x v).bind fun a => w.cell? ⟨a.1, a.2, none⟩ else none
end

/-- a struct in a register whose own parts lie elsewhere -/
inductive Cp (H : List Nat → Value → Prop) (R : V → List Value → Prop) : V → List Nat → List Value → Prop
  | val (x : V) (p : List Nat) (c : List Value) (hx : x.owned = false) (h : R x c) (hl : c.length = x.size) : Cp H R x p c
  | hd (x : V) (p : List Nat) (h : Value) (hx : x.isH = true) (hp : H p h) : Cp H R x p [h]
  | agg (fs : List V) (p : List Nat) (c : List Value) (hn : c.length = V.sizes fs)
      (h : ∀ i y, fs[i]? = some y → Cp H R y (p ++ [i]) ((c.drop (V.offs fs i)).take y.size)) : Cp H R (.agg fs) p c

theorem Cp.mono {H H' : List Nat → Value → Prop} {R R' : V → List Value → Prop} {x : V} {p : List Nat} {c : List Value} (h : Cp H R x p c) (hH : ∀ p h, H p h → H' p h) (hR : ∀ x c, R x c → R' x c) :
    Cp H' R' x p c := by
  induction h with
  | val x p c hx h hl => exact .val x p c hx (hR _ _ h) hl
  | hd x p h hx hp => exact .hd x p h hx (hH _ _ hp)
  | agg fs p c hn h ih => exact .agg fs p c hn ih

/-- what an entry says of the register's value -/
def Holds (cz : TypeId → Nat) (w : World) (F : Nat → Prop) (σ : Env) (tmps : Array Value) : A → Value → Prop
  | .val x, v => ∃ cs, x.reg cs v ∧ Rep cz w F x cs (fun _ => False)
  | .rf s ver p, v => ∀ x h, σ.own s ver = some x → x.okv p → hdrV cz w p x (tmps.getD s undef) = some h → v = h
  | .ad s ver p, v => ∀ x b o, σ.own s ver = some x → x.okp p → locV cz w p x (tmps.getD s undef) = some (b, o) → v = .pointer (some ⟨b, o, none⟩)
  | .fz x, v => ∃ b o cs, v = .pointer (some ⟨b, o, none⟩) ∧ F b ∧ Cells w b o cs ∧ Rep cz w F x cs (fun _ => False)
  | .ag s ver p fs, v => ∃ cs, v = .agg cs.toArray ∧
      Cp (fun q h => ∀ r h', σ.own s ver = some r → r.okv q → hdrV cz w q r (tmps.getD s undef) = some h' → h' = h) (fun y c => Rep cz w F y c (fun _ => False)) (.agg fs) p cs

/-- the frame of a call: the world and the number of blocks as it began; X: blocks that came in to be written; F0: blocks that came in to be read -/
structure Ctx where
  P : Program
  Φ : FuncId → List V → Option (Prop × V × List V)
  w0 : World
  X : Nat → Prop
  F0 : Nat → Prop
  nt : Nat
  /-- what is asked of calls that write into one argument: which one; the result, and what the argument reads as then -/
  Ψ : FuncId → Option (Nat × (List V → Option (Prop × V × V)))
  /-- registers below lo are never written -/
  lo : Nat
  t0 : Array Value
  /-- headers in what came in stay -/
  st : Bool

/-- a register that is written -/
def Ctx.dst (C : Ctx) (d : Nat) : Prop := C.lo ≤ d ∧ d < C.nt
instance (C : Ctx) (d : Nat) : Decidable (C.dst d) := inferInstanceAs (Decidable (_ ∧ _))

abbrev Ctx.cz (C : Ctx) : TypeId → Nat := C.P.cellsOf

structure Inv (C : Ctx) (F : Nat → Prop) (O : Nat → Nat → Prop) (Z : Nat → Prop) (σ : Env) (a : Act) (w : World) : Prop where
  slot : ∀ t, (σ t).g = true → t < a.tmps.size ∧ (∀ x, (σ t).a = .val x → ∃ cs, x.reg cs (a.tmps.getD t undef) ∧ Rep C.cz w F x cs (O t)) ∧
    ((∀ x, (σ t).a ≠ .val x) → Holds C.cz w F σ a.tmps (σ t).a (a.tmps.getD t undef))
  oo : ∀ s t b, s ≠ t → O s b → ¬ O t b
  of : ∀ s b, O s b → ¬ F b
  oz : ∀ s b, O s b → ¬ Z b
  zf : ∀ b, Z b → ¬ F b
  olt : ∀ s b, O s b → b < w.heap.size
  zlt : ∀ b, Z b → b < w.heap.size
  flt : ∀ b, F b → b < w.heap.size
  ofr : ∀ s b, O s b → C.w0.heap.size ≤ b ∨ C.X b
  zfr : ∀ b, Z b → C.w0.heap.size ≤ b ∨ C.X b
  f0 : ∀ b, C.F0 b → F b
  ffr : ∀ b, F b → C.F0 b ∨ C.w0.heap.size ≤ b
  old : ∀ k, k < C.w0.heap.size → ¬ C.X k → w.heap[k]? = C.w0.heap[k]?
  size : C.w0.heap.size ≤ w.heap.size
  os : w.os = C.w0.os
  tape : w.tape = C.w0.tape
  output : w.output = C.w0.output
  defers : a.defers = []
  wf : ∀ t s ver, (σ t).a.refs = some (s, ver) → ver ≤ (σ s).ver
  und : ∀ t, (σ t).g = false → (σ t).u = true → a.tmps.getD t undef = undef
  ts : a.tmps.size = C.nt
  kp : ∀ t, t < C.lo → a.tmps.getD t undef = C.t0.getD t undef
  hx : C.st = true → ∀ b off u, C.X b → isHdr u = true → C.w0.cell? ⟨b, off, none⟩ = some u → w.cell? ⟨b, off, none⟩ = some u

/-! ### where parts lie, from world to world -/
section
variable {cz : TypeId → Nat} {w w' : World} {F : Nat → Prop}

theorem locM_mem : ∀ (p : List Nat) (x : V) (b0 o0 : Nat) (cs : List Value) (O : Nat → Prop), Rep cz w F x cs O → Cells w b0 o0 cs → x.okp p →
    (∀ k off h, (O k ∨ k = b0) → isHdr h = true → w.cell? ⟨k, off, none⟩ = some h → w'.cell? ⟨k, off, none⟩ = some h) → locM cz w' p x b0 o0 = locM cz w p x b0 o0
  | [], x, b0, o0, cs, O, _, _, _, _ => rfl
  | i :: p, x, b0, o0, cs, O, h, hc, hok, H => by
    cases h with
    | int => exact hok.1.elim
    | bool => exact hok.1.elim
    | str => exact hok.1.elim
    | hole => exact hok.1.elim
    | fz0 => have := hok.1; simp [V.hasKid] at this
    | fz => have := hok.1; simp [V.hasKid] at this
    | own0 => have := hok.1; simp [V.hasKid] at this
    | tup => exact hok.1.elim
    | fn => exact hok.1.elim
    | own e d es b1 len cap cur cs' Os O hb hsz hl hcap hm hO hOs hdis hcs hr =>
      have hlt : i < es.length := hok.1.2
      have hh := hc 0 _ rfl
      simp only [Nat.add_zero] at hh
      simp only [locM]
      rw [hh, H b0 o0 _ (.inr rfl) rfl hh]
      dsimp only
      exact locM_mem p (es.getD i d) b1 (i * cz e) (cs' i) (Os i) (hr i _ (some_of_lt d hlt)) (hcs i hlt).2 hok.2
        (fun k off h hk => H k off h (.inl (hk.elim (fun hk => (hOs i k hk).1) (fun hk => by subst hk; exact hO))))
    | agg fs cs Os O hn hOs hdis hr =>
      have hlt : i < fs.length := hok.1
      simp only [locM]
      exact locM_mem p _ b0 _ _ (Os i) (hr i _ (some_of_lt (.hole 0) hlt)) (hc.part _ _) hok.2 (fun k off h hk => H k off h (hk.imp (fun hk => hOs i k hk) id))
    | box e c b1 cur cs' Oc O hb hcs hO hOs hr =>
      have hcells : Cells w b1 0 cs' := by
        intro j v hj
        subst hcs
        simp at hj
        simp [World.cell?, hb, hj]
      have hh := hc 0 _ rfl
      simp only [Nat.add_zero] at hh
      simp only [locM]
      rw [hh, H b0 o0 _ (.inr rfl) rfl hh]
      dsimp only
      exact locM_mem p c b1 0 cs' Oc hr hcells hok.2 (fun k off h hk => H k off h (.inl (hk.elim (fun hk => (hOs k hk).1) (fun hk => by subst hk; exact hO))))

theorem locV_mem {p : List Nat} {x : V} {cs : List Value} {O : Nat → Prop} {v : Value} (h : Rep cz w F x cs O) (hv : x.reg cs v) (hok : x.okp p)
    (H : ∀ k off h, O k → isHdr h = true → w.cell? ⟨k, off, none⟩ = some h → w'.cell? ⟨k, off, none⟩ = some h) : locV cz w' p x v = locV cz w p x v := by
  cases p with
  | nil => simp [locV]
  | cons i p =>
    cases h with
    | int => exact hok.1.elim
    | bool => exact hok.1.elim
    | str => exact hok.1.elim
    | hole => exact hok.1.elim
    | fz0 => have := hok.1; simp [V.hasKid] at this
    | fz => have := hok.1; simp [V.hasKid] at this
    | own0 => have := hok.1; simp [V.hasKid] at this
    | tup => exact hok.1.elim
    | fn => exact hok.1.elim
    | own e d es b1 len cap cur cs' Os O hb hsz hl hcap hm hO hOs hdis hcs hr =>
      have hlt : i < es.length := hok.1.2
      have hv' : v = .slice (some ⟨b1, 0, none⟩) len cap := hv
      subst hv'
      simp only [locV]
      exact locM_mem p (es.getD i d) b1 (i * cz e) (cs' i) (Os i) (hr i _ (some_of_lt d hlt)) (hcs i hlt).2 hok.2
        (fun k off h hk => H k off h (hk.elim (fun hk => (hOs i k hk).1) (fun hk => by subst hk; exact hO)))
    | agg fs cs Os O hn hOs hdis hr => simp [locV]
    | box e c b1 cur cs' Oc O hb hcs hO hOs hr =>
      have hcells : Cells w b1 0 cs' := by
        intro j v hj
        subst hcs
        simp at hj
        simp [World.cell?, hb, hj]
      have hv' : v = .pointer (some ⟨b1, 0, none⟩) := hv
      subst hv'
      simp only [locV]
      exact locM_mem p c b1 0 cs' Oc hr hcells hok.2 (fun k off h hk => H k off h (hk.elim (fun hk => (hOs k hk).1) (fun hk => by subst hk; exact hO)))

/-- the header at a path: it lies in a block of the value's own, and it is a header -/
theorem Rep.takeV {p : List Nat} {x : V} {cs : List Value} {O : Nat → Prop} {v : Value} (h : Rep cz w F x cs O) (hv : x.reg cs v) (hok : x.okp p) (hp : p ≠ []) (hna : ∀ fs, x ≠ .agg fs) :
    ∃ b o cy Oy, locV cz w p x v = some (b, o) ∧ Cells w b o cy ∧ Rep cz w F (x.at p) cy Oy ∧ (∀ z, Oy z → O z) ∧ O b ∧ ¬ Oy b ∧
      (∀ n, n = (x.at p).size → Rep cz w F (x.upd p (.hole n)) cs (fun z => O z ∧ ¬ Oy z) ∧ (x.upd p (.hole n)).reg cs v) := by
  cases p with
  | nil => exact absurd rfl hp
  | cons i p =>
    cases h with
    | int => exact hok.1.elim
    | bool => exact hok.1.elim
    | str => exact hok.1.elim
    | hole => exact hok.1.elim
    | fz0 => have := hok.1; simp [V.hasKid] at this
    | fz => have := hok.1; simp [V.hasKid] at this
    | own0 => have := hok.1; simp [V.hasKid] at this
    | tup => exact hok.1.elim
    | fn => exact hok.1.elim
    | agg fs => exact absurd rfl (hna fs)
    | own e d es b1 len cap cur cs' Os O hb hsz hl hcap hm hO hOs hdis hcs hr =>
      have hlt : i < es.length := hok.1.2
      have hv' : v = .slice (some ⟨b1, 0, none⟩) len cap := hv
      subst hv'
      obtain ⟨b', o', cy, Oy, h1, h2, h3, h4, h5, h6⟩ := Rep.takeM p (es.getD i d) b1 (i * cz e) (cs' i) (Os i) (hr i _ (some_of_lt d hlt)) (hcs i hlt).2 hok.2
      refine ⟨b', o', cy, Oy, by simp only [locV]; exact h1, h2, h3, fun z hz => (hOs i z (h4 z hz)).1, ?_, ?_, ?_⟩
      · rcases h6 with ⟨rfl, _, _⟩ | ⟨h6, _⟩
        · exact hO
        · exact (hOs i _ h6).1
      · rcases h6 with ⟨rfl, _, _⟩ | ⟨_, h7⟩
        · exact fun hz => (hOs i _ (h4 _ hz)).2 rfl
        · exact h7
      · rintro n rfl
        refine ⟨?_, rfl⟩
        simp only [V.upd, V.setKid, V.kid, V.at]
        refine .own e d _ b1 len cap cur cs' (fun j z => if j = i then Os i z ∧ ¬ Oy z else Os j z) _ hb hsz (by simpa using hl) (by simpa using hcap) hm ⟨hO, fun hz => (hOs i _ (h4 _ hz)).2 rfl⟩
          (fun j z hz => ?_) (fun j k z hjk hz => ?_) (fun j hj => hcs j (by simpa using hj)) (fun j y hy => ?_)
        · split at hz
          · exact ⟨⟨(hOs i z hz.1).1, hz.2⟩, (hOs i z hz.1).2⟩
          · rename_i hji
            exact ⟨⟨(hOs j z hz).1, fun hz' => hdis j i z hji hz (h4 z hz')⟩, (hOs j z hz).2⟩
        · split at hz
          · rename_i hji; subst hji
            rw [if_neg (Ne.symm hjk)]
            exact hdis j k z hjk hz.1
          · split
            · rename_i hji hki; subst hki
              exact fun hh => hdis j k z hjk hz hh.1
            · exact hdis j k z hjk hz
        · rcases V.set_some hy with ⟨rfl, rfl⟩ | ⟨hne, hy'⟩
          · simp only [if_true]; exact h5
          · simp only [hne, if_false]; exact hr j y hy'
    | box e c b1 cur cs' Oc O hb hcs hO hOs hr =>
      have hcells : Cells w b1 0 cs' := by
        intro j v hj
        subst hcs
        simp at hj
        simp [World.cell?, hb, hj]
      have hv' : v = .pointer (some ⟨b1, 0, none⟩) := hv
      subst hv'
      obtain ⟨b', o', cy, Oy, h1, h2, h3, h4, h5, h6⟩ := Rep.takeM p c b1 0 cs' Oc hr hcells hok.2
      refine ⟨b', o', cy, Oy, by simp only [locV]; exact h1, h2, h3, fun z hz => (hOs z (h4 z hz)).1, ?_, ?_, ?_⟩
      · rcases h6 with ⟨rfl, _, _⟩ | ⟨h6, _⟩
        · exact hO
        · exact (hOs _ h6).1
      · rcases h6 with ⟨rfl, _, _⟩ | ⟨_, h7⟩
        · exact fun hz => (hOs _ (h4 _ hz)).2 rfl
        · exact h7
      · rintro n rfl
        refine ⟨?_, rfl⟩
        simp only [V.upd, V.setKid, V.kid, V.at]
        exact .box e _ b1 cur cs' (fun z => Oc z ∧ ¬ Oy z) _ hb hcs ⟨hO, fun hz => (hOs _ (h4 _ hz)).2 rfl⟩ (fun z hz => ⟨⟨(hOs z hz.1).1, hz.2⟩, (hOs z hz.1).2⟩) h5
end
end Go.Ax
