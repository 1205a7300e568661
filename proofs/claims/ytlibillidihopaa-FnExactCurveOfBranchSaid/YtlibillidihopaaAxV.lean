/-
  AX, part V: the second level: states as lists, values with a skeleton by their static types, leaves through an algebra.
-/
import Derived.Test.YtlibillidihopaaAxUA
namespace Go.Ax

/-! ### the table of types -/

inductive TK where
  | int (k : IntKind)
  | bool
  | str
  | slc (e : TypeId)
  | agg (fs : List (Nat × TypeId))
  | oth
  deriving Inhabited

structure TI where
  k : TK
  cells : Nat
  zero : V
  deriving Inhabited

abbrev Tab := List (Nat × TI)

def tget : Tab → Nat → Option TI
  | [], _ => none
  | (k, ti) :: l, t => match Nat.beq k t with
    | true => some ti
    | false => tget l t

def tcells (T : Tab) (t : TypeId) : Nat := match tget T t with
  | some ti => ti.cells
  | none => 0

/-! ### the leaves -/

/-- what a value's leaves are -/
structure Lv where
  toI : V → Int
  toB : V → Bool
  toS : V → ByteArray
  toL : V → List V
  fld : V → Nat → V

/-- The operations on leaves. 'std' is the true one; a variable in its place is what no evaluation looks into. -/
structure Alg where
  v : Lv
  wrap : IntKind → Int → Int
  add : Int → Int → Int
  sub : Int → Int → Int
  mul : Int → Int → Int
  quo : Int → Int → Int
  rem : Int → Int → Int
  imin : Int → Int → Int
  imax : Int → Int → Int
  eqI : Int → Int → Bool
  leI : Int → Int → Bool
  ltI : Int → Int → Bool
  eqB : Bool → Bool → Bool
  not : Bool → Bool
  and : Bool → Bool → Bool
  pick : Bool → Bool → Bool → Bool
  eqS : ByteArray → ByteArray → Bool
  ltS : ByteArray → ByteArray → Bool
  appS : ByteArray → ByteArray → ByteArray
  lenS : ByteArray → Int
  getS : ByteArray → Int → Int
  extS : ByteArray → Int → Int → ByteArray
  len : List V → Int
  get : List V → Nat → V → V
  set : List V → Nat → V → List V
  app : List V → List V → List V
  sli : List V → Int → Int → List V
  rep : Int → V → List V
  frz : List V → List V
  nat : Int → Nat
  ltN : Nat → List V → Prop
  nofz : List V → Prop
  nown : List V → Prop
  emp : List V → Prop
  ok : Bool → TypeId → V → Prop
  solid : List V → Prop
  le : Int → Int → Prop
  lt : Int → Int → Prop
  ne0 : Int → Prop
  imp : Bool → Prop → Prop
  tt : Bool → Prop
  ifP : Bool → Prop → Prop → Prop

def V.toI : V → Int
  | .int _ n => n
  | _ => 0
def V.toB : V → Bool
  | .bool b => b
  | _ => false
def V.toS : V → ByteArray
  | .str s => s
  | _ => ByteArray.empty
def V.toL : V → List V
  | .slc _ _ _ es => es
  | _ => []
def V.fld : V → Nat → V
  | .agg fs, i => fs.getD i (.hole 0)
  | _, _ => .hole 0

/-- the ghost default of a slice of this type, as owned or as read -/
def vwD (o : Bool) (d : V) : V := match o with
  | true => d
  | false => d.frz

def nthV : List V → Nat → Option V
  | [], _ => none
  | x :: _, 0 => some x
  | _ :: l, i + 1 => nthV l i

section
variable (L : Lv) (T : Tab)

-- a value of a type, by its skeleton; n: fuel
mutual
def vw (o : Bool) : Nat → TypeId → V → Option V
  | 0, _, _ => none
  | n + 1, t, y => match tget T t with
    | some ⟨.int k, _, _⟩ => some (.int k (L.toI y))
    | some ⟨.bool, _, _⟩ => some (.bool (L.toB y))
    | some ⟨.str, _, _⟩ => some (.str (L.toS y))
    | some ⟨.slc e, _, .slc _ _ d _⟩ => some (.slc o e (vwD o d) (L.toL y))
    | some ⟨.agg fs, _, _⟩ => match vws o n fs 0 y with
      | some ys => some (.agg ys)
      | none => none
    | _ => none
def vws (o : Bool) : Nat → List (Nat × TypeId) → Nat → V → Option (List V)
  | _, [], _, _ => some []
  | 0, _ :: _, _, _ => none
  | n + 1, (_, t) :: fs, i, y => match vw o n t (L.fld y i) with
    | some v => match vws o n fs (i + 1) y with
      | some vs => some (v :: vs)
      | none => none
    | none => none
end

end

section
variable (L : Alg) (T : Tab)

/-! ### states -/

/-- slot, guard (none: without), what it holds; versions are 0 throughout -/
abbrev Sta := List (Nat × Option Bool × A)

def look : Sta → Nat → Option (Option Bool × A)
  | [], _ => none
  | (k, e) :: l, t => match Nat.beq k t with
    | true => some e
    | false => look l t

def A.at0 : A → Nat → Bool
  | .rf s _ _, d => Nat.beq s d
  | .ad s _ _, d => Nat.beq s d
  | .ag s _ _ _, d => Nat.beq s d
  | _, _ => false

/-- without slot d and what refers to it -/
def del (d : Nat) : Sta → Sta
  | [] => []
  | (k, g, a) :: l => match Nat.beq k d with
    | true => del d l
    | false => match a.at0 d with
      | true => del d l
      | false => (k, g, a) :: del d l
def ins (d : Nat) (e : Option Bool × A) : Sta → Sta
  | [] => [(d, e)]
  | (k, e') :: l => match Nat.blt k d with
    | true => (k, e') :: ins d e l
    | false => (d, e) :: (k, e') :: l
def putS (S : Sta) (d : Nat) (g : Option Bool) (a : A) : Sta := ins d (g, a) (del d S)
/-- without what refers to slot d -/
def del' (d : Nat) : Sta → Sta
  | [] => []
  | (k, g, a) :: l => match a.at0 d with
    | true => del' d l
    | false => (k, g, a) :: del' d l
/-- the same version -/
def modS (S : Sta) (d : Nat) (x : V) : Sta := match S with
  | [] => []
  | (k, g, a) :: l => match Nat.beq k d with
    | true => (k, g, .val x) :: modS l d x
    | false => (k, g, a) :: modS l d x
def memN : List Nat → Nat → Bool
  | [], _ => false
  | x :: l, t => match Nat.beq x t with
    | true => true
    | false => memN l t
def A.in0 : A → List Nat → Bool
  | .rf s _ _, l => memN l s
  | .ad s _ _, l => memN l s
  | .ag s _ _ _, l => memN l s
  | _, _ => true
/-- only these slots -/
def keepS (ks : List Nat) : Sta → Sta
  | [] => []
  | (k, g, a) :: l => match memN ks k with
    | true => match a.in0 ks with
      | true => (k, g, a) :: keepS ks l
      | false => keepS ks l
    | false => keepS ks l

def ownS (S : Sta) (s : Nat) : Option V := match look S s with
  | some (none, .val x) => match x.owned with
    | true => some x
    | false => none
  | _ => none

def constS (t : TypeId) : Value → Option V
  | .int k n => some (.int k n)
  | .bool b => some (.bool b)
  | .string s => some (.str s)
  | .slice none 0 0 => match tget T t with
    | some ⟨.slc e, _, .slc _ _ d _⟩ => some (.slc true e d [])
    | _ => none
  | _ => none

def opdS (S : Sta) (t : TypeId) : Operand → Option (Option Bool × A)
  | .tmp x => match look S x with
    | some (g, .val v) => match v.owned with
      | true => some (g, .rf x 0 [])
      | false => some (g, .val v)
    | some (g, a) => some (g, a)
    | none => none
  | .const v => match constS T t v with
    | some x => some (none, .val x)
    | none => none
  | .func f => some (none, .val (.fn f []))
  | .global _ => none

/-- under guard g this is asked -/
def imG (g : Option Bool) (p : List Prop) : List Prop := match g with
  | none => p
  | some b => match p with
    | [] => []
    | p :: l => L.imp b p :: imG (some b) l
/-- an operand that is defined under gx is used under g -/
def geG (g gx : Option Bool) : List Prop := match gx with
  | none => []
  | some b => match g with
    | none => [L.tt b]
    | some a => [L.imp a (L.tt b)]

/-! ### paths -/

-- the part at a path, and what is asked for it
def atS : V → List Nat → Option (V × List Prop)
  | x, [] => some (x, [])
  | .slc true e d es, i :: p => match vw L.v T true 20 e (L.get es i d) with
    | some y => match atS y p with
      | some (z, q) => some (z, L.ltN i es :: L.ok true e (L.get es i d) :: q)
      | none => none
    | none => none
  | .agg fs, i :: p => match nthV fs i with
    | some y => atS y p
    | none => none
  | .box _ c, 0 :: p => atS c p
  | _, _ => none
def updS : V → List Nat → V → Option V
  | _, [], y => some y
  | .slc true e d es, i :: p, y => match vw L.v T true 20 e (L.get es i d) with
    | some x => match updS x p y with
      | some z => some (.slc true e d (L.set es i z))
      | none => none
    | none => none
  | .agg fs, i :: p, y => match nthV fs i with
    | some x => match updS x p y with
      | some z => some (.agg (fs.set i z))
      | none => none
    | none => none
  | .box e c, 0 :: p, y => match updS c p y with
    | some z => some (.box e z)
    | none => none
  | _, _, _ => none

/-- a part of a slot's value: it lies in memory, or it is the value -/
def atR (r : V) (p : List Nat) : Option (V × List Prop) := match p with
  | [] => some (r, [])
  | i :: q => match r with
    | .agg _ => none
    | .tup _ => none
    | r => atS L T r (i :: q)

/-! ### one operation -/

def ikN : IntKind → Nat
  | .i8 => 0
  | .i16 => 1
  | .i32 => 2
  | .i64 => 3
  | .u8 => 4
  | .u16 => 5
  | .u32 => 6
  | .u64 => 7
def ikE (k k' : IntKind) : Bool := Nat.beq (ikN k) (ikN k')

def intS (S : Sta) (x : Operand) : Option (Option Bool × Int) := match opdS T S 0 x with
  | some (g, .val (.int .i64 n)) => some (g, n)
  | _ => none
def boundS (S : Sta) (d : Int) : Option Operand → Option (Option Bool × Int)
  | none => some (none, d)
  | some x => intS T S x

def binS (op : BinOp) (k : IntKind) (a b : Int) : Option (List Prop × V) :=
  match op with
  | .add => some ([], .int k (L.wrap k (L.add a b)))
  | .sub => some ([], .int k (L.wrap k (L.sub a b)))
  | .mul => some ([], .int k (L.wrap k (L.mul a b)))
  | .quo => some ([L.ne0 b], .int k (L.wrap k (L.quo a b)))
  | .rem => some ([L.ne0 b], .int k (L.rem a b))
  | .eql => some ([], .bool (L.eqI a b))
  | .neq => some ([], .bool (L.not (L.eqI a b)))
  | .lss => some ([], .bool (L.ltI a b))
  | .leq => some ([], .bool (L.leI a b))
  | .gtr => some ([], .bool (L.ltI b a))
  | .geq => some ([], .bool (L.leI b a))
  | _ => none
def strS (op : BinOp) (a b : ByteArray) : Option (List Prop × V) :=
  match op with
  | .add => some ([L.lt (L.add (L.lenS a) (L.lenS b)) 1099511627776], .str (L.appS a b))
  | .eql => some ([], .bool (L.eqS a b))
  | .neq => some ([], .bool (L.not (L.eqS a b)))
  | .lss => some ([], .bool (L.ltS a b))
  | _ => none
def isBoolT (t : TypeId) : Bool := match tget T t with
  | some ⟨.bool, _, _⟩ => true
  | _ => false
def isStrT (t : TypeId) : Bool := match tget T t with
  | some ⟨.str, _, _⟩ => true
  | _ => false
def elemT (t : TypeId) : Option TypeId := match tget T t with
  | some ⟨.slc e, _, _⟩ => some e
  | _ => none
def kindT (t : TypeId) : Option IntKind := match tget T t with
  | some ⟨.int k, _, _⟩ => some k
  | _ => none
def scalT (t : TypeId) : Bool := match tget T t with
  | some ⟨.int _, _, _⟩ => true
  | some ⟨.bool, _, _⟩ => true
  | some ⟨.str, _, _⟩ => true
  | _ => false
def fieldsT (t : TypeId) : Option (List (Nat × TypeId)) := match tget T t with
  | some ⟨.agg fs, _, _⟩ => some fs
  | _ => none
def nthF : List (Nat × TypeId) → Nat → Option (Nat × TypeId)
  | [], _ => none
  | x :: _, 0 => some x
  | _ :: l, i + 1 => nthF l i
def ftyS (fs : List (Nat × TypeId)) (i : Nat) : TypeId := match nthF fs i with
  | some x => x.2
  | none => 0
/-- is the skeleton of this type -/
def fitT (t : TypeId) (y : V) : Bool := match tget T t, y with
  | some ⟨.int k, _, _⟩, .int k' _ => ikE k k'
  | some ⟨.bool, _, _⟩, .bool _ => true
  | some ⟨.str, _, _⟩, .str _ => true
  | some ⟨.slc e, _, _⟩, .slc _ e' _ _ => Nat.beq e e'
  | some ⟨.agg _, c, _⟩, .agg fs => Nat.beq c (V.sizes fs)
  | some ⟨.oth, c, _⟩, .box _ _ => Nat.beq c 1
  | some ⟨.oth, c, _⟩, .fn _ _ => Nat.beq c 1
  | _, _ => false

/-- field f of the struct lies there -/
def placeS (off : Nat) (ft : TypeId) (f : Nat) (fs : List V) : Bool := Nat.beq (V.offs fs f) off && Nat.blt f fs.length && Nat.blt 0 (tcells T ft)

/-- as read -/
def frzS : V → V
  | .slc _ e d es => .slc false e d.frz (L.frz es)
  | .agg fs => .agg (frzsS fs)
  | .tup fs => .tup (frzsS fs)
  | .box _ _ => .hole 1
  | x => x
where frzsS : List V → List V
  | [] => []
  | x :: l => frzS x :: frzsS l

/-- what an operand reads -/
def lookS (S : Sta) : A → Option (V × List Prop)
  | .val x => some (x, [])
  | .rf s _ p => match ownS S s with
    | some r => match p with
      | [] => some (r, [])
      | i :: q => match r with
        | .tup fs => match q with
          | [] => match nthV fs i with
            | some y => some (y, [])
            | none => none
          | _ => none
        | _ => match atR L T r p with
          | some (y, ps) => match y.isH with
            | true => some (y, ps)
            | false => none
          | none => none
    | none => none
  | _ => none

/-- the fields of a struct copy, its own ones as they lie now -/
def lookFS (r : V) (p : List Nat) : List V → Nat → Option (List V × List Prop)
  | [], _ => some ([], [])
  | f :: fs, i => match f.leaf with
    | true => match f.owned with
      | true => match atR L T r (p ++ [i]) with
        | some (y, ps) => match y.isH with
          | true => match lookFS r p fs (i + 1) with
            | some (ys, qs) => some (y :: ys, ps ++ qs)
            | none => none
          | false => none
        | none => none
      | false => match lookFS r p fs (i + 1) with
        | some (ys, qs) => some (f :: ys, qs)
        | none => none
    | false => none
def lookAS (S : Sta) (a : A) : Option (V × List Prop) := match a with
  | .ag s _ p fs => match ownS S s with
    | some r => match lookFS L T r p fs 0 with
      | some (ys, ps) => some (.agg ys, ps)
      | none => none
    | none => none
  | a => lookS L T S a

-- a function or a box in it
mutual
def V.isFn : V → Bool
  | .fn _ _ => true
  | .box _ _ => true
  | .agg fs => V.areFn fs
  | .tup fs => V.areFn fs
  | _ => false
def V.areFn : List V → Bool
  | [] => false
  | x :: l => x.isFn || V.areFn l
end
/-- no part in others' memory -/
def nofzS : V → List Prop
  | .slc true _ _ es => [L.nofz es]
  | .slc false _ _ es => [L.emp es]
  | .agg fs => nofzsS fs
  | .tup fs => nofzsS fs
  | _ => []
where nofzsS : List V → List Prop
  | [] => []
  | x :: l => nofzS x ++ nofzsS l

def argsS (S : Sta) (g : Option Bool) : List Operand → List TypeId → Option (List Prop × List V × Bool)
  | [], _ => some ([], [], false)
  | x :: xs, ts => match opdS T S (ts.headD 0) x with
    | some (gx, a) => match lookAS L T S a with
      | some (v, ps) => match argsS S g xs (ts.drop 1) with
        | some (qs, vs, br) => some (geG L g gx ++ imG L g ps ++ qs, frzS L v :: vs, br || v.owned || a.isAg)
        | none => none
      | none => none
    | none => none

def valsS (S : Sta) (g : Option Bool) (ty : Nat → TypeId) : List (Nat × Operand) → Option (List Prop × List (Nat × V))
  | [] => some ([], [])
  | (i, x) :: xs => match opdS T S (ty i) x with
    | some (gx, .val v) => match v.owned with
      | true => match v with
        | .slc true e d [] => match valsS S g ty xs with
          | some (qs, vs) => some (geG L g gx ++ qs, (i, .slc true e d []) :: vs)
          | none => none
        | _ => none
      | false => match v.isHole with
        | true => none
        | false => match valsS S g ty xs with
          | some (qs, vs) => some (geG L g gx ++ qs, (i, v) :: vs)
          | none => none
    | _ => none

abbrev Contract := List V → Option (List Prop × V)
abbrev Book := List (FuncId × Contract)
def bget : Book → FuncId → Option Contract
  | [], _ => none
  | (k, f) :: l, t => match Nat.beq k t with
    | true => some f
    | false => bget l t

def lopS (B : Book) (S : Sta) (g : Option Bool) (o : Oper) : Option (List Prop × A) :=
  match o.op with
  | .move x => match opdS T S o.type x with
    | some (gx, a) => some (geG L g gx, a)
    | none => none
  | .assign x => match opdS T S o.type x with
    | some (gx, .val v) => match v.owned with
      | true => none
      | false => some (geG L g gx, .val v)
    | some (gx, .rf s _ (i :: p)) => match ownS S s with
      | some (.tup _) => none
      | some _ => some (geG L g gx, .rf s 0 (i :: p))
      | none => none
    | _ => none
  | .pick c a b => match opdS T S 0 c, opdS T S 0 a, opdS T S 0 b with
    | some (gc, .val (.bool c)), some (ga, .val (.bool a)), some (gb, .val (.bool b)) =>
      some (geG L g gc ++ imG L g ((geG L none ga).map (L.imp c)) ++ imG L g ((geG L none gb).map (L.imp (L.not c))), .val (.bool (L.pick c a b)))
    | _, _, _ => none
  | .binOp op xt x y _ => match opdS T S xt x, opdS T S xt y with
    | some (gx, .val (.bool a)), some (gy, .val (.bool b)) => match isBoolT T xt with
      | true => match op with
        | .eql => some (geG L g gx ++ geG L g gy, .val (.bool (L.eqB a b)))
        | .neq => some (geG L g gx ++ geG L g gy, .val (.bool (L.not (L.eqB a b))))
        | _ => none
      | false => none
    | some (gx, .val (.int k a)), some (gy, .val (.int k' b)) => match ikE k k' with
      | true => match binS L op k a b with
        | some (ps, v) => some (geG L g gx ++ geG L g gy ++ imG L g ps, .val v)
        | none => none
      | false => none
    | some (gx, .val (.str a)), some (gy, .val (.str b)) => match strS L op a b with
        | some (ps, v) => some (geG L g gx ++ geG L g gy ++ imG L g ps, .val v)
        | none => none
    | _, _ => none
  | .unOp op _ x => match op, opdS T S o.type x with
    | .not, some (gx, .val (.bool b)) => some (geG L g gx, .val (.bool (L.not b)))
    | .neg, some (gx, .val (.int k n)) => some (geG L g gx, .val (.int k (L.wrap k (L.sub 0 n))))
    | _, _ => none
  | .load t x => match opdS T S 0 x with
    | some (gx, .fz y) => match vw L.v T false 20 t y with
      | some z => some (geG L g gx ++ imG L g [L.ok false t y], .val z)
      | none => none
    | some (gx, .ad s _ p) => match ownS S s with
      | some r => match p, atR L T r p with
        | _ :: _, some (y, ps) => match fitT T t y with
          | true => match y.owned with
            | false => some (geG L g gx ++ imG L g ps, .val y)
            | true => match y.isH with
              | true => some (geG L g gx ++ imG L g ps, .rf s 0 p)
              | false => match y with
                | .agg fs => match V.flats fs with
                  | true => some (geG L g gx ++ imG L g ps, .ag s 0 p fs)
                  | false => none
                | _ => none
          | false => none
        | _, _ => none
      | none => none
    | some (gx, .rf s _ p) => match ownS S s with
      | some r => match atR L T r p with
        | some (.box _ c, ps) => match fitT T t c with
          | true => match c.owned with
            | false => some (geG L g gx ++ imG L g ps, .val c)
            | true => match c.isH with
              | true => some (geG L g gx ++ imG L g ps, .rf s 0 (p ++ [0]))
              | false => match c with
                | .agg fs => match V.flats fs with
                  | true => some (geG L g gx ++ imG L g ps, .ag s 0 (p ++ [0]) fs)
                  | false => none
                | _ => none
          | false => none
        | _ => none
      | none => none
    | _ => none
  | .fieldAddr st x f => match fieldsT T st with
    | some fts => match nthF fts f with
      | some (off, ft) => match opdS T S 0 x with
        | some (gx, .fz y) => some (geG L g gx ++ imG L g [L.ok false st y], .fz (L.v.fld y f))
        | some (gx, .ad s _ p) => match ownS S s with
          | some r => match p, atR L T r p with
            | _ :: _, some (.agg fs, ps) => match placeS T off ft f fs with
              | true => some (geG L g gx ++ imG L g ps, .ad s 0 (p ++ [f]))
              | false => none
            | _, _ => none
          | none => none
        | some (gx, .rf s _ p) => match ownS S s with
          | some r => match atR L T r p with
            | some (.box _ (.agg fs), ps) => match placeS T off ft f fs with
              | true => some (geG L g gx ++ imG L g ps, .ad s 0 (p ++ [0, f]))
              | false => none
            | _ => none
          | none => none
        | _ => none
      | none => none
    | none => none
  | .indexAddr st x i => match elemT T st, intS T S i with
    | some e, some (gi, n) => match opdS T S 0 x with
      | some (gx, .val (.slc false e' d es)) => match Nat.beq e e' with
        | true => some (geG L g gx ++ geG L g gi ++ imG L g [L.le 0 n, L.lt n (L.len es)], .fz (L.get es (L.nat n) d))
        | false => none
      | some (gx, .rf s _ p) => match ownS S s with
        | some r => match atR L T r p with
          | some (.slc true e' d es, ps) => match Nat.beq e e' with
            | true => some (geG L g gx ++ geG L g gi ++ imG L g (ps ++ [L.le 0 n, L.lt n (L.len es)]), .ad s 0 (p ++ [L.nat n]))
            | false => none
          | _ => none
        | none => none
      | _ => none
    | _, _ => none
  | .index st x i => match isStrT T st with
    | true => match opdS T S 0 x, intS T S i with
      | some (gx, .val (.str s)), some (gi, n) => some (geG L g gx ++ geG L g gi ++ imG L g [L.le 0 n, L.lt n (L.lenS s)], .val (.int .u8 (L.getS s n)))
      | _, _ => none
    | false => none
  | .extract x i => match opdS T S 0 x with
    | some (gx, .val (.tup fs)) => match nthV fs i with
      | some y => some (geG L g gx, .val y)
      | none => none
    | some (gx, .rf s _ []) => match ownS S s with
      | some (.tup fs) => match nthV fs i with
        | some y => match y.owned with
          | true => some (geG L g gx, .rf s 0 [i])
          | false => some (geG L g gx, .val y)
        | none => none
      | _ => none
    | _ => none
  | .slice st x lo hi none => match opdS T S 0 x with
    | some (gx, .val (.slc false e d es)) => match elemT T st with
      | some e' => match Nat.beq e e' with
        | true => match boundS T S 0 lo, boundS T S (L.len es) hi with
          | some (gl, l), some (gh, h) => some (geG L g gx ++ geG L g gl ++ geG L g gh ++ imG L g [L.le 0 l, L.le l h, L.le h (L.len es)], .val (.slc false e d (L.sli es l h)))
          | _, _ => none
        | false => none
      | none => none
    | some (gx, .val (.str s)) => match isStrT T st with
      | true => match boundS T S 0 lo, boundS T S (L.lenS s) hi with
        | some (gl, l), some (gh, h) => some (geG L g gx ++ geG L g gl ++ geG L g gh ++ imG L g [L.le 0 l, L.le l h, L.le h (L.lenS s)], .val (.str (L.extS s l h)))
        | _, _ => none
      | false => none
    | _ => none
  | .convert s d x => match kindT T s, kindT T d, opdS T S s x with
    | some _, some k, some (gx, .val (.int _ n)) => some (geG L g gx, .val (.int k (L.wrap k n)))
    | _, _, _ => none
  | .alloc t => match tget T t with
    | some ti => some ([], .val (.box t ti.zero))
    | none => none
  | .box t x => match opdS T S t x with
    | some (gx, .val v) => match v.owned with
      | false => match fitT T t v with
        | true => some (geG L g gx, .val (.box t v))
        | false => none
      | true => none
    | _ => none
  | .makeSlice t l c => match elemT T t with
    | some e => match intS T S l, intS T S c, tget T e with
      | some (gl, n), some (gc, m), some ti => some (geG L g gl ++ geG L g gc ++ imG L g [L.le 0 n, L.le n m, L.le m 2147483647], .val (.slc true e ti.zero (L.rep n ti.zero)))
      | _, _, _ => none
    | none => none
  | .buildSlice t n parts => match elemT T t with
    | some e => match tget T e, valsS L T S g (fun _ => e) parts.toList with
      | some ti, some (ps, vs) => match Nat.ble (n * ti.cells) 1048576 with
        | true => match fillV (List.replicate n ti.zero) vs with
          | some es => some (ps, .val (.slc true e ti.zero es))
          | none => none
        | false => none
      | _, _ => none
    | none => none
  | .build t parts => match tget T t with
    | some ⟨.agg fts, _, .agg zs⟩ => match valsS L T S g (ftyS fts) parts.toList with
      | some (ps, vs) => match fillV zs vs with
        | some fs => some (ps, .val (.agg fs))
        | none => none
      | none => none
    | _ => none
  | .makeFunc (.func f) first caps => match first.toList, valsS L T S g (fun _ => 0) (caps.toList.map fun x => (0, x)) with
    | [], some (ps, vs) => some (ps, .val (.fn f (vs.map (·.2))))
    | _, _ => none
  | .call c => match c.callee with
    | .builtin .len => match c.args.toList, c.argTypes.toList with
      | [x], [t] => match opdS T S 0 x with
        | some (gx, a) => match lookS L T S a with
          | some (.slc _ _ _ es, ps) => match elemT T t with
            | some _ => some (geG L g gx ++ imG L g ps, .val (.int .i64 (L.len es)))
            | none => none
          | some (.str s, ps) => match isStrT T t with
            | true => some (geG L g gx ++ imG L g ps, .val (.int .i64 (L.lenS s)))
            | false => none
          | _ => none
        | none => none
      | _, _ => none
    | .builtin .min => match c.args.toList with
      | [x, y] => match opdS T S o.type x, opdS T S o.type y with
        | some (gx, .val (.int k a)), some (gy, .val (.int k' b)) => match ikE k k' with
          | true => some (geG L g gx ++ geG L g gy, .val (.int k (L.imin a b)))
          | false => none
        | _, _ => none
      | _ => none
    | .builtin .max => match c.args.toList with
      | [x, y] => match opdS T S o.type x, opdS T S o.type y with
        | some (gx, .val (.int k a)), some (gy, .val (.int k' b)) => match ikE k k' with
          | true => some (geG L g gx ++ geG L g gy, .val (.int k (L.imax a b)))
          | false => none
        | _, _ => none
      | _ => none
    | .value f => match opdS T S 0 f with
      | some (gf, .val (.fn k caps)) => match argsS L T S g c.args.toList c.argTypes.toList with
        | some (ps, vs, br) => match bget B k with
          | some ct => match ct (vs ++ caps) with
            | some (qs, r) => match br with
              | true => match r.isFn with
                | true => none
                | false => some (geG L g gf ++ ps ++ imG L g (qs ++ nofzS L r), .val r)
              | false => some (geG L g gf ++ ps ++ imG L g qs, .val r)
            | none => none
          | none => none
        | none => none
      | _ => none
    | _ => none
  | _ => none

/-! ### what writes or moves -/

/-- the fields of a struct copy, its own ones taken out of where they lie -/
def takeFS (s : Nat) (p : List Nat) : List V → Nat → Sta → Option (List Prop × List V × Sta)
  | [], _, S => some ([], [], S)
  | f :: fs, i, S => match f.leaf with
    | true => match f.owned with
      | true => match ownS S s with
        | some r => match atR L T r (p ++ [i]) with
          | some (y, ps) => match y.isH with
            | true => match updS L T r (p ++ [i]) (.hole 1) with
              | some r' => match takeFS s p fs (i + 1) (modS S s r') with
                | some (qs, ys, S') => some (ps ++ qs, y :: ys, S')
                | none => none
              | none => none
            | false => none
          | none => none
        | none => none
      | false => match takeFS s p fs (i + 1) S with
        | some (qs, ys, S') => some (qs, f :: ys, S')
        | none => none
    | false => none

/-- what an operand holds, taken out -/
def takeS (S : Sta) : A → Option (List Prop × V × Sta)
  | .val x => some ([], x, S)
  | .rf s _ p => match ownS S s with
    | some r => match p with
      | [] => some ([], r, del s S)
      | i :: q => match r with
        | .tup fs => match q with
          | [] => match nthV fs i with
            | some y => some ([], y, modS S s (.tup (fs.set i (.hole y.size))))
            | none => none
          | _ => none
        | _ => match atR L T r p with
          | some (y, ps) => match y.isH with
            | true => match updS L T r p (.hole 1) with
              | some r' => some (ps, y, modS S s r')
              | none => none
            | false => none
          | none => none
    | none => none
  | .ag s _ p fs => match takeFS L T s p fs 0 S with
    | some (ps, ys, S') => some (ps, .agg ys, S')
    | none => none
  | _ => none

def wS (S : Sta) (o : Oper) : Option (List Prop × Sta) :=
  match o.guard with
  | some _ => none
  | none => match o.op, o.dst with
    | .assign x, some d => match opdS T S o.type x with
      | some (gx, .rf s _ p) => match takeS L T S (.rf s 0 p) with
        | some (ps, y, S1) => match y.isHole with
          | true => none
          | false => match p with
            | [] => match Nat.beq s d with
              | true => none
              | false => some (geG L none gx ++ ps, putS (putS S1 d none (.val y)) s none (.rf d 0 []))
            | _ => match ownS S s with
              | some (.tup _) => some (geG L none gx ++ ps, putS S1 d none (.val y))
              | _ => none
        | none => none
      | some (gx, .val v) => match v.owned && !v.isHole with
        | true => some (geG L none gx, putS S d none (.val v))
        | false => none
      | _ => none
    | .store t x v, none => match opdS T S t v with
      | some (gv, av) => match takeS L T S av with
        | some (ps, y, S1) => match fitT T t y && y.solid && Nat.blt 0 y.size with
          | true => match opdS T S1 0 x with
            | some (gx, .ad s _ p) => match ownS S1 s with
              | some r => match p, atR L T r p, updS L T r p y with
                | _ :: _, some (z, qs), some r' => match Nat.beq z.size y.size && (z.isScalar && y.isScalar || !scalT T t) with
                  | true => some (geG L none gv ++ ps ++ geG L none gx ++ qs, match z.isScalar && y.isScalar with
                    | true => modS S1 s r'
                    | false => modS (del' s S1) s r')
                  | false => none
                | _, _, _ => none
              | none => none
            | some (gx, .rf s _ p) => match ownS S1 s with
              | some r => match atR L T r p, updS L T r (p ++ [0]) y with
                | some (.box _ z, qs), some r' => match Nat.beq z.size y.size && (z.isScalar && y.isScalar || !scalT T t) with
                  | true => some (geG L none gv ++ ps ++ geG L none gx ++ qs, match z.isScalar && y.isScalar with
                    | true => modS S1 s r'
                    | false => modS (del' s S1) s r')
                  | false => none
                | _, _ => none
              | none => none
            | _ => none
          | false => none
        | none => none
      | none => none
    | .call ⟨.builtin .append, args, ats⟩, some d => match args.toList, ats.toList with
      | [x, y], [t, t'] => match Nat.beq t t' with
        | true => match elemT T t with
          | some e => match opdS T S t x with
            | some (gx, ax) => match takeS L T S ax with
              | some (ps, .slc true e' dd es, S1) => match opdS T S1 t y with
                | some (gy, ay) => match lookS L T S1 ay with
                  | some (.slc oy ey _ es2, qs) => match Nat.beq e e' && Nat.beq e ey && Nat.blt 0 (tcells T e) with
                    | true => match oy && !(scalT T e) with
                      | false => some (geG L none gx ++ ps ++ geG L none gy ++ qs ++ [L.nown es2, L.le (L.add (L.len es) (L.len es2)) 2147483647, L.solid es2], putS S1 d none (.val (.slc true e dd (L.app es es2))))
                      | true => match takeS L T S1 ay with
                        | some (rs, .slc true _ _ es3, S2) => some (geG L none gx ++ ps ++ geG L none gy ++ qs ++ rs ++ [L.le (L.add (L.len es) (L.len es3)) 2147483647, L.solid es3], putS S2 d none (.val (.slc true e dd (L.app es es3))))
                        | _ => none
                    | false => none
                  | _ => none
                | none => none
              | _ => none
            | none => none
          | none => none
        | false => none
      | _, _ => none
    | _, _ => none

/-! ### calls that write into one argument -/

abbrev IContract := List V → Option (List Prop × V × V)
abbrev IBook := List (FuncId × Nat × IContract)
def iget : IBook → FuncId → Option (Nat × IContract)
  | [], _ => none
  | (k, f) :: l, t => match Nat.beq k t with
    | true => some f
    | false => iget l t

/-- an operand goes out to be written into -/
def ioS (S : Sta) : A → Option (List Prop × V × Sta × (V → Option Sta))
  | .rf s _ p => match ownS S s with
    | some r => match p with
      | [] => match r.isH with
        | true => some ([], r, del s S, fun y => some (modS S s y))
        | false => none
      | i :: q => match atR L T r (i :: q) with
        | some (x, ps) => match x.isH with
          | true => match updS L T r (i :: q) (.hole 1) with
            | some r1 => some (ps, x, modS S s r1, fun y => match updS L T r (i :: q) y with
              | some r2 => some (modS S s r2)
              | none => none)
            | none => none
          | false => none
        | none => none
    | none => none
  | .ag s _ p fs => match ownS S s with
    | some r => match p with
      | [] => none
      | i :: q => match atR L T r (i :: q) with
        | some (.agg gs, ps) => match agOk fs gs with
          | true => match updS L T r (i :: q) (.hole (V.sizes gs)) with
            | some r1 => some (ps, .agg (mrg fs gs), modS S s r1, fun y => match y with
              | .agg xs => match updS L T r (i :: q) (.agg (mrgB fs gs xs)) with
                | some r2 => some (modS S s r2)
                | none => none
              | _ => none)
            | none => none
          | false => none
        | _ => none
    | none => none
  | _ => none

def iS (B : Book) (Bi : IBook) (S : Sta) (o : Oper) : Option (List Prop × Sta) :=
  match o.guard with
  | some _ => none
  | none => match o.op with
    | .call ⟨.value (.func k), args, ats⟩ => match bget B k with
      | some _ => none
      | none => match iget Bi k with
        | some (j, c) => match getAt j args.toList with
          | some x => match opdS T S 0 x with
            | some (gx, a) => match ioS L T S a with
              | some (ps, y, S1, back) => match argsS L T S1 none (skipAt j args.toList) (skipAt j ats.toList) with
                | some (qs, vs, br) => match c (insAt j y vs) with
                  | some (rs, r, y') => match back y' with
                    | some S2 => match br && (r.isFn || y'.isFn) with
                      | true => none
                      | false => some (geG L none gx ++ ps ++ qs ++ rs ++ (match br with
                          | true => nofzS L r ++ nofzS L y'
                          | false => []), match o.dst with
                          | some d => putS S2 d none (.val r)
                          | none => S2)
                    | none => none
                  | none => none
                | none => none
              | none => none
            | none => none
          | none => none
        | none => none
    | _ => none

/-- a struct with own parts moves from a register into a box; the register keeps a copy -/
def bS (S : Sta) (o : Oper) : Option (List Prop × Sta) :=
  match o.guard with
  | some _ => none
  | none => match o.op, o.dst with
    | .box t x, some d => match opdS T S t x with
      | some (gx, .rf s _ p) => match p with
        | [] => match ownS S s with
          | some (.agg fs) => match !(Nat.beq s d) && agOk fs fs with
            | true => some (geG L none gx, putS (putS (del s S) d none (.val (.box t (.agg fs)))) s none (.ag d 0 [0] fs))
            | false => none
          | _ => none
        | _ => none
      | _ => none
    | _, _ => none

/-- parts, taken in order -/
def takesVS (ty : Nat → TypeId) : Sta → List (Nat × Operand) → Option (List Prop × List (Nat × V) × Sta)
  | S, [] => some ([], [], S)
  | S, (i, x) :: xs => match opdS T S (ty i) x with
    | some (gx, a) => match takeS L T S a with
      | some (ps, y, S1) => match y.isHole with
        | true => none
        | false => match takesVS ty S1 xs with
          | some (qs, vs, S2) => some (geG L none gx ++ ps ++ qs, (i, y) :: vs, S2)
          | none => none
      | none => none
    | none => none
/-- built of parts that move into it -/
def mS (S : Sta) (o : Oper) : Option (List Prop × Sta) :=
  match o.guard with
  | some _ => none
  | none => match o.op, o.dst with
    | .build t parts, some d => match tget T t with
      | some ⟨.agg fts, _, .agg zs⟩ => match takesVS L T (ftyS fts) S parts.toList with
        | some (ps, vs, S1) => match fillV zs vs with
          | some fs => some (ps, putS S1 d none (.val (.agg fs)))
          | none => none
        | none => none
      | _ => none
    | .buildSlice t n parts, some d => match elemT T t with
      | some e => match tget T e, takesVS L T (fun _ => e) S parts.toList with
        | some ti, some (ps, vs, S1) => match Nat.ble (n * ti.cells) 1048576 && Nat.blt 0 n with
          | true => match fillV (List.replicate n ti.zero) vs with
            | some es => some (ps, putS S1 d none (.val (.slc true e ti.zero es)))
            | none => none
          | false => none
        | _, _ => none
      | none => none
    | _, _ => none

/-! ### regions and code -/

def nthO : List Oper → Nat → Option Oper
  | [], _ => none
  | x :: _, 0 => some x
  | _ :: l, i + 1 => nthO l i
def andG (L : Alg) (g : Option Bool) (b : Bool) : Option Bool := match g with
  | none => some b
  | some a => some (L.and a b)
def gdS (ops : List Oper) (S : Sta) (o : Oper) : Option (Option Bool) := match o.guard with
  | none => some none
  | some (j, want) => match nthO ops j with
    | some o' => match o'.dst with
      | some t => match look S t with
        | some (g, .val (.bool b)) => match want with
          | true => some (andG L g b)
          | false => some (andG L g (L.not b))
        | _ => none
      | none => none
    | none => none

/-- what stands in order with all others -/
def kT : Op → Bool
  | .assign _ => true
  | .store _ _ _ => true
  | .call ⟨.builtin _, _, _⟩ => true
  | _ => false
def kLen : Op → Bool
  | .call ⟨.builtin .len, _, _⟩ => true
  | .call ⟨.builtin .min, _, _⟩ => true
  | .call ⟨.builtin .max, _, _⟩ => true
  | _ => false
/-- an assignment of a scalar moves nothing: it stands where it may -/
def kScal (o : Oper) : Bool := match o.op with
  | .assign _ => scalT T o.type
  | _ => false
def kO (o : Oper) : Bool := kT o.op && !kLen o.op && !kScal T o

/-- what a call that may write into what came in may do: registers below lo stay; no headers turn -/
def opSt (lo : Nat) (st : Bool) (o : Oper) : Bool := (match o.dst with
    | some d => Nat.ble lo d
    | none => true) && (!st || match o.op with
    | .store t _ _ => scalT T t
    | .call ⟨.builtin .append, _, _⟩ => false
    | _ => true)
def opsSt (lo : Nat) (st : Bool) : List Oper → Bool
  | [] => true
  | o :: l => opSt T lo st o && opsSt lo st l

def ownE : Option (Option Bool × A) → Bool
  | some (_, .val x) => x.owned
  | _ => false

def stpS (B : Book) (n : Nat) (ops : List Oper) (S : Sta) (o : Oper) : Option (List Prop × Sta) :=
  match gdS L ops S o with
  | some g => match o.dst with
    | some d => match Nat.blt d n with
      | true => match lopS L T B S g o with
        | some (ps, a) => match a.at0 d || !kO T o && ownE (look S d) with
          | true => none
          | false => some (ps, putS S d g a)
        | none => match kO T o with
          | true => wS L T S o
          | false => none
      | false => none
    | none => wS L T S o
  | none => none

def conj : List Prop → Prop → Prop
  | [], r => r
  | p :: l, r => p ∧ conj l r

def evS (B : Book) (n : Nat) (ops : List Oper) : List Oper → Sta → (Sta → Prop) → Prop
  | [], S, K => K S
  | o :: l, S, K => match stpS L T B n ops S o with
    | some (ps, S') => conj ps (evS B n ops l S' K)
    | none => False

/-- in a region that keeps the text's order -/
def stpL (B : Book) (Bi : IBook) (n : Nat) (ops : List Oper) (S : Sta) (o : Oper) : Option (List Prop × Sta) :=
  match gdS L ops S o with
  | some g => match o.dst with
    | some d => match Nat.blt d n with
      | true => match lopS L T B S g o with
        | some (ps, a) => match a.at0 d with
          | true => none
          | false => some (ps, putS S d g a)
        | none => match wS L T S o with
          | some r => some r
          | none => match iS L T B Bi S o with
            | some r => some r
            | none => match bS L T S o with
              | some r => some r
              | none => mS L T S o
      | false => none
    | none => match wS L T S o with
      | some r => some r
      | none => match iS L T B Bi S o with
        | some r => some r
        | none => match bS L T S o with
          | some r => some r
          | none => mS L T S o
  | none => none
/-- a slice against nil -/
def nilS (S : Sta) (n : Nat) (o : Oper) : Option (Nat × List Prop × List V) :=
  match o.guard with
  | some _ => none
  | none => match o.op, o.dst with
    | .binOp .eql xt x (.const (.slice none 0 0)) _, some d => match Nat.blt d n with
      | true => match elemT T xt, opdS T S xt x with
        | some _, some (gx, a) => match lookS L T S a with
          | some (.slc _ _ _ es, ps) => some (d, geG L none gx ++ ps, es)
          | _ => none
        | _, _ => none
      | false => none
    | _, _ => none
def evL (B : Book) (Bi : IBook) (n : Nat) (ops : List Oper) : List Oper → Sta → (Sta → Prop) → Prop
  | [], S, K => K S
  | o :: l, S, K => match nilS L T S n o with
    | some (d, ps, es) => conj ps (L.imp (L.eqI (L.len es) 0) (evL B Bi n ops l (putS S d none (.val (.bool true))) K) ∧ evL B Bi n ops l (putS S d none (.val (.bool false))) K)
    | none => match stpL L T B Bi n ops S o with
      | some (ps, S') => conj ps (evL B Bi n ops l S' K)
      | none => False

abbrev PostS := Exit → Sta → Prop
def thenS (next : Sta → Prop) (Q : PostS) : PostS := fun e S => match e with
  | .normal => next S
  | e => Q e S
def blockS (id : Nat) (Q : PostS) : PostS := fun e S => match e with
  | .exit id' => match Nat.beq id' id with
    | true => Q .normal S
    | false => Q e S
  | e => Q e S

/-- the loops that stand in the way: what is asked of them -/
abbrev LoopA := Code → PostS → Sta → Prop

def wpS (lp : LoopA) (B : Book) (Bi : IBook) (n : Nat) (ks : List Nat) : Code → PostS → Sta → Prop
  | .skip, Q, S => Q .normal S
  | .seq x y, Q, S => wpS lp B Bi n ks x (thenS (wpS lp B Bi n ks y Q) Q) S
  | .region _ ops draw, Q, S => match draw with
    | true => evS L T B n ops.toList ops.toList (keepS ks S) (Q .normal)
    | false => evL L T B Bi n ops.toList ops.toList (keepS ks S) (Q .normal)
  | .cond c x y, Q, S => match opdS T S 0 c with
    | some (none, .val (.bool b)) => L.ifP b (wpS lp B Bi n ks x Q (keepS ks S)) (wpS lp B Bi n ks y Q (keepS ks S))
    | _ => False
  | .block id c, Q, S => wpS lp B Bi n ks c (blockS id Q) S
  | .loop c, Q, S => lp c Q (keepS ks S)
  | .exit id, Q, S => Q (.exit id) S
  | .ret, Q, S => Q .ret S
  | _, _, _ => False

/-- what the results are at the end -/
def resS : List ResultVar → Sta → Option (List Prop × List V)
  | [], _ => some ([], [])
  | .tmp t :: l, S => match opdS T S 0 (.tmp t) with
    | some (gx, a) => match takeS L T S a with
      | some (ps, y, S1) => match resS l S1 with
        | some (qs, ys) => some (geG L none gx ++ ps ++ qs, y :: ys)
        | none => none
      | none => none
    | none => none
  | .cell t ty :: l, S => match ownS S t with
    | some (.box _ c) => match fitT T ty c with
      | true => match resS l (del t S) with
        | some (qs, ys) => some (qs, c :: ys)
        | none => none
      | false => none
    | _ => none
def oneV : List V → V
  | [x] => x
  | l => .tup l
def retS (res : List ResultVar) (r : V) : PostS := fun e S => match e with
  | .ret => match resS L T res S with
    | some (ps, l) => conj ps (oneV l = r)
    | none => False
  | .normal => match resS L T res S with
    | some (ps, l) => conj ps (oneV l = r)
    | none => False
  | _ => False

def initV : List V → List V
  | [] => []
  | [_] => []
  | x :: l => x :: initV l
def lastV : List V → V
  | [] => .hole 0
  | [x] => x
  | _ :: l => lastV l
/-- the same, of a call that writes into its argument j -/
def retI (res : List ResultVar) (j : Nat) (r y : V) : PostS := fun e S => match e with
  | .ret => match resS L T (res ++ [.tmp j]) S with
    | some (ps, l) => conj ps (oneV (initV l) = r ∧ lastV l = y)
    | none => False
  | .normal => match resS L T (res ++ [.tmp j]) S with
    | some (ps, l) => conj ps (oneV (initV l) = r ∧ lastV l = y)
    | none => False
  | _ => False

/-- the state at the function's start -/
def argS : Nat → List V → Sta
  | _, [] => []
  | i, x :: l => (i, none, .val x) :: argS (i + 1) l
end
end Go.Ax
