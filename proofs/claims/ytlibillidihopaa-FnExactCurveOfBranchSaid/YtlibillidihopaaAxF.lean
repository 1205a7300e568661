/-
  AX, part F: the abstract step of one operation, as functions that can be computed.
-/
import Derived.Test.YtlibillidihopaaAxE
namespace Go.Ax

def elemOf (P : Program) (t : TypeId) : Option TypeId := match P.underlying t with | some (.slice e) => some e | _ => none
def aggT (P : Program) (t : TypeId) : Option Bool := match P.underlying t with | some (.struct _) | some (.array _ _) => some true | some _ => some false | none => none
def fieldT (P : Program) (s f : Nat) : Option (Nat × TypeId) := match P.underlying s with | some (.struct fs) => (fs[f]?).map (fun x => (x.offset, x.type)) | _ => none
def nFields (P : Program) (s : TypeId) : Option Nat := match P.underlying s with | some (.struct fs) => some fs.size | _ => none
def isStr (P : Program) (t : TypeId) : Bool := match P.underlying t with | some .string => true | _ => false
def intT (P : Program) (t : TypeId) : Option IntKind := match P.underlying t with | some (.int k) => some k | _ => none

def isIntC (k : IntKind) (n : Int) : List Value → Bool
  | [.int k' m] => k == k' && n == m
  | _ => false
def isBoolC (b : Bool) : List Value → Bool
  | [.bool b'] => b == b'
  | _ => false
def isStrC (s : ByteArray) : List Value → Bool
  | [.string s'] => s.data == s'.data
  | _ => false
def isNilC : List Value → Bool
  | [.slice none 0 0] => true
  | _ => false
mutual
def zrep : V → List Value → Bool
  | .int k n, cs => isIntC k n cs
  | .bool a, cs => isBoolC a cs
  | .str s, cs => isStrC s cs
  | .slc o _ _ es, cs => o && es.isEmpty && isNilC cs
  | .agg fs, cs => zreps fs cs
  | .hole n, cs => cs.length == n
  | .box _ _, _ => false
  | .tup _, _ => false
  | .fn _ _, _ => false
def zreps : List V → List Value → Bool
  | [], cs => cs.isEmpty
  | x :: xs, cs => zrep x (cs.take x.size) && zreps xs (cs.drop x.size)
end

/-- the zero value of a type as the program's table has it -/
def decZ (P : Program) : Nat → TypeId → List Value → Option V
  | 0, _, _ => none
  | n + 1, t, cs =>
    match P.underlying t, cs with
    | some (.int _), [.int k m] => some (.int k m)
    | some .bool, [.bool b] => some (.bool b)
    | some .string, [.string s] => some (.str s)
    | some (.slice e), [.slice none 0 0] =>
      match (P.info? e).bind (·.zero) with
      | some z => (decZ P n e z.cells.toList).map fun d => .slc true e d []
      | none => none
    | some (.struct fs), cs => (fs.toList.mapM fun f => decZ P n f.type ((cs.drop f.offset).take (P.cellsOf f.type))).map .agg
    | some _, [_] => some (.hole 1)
    | _, _ => none

def zeroOf (P : Program) (t : TypeId) : Option V :=
  match (P.info? t).bind (·.zero) with
  | some z => match decZ P 6 t z.cells.toList with
    | some x => if zrep x z.cells.toList && z.cells.toList.length == P.cellsOf t then some x else none
    | none => none
  | none => none

def fits (P : Program) (t : TypeId) (x : V) : Bool :=
  (match aggT P t, x with | some b, .agg _ => b | some b, .tup _ => false && b | some b, .hole _ => false && b | some b, _ => !b | none, _ => false) && P.cellsOf t == x.size

-- the parts of a struct copy, its own ones as 'get' has them
mutual
def V.cpv (get : List Nat → V) : V → List Nat → V
  | .agg fs, p => .agg (V.cpvs get fs p 0)
  | .slc o e d es, p => if o then get p else .slc o e d es
  | .box _ _, p => get p
  | x, _ => x
def V.cpvs (get : List Nat → V) : List V → List Nat → Nat → List V
  | [], _, _ => []
  | y :: ys, p, i => V.cpv get y (p ++ [i]) :: V.cpvs get ys p (i + 1)
end

def constV (P : Program) (ty : TypeId) : Value → Option V
  | .int k n => some (.int k n)
  | .bool b => some (.bool b)
  | .string s => some (.str s)
  | .slice a l c => if isNilC [.slice a l c] then (match zeroOf P ty with
    | some (.slc true e d []) => some (.slc true e d [])
    | _ => none) else none
  | _ => none

/-- what an operand is: under which condition, what -/
def opd (P : Program) (σ : Env) (ty : TypeId) : Operand → Option (Bool × A)
  | .tmp t => match (σ t).a with
    | .val x => if x.owned then some ((σ t).g, .rf t (σ t).ver []) else some ((σ t).g, .val x)
    | a => some ((σ t).g, a)
  | .const v => (constV P ty v).map fun x => (true, .val x)
  | .func f => some (true, .val (.fn f []))
  | .global _ => none

/-- the value that an operand is, as it stands -/
def A.look (σ : Env) : A → Option V
  | .val x => some x
  | .rf s ver p => (σ.own s ver).map (·.at p)
  | .ag s ver p fs => (σ.own s ver).map fun r => (V.agg fs).cpv (fun q => r.at q) p
  | _ => none

-- the paths of a struct copy's own parts are there
mutual
def V.cpok (ok : List Nat → Prop) : V → List Nat → Prop
  | .agg fs, p => V.cpoks ok fs p 0
  | .slc o _ _ _, p => if o then ok p else True
  | .box _ _, p => ok p
  | _, _ => True
def V.cpoks (ok : List Nat → Prop) : List V → List Nat → Nat → Prop
  | [], _, _ => True
  | y :: ys, p, i => V.cpok ok y (p ++ [i]) ∧ V.cpoks ok ys p (i + 1)
end

/-- a path to a part in memory -/
def V.okm : V → List Nat → Prop
  | _, [] => False
  | .agg _, _ => False
  | x, p => x.okp p
/-- a path to a header, or to all -/
def V.okr : V → List Nat → Prop
  | _, [] => True
  | .tup fs, [i] => i < fs.length
  | x, p => x.okm p ∧ (x.at p).isH = true

-- may it be copied with its own parts' headers alone
mutual
def V.flat : V → Bool
  | .agg fs => V.flats fs
  | .tup _ => false
  | _ => true
def V.flats : List V → Bool
  | [] => true
  | v :: vs => v.flat && V.flats vs
end

def A.okA (σ : Env) : A → Prop
  | .val _ => True
  | .rf s ver p => match σ.own s ver with | some r => r.okr p | none => False
  | .ag s ver p fs => match σ.own s ver with | some r => (V.agg fs).cpok (fun q => r.okm q ∧ (r.at q).isH = true) p | none => False
  | .ad s ver p => match σ.own s ver with | some r => r.okm p | none => False
  | .fz _ => True

/-- reading a part y that lies at a path of a slot -/
def rdA (s ver : Nat) (p : List Nat) (y : V) : Option A :=
  if y.owned then (if y.isH then some (.rf s ver p) else match y with | .agg fs => if V.flats fs then some (.ag s ver p fs) else none | _ => none) else some (.val y)

def binV (op : BinOp) : V → V → Option (Prop × V)
  | .int k a, .int k' b =>
    if k = k' then
      match op with
      | .add => some (True, .int k (k.wrap (a + b)))
      | .sub => some (True, .int k (k.wrap (a - b)))
      | .mul => some (True, .int k (k.wrap (a * b)))
      | .quo => some (b ≠ 0, .int k (k.wrap (a.tdiv b)))
      | .rem => some (b ≠ 0, .int k (a.tmod b))
      | .eql => some (True, .bool (a == b))
      | .neq => some (True, .bool (a != b))
      | .lss => some (True, .bool (decide (a < b)))
      | .leq => some (True, .bool (decide (a ≤ b)))
      | .gtr => some (True, .bool (decide (a > b)))
      | .geq => some (True, .bool (decide (a ≥ b)))
      | _ => none
    else none
  | .str a, .str b =>
    match op with
    | .add => some (a.size + b.size < 2 ^ 40, .str (a ++ b))
    | .eql => some (True, .bool (a.toList == b.toList))
    | .neq => some (True, .bool !(a.toList == b.toList))
    | .lss => some (True, .bool (Op.bytesLess a.toList b.toList))
    | .gtr => some (True, .bool !(Op.bytesLess a.toList b.toList || a.toList == b.toList))
    | _ => none
  | _, _ => none

def boolEq (op : BinOp) (a b : Bool) : Option V :=
  match op with
  | .eql => some (.bool (a == b))
  | .neq => some (.bool !(a == b))
  | _ => none

def A.isAg : A → Bool
  | .ag .. => true
  | _ => false

/-- reading of the operand's list of a call: as read -/
def looks (P : Program) (σ : Env) (g : Bool) : List Operand → List TypeId → Option (Prop × List V × Bool)
  | [], _ => some (True, [], false)
  | x :: xs, ts =>
    match opd P σ (ts.headD 0) x, looks P σ g xs (ts.drop 1) with
    | some (gx, a), some (p, vs, br) =>
      match a.look σ with
      | some v => some (((g = true → gx = true) ∧ a.okA σ) ∧ p, v.frz :: vs, br || v.owned || a.isAg)
      | none => none
    | _, _ => none

def V.isHole : V → Bool
  | .hole _ => true
  | _ => false

/-- values that own nothing, to be laid into something new -/
def vals (P : Program) (σ : Env) (g : Bool) (ty : Nat → TypeId) : List (Nat × Operand) → Option (Prop × List (Nat × V))
  | [] => some (True, [])
  | (i, x) :: xs =>
    match opd P σ (ty i) x, vals P σ g ty xs with
    | some (gx, .val v), some (p, vs) => if v.owned && !(zrep v [.slice none 0 0]) || v.isHole then none else some ((g = true → gx = true) ∧ p, (i, v) :: vs)
    | _, _ => none

def fillV (fs : List V) : List (Nat × V) → Option (List V)
  | [] => some fs
  | (i, v) :: r => match fs[i]? with
    | some x => if x.size = v.size then fillV (fs.set i v) r else none
    | none => none

def intOpd (P : Program) (σ : Env) (g : Bool) (x : Operand) : Option (Prop × Int) :=
  match opd P σ 0 x with
  | some (gx, .val (.int .i64 n)) => some ((g = true → gx = true), n)
  | _ => none

def boundOf (P : Program) (σ : Env) (g : Bool) (d : Int) : Option Operand → Option (Prop × Int)
  | none => some (True, d)
  | some x => intOpd P σ g x

inductive Fa2 {α β : Type} (R : α → β → Prop) : List α → List β → Prop
  | nil : Fa2 R [] []
  | cons {x : α} {y : β} {xs : List α} {ys : List β} (h : R x y) (t : Fa2 R xs ys) : Fa2 R (x :: xs) (y :: ys)

/-- where the fields lie -/
def V.places : List V → Nat → List (Nat × Nat)
  | [], _ => []
  | v :: vs, o => (o, v.size) :: V.places vs (o + v.size)

/-- a struct type's zero value, where the type's places are the value's -/
def structOf (P : Program) (t : TypeId) : Option (List V) :=
  match zeroOf P t, P.underlying t with
  | some (.agg zs), some (.struct fs) => if fs.toList.mapM (fun f => (P.info? f.type).map fun i => (f.offset, i.size)) = some (V.places zs 0) then some zs else none
  | _, _ => none

/-- The step of an operation that turns nothing but its own register. -/
def lop (C : Ctx) (σ : Env) (g : Bool) (o : Oper) : Option (Prop × A) :=
  match o.op with
  | .move x => (opd C.P σ o.type x).map fun (gx, a) => ((g = true → gx = true), a)
  | .assign x =>
    match opd C.P σ o.type x with
    | some (gx, .val v) => if v.owned then none else some ((g = true → gx = true), .val v)
    | some (gx, .rf s ver (i :: p)) => match σ.own s ver with
      | some (.tup _) => none
      | some _ => some ((g = true → gx = true), .rf s ver (i :: p))
      | none => none
    | _ => none
  | .pick c a b =>
    match opd C.P σ 0 c with
    | some (gc, .val (.bool c)) => match opd C.P σ 0 (if c then a else b) with
      | some (gx, .val (.bool v)) => some ((g = true → gc = true) ∧ (g = true → gx = true), .val (.bool v))
      | _ => none
    | _ => none
  | .binOp op xt x y _ =>
    match opd C.P σ xt x, opd C.P σ xt y with
    | some (gx, .val (.bool a)), some (gy, .val (.bool b)) =>
      if C.P.underlying xt matches some .bool then (boolEq op a b).map fun v => ((g = true → gx = true) ∧ (g = true → gy = true), .val v) else none
    | some (gx, .val a), some (gy, .val b) => (binV op a b).map fun (p, v) => (((g = true → gx = true) ∧ (g = true → gy = true)) ∧ (g = true → p), .val v)
    | _, _ => none
  | .unOp op _ x =>
    match op, opd C.P σ o.type x with
    | .not, some (gx, .val (.bool b)) => some ((g = true → gx = true), .val (.bool !b))
    | .neg, some (gx, .val (.int k n)) => some ((g = true → gx = true), .val (.int k (k.wrap (0 - n))))
    | _, _ => none
  | .load t x =>
    match opd C.P σ 0 x with
    | some (gx, .fz y) => if fits C.P t y then some ((g = true → gx = true), .val y) else none
    | some (gx, .ad s ver p) => match σ.own s ver with
      | some r => if fits C.P t (r.at p) then (rdA s ver p (r.at p)).map fun a => (((g = true → gx = true) ∧ (g = true → r.okm p)), a) else none
      | none => none
    | some (gx, .rf s ver p) => match σ.own s ver with
      | some r => match r.at p with
        | .box _ c => if fits C.P t c then (rdA s ver (p ++ [0]) c).map fun a => (((g = true → gx = true) ∧ (g = true → r.okr p ∧ r.okm (p ++ [0]))), a) else none
        | _ => none
      | none => none
    | _ => none
  | .fieldAddr st x f =>
    match fieldT C.P st f, opd C.P σ 0 x with
    | some (off, ft), some (gx, .fz (.agg fs)) => if C.P.cellsOf ft ≠ 0 ∧ f < fs.length ∧ V.offs fs f = off then some ((g = true → gx = true), .fz (fs.getD f (.hole 0))) else none
    | some (off, ft), some (gx, .ad s ver p) => match σ.own s ver with
      | some r => match r.at p with
        | .agg fs => if C.P.cellsOf ft ≠ 0 ∧ f < fs.length ∧ V.offs fs f = off then some ((g = true → gx = true) ∧ (g = true → r.okm p), .ad s ver (p ++ [f])) else none
        | _ => none
      | none => none
    | some (off, ft), some (gx, .rf s ver p) => match σ.own s ver with
      | some r => match r.at p with
        | .box _ (.agg fs) => if C.P.cellsOf ft ≠ 0 ∧ f < fs.length ∧ V.offs fs f = off then some ((g = true → gx = true) ∧ (g = true → r.okr p), .ad s ver (p ++ [0, f])) else none
        | _ => none
      | none => none
    | _, _ => none
  | .indexAddr st x i =>
    match elemOf C.P st, opd C.P σ 0 x, intOpd C.P σ g i with
    | some e, some (gx, .val (.slc false e' d es)), some (pi, n) =>
      if e = e' ∧ C.P.cellsOf e ≠ 0 then some ((g = true → gx = true) ∧ pi ∧ (g = true → 0 ≤ n ∧ n < (es.length : Int)), .fz (es.getD n.toNat d)) else none
    | some e, some (gx, .rf s ver p), some (pi, n) => match σ.own s ver with
      | some r => match r.at p with
        | .slc true e' _ es => if e = e' ∧ C.P.cellsOf e ≠ 0 then some ((g = true → gx = true) ∧ pi ∧ (g = true → r.okr p ∧ 0 ≤ n ∧ n < (es.length : Int)), .ad s ver (p ++ [n.toNat])) else none
        | _ => none
      | none => none
    | _, _, _ => none
  | .index st x i =>
    match isStr C.P st, opd C.P σ 0 x, intOpd C.P σ g i with
    | true, some (gx, .val (.str s)), some (pi, n) => some ((g = true → gx = true) ∧ pi ∧ (g = true → 0 ≤ n ∧ n < (s.size : Int)), .val (.int .u8 (s.data.getD n.toNat 0).toNat))
    | _, _, _ => none
  | .extract x i =>
    match opd C.P σ 0 x with
    | some (gx, .val (.tup fs)) => if i < fs.length then some ((g = true → gx = true), .val (fs.getD i (.hole 0))) else none
    | some (gx, .rf s ver []) => match σ.own s ver with
      | some (.tup fs) => if i < fs.length then
          (if (fs.getD i (.hole 0)).owned then some ((g = true → gx = true), .rf s ver [i]) else some ((g = true → gx = true), .val (fs.getD i (.hole 0)))) else none
      | _ => none
    | _ => none
  | .slice st x lo hi none =>
    match opd C.P σ 0 x with
    | some (gx, .val (.slc false e d es)) =>
      match elemOf C.P st, boundOf C.P σ g 0 lo, boundOf C.P σ g es.length hi with
      | some e', some (pl, l), some (ph, h) => if e = e' ∧ C.P.cellsOf e ≠ 0 then
          some ((g = true → gx = true) ∧ pl ∧ ph ∧ (g = true → 0 ≤ l ∧ l ≤ h ∧ h ≤ (es.length : Int)), .val (.slc false e d ((es.take h.toNat).drop l.toNat))) else none
      | _, _, _ => none
    | some (gx, .val (.str s)) =>
      match isStr C.P st, boundOf C.P σ g 0 lo, boundOf C.P σ g s.size hi with
      | true, some (pl, l), some (ph, h) =>
          some ((g = true → gx = true) ∧ pl ∧ ph ∧ (g = true → 0 ≤ l ∧ l ≤ h ∧ h ≤ (s.size : Int)), .val (.str (s.extract l.toNat h.toNat)))
      | _, _, _ => none
    | _ => none
  | .convert s d x =>
    match intT C.P s, intT C.P d, opd C.P σ s x with
    | some _, some k, some (gx, .val (.int _ n)) => some ((g = true → gx = true), .val (.int k (k.wrap n)))
    | _, _, _ => none
  | .alloc t => (zeroOf C.P t).map fun x => (True, .val (.box t x))
  | .box t x =>
    match opd C.P σ t x with
    | some (gx, .val v) => if v.owned && !(zrep v [.slice none 0 0]) then none else if fits C.P t v then some ((g = true → gx = true), .val (.box t v)) else none
    | _ => none
  | .makeSlice t l c =>
    match elemOf C.P t, intOpd C.P σ g l, intOpd C.P σ g c with
    | some e, some (pl, n), some (pc, m) => match zeroOf C.P e with
      | some z => if C.P.bytesOf e ≤ 65536 then some (pl ∧ pc ∧ (g = true → 0 ≤ n ∧ n ≤ m ∧ m ≤ 2147483647), .val (.slc true e z (List.replicate n.toNat z))) else none
      | none => none
    | _, _, _ => none
  | .buildSlice t n parts =>
    match elemOf C.P t with
    | some e => match zeroOf C.P e, vals C.P σ g (fun _ => e) parts.toList with
      | some z, some (p, vs) => if n * C.P.cellsOf e ≤ 2 ^ 20 ∧ 0 < C.P.cellsOf e then (fillV (List.replicate n z) vs).map fun es => (p, .val (.slc true e z es)) else none
      | _, _ => none
    | none => none
  | .build t parts =>
    match structOf C.P t, vals C.P σ g (fun i => ((fieldT C.P t i).map (·.2)).getD 0) parts.toList with
    | some zs, some (p, vs) => (fillV zs vs).map fun fs => (p, .val (.agg fs))
    | _, _ => none
  | .makeFunc (.func f) first caps =>
    match first.toList, vals C.P σ g (fun _ => 0) (caps.toList.map fun x => (0, x)) with
    | [], some (p, vs) => some (p, .val (.fn f (vs.map (·.2))))
    | _, _ => none
  | .call c =>
    match c.callee with
    | .builtin .len => match c.args.toList, c.argTypes.toList with
      | [x], [t] => match opd C.P σ 0 x with
        | some (gx, a) => if a.isAg then none else match a.look σ with
          | some (.slc _ _ _ es) => if (elemOf C.P t).isSome then some ((g = true → gx = true ∧ a.okA σ), .val (.int .i64 es.length)) else none
          | some (.str s) => if isStr C.P t then some ((g = true → gx = true ∧ a.okA σ), .val (.int .i64 s.size)) else none
          | _ => none
        | none => none
      | _, _ => none
    | .builtin .min => match c.args.toList with
      | [x, y] => match opd C.P σ o.type x, opd C.P σ o.type y with
        | some (gx, .val (.int k a)), some (gy, .val (.int k' b)) => if k = k' then some ((g = true → gx = true) ∧ (g = true → gy = true), .val (.int k (min a b))) else none
        | _, _ => none
      | _ => none
    | .builtin .max => match c.args.toList with
      | [x, y] => match opd C.P σ o.type x, opd C.P σ o.type y with
        | some (gx, .val (.int k a)), some (gy, .val (.int k' b)) => if k = k' then some ((g = true → gx = true) ∧ (g = true → gy = true), .val (.int k (max a b))) else none
        | _, _ => none
      | _ => none
    | .value f => match opd C.P σ 0 f, looks C.P σ g c.args.toList c.argTypes.toList with
      | some (gf, .val (.fn k caps)), some (p, vs, br) => match C.Φ k (vs ++ caps) with
        | some (q, r, []) => if br && !r.noFz then none else some ((g = true → gf = true) ∧ (g = true → p) ∧ (g = true → q), .val r)
        | _ => none
      | _, _ => none
    | _ => none
  | _ => none
end Go.Ax
