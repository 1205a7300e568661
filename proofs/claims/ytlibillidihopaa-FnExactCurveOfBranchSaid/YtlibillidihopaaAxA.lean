/-
  AX, part A: abstract values 'V', and what it means that cells in a world hold one ('Rep'). Nothing here is about a program.
-/
import Derived.Laws.World
import Derived.Laws.Sem
import Derived.Laws.Cells
import Derived.Laws.AppendOwn
import Derived.Laws.Rows
import Derived.Laws.IdiomCopy
import Derived.Deep.Heap
import Derived.Deep.Draws
namespace Go.Ax

/-- A Go value, by value. 'slc o e d es': a slice of element type e; o: is its memory the frame's own; d: a ghost default. -/
inductive V where
  | int (k : IntKind) (n : Int)
  | bool (b : Bool)
  | str (s : ByteArray)
  | slc (o : Bool) (e : TypeId) (d : V) (es : List V)
  | agg (fs : List V)
  | box (e : TypeId) (c : V)
  | tup (fs : List V)
  | fn (f : FuncId) (caps : List V)
  | hole (n : Nat)
  deriving Inhabited

mutual
def V.size : V → Nat
  | .agg fs => V.sizes fs
  | .hole n => n
  | _ => 1
def V.sizes : List V → Nat
  | [] => 0
  | v :: vs => v.size + V.sizes vs
end

mutual
def V.owned : V → Bool
  | .slc o _ _ _ => o
  | .box _ _ => true
  | .agg fs => V.owneds fs
  | .tup fs => V.owneds fs
  | _ => false
def V.owneds : List V → Bool
  | [] => false
  | v :: vs => v.owned || V.owneds vs
end

mutual
/-- as read, not to be written -/
def V.frz : V → V
  | .slc _ e d es => .slc false e d.frz (V.frzs es)
  | .agg fs => .agg (V.frzs fs)
  | .tup fs => .tup (V.frzs fs)
  | .box _ _ => .hole 1
  | .int k n => .int k n
  | .bool b => .bool b
  | .str s => .str s
  | .fn f c => .fn f c
  | .hole n => .hole n
def V.frzs : List V → List V
  | [] => []
  | v :: vs => v.frz :: V.frzs vs
end

mutual
/-- no part that lies in memory of others -/
def V.noFz : V → Bool
  | .slc o _ _ es => (o || es.isEmpty) && V.noFzs es
  | .agg fs => V.noFzs fs
  | .tup fs => V.noFzs fs
  | .box _ c => c.noFz
  | .fn _ caps => caps.isEmpty
  | _ => true
def V.noFzs : List V → Bool
  | [] => true
  | v :: vs => v.noFz && V.noFzs vs
end

theorem V.frzs_eq (es : List V) : V.frzs es = es.map V.frz := by
  induction es with
  | nil => simp [V.frzs]
  | cons x l ih => simp [V.frzs, ih]
theorem V.noFzs_eq (es : List V) : V.noFzs es = es.all V.noFz := by
  induction es with
  | nil => simp [V.noFzs]
  | cons x l ih => simp [V.noFzs, ih]
theorem V.owneds_eq (es : List V) : V.owneds es = es.any V.owned := by
  induction es with
  | nil => simp [V.owneds]
  | cons x l ih => simp [V.owneds, ih]
theorem V.sizes_append (a b : List V) : V.sizes (a ++ b) = V.sizes a + V.sizes b := by
  induction a with
  | nil => simp [V.sizes]
  | cons x l ih => simp [V.sizes, ih]; omega

/-- the cells of field i begin here -/
def V.offs (fs : List V) (i : Nat) : Nat := V.sizes (fs.take i)

theorem V.offs_succ_le {fs : List V} {i : Nat} {x : V} (h : fs[i]? = some x) : V.offs fs i + x.size ≤ V.sizes fs := by
  have hd : fs = fs.take i ++ x :: fs.drop (i + 1) := by
    have h1 : i < fs.length := (List.getElem?_eq_some_iff.1 h).1
    have h2 : fs[i] = x := (List.getElem?_eq_some_iff.1 h).2
    rw [← h2, ← List.drop_eq_getElem_cons h1, List.take_append_drop]
  conv => rhs; rw [hd]
  rw [V.sizes_append]
  simp [V.offs, V.sizes]

theorem V.offs_sep {fs : List V} {i j : Nat} {x : V} (h : fs[i]? = some x) (hij : i < j) : V.offs fs i + x.size ≤ V.offs fs j := by
  have h1 : (fs.take j)[i]? = some x := by rw [List.getElem?_take]; simp [hij, h]
  have := V.offs_succ_le h1
  have e : V.offs (fs.take j) i = V.offs fs i := by unfold V.offs; rw [List.take_take]; congr 1; congr 1; omega
  rw [e] at this
  exact this

/-- The Go value v in a register has these cells. -/
def V.reg : V → List Value → Value → Prop
  | .agg _, cs, v => v = .agg cs.toArray
  | .hole _, _, _ => True
  | _, cs, v => v = cs.headD undef

/-- cells in block b, from off on -/
def Cells (w : World) (b off : Nat) (cs : List Value) : Prop := ∀ j v, cs[j]? = some v → w.cell? ⟨b, off + j, none⟩ = some v

theorem Cells.part {w : World} {b off : Nat} {cs : List Value} (h : Cells w b off cs) (i n : Nat) : Cells w b (off + i) ((cs.drop i).take n) := by
  intro j v hj
  rw [List.getElem?_take] at hj
  split at hj
  · rw [List.getElem?_drop] at hj
    have := h _ _ hj
    rw [show off + i + j = off + (i + j) from by omega]; exact this
  · cases hj

theorem Cells.of_block {w w' : World} {b off : Nat} {cs : List Value} (h : Cells w b off cs) (hb : w'.heap[b]? = w.heap[b]?) : Cells w' b off cs := by
  intro j v hj
  rw [World.cell?_of_block (a := ⟨b, off + j, none⟩) hb]
  exact h j v hj

theorem Cells.lt {w : World} {b off : Nat} {cs : List Value} (h : Cells w b off cs) (hn : cs ≠ []) : b < w.heap.size := by
  cases cs with
  | nil => exact absurd rfl hn
  | cons v l => exact World.block_lt_of_cell? w _ (h 0 v rfl)

section
variable (cz : TypeId → Nat) (w : World) (F : Nat → Prop)

/-- These cells hold this value. F: blocks that nobody writes any more; O: blocks that this value may own (an upper bound). -/
inductive Rep : V → List Value → (Nat → Prop) → Prop
  | int (k : IntKind) (n : Int) (O : Nat → Prop) : Rep (.int k n) [.int k n] O
  | bool (b : Bool) (O : Nat → Prop) : Rep (.bool b) [.bool b] O
  | str (s : ByteArray) (O : Nat → Prop) : Rep (.str s) [.string s] O
  | hole (n : Nat) (cs : List Value) (O : Nat → Prop) (hn : cs.length = n) : Rep (.hole n) cs O
  | fz0 (e : TypeId) (d : V) (a : Option Addr) (cap : Nat) (O : Nat → Prop) : Rep (.slc false e d []) [.slice a 0 cap] O
  | fz (e : TypeId) (d : V) (es : List V) (b off len cap : Nat) (cs : Nat → List Value) (O : Nat → Prop) (hl : len = es.length) (hc : es.length ≤ cap) (hm : cap ≤ maxLen) (hF : F b)
      (hcs : ∀ i, i < es.length → (cs i).length = cz e ∧ Cells w b (off + i * cz e) (cs i))
      (hr : ∀ i x, es[i]? = some x → Rep x (cs i) (fun _ => False)) : Rep (.slc false e d es) [.slice (some ⟨b, off, none⟩) len cap] O
  | own0 (e : TypeId) (d : V) (O : Nat → Prop) : Rep (.slc true e d []) [.slice none 0 0] O
  | own (e : TypeId) (d : V) (es : List V) (b len cap : Nat) (cur : Array Value) (cs : Nat → List Value) (Os : Nat → Nat → Prop) (O : Nat → Prop)
      (hb : w.heap[b]? = some (.cells cur e (0, 0))) (hsz : cur.size = cap * cz e) (hl : len = es.length) (hc : es.length ≤ cap) (hm : cap ≤ maxLen) (hO : O b)
      (hOs : ∀ i x, Os i x → O x ∧ x ≠ b) (hdis : ∀ i j x, i ≠ j → Os i x → ¬ Os j x)
      (hcs : ∀ i, i < es.length → (cs i).length = cz e ∧ Cells w b (i * cz e) (cs i))
      (hr : ∀ i x, es[i]? = some x → Rep x (cs i) (Os i)) : Rep (.slc true e d es) [.slice (some ⟨b, 0, none⟩) len cap] O
  | agg (fs : List V) (cs : List Value) (Os : Nat → Nat → Prop) (O : Nat → Prop) (hn : cs.length = V.sizes fs)
      (hOs : ∀ i x, Os i x → O x) (hdis : ∀ i j x, i ≠ j → Os i x → ¬ Os j x)
      (hr : ∀ i x, fs[i]? = some x → Rep x ((cs.drop (V.offs fs i)).take x.size) (Os i)) : Rep (.agg fs) cs O
  | box (e : TypeId) (c : V) (b : Nat) (cur : Array Value) (cs : List Value) (Oc O : Nat → Prop) (hb : w.heap[b]? = some (.cells cur e (0, 0))) (hcs : cur.toList = cs) (hO : O b)
      (hOs : ∀ x, Oc x → O x ∧ x ≠ b) (hr : Rep c cs Oc) : Rep (.box e c) [.pointer (some ⟨b, 0, none⟩)] O
  | tup (fs : List V) (vs : Array Value) (cs : Nat → List Value) (Os : Nat → Nat → Prop) (O : Nat → Prop) (hn : vs.size = fs.length)
      (hOs : ∀ i x, Os i x → O x) (hdis : ∀ i j x, i ≠ j → Os i x → ¬ Os j x)
      (hv : ∀ i (x : V), fs[i]? = some x → x.reg (cs i) (vs.getD i undef))
      (hr : ∀ i x, fs[i]? = some x → Rep x (cs i) (Os i)) : Rep (.tup fs) [.tuple vs] O
  | fn (f : FuncId) (caps : List V) (vs : Array Value) (cs : Nat → List Value) (O : Nat → Prop) (hn : vs.size = caps.length)
      (hv : ∀ i (x : V), caps[i]? = some x → x.reg (cs i) (vs.getD i undef))
      (hr : ∀ i x, caps[i]? = some x → Rep x (cs i) (fun _ => False)) : Rep (.fn f caps) [.func (.func f) #[] vs] O
end

section
variable {cz : TypeId → Nat} {w w' : World} {F F' : Nat → Prop} {x : V} {cs : List Value} {O O' : Nat → Prop}

theorem Rep.length (h : Rep cz w F x cs O) : cs.length = x.size := by
  cases h <;> simp_all [V.size]

theorem Rep.mono (h : Rep cz w F x cs O) : ∀ {F' O' : Nat → Prop}, (∀ b, F b → F' b) → (∀ b, O b → O' b) → Rep cz w F' x cs O' := by
  induction h with
  | int k n O => intros; exact .int ..
  | bool b O => intros; exact .bool ..
  | str s O => intros; exact .str ..
  | hole n cs O hn => intros; exact .hole _ _ _ hn
  | fz0 e d a cap O => intros; exact .fz0 ..
  | fz e d es b off len cap cs O hl hc hm hF hcs hr ih => intro F' O' h1 h2; exact .fz e d es b off len cap cs O' hl hc hm (h1 _ hF) hcs (fun i x hx => ih i x hx h1 (fun _ h => h))
  | own0 e d O => intros; exact .own0 ..
  | own e d es b len cap cur cs Os O hb hsz hl hc hm hO hOs hdis hcs hr ih =>
    intro F' O' h1 h2
    exact .own e d es b len cap cur cs Os O' hb hsz hl hc hm (h2 _ hO) (fun i x hx => ⟨h2 _ (hOs i x hx).1, (hOs i x hx).2⟩) hdis hcs (fun i x hx => ih i x hx h1 (fun _ h => h))
  | agg fs cs Os O hn hOs hdis hr ih => intro F' O' h1 h2; exact .agg fs cs Os O' hn (fun i x hx => h2 _ (hOs i x hx)) hdis (fun i x hx => ih i x hx h1 (fun _ h => h))
  | box e c b cur cs Oc O hb hcs hO hOs hr ih => intro F' O' h1 h2; exact .box e c b cur cs Oc O' hb hcs (h2 _ hO) (fun x hx => ⟨h2 _ (hOs x hx).1, (hOs x hx).2⟩) (ih h1 (fun _ h => h))
  | tup fs vs cs Os O hn hOs hdis hv hr ih => intro F' O' h1 h2; exact .tup fs vs cs Os O' hn (fun i x hx => h2 _ (hOs i x hx)) hdis hv (fun i x hx => ih i x hx h1 (fun _ h => h))
  | fn f caps vs cs O hn hv hr ih => intro F' O' h1 h2; exact .fn f caps vs cs O' hn hv (fun i x hx => ih i x hx h1 (fun _ h => h))

/-- It reads the same where the blocks that it may own, and the frozen ones, are as they were. -/
theorem Rep.world (h : Rep cz w F x cs O) : (∀ b, F b ∨ O b → w'.heap[b]? = w.heap[b]?) → Rep cz w' F x cs O := by
  induction h with
  | int k n O => intros; exact .int ..
  | bool b O => intros; exact .bool ..
  | str s O => intros; exact .str ..
  | hole n cs O hn => intros; exact .hole _ _ _ hn
  | fz0 e d a cap O => intros; exact .fz0 ..
  | fz e d es b off len cap cs O hl hc hm hF hcs hr ih =>
    intro H
    exact .fz e d es b off len cap cs O hl hc hm hF (fun i hi => ⟨(hcs i hi).1, (hcs i hi).2.of_block (H b (.inl hF))⟩) (fun i x hx => ih i x hx (fun b hb => H b (hb.imp id False.elim)))
  | own0 e d O => intros; exact .own0 ..
  | own e d es b len cap cur cs Os O hb hsz hl hc hm hO hOs hdis hcs hr ih =>
    intro H
    exact .own e d es b len cap cur cs Os O ((H b (.inr hO)).trans hb) hsz hl hc hm hO hOs hdis (fun i hi => ⟨(hcs i hi).1, (hcs i hi).2.of_block (H b (.inr hO))⟩)
      (fun i x hx => ih i x hx (fun b hb => H b (hb.imp id (fun h => (hOs i b h).1))))
  | agg fs cs Os O hn hOs hdis hr ih => intro H; exact .agg fs cs Os O hn hOs hdis (fun i x hx => ih i x hx (fun b hb => H b (hb.imp id (fun h => hOs i b h))))
  | box e c b cur cs Oc O hb hcs hO hOs hr ih => intro H; exact .box e c b cur cs Oc O ((H b (.inr hO)).trans hb) hcs hO hOs (ih (fun b hb => H b (hb.imp id (fun h => (hOs b h).1))))
  | tup fs vs cs Os O hn hOs hdis hv hr ih => intro H; exact .tup fs vs cs Os O hn hOs hdis hv (fun i x hx => ih i x hx (fun b hb => H b (hb.imp id (fun h => hOs i b h))))
  | fn f caps vs cs O hn hv hr ih => intro H; exact .fn f caps vs cs O hn hv (fun i x hx => ih i x hx (fun b hb => H b (hb.imp id False.elim)))

mutual
theorem V.frz_size : ∀ x : V, x.frz.size = x.size
  | .int _ _ => rfl
  | .bool _ => rfl
  | .str _ => rfl
  | .slc _ _ _ _ => by simp [V.frz, V.size]
  | .agg fs => by simp only [V.frz, V.size]; exact V.frzs_size fs
  | .box _ _ => by simp [V.frz, V.size]
  | .tup _ => by simp [V.frz, V.size]
  | .fn _ _ => rfl
  | .hole _ => rfl
theorem V.frzs_size : ∀ fs : List V, V.sizes (V.frzs fs) = V.sizes fs
  | [] => rfl
  | x :: l => by simp only [V.frzs, V.sizes]; rw [V.frz_size x, V.frzs_size l]
end

theorem V.frz_reg {x : V} {cs : List Value} {v : Value} (h : x.reg cs v) : x.frz.reg cs v := by
  cases x <;> simp_all [V.frz, V.reg]

theorem V.offs_frzs (fs : List V) (i : Nat) : V.offs (V.frzs fs) i = V.offs fs i := by
  unfold V.offs
  rw [V.frzs_eq, ← List.map_take, ← V.frzs_eq, V.frzs_size]

/-- What is owned may be taken for frozen. -/
theorem Rep.frz (h : Rep cz w F x cs O) : Rep cz w (fun b => F b ∨ O b) x.frz cs (fun _ => False) := by
  induction h with
  | int k n O => exact .int ..
  | bool b O => exact .bool ..
  | str s O => exact .str ..
  | hole n cs O hn => exact .hole _ _ _ hn
  | fz0 e d a cap O => simp only [V.frz, V.frzs]; exact .fz0 ..
  | fz e d es b off len cap cs O hl hc hm hF hcs hr ih =>
    simp only [V.frz]
    refine .fz e _ _ b off len cap cs _ (by simp [V.frzs_eq, hl]) (by simpa [V.frzs_eq] using hc) hm (.inl hF) (fun i hi => hcs i (by simpa [V.frzs_eq] using hi)) (fun i x hx => ?_)
    rw [V.frzs_eq, List.getElem?_map] at hx
    cases hy : es[i]? with
    | none => simp [hy] at hx
    | some y =>
      simp [hy] at hx
      subst hx
      exact (ih i y hy).mono (fun b h => h.imp id False.elim) (fun _ h => h)
  | own0 e d O => simp only [V.frz, V.frzs]; exact .fz0 ..
  | own e d es b len cap cur cs Os O hb hsz hl hc hm hO hOs hdis hcs hr ih =>
    simp only [V.frz]
    refine .fz e _ _ b 0 len cap cs _ (by simp [V.frzs_eq, hl]) (by simpa [V.frzs_eq] using hc) hm (.inr hO) (fun i hi => ?_) (fun i x hx => ?_)
    · have := hcs i (by simpa [V.frzs_eq] using hi)
      simpa using this
    rw [V.frzs_eq, List.getElem?_map] at hx
    cases hy : es[i]? with
    | none => simp [hy] at hx
    | some y =>
      simp [hy] at hx
      subst hx
      exact (ih i y hy).mono (fun b h => h.imp id (fun h => (hOs i b h).1)) (fun _ h => h)
  | agg fs cs Os O hn hOs hdis hr ih =>
    simp only [V.frz]
    refine .agg _ cs (fun _ _ => False) _ (by rw [V.frzs_size]; exact hn) (fun _ _ h => h) (fun _ _ _ _ h => h.elim) (fun i x hx => ?_)
    rw [V.frzs_eq, List.getElem?_map] at hx
    cases hy : fs[i]? with
    | none => simp [hy] at hx
    | some y =>
      simp [hy] at hx
      subst hx
      rw [V.offs_frzs, V.frz_size]
      exact (ih i y hy).mono (fun b h => h.imp id (fun h => hOs i b h)) (fun _ h => h)
  | box e c b cur cs Oc O hb hcs hO hOs hr ih => simp only [V.frz]; exact .hole _ _ _ (by simp)
  | tup fs vs cs Os O hn hOs hdis hv hr ih =>
    simp only [V.frz]
    refine .tup _ vs cs (fun _ _ => False) _ (by rw [V.frzs_eq]; simpa using hn) (fun _ _ h => h) (fun _ _ _ _ h => h.elim) (fun i x hx => ?_) (fun i x hx => ?_)
    all_goals
      rw [V.frzs_eq, List.getElem?_map] at hx
      cases hy : fs[i]? with
      | none => simp [hy] at hx
      | some y =>
        simp [hy] at hx
        subst hx
        first
          | exact V.frz_reg (hv i _ hy)
          | exact (ih i _ hy).mono (fun b h => h.imp id (fun h => hOs i b h)) (fun _ h => h)
  | fn f caps vs cs O hn hv hr ih => exact (Rep.fn f caps vs cs _ hn hv hr).mono (fun b h => .inl h) (fun _ h => h)

/-- A value without parts in others' memory reads whatever is frozen. -/
theorem Rep.noFz (h : Rep cz w F x cs O) : ∀ {F' : Nat → Prop}, x.noFz = true → Rep cz w F' x cs O := by
  induction h with
  | int k n O => intros; exact .int ..
  | bool b O => intros; exact .bool ..
  | str s O => intros; exact .str ..
  | hole n cs O hn => intros; exact .hole _ _ _ hn
  | fz0 e d a cap O => intros; exact .fz0 ..
  | fz e d es b off len cap cs O hl hc hm hF hcs hr ih =>
    intro F' hx
    simp [V.noFz] at hx
    obtain ⟨h1, _⟩ := hx
    subst h1
    simp at hl
    subst hl
    exact .fz0 ..
  | own0 e d O => intros; exact .own0 ..
  | own e d es b len cap cur cs Os O hb hsz hl hc hm hO hOs hdis hcs hr ih =>
    intro F' hx
    simp [V.noFz, V.noFzs_eq] at hx
    exact .own e d es b len cap cur cs Os O hb hsz hl hc hm hO hOs hdis hcs (fun i x hi => ih i x hi (hx x (List.mem_of_getElem? hi)))
  | agg fs cs Os O hn hOs hdis hr ih =>
    intro F' hx
    simp [V.noFz, V.noFzs_eq] at hx
    exact .agg fs cs Os O hn hOs hdis (fun i x hi => ih i x hi (hx x (List.mem_of_getElem? hi)))
  | box e c b cur cs Oc O hb hcs hO hOs hr ih => intro F' hx; exact .box e c b cur cs Oc O hb hcs hO hOs (ih (by simpa [V.noFz] using hx))
  | tup fs vs cs Os O hn hOs hdis hv hr ih =>
    intro F' hx
    simp [V.noFz, V.noFzs_eq] at hx
    exact .tup fs vs cs Os O hn hOs hdis hv (fun i x hi => ih i x hi (hx x (List.mem_of_getElem? hi)))
  | fn f caps vs cs O hn hv hr ih =>
    intro F' hx
    simp [V.noFz] at hx
    subst hx
    exact .fn f [] vs cs O hn hv (fun i x hi => by simp at hi)
end
end Go.Ax
