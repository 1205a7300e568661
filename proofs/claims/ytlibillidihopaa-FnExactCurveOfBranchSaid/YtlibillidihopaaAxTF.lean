/-
  AX, part TF: structs and slices that are built of parts which are moved into them.
-/
import Derived.Test.YtlibillidihopaaAxTE
namespace Go.Ax
open Go.RowKit

section
variable {cz : TypeId → Nat} {w : World} {F : Nat → Prop}
theorem aggSetO {fs : List V} {cells cells1 cs : List Value} {j : Nat} {x v : V} {O Ov : Nat → Prop} (hr : Rep cz w F (.agg fs) cells O) (hx : fs[j]? = some x) (hsz : x.size = v.size) (hrep : Rep cz w F v cs Ov) (hd : ∀ b, Ov b → ¬ O b)
    (hc : cells1 = cells.take (V.offs fs j) ++ cs ++ cells.drop (V.offs fs j + cs.length)) : Rep cz w F (.agg (fs.set j v)) cells1 (fun b => O b ∨ Ov b) := by
  cases hr with
  | agg fs cs0 Os O hn hOs hdis hr =>
    have hle := V.offs_succ_le hx
    have hcl := hrep.length
    have htl : (cells.take (V.offs fs j)).length = V.offs fs j := by simp; omega
    subst hc
    refine .agg _ _ (fun k => if k = j then Ov else Os k) _ (by rw [V.sizes_set hx hsz.symm]; simp only [List.length_append, List.length_take, List.length_drop, hcl]; omega) (fun k b hb => ?_) (fun k k' b hk hb hb' => ?_) (fun k z hz => ?_)
    · split at hb
      · exact .inr hb
      · exact .inl (hOs k b hb)
    · split at hb
      · split at hb'
        · omega
        · exact hd b hb (hOs k' b hb')
      · split at hb'
        · exact hd b hb' (hOs k b hb)
        · exact hdis k k' b hk hb hb'
    rw [V.offs_set k hx hsz.symm]
    rcases V.set_some hz with ⟨rfl, rfl⟩ | ⟨hne, hz'⟩
    · rw [List.append_assoc, List.drop_append_of_le_length (by rw [htl]; exact Nat.le_refl _), List.drop_of_length_le (by rw [htl]; exact Nat.le_refl _), List.nil_append, List.take_append_of_le_length (by rw [hcl]; exact Nat.le_refl _),
        List.take_of_length_le (by rw [hcl]; exact Nat.le_refl _)]
      simp only [if_true]
      exact hrep
    · have hseg : List.take z.size (List.drop (V.offs fs k) (cells.take (V.offs fs j) ++ cs ++ cells.drop (V.offs fs j + cs.length))) = List.take z.size (List.drop (V.offs fs k) cells) := by
        apply List.ext_getElem?
        intro m
        rw [List.getElem?_take, List.getElem?_take]
        split
        · rename_i hm
          rw [List.getElem?_drop, List.getElem?_drop, getElem?_mid, htl, hcl]
          rcases Nat.lt_or_gt_of_ne hne with hlt' | hgt
          · have := V.offs_sep hz' hlt'
            rw [if_pos (by omega), List.getElem?_take, if_pos (by omega)]
          · have := V.offs_sep hx hgt
            rw [if_neg (by omega), if_neg (by omega), List.getElem?_drop]
            congr 1
            omega
        · rfl
      rw [hseg, if_neg hne]
      exact hr k z hz'

/-- a part: the operand's value; the place and the value; the blocks -/
abbrev Part := (Nat × Value) × (Nat × V) × (Nat → Prop)
def PartOk (cz : TypeId → Nat) (w : World) (F : Nat → Prop) (e : Part) : Prop := e.1.1 = e.2.1.1 ∧ ∃ cs, e.2.1.2.reg cs e.1.2 ∧ (∀ n, e.2.1.2 ≠ .hole n) ∧ Rep cz w F e.2.1.2 cs e.2.2

theorem cells_reg {v : V} {u : Value} {cs : List Value} {O : Nat → Prop} (hreg : v.reg cs u) (hnh : ∀ n, v ≠ .hole n) (hrep : Rep cz w F v cs O) : u.cells.toList = cs := by
  revert hreg hrep hnh
  cases v with
  | agg fs => intro hreg _ hrep; rw [hreg]; simp [Value.cells]
  | hole n => intro _ hnh; exact absurd rfl (hnh n)
  | _ =>
    intro hreg _ hrep
    have hl := hrep.length
    match cs, hl with
    | [c], _ =>
      have : u = c := hreg
      subst this
      cases hrep <;> rfl

theorem fill_soundO {place : Nat → Option (Nat × Nat)} : ∀ {l : List Part} {fs fs' : List V} {cells : Array Value} {O : Nat → Prop}, Rep cz w F (.agg fs) cells.toList O → fillV fs (l.map (·.2.1)) = some fs' →
    (∀ e ∈ l, PartOk cz w F e) → l.Pairwise (fun e e' => ∀ b, e.2.2 b → ¬ e'.2.2 b) → (∀ e ∈ l, ∀ b, e.2.2 b → ¬ O b) → (∀ (i : Nat) (x : V), fs[i]? = some x → place i = some (V.offs fs i, x.size)) →
    ∃ cells', Instr.fill place cells (l.map (·.1)) = some cells' ∧ Rep cz w F (.agg fs') cells'.toList (fun b => O b ∨ ∃ e ∈ l, e.2.2 b) ∧ fs'.length = fs.length ∧ (∀ (i : Nat) (x : V), fs'[i]? = some x → ∃ y : V, fs[i]? = some y ∧ y.size = x.size)
  | [], fs, fs', cells, O, hr, hf, _, _, _, hpl => by
    simp only [List.map_nil, fillV, Option.some.injEq] at hf
    subst hf
    exact ⟨cells, rfl, hr.mono (fun _ h => h) (fun _ h => .inl h), rfl, fun i x hx => ⟨x, hx, rfl⟩⟩
  | e :: l, fs, fs', cells, O, hr, hf, hok, hpw, hdO, hpl => by
    obtain ⟨⟨j, u⟩, ⟨i, v⟩, Ov⟩ := e
    obtain ⟨hij, cs, hreg, hnh, hrep⟩ := hok ((j, u), (i, v), Ov) (by simp)
    have hij : j = i := hij
    have hreg : v.reg cs u := hreg
    have hrep : Rep cz w F v cs Ov := hrep
    have hnh : ∀ n, v ≠ .hole n := hnh
    subst hij
    simp only [List.map_cons, fillV] at hf
    split at hf
    · rename_i x hx
      split at hf
      · rename_i hsz
        have hcl : u.cells.toList = cs := cells_reg hreg hnh hrep
        have hlen : u.cells.size = v.size := by rw [← hrep.length, ← hcl]; simp
        have hfit : V.offs fs j + v.size ≤ cells.size := by
          have := V.offs_succ_le hx
          have hl := hr.length
          simp only [Array.length_toList, V.size] at hl
          omega
        let cells1 := (u.cells.zipIdx.foldl (fun cs (x : Value × Nat) => cs.setIfInBounds (V.offs fs j + x.2) x.1) cells)
        have hc1 : cells1.toList = cells.toList.take (V.offs fs j) ++ cs ++ cells.toList.drop (V.offs fs j + cs.length) := by
          have := blit_list (V.offs fs j) cs cells (by rw [hrep.length]; exact hfit)
          rw [← this]
          show (u.cells.zipIdx.foldl _ cells).toList = _
          rw [← Array.foldl_toList, Array.toList_zipIdx, hcl]
        have hr1 : Rep cz w F (.agg (fs.set j v)) cells1.toList (fun b => O b ∨ Ov b) := aggSetO hr hx hsz hrep (hdO ((j, u), (j, v), Ov) (by simp)) hc1
        obtain ⟨hp1, hp2⟩ := List.pairwise_cons.1 hpw
        obtain ⟨cells', e1, e2, e3, e4⟩ := fill_soundO (place := place) hr1 hf (fun e he => hok e (by simp [he])) hp2 (fun e he b hb hb' => hb'.elim (hdO e (by simp [he]) b hb) (fun h => hp1 e he b h hb)) (fun k y hk => by
          rw [V.offs_set k hx hsz.symm]
          rcases V.set_some hk with ⟨rfl, rfl⟩ | ⟨_, hk'⟩
          · rw [hpl k x hx, hsz]
          · exact hpl k y hk')
        refine ⟨cells', ?_, e2.mono (fun _ h => h) (fun b hb => ?_), by simpa using e3, fun k y hk => ?_⟩
        · simp only [List.map_cons, Instr.fill]
          rw [hpl j x hx]
          simp only
          rw [if_neg (by rw [hlen, hsz]; simp; omega)]
          exact e1
        · rcases hb with (hb | hb) | ⟨e, he, hb⟩
          · exact .inl hb
          · exact .inr ⟨((j, u), (j, v), Ov), by simp, hb⟩
          · exact .inr ⟨e, by simp [he], hb⟩
        · obtain ⟨z, hz, hzs⟩ := e4 k y hk
          rcases V.set_some hz with ⟨rfl, rfl⟩ | ⟨_, hk'⟩
          · exact ⟨x, hx, by rw [hsz]; exact hzs⟩
          · exact ⟨z, hk', hzs⟩
      · cases hf
    · cases hf
end

/-- parts, taken in order -/
def takesV (C : Ctx) (ty : Nat → TypeId) : Env → List (Nat × Operand) → Option (Prop × List (Nat × V) × Env)
  | σ, [] => some (True, [], σ)
  | σ, (i, x) :: xs => match opd C.P σ (ty i) x with
    | some (gx, A) => match takeA σ A with
      | some (q, y, σ1) => if y.isHole then none else (match takesV C ty σ1 xs with
        | some (p, vs, σ2) => some (gx = true ∧ q ∧ p, (i, y) :: vs, σ2)
        | none => none)
      | none => none
    | none => none

def mstep (C : Ctx) (σ : Env) (o : Oper) : Option (Prop × Env) :=
  match o.guard, o.op, o.dst with
  | none, .build t parts, some d => match structOf C.P t, takesV C (fun i => ((fieldT C.P t i).map (·.2)).getD 0) σ parts.toList with
    | some zs, some (p, vs, σ1) => match fillV zs vs with
      | some fs => if C.dst d then some (p, σ1.put d true (.val (.agg fs))) else none
      | none => none
    | _, _ => none
  | none, .buildSlice t n parts, some d => match elemOf C.P t with
    | some e => match zeroOf C.P e, takesV C (fun _ => e) σ parts.toList with
      | some z, some (p, vs, σ1) => if n * C.P.cellsOf e ≤ 2 ^ 20 ∧ 0 < C.P.cellsOf e ∧ 0 < n then (match fillV (List.replicate n z) vs with
        | some es => if C.dst d then some (p, σ1.put d true (.val (.slc true e z es))) else none
        | none => none) else none
      | _, _ => none
    | none => none
  | _, _, _ => none

section
variable {C : Ctx} {F : Nat → Prop} {O : Nat → Nat → Prop} {Z : Nat → Prop} {σ σ' σ1 : Env} {a : Act} {w w' : World}

theorem takesV_sound {ty : Nat → TypeId} : ∀ (parts : List (Nat × Operand)) (σ σ' : Env) (O : Nat → Nat → Prop) (Z : Nat → Prop) (p : Prop) (vs : List (Nat × V)), Inv C F O Z σ a w → takesV C ty σ parts = some (p, vs, σ') → p →
    ∃ l : List Part, l.map (·.1) = parts.map (fun x => (x.1, a.eval x.2)) ∧ l.map (·.2.1) = vs ∧ (∀ e ∈ l, PartOk C.cz w F e) ∧ l.Pairwise (fun e e' => ∀ b, e.2.2 b → ¬ e'.2.2 b) ∧ (∀ e ∈ l, ∀ b, e.2.2 b → ¬ Z b) ∧ ∃ O', Inv C F O' (fun b => Z b ∨ ∃ e ∈ l, e.2.2 b) σ' a w
  | [], σ, σ', O, Z, p, vs, hI, h, _ => by
    simp only [takesV, Option.some.injEq, Prod.mk.injEq] at h
    obtain ⟨_, rfl, rfl⟩ := h
    exact ⟨[], rfl, rfl, fun e he => (by cases he), .nil, fun e he => (by cases he), O, hI.lessZ (fun b hb => hb.elim id (fun ⟨e, he, _⟩ => by cases he))⟩
  | (i, x) :: xs, σ, σ', O, Z, p, vs, hI, h, hp => by
    simp only [takesV] at h
    split at h
    · rename_i gx A hA
      split at h
      · rename_i q y σ1 ht
        split at h
        · cases h
        rename_i hnh
        split at h
        · rename_i p' vs' σ2 hr
          simp only [Option.some.injEq, Prod.mk.injEq] at h
          obtain ⟨rfl, rfl, rfl⟩ := h
          obtain ⟨p1, p2, p3⟩ := hp
          obtain ⟨cs, On, e1, e2⟩ := takeA_sound hI (opd_sound hI hA p1).1 ht p2
          obtain ⟨O1, hI1⟩ := e2.inv
          obtain ⟨l, l1, l2, l3, l4, l5, O2, hI2⟩ := takesV_sound xs σ1 _ O1 _ p' vs' hI1 hr p3
          refine ⟨((i, a.eval x), (i, y), On) :: l, by simp [l1], by simp [l2], fun e he => ?_, List.pairwise_cons.2 ⟨fun e he b hb hb' => l5 e he b hb' (.inr hb), l4⟩, fun e he b hb => ?_, O2, hI2.lessZ (fun b hb => ?_)⟩
          · rcases List.mem_cons.1 he with rfl | he
            · exact ⟨rfl, cs, e1, fun n hn => by simp only at hn; subst hn; simp [V.isHole] at hnh, e2.rep⟩
            · exact l3 e he
          · rcases List.mem_cons.1 he with rfl | he
            · exact e2.new b hb
            · exact fun hz => l5 e he b hb (.inl hz)
          · rcases hb with hb | ⟨e, he, hb⟩
            · exact .inl (.inl hb)
            · rcases List.mem_cons.1 he with rfl | he
              · exact .inl (.inr hb)
              · exact .inr ⟨e, he, hb⟩
        · cases h
      · cases h
    · cases h

theorem mstep_sound (hI : Inv C F O (fun _ => False) σ a w) {o : Oper} {p : Prop} (h : mstep C σ o = some (p, σ')) (hp : p) {Q : Exit → Act → World → Prop} : o.guard = none ∧ o.wp C.P a w (G C σ') Q := by
  unfold mstep at h
  split at h
  · rename_i t parts d hg hop hd
    refine ⟨hg, ?_⟩
    split at h
    · rename_i zs p' vs σ1 h1 h2
      split at h
      · rename_i fs hf
        split at h
        · rename_i hdd
          simp only [Option.some.injEq, Prod.mk.injEq] at h
          obtain ⟨rfl, rfl⟩ := h
          unfold structOf at h1
          split at h1
          · rename_i zs' fds hz hu
            split at h1
            · rename_i hpl
              simp only [Option.some.injEq] at h1
              subst h1
              obtain ⟨i, z, hi, hzz, hzl, hzr⟩ := zeroOf_rep hz
              obtain ⟨l, l1, l2, l3, l4, l5, O', hI'⟩ := takesV_sound _ _ _ _ _ _ _ hI h2 hp
              subst l2
              obtain ⟨cells', e1, e2, _⟩ := fill_soundO (cells := z.cells) (place := ((V.places zs' 0).toArray[·]?)) hzr hf l3 l4 (fun _ _ _ _ h => h) (fun i x hx => by simp [V.places_get, hx])
              rw [l1] at e1
              have hb : C.P.built t (parts.map fun (i, x) => (i, a.eval x)).toList = some cells' := by
                unfold Program.built
                simp only [hi, hu, hzz, hpl]
                rw [← e1]
                congr 1
                simp
              have hrun : (execOp a.eval o).run C.P w = .ok (.value (.agg cells')) w := by
                simp only [execOp, hop, Sem.run_bind]
                rw [run_build w t _ cells' hb]
                rfl
              unfold Oper.wp
              rw [hrun, Oper.upon_value, hd]
              exact ⟨F, _, (hI'.putVal (by rw [hI'.ts]; exact hdd.2) (.inl hdd.1) (g := true) (x := .agg fs) (v := .agg cells') (cs := cells'.toList) (On := fun b => False ∨ ∃ e ∈ l, e.2.2 b) (fun _ => ⟨by simp [V.reg], e2⟩) (fun b hb => hb) (by simp)).lessZ (fun _ h => h.elim)⟩
            · cases h1
          · cases h1
        · cases h
      · cases h
    · cases h
  · rename_i t n parts d hg hop hd
    refine ⟨hg, ?_⟩
    split at h
    · rename_i e he
      split at h
      · rename_i z p' vs σ1 hz h1
        split at h
        · rename_i hcz
          split at h
          · rename_i es hf
            split at h
            · rename_i hdd
              simp only [Option.some.injEq, Prod.mk.injEq] at h
              obtain ⟨rfl, rfl⟩ := h
              obtain ⟨i, zv, hi, hzz, hzl, hzr⟩ := zeroOf_rep hz
              have hisz : C.P.cellsOf e = i.size := by simp [Program.cellsOf, hi]
              have hzl' : zv.cells.size = i.size := by simpa using hzl
              have hpos : 0 < zv.cells.size := by omega
              obtain ⟨l, l1, l2, l3, l4, l5, O', hI'⟩ := takesV_sound _ _ _ _ _ _ _ hI h1 hp
              subst l2
              have hagg : Rep C.cz w F (.agg (List.replicate n z)) (madeCells zv.cells (n * zv.cells.size)).toList (fun _ => False) :=
                agg_replicate (hzr (w := w) (F := F)) n (by simp [size_madeCells]) (fun k hk => by simpa using madeCells_part zv.cells n k hk hpos)
              have hzs : ∀ x ∈ List.replicate n z, x.size = i.size := by intro x hx; rw [(List.mem_replicate.1 hx).2, ← (hzr (w := w) (F := F)).length, hzl]
              obtain ⟨cells', e1, e2, e3, e4⟩ := fill_soundO (place := fun k => some (k * i.size, i.size)) hagg hf l3 l4 (fun _ _ _ _ h => h) (fun k x hx => by
                have hk : k < n := by have := (List.getElem?_eq_some_iff.1 hx).1; simpa using this
                rw [offs_same _ hzs k (by simp; omega), hzs x (List.mem_of_getElem? hx)])
              rw [l1] at e1
              have hes : es.length = n := by simpa using e3
              have hesz : ∀ x ∈ es, x.size = i.size := by
                intro x hx
                obtain ⟨k, hk⟩ := List.mem_iff_getElem?.1 hx
                obtain ⟨y, hy, hys⟩ := e4 k x hk
                rw [← hys]
                exact hzs y (List.mem_of_getElem? hy)
              have hlen : cells'.size = n * i.size := by
                have := e2.length
                simp only [Array.length_toList, V.size] at this
                rw [this]
                have := offs_same es hesz n (by omega)
                rw [← this]
                unfold V.offs
                rw [List.take_of_length_le (by omega)]
              have hbig : ¬ (n * i.size > 2 ^ 24) := by rw [hisz] at hcz; omega
              have hmap : (parts.map fun (i, x) => (i, a.eval x)).toList = parts.toList.map (fun x : Nat × Operand => (x.1, a.eval x.2)) := by simp
              have h0 : ¬ n * i.size = 0 := by
                intro h0
                rcases Nat.mul_eq_zero.1 h0 with h | h <;> omega
              have hrun : (execOp a.eval o).run C.P w = .ok (.value (.slice (some ⟨w.heap.size, 0, none⟩) n n)) (w.alloc (.cells cells' e)) := by
                simp only [execOp, hop, Sem.run_bind]
                simp only [Instr.buildSlice, Sem.run_bind, run_underlying (elemOf_und he), Result.andThen_ok, Go.sizeOf, typeInfo, run_program, hi, Sem.run_pure, if_neg hbig, if_neg h0, zeroValue, hzz]
                rw [hmap]
                have e1' : Instr.fill (fun k => some (k * i.size, i.size)) ((Array.range (n * i.size)).map (zv.cells[· % zv.cells.size]!)) (parts.toList.map (fun x : Nat × Operand => (x.1, a.eval x.2))) = some cells' := by
                  rw [← e1]
                  congr 1
                  rw [hzl']
                  simp [madeCells, hzl']
                simp [e1', newRow]
              have hlt : ∀ b, (∃ e ∈ l, e.2.2 b) → b < w.heap.size := fun b hb => hI'.zlt b (.inr hb)
              have hrep : Rep C.cz (w.alloc (.cells cells' e)) F (.slc true e z es) [.slice (some ⟨w.heap.size, 0, none⟩) n n] (fun b => b = w.heap.size ∨ ∃ e ∈ l, e.2.2 b) := by
                cases e2 with
                | agg fs cs Os _ hn hOs hdis hr =>
                  refine .own e z es w.heap.size n n cells' (fun k => (cells'.toList.drop (k * i.size)).take i.size) Os _ (Deep.blk_alloc_new w _) (by rw [hlen]; show _ = n * C.P.cellsOf e; rw [hisz]) hes.symm (by omega) ?_ (.inl rfl) (fun k b hb => ?_) hdis
                    (fun k hk => ⟨?_, ?_⟩) (fun k x hx => ?_)
                  · have : n ≤ n * i.size := Nat.le_mul_of_pos_right n (by omega)
                    rw [hisz] at hcz
                    simp only [maxLen]
                    omega
                  · have := (hOs k b hb).elim False.elim id
                    exact ⟨.inr this, by have := hlt b this; omega⟩
                  · have : (k + 1) * i.size ≤ n * i.size := Nat.mul_le_mul_right _ (by omega)
                    rw [Nat.add_mul] at this
                    show _ = C.P.cellsOf e
                    rw [hisz]
                    simp
                    omega
                  · intro j v hj
                    rw [List.getElem?_take] at hj
                    split at hj
                    · rw [List.getElem?_drop] at hj
                      rw [World.cell?_alloc_new]
                      show cells'[k * C.P.cellsOf e + j]? = _
                      rw [hisz]
                      simpa using hj
                    · cases hj
                  · have hk : k < es.length := (List.getElem?_eq_some_iff.1 hx).1
                    have := hr k x hx
                    rw [offs_same es hesz k (by omega), hesz x (List.mem_of_getElem? hx)] at this
                    exact this.alloc hI.flt (fun b hb => hlt b ((hOs k b hb).elim False.elim id)) _
              have h2 : Inv C F O' (fun b => b = w.heap.size ∨ ∃ e ∈ l, e.2.2 b) σ1 a (w.alloc (.cells cells' e)) :=
                hI'.worldZ (by simp) (fun k hk _ => Deep.blk_alloc_lt w _ k hk) (fun b hb => hb.elim (fun hb => .inr (by subst hb; simp)) (fun hb => .inl (.inr hb)))
                  (fun _ b off u _ hz hu h0 => by
                    have hb : b < w.heap.size := hz.elim False.elim (hlt b)
                    rw [World.cell?_of_block (a := ⟨b, off, none⟩) (Deep.blk_alloc_lt w _ b hb)]
                    exact h0) rfl rfl rfl
              unfold Oper.wp
              rw [hrun, Oper.upon_value, hd]
              exact ⟨F, _, (h2.putVal (by rw [hI'.ts]; exact hdd.2) (.inl hdd.1) (g := true) (x := .slc true e z es) (v := .slice (some ⟨w.heap.size, 0, none⟩) n n) (cs := [.slice (some ⟨w.heap.size, 0, none⟩) n n]) (On := fun b => b = w.heap.size ∨ ∃ e ∈ l, e.2.2 b) (fun _ => ⟨rfl, hrep⟩) (fun b hb => hb) (by simp)).lessZ (fun _ h => h.elim)⟩
            · cases h
          · cases h
        · cases h
      · cases h
    · cases h
  · cases h
end
end Go.Ax
