/-
  AX, part J: operations that make memory; literals.
-/
import Derived.Test.YtlibillidihopaaAxI
import Derived.Laws.Tables
import Derived.Laws.MakeOwn
namespace Go.Ax

theorem min_ite (x y : Int) : (if y < x then y else x) = min x y := by omega
theorem max_ite (x y : Int) : (if x < y then y else x) = max x y := by omega

section
variable {C : Ctx} {F : Nat → Prop} {O : Nat → Nat → Prop} {Z : Nat → Prop} {σ : Env} {a : Act} {w w' : World}

theorem q_min (hI : Inv C F O Z σ a w) {o : Oper} {x y : Operand} {g gx gy : Bool} {k : IntKind} {m n : Int} {args : Array Operand} {ats : Array TypeId} (ho : o.op = .call ⟨.builtin .min, args, ats⟩) (hargs : args.toList = [x, y])
    (h1 : opd C.P σ o.type x = some (gx, .val (.int k m))) (h2 : opd C.P σ o.type y = some (gy, .val (.int k n))) (hgx : gx = true) (hgy : gy = true) (_ : g = true) : Yld C F σ a w o (.val (.int k (min m n))) := by
  have hargs' : args = #[x, y] := by cases args; simp_all
  subst hargs'
  have e1 := holds_int (opd_sound hI h1 hgx).1
  have e2 := holds_int (opd_sound hI h2 hgy).1
  exact val_yld (v := .int k (min m n)) (cs := [_]) (by simp [execOp, ho, resolve, invoke, builtin, e1, e2, Builtin.min_, Builtin.min2, min_ite]) rfl (.int ..)

theorem q_max (hI : Inv C F O Z σ a w) {o : Oper} {x y : Operand} {g gx gy : Bool} {k : IntKind} {m n : Int} {args : Array Operand} {ats : Array TypeId} (ho : o.op = .call ⟨.builtin .max, args, ats⟩) (hargs : args.toList = [x, y])
    (h1 : opd C.P σ o.type x = some (gx, .val (.int k m))) (h2 : opd C.P σ o.type y = some (gy, .val (.int k n))) (hgx : gx = true) (hgy : gy = true) (_ : g = true) : Yld C F σ a w o (.val (.int k (max m n))) := by
  have hargs' : args = #[x, y] := by cases args; simp_all
  subst hargs'
  have e1 := holds_int (opd_sound hI h1 hgx).1
  have e2 := holds_int (opd_sound hI h2 hgy).1
  exact val_yld (v := .int k (max m n)) (cs := [_]) (by simp [execOp, ho, resolve, invoke, builtin, e1, e2, Builtin.max_, Builtin.max2, max_ite]) rfl (.int ..)

theorem bounds_run (isS : Bool) (len cap : Nat) (hle : len ≤ cap) {lo hi : Option Operand} {pl ph : Prop} {l h : Int} {g : Bool} (hI : Inv C F O Z σ a w)
    (h1 : boundOf C.P σ g 0 lo = some (pl, l)) (h2 : boundOf C.P σ g len hi = some (ph, h)) (hg : g = true) (hpl : pl) (hph : ph)
    (l0 : 0 ≤ l) (lh : l ≤ h) (hl : h ≤ (len : Int)) : (Instr.sliceBounds isS len cap (lo.map a.eval) (hi.map a.eval) none).run C.P w = .ok (l.toNat, h.toNat, cap) w := by
  have hcap : h ≤ (cap : Int) := by omega
  have e2 : ∀ v, hi = some v → a.eval v = .int .i64 h := by rintro v rfl; exact intOpd_sound hI h2 hg hph
  have e1 : ∀ v, lo = some v → a.eval v = .int .i64 l := by rintro v rfl; exact intOpd_sound hI h1 hg hpl
  have hh0 : 0 ≤ h := by omega
  cases lo with
  | none =>
    simp only [boundOf, Option.some.injEq, Prod.mk.injEq] at h1
    obtain ⟨_, rfl⟩ := h1
    cases hi with
    | none =>
      simp only [boundOf, Option.some.injEq, Prod.mk.injEq] at h2
      obtain ⟨_, rfl⟩ := h2
      simp [Instr.sliceBounds]
    | some v =>
      simp [Instr.sliceBounds, Instr.sliceBound, e2 v rfl, asIntOf, hh0, hcap]
  | some u =>
    cases hi with
    | none =>
      simp only [boundOf, Option.some.injEq, Prod.mk.injEq] at h2
      obtain ⟨_, rfl⟩ := h2
      simp [Instr.sliceBounds, Instr.sliceBound, e1 u rfl, asIntOf, l0, lh]
    | some v =>
      have hlh' : l ≤ max h 0 := by omega
      simp [Instr.sliceBounds, Instr.sliceBound, e1 u rfl, e2 v rfl, asIntOf, hh0, hcap, l0, hlh']

theorem q_slice (hI : Inv C F O Z σ a w) {o : Oper} {t : TypeId} {x : Operand} {lo hi : Option Operand} {g : Bool} {pre : Prop} {A : A} (ho : o.op = .slice t x lo hi none) (h : lop C σ g o = some (pre, A)) (hg : g = true) (hp : pre) : Yld C F σ a w o A := by
  simp only [lop, ho] at h
  split at h
  · rename_i gx e d es h1
    split at h
    · rename_i e' pl l ph hh he hl hhi
      split at h
      · rename_i hee
        obtain ⟨rfl, hcz⟩ := hee
        simp only [Option.some.injEq, Prod.mk.injEq] at h
        obtain ⟨rfl, rfl⟩ := h
        obtain ⟨p1, p2, p3, p4⟩ := hp
        obtain ⟨l0, lh, hle⟩ := p4 hg
        have hu := elemOf_und he
        obtain ⟨i, hinf, hisz⟩ := cellsOf_info (P := C.P) (t := e) rfl hcz
        obtain ⟨cs, e1, e2⟩ := (opd_sound hI h1 (p1 hg)).1
        cases e2 with
        | fz0 e d ad cap =>
          have e1' : a.eval x = .slice ad 0 cap := e1
          have hb := bounds_run true 0 cap (Nat.zero_le _) hI hl hhi hg p2 p3 l0 lh (by simpa using hle)
          have hh0 : hh.toNat = 0 := by simp at hle; omega
          have hl0 : l.toNat = 0 := by simp at hle; omega
          refine val_yld (v := .slice (if cap = 0 then ad else ad.map (·.add (0 * i.size))) 0 cap) (cs := [_]) ?_ rfl (by simp; exact .fz0 ..)
          simp [execOp, ho, e1', Instr.sliceAt, run_underlying hu, Instr.slice, hb, Go.sizeOf, typeInfo, hinf, hh0, hl0]
        | fz e d es b off len cap cs' O' hl' hcap hm hF hcs hr =>
          subst hl'
          have e1' : a.eval x = .slice (some ⟨b, off, none⟩) es.length cap := e1
          have hb := bounds_run true es.length cap hcap hI hl hhi hg p2 p3 l0 lh hle
          have hrun : (execOp a.eval o).run C.P w = .ok (.value (.slice (if cap = l.toNat then some ⟨b, off, none⟩ else some ⟨b, off + l.toNat * i.size, none⟩) (hh.toNat - l.toNat) (cap - l.toNat))) w := by
            simp [execOp, ho, e1', Instr.sliceAt, run_underlying hu, Instr.slice, hb, Go.sizeOf, typeInfo, hinf, Addr.add_lit]
          have hlen : ((es.take hh.toNat).drop l.toNat).length = hh.toNat - l.toNat := by simp; omega
          by_cases hemp : hh.toNat - l.toNat = 0
          · have : (es.take hh.toNat).drop l.toNat = [] := List.eq_nil_of_length_eq_zero (by omega)
            rw [this]
            rw [hemp] at hrun
            exact val_yld hrun (cs := [_]) rfl (.fz0 ..)
          · rw [if_neg (by omega)] at hrun
            refine val_yld hrun (cs := [_]) rfl (.fz e d _ b _ _ _ (fun j => cs' (l.toNat + j)) _ hlen.symm (by omega) (by omega) hF (fun j hj => ?_) (fun j y hy => ?_))
            · obtain ⟨g1, g2⟩ := hcs (l.toNat + j) (by omega)
              refine ⟨g1, ?_⟩
              have : off + l.toNat * i.size + j * C.P.cellsOf e = off + (l.toNat + j) * C.P.cellsOf e := by rw [hisz, Nat.add_mul]; omega
              rw [this]
              exact g2
            · rw [List.getElem?_drop, List.getElem?_take] at hy
              split at hy
              · exact hr _ _ hy
              · cases hy
      · cases h
    · cases h
  · rename_i gx s h1
    split at h
    · rename_i pl l ph hh he hl hhi
      simp only [Option.some.injEq, Prod.mk.injEq] at h
      obtain ⟨rfl, rfl⟩ := h
      obtain ⟨p1, p2, p3, p4⟩ := hp
      obtain ⟨l0, lh, hle⟩ := p4 hg
      have hb := bounds_run false s.size s.size (Nat.le_refl _) hI hl hhi hg p2 p3 l0 lh hle
      have e1 := holds_str (opd_sound hI h1 (p1 hg)).1
      exact val_yld (v := .string (s.extract l.toNat hh.toNat)) (cs := [_]) (by simp [execOp, ho, e1, Instr.sliceAt, run_underlying (isStr_und he), Instr.slice, hb]) rfl (.str ..)
    · cases h
  · cases h

/-! ### literals -/

/-- values laid side by side -/
theorem vals_sound (hI : Inv C F O Z σ a w) {g : Bool} {ty : Nat → TypeId} (hg : g = true) : ∀ {parts : List (Nat × Operand)} {p : Prop} {vs : List (Nat × V)}, vals C.P σ g ty parts = some (p, vs) → p →
    Fa2 (fun (x : Nat × Operand) (y : Nat × V) => x.1 = y.1 ∧ ∃ cs, y.2.reg cs (a.eval x.2) ∧ (∀ n, y.2 ≠ .hole n) ∧ Rep C.cz w F y.2 cs (fun _ => False)) parts vs
  | [], p, vs, h, _ => by simp only [vals, Option.some.injEq, Prod.mk.injEq] at h; obtain ⟨_, rfl⟩ := h; exact .nil
  | (i, x) :: xs, p, vs, h, hp => by
    simp only [vals] at h
    split at h
    · rename_i gx v p' vs' h1 h2
      split at h
      · cases h
      · simp only [Option.some.injEq, Prod.mk.injEq] at h
        obtain ⟨rfl, rfl⟩ := h
        rename_i hc
        obtain ⟨cs, e1, e2⟩ := (opd_sound hI h1 (hp.1 hg)).1
        exact .cons ⟨rfl, cs, e1, (by rintro n rfl; simp [V.isHole] at hc), e2⟩ (vals_sound hI hg h2 hp.2)
    · cases h

theorem V.places_get : ∀ (zs : List V) (o i : Nat), (V.places zs o)[i]? = (zs[i]?).map fun z => (o + V.offs zs i, z.size)
  | [], o, i => by simp [V.places]
  | z :: zs, o, 0 => by simp [V.places, V.offs, V.sizes]
  | z :: zs, o, i + 1 => by
    simp only [V.places, List.getElem?_cons_succ]
    rw [V.places_get zs (o + z.size) i]
    have : V.offs (z :: zs) (i + 1) = z.size + V.offs zs i := by simp [V.offs, V.sizes]
    rw [this, Nat.add_assoc]

theorem blit_get (off : Nat) : ∀ (c : List Value) (k : Nat) (cells : Array Value) (m : Nat), off + k + c.length ≤ cells.size →
    ((c.zipIdx k).foldl (fun cs (x : Value × Nat) => cs.setIfInBounds (off + x.2) x.1) cells)[m]? = if off + k ≤ m ∧ m < off + k + c.length then c[m - off - k]? else cells[m]?
  | [], k, cells, m, _ => by
    simp only [List.zipIdx_nil, List.foldl_nil, List.length_nil, Nat.add_zero]
    rw [if_neg (by omega)]
  | v :: c, k, cells, m, h => by
    simp only [List.zipIdx_cons, List.foldl_cons]
    simp only [List.length_cons] at h
    rw [blit_get off c (k + 1) _ m (by simp; omega)]
    by_cases h1 : m = off + k
    · subst h1
      rw [if_neg (by omega), if_pos (by simp only [List.length_cons]; omega)]
      have : off + k < cells.size := by omega
      simp [this]
    · by_cases h2 : off + k ≤ m ∧ m < off + k + (c.length + 1)
      · rw [if_pos (by omega), if_pos (by simpa only [List.length_cons] using h2)]
        rw [show m - off - k = (m - off - (k + 1)) + 1 from by omega, List.getElem?_cons_succ]
      · rw [if_neg (by omega), if_neg (by simpa only [List.length_cons] using h2)]
        exact Array.getElem?_setIfInBounds_ne (by omega)

theorem blit_list (off : Nat) (c : List Value) (cells : Array Value) (h : off + c.length ≤ cells.size) :
    ((c.zipIdx).foldl (fun cs (x : Value × Nat) => cs.setIfInBounds (off + x.2) x.1) cells).toList = cells.toList.take off ++ c ++ cells.toList.drop (off + c.length) := by
  apply List.ext_getElem?
  intro m
  have := blit_get off c 0 cells m (by simpa using h)
  rw [Array.getElem?_toList, this, getElem?_mid]
  have htl : (cells.toList.take off).length = off := by simp; omega
  rw [htl]
  simp only [Nat.add_zero, Nat.sub_zero]
  by_cases h1 : m < off
  · rw [if_neg (by omega), if_pos h1, List.getElem?_take, if_pos h1]; simp
  · rw [if_neg h1]
    by_cases h2 : m < off + c.length
    · rw [if_pos ⟨by omega, h2⟩, if_pos h2]
    · rw [if_neg (by omega), if_neg h2, List.getElem?_drop, Array.getElem?_toList]
      congr 1; omega

theorem aggSet {cz : TypeId → Nat} {fs : List V} {cells cells1 cs : List Value} {j : Nat} {x v : V} (hr : Rep cz w F (.agg fs) cells (fun _ => False)) (hx : fs[j]? = some x) (hsz : x.size = v.size) (hrep : Rep cz w F v cs (fun _ => False))
    (hc : cells1 = cells.take (V.offs fs j) ++ cs ++ cells.drop (V.offs fs j + cs.length)) : Rep cz w F (.agg (fs.set j v)) cells1 (fun _ => False) := by
  cases hr with
  | agg fs cs0 Os O hn hOs hdis hr =>
    have hle := V.offs_succ_le hx
    have hcl := hrep.length
    have htl : (cells.take (V.offs fs j)).length = V.offs fs j := by simp; omega
    subst hc
    refine .agg _ _ (fun _ _ => False) _ (by rw [V.sizes_set hx hsz.symm]; simp only [List.length_append, List.length_take, List.length_drop, hcl]; omega) (fun _ _ h => h) (fun _ _ _ _ h => h.elim) (fun k z hz => ?_)
    rw [V.offs_set k hx hsz.symm]
    rcases V.set_some hz with ⟨rfl, rfl⟩ | ⟨hne, hz'⟩
    · rw [List.append_assoc, List.drop_append_of_le_length (by rw [htl]; exact Nat.le_refl _), List.drop_of_length_le (by rw [htl]; exact Nat.le_refl _), List.nil_append, List.take_append_of_le_length (by rw [hcl]; exact Nat.le_refl _),
        List.take_of_length_le (by rw [hcl]; exact Nat.le_refl _)]
      exact hrep
    · have hseg : List.take z.size (List.drop (V.offs fs k) (cells.take (V.offs fs j) ++ cs ++ cells.drop (V.offs fs j + cs.length))) = List.take z.size (List.drop (V.offs fs k) cells) := by
        apply List.ext_getElem?
        intro m
        rw [List.getElem?_take, List.getElem?_take]
        split
        · rename_i hm
          rw [List.getElem?_drop, List.getElem?_drop, getElem?_mid, htl, hcl]
          rcases Nat.lt_or_gt_of_ne hne with hlt' | hgt
          · have := V.offs_sep hz' hlt'
            rw [if_pos (by omega), List.getElem?_take, if_pos (by omega)]
          · have := V.offs_sep hx hgt
            rw [if_neg (by omega), if_neg (by omega), List.getElem?_drop]
            congr 1
            omega
        · rfl
      rw [hseg]
      exact (hr k z hz').mono (fun _ h => h) (fun b hb => hOs k b hb)

/-- a literal's parts, laid -/
theorem fill_sound {cz : TypeId → Nat} {place : Nat → Option (Nat × Nat)} : ∀ {vs : List (Nat × V)} {us : List (Nat × Value)} {fs fs' : List V} {cells : Array Value}, Rep cz w F (.agg fs) cells.toList (fun _ => False) → fillV fs vs = some fs' →
    Fa2 (fun (x : Nat × Value) (y : Nat × V) => x.1 = y.1 ∧ ∃ cs, y.2.reg cs x.2 ∧ (∀ n, y.2 ≠ .hole n) ∧ Rep cz w F y.2 cs (fun _ => False)) us vs → (∀ (i : Nat) (x : V), fs[i]? = some x → place i = some (V.offs fs i, x.size)) →
    ∃ cells', Instr.fill place cells us = some cells' ∧ Rep cz w F (.agg fs') cells'.toList (fun _ => False) ∧ fs'.length = fs.length ∧ (∀ (i : Nat) (x : V), fs'[i]? = some x → ∃ y : V, fs[i]? = some y ∧ y.size = x.size)
  | [], us, fs, fs', cells, hr, hf, hu, hpl => by
    cases hu
    simp only [fillV, Option.some.injEq] at hf
    subst hf
    exact ⟨cells, rfl, hr, rfl, fun i x hx => ⟨x, hx, rfl⟩⟩
  | (i, v) :: vs, us, fs, fs', cells, hr, hf, hu, hpl => by
    cases hu with
    | cons h1 h2 =>
      rename_i u us
      obtain ⟨j, u⟩ := u
      obtain ⟨hij, cs, hreg, hnh, hrep⟩ := h1
      simp only at hij hreg hrep
      subst hij
      simp only [fillV] at hf
      split at hf
      · rename_i x hx
        split at hf
        · rename_i hsz
          have hcl : u.cells.toList = cs := by
            revert hreg hrep hnh
            cases v with
            | agg fs => intro hreg hrep _; rw [hreg]; simp [Value.cells]
            | hole n => intro _ _ hnh; exact absurd rfl (hnh n)
            | _ =>
              intro hreg hrep _
              have hl := hrep.length
              match cs, hl with
              | [c], _ =>
                have : u = c := hreg
                subst this
                cases hrep <;> rfl
          have hlen : u.cells.size = v.size := by rw [← hrep.length, ← hcl]; simp
          have hfit : V.offs fs j + v.size ≤ cells.size := by
            have := V.offs_succ_le hx
            have hl := hr.length
            simp only [Array.length_toList, V.size] at hl
            omega
          let cells1 := (u.cells.zipIdx.foldl (fun cs (x : Value × Nat) => cs.setIfInBounds (V.offs fs j + x.2) x.1) cells)
          have hc1 : cells1.toList = cells.toList.take (V.offs fs j) ++ cs ++ cells.toList.drop (V.offs fs j + cs.length) := by
            have := blit_list (V.offs fs j) cs cells (by rw [hrep.length]; exact hfit)
            rw [← this]
            show (u.cells.zipIdx.foldl _ cells).toList = _
            rw [← Array.foldl_toList, Array.toList_zipIdx, hcl]
          have hr1 : Rep cz w F (.agg (fs.set j v)) cells1.toList (fun _ => False) := by
            exact aggSet hr hx hsz hrep hc1
          obtain ⟨cells', e1, e2, e3, e4⟩ := fill_sound (place := place) (us := us) hr1 hf h2 (fun k y hk => by
            rw [V.offs_set k hx hsz.symm]
            rcases V.set_some hk with ⟨rfl, rfl⟩ | ⟨_, hk'⟩
            · rw [hpl k x hx, hsz]
            · exact hpl k y hk')
          refine ⟨cells', ?_, e2, by simpa using e3, fun k y hk => ?_⟩
          · simp only [Instr.fill]
            rw [hpl j x hx]
            simp only
            rw [if_neg (by rw [hlen, hsz]; simp; omega)]
            exact e1
          · obtain ⟨z, hz, hzs⟩ := e4 k y hk
            rcases V.set_some hz with ⟨rfl, rfl⟩ | ⟨_, hk'⟩
            · exact ⟨x, hx, by rw [hsz]; exact hzs⟩
            · exact ⟨z, hk', hzs⟩
        · cases hf
      · cases hf

theorem fa2_map {α β γ : Type} {R : β → γ → Prop} {f : α → β} : ∀ {xs : List α} {ys : List γ}, Fa2 (fun x y => R (f x) y) xs ys → Fa2 R (xs.map f) ys
  | _, _, .nil => .nil
  | _, _, .cons h t => .cons h (fa2_map t)

theorem q_build (hI : Inv C F O Z σ a w) {o : Oper} {t : TypeId} {parts : Array (Nat × Operand)} {g : Bool} {pre : Prop} {A : A} (ho : o.op = .build t parts) (h : lop C σ g o = some (pre, A)) (hg : g = true) (hp : pre) : Yld C F σ a w o A := by
  simp only [lop, ho] at h
  split at h
  · rename_i zs p vs h1 h2
    rw [Option.map_eq_some_iff] at h
    obtain ⟨fs, hf, he⟩ := h
    simp only [Prod.mk.injEq] at he
    obtain ⟨rfl, rfl⟩ := he
    unfold structOf at h1
    split at h1
    · rename_i zs' fds hz hu
      split at h1
      · rename_i hpl
        simp only [Option.some.injEq] at h1
        subst h1
        obtain ⟨i, z, hi, hzz, hzl, hzr⟩ := zeroOf_rep hz
        have hv := vals_sound hI hg h2 hp
        have hus := fa2_map (f := fun x : Nat × Operand => (x.1, a.eval x.2)) (R := fun (x : Nat × Value) (y : Nat × V) => x.1 = y.1 ∧ ∃ cs, y.2.reg cs x.2 ∧ (∀ n, y.2 ≠ .hole n) ∧ Rep C.cz w F y.2 cs (fun _ => False)) hv
        obtain ⟨cells', e1, e2, _⟩ := fill_sound (cells := z.cells) (place := ((V.places zs' 0).toArray[·]?)) hzr hf hus (fun i x hx => by simp [V.places_get, hx])
        have hb : C.P.built t (parts.map fun (i, x) => (i, a.eval x)).toList = some cells' := by
          unfold Program.built
          simp only [hi, hu, hzz, hpl]
          rw [← e1]
          congr 1
          simp
        refine val_yld (v := .agg cells') (cs := cells'.toList) ?_ (by simp [V.reg]) e2
        simp only [execOp, ho, Sem.run_bind]
        rw [run_build w t _ cells' hb]
        rfl
      · cases h1
    · cases h1
  · cases h

theorem q_makeFunc (hI : Inv C F O Z σ a w) {o : Oper} {fn : Fn} {first caps : Array Operand} {g : Bool} {pre : Prop} {A : A} (ho : o.op = .makeFunc fn first caps) (h : lop C σ g o = some (pre, A)) (hg : g = true) (hp : pre) : Yld C F σ a w o A := by
  cases fn with
  | func f =>
    simp only [lop, ho] at h
    split at h
    · rename_i p vs hf h1
      simp only [Option.some.injEq, Prod.mk.injEq] at h
      obtain ⟨rfl, rfl⟩ := h
      have hfirst : first = #[] := by cases first; simp_all
      subst hfirst
      have hv := vals_sound hI hg h1 hp
      have key : ∀ (l : List Operand) (vs : List (Nat × V)), Fa2 (fun (x : Nat × Operand) (y : Nat × V) => x.1 = y.1 ∧ ∃ cs, y.2.reg cs (a.eval x.2) ∧ (∀ n, y.2 ≠ .hole n) ∧ Rep C.cz w F y.2 cs (fun _ => False)) (l.map fun x => (0, x)) vs →
          l.length = vs.length ∧ ∀ i (x : V), (vs.map (·.2))[i]? = some x → ∃ cs, x.reg cs ((l.map a.eval).toArray.getD i undef) ∧ Rep C.cz w F x cs (fun _ => False) := by
        intro l
        induction l with
        | nil => intro vs h; cases h; exact ⟨rfl, fun i x hx => by simp at hx⟩
        | cons x l ih =>
          intro vs h
          cases h with
          | cons h1 h2 =>
            obtain ⟨e1, e2⟩ := ih _ h2
            refine ⟨by simp [e1], fun i y hy => ?_⟩
            cases i with
            | zero => simp at hy; subst hy; obtain ⟨_, cs, g1, _, g2⟩ := h1; exact ⟨cs, by simpa using g1, g2⟩
            | succ i =>
              simp at hy
              obtain ⟨cs, g1, g2⟩ := e2 i y (by simpa using hy)
              exact ⟨cs, by simpa using g1, g2⟩
      obtain ⟨e1, e2⟩ := key caps.toList vs hv
      have e2' : ∀ i, ∃ cs, ∀ (x : V), (vs.map (·.2))[i]? = some x → x.reg cs ((caps.map a.eval).getD i undef) ∧ Rep C.cz w F x cs (fun _ => False) := by
        intro i
        cases hx : (vs.map (·.2))[i]? with
        | none => exact ⟨[], fun x h => by cases h⟩
        | some x =>
          obtain ⟨cs, g1, g2⟩ := e2 i x hx
          refine ⟨cs, fun y hy => ?_⟩
          simp only [Option.some.injEq] at hy
          subst hy
          exact ⟨by simpa using g1, g2⟩
      refine val_yld (v := .func (.func f) #[] (caps.map a.eval)) (cs := [_]) (by simp [execOp, ho, Instr.makeFunc]) rfl (.fn f _ _ (fun i => Classical.choose (e2' i)) _ ?_ (fun i x hx => (Classical.choose_spec (e2' i) x hx).1) (fun i x hx => (Classical.choose_spec (e2' i) x hx).2))
      simpa using e1
    · cases h
  | _ => simp [lop, ho] at h

/-! ### operations that make one new block -/

/-- It makes a block, and a value in it. -/
def Mks (C : Ctx) (F : Nat → Prop) (a : Act) (w : World) (o : Oper) (A : A) : Prop :=
  ∃ v obj x cs, A = .val x ∧ (execOp a.eval o).run C.P w = .ok (.value v) (w.alloc obj) ∧ x.reg cs v ∧ Rep C.cz (w.alloc obj) F x cs (fun b => b = w.heap.size)

theorem Rep.alloc {cz : TypeId → Nat} {x : V} {cs : List Value} {O' : Nat → Prop} (h : Rep cz w F x cs O') (hF : ∀ b, F b → b < w.heap.size) (hO : ∀ b, O' b → b < w.heap.size) (obj : Obj) : Rep cz (w.alloc obj) F x cs O' :=
  h.world (fun b hb => Deep.blk_alloc_lt w obj b (hb.elim (hF b) (hO b)))

theorem m_box {x : V} {t : TypeId} {v : Value} {cs : List Value} (hF : ∀ b, F b → b < w.heap.size) (hreg : x.reg cs v) (hx : x.isHole = false) (hr : Rep C.cz w F x cs (fun _ => False)) :
    Rep C.cz (w.alloc (.cells v.cells t)) F (.box t x) [.pointer (some ⟨w.heap.size, 0, none⟩)] (fun b => b = w.heap.size) := by
  have hcl : v.cells.toList = cs := by
    revert hreg hr hx
    cases x with
    | agg fs => intro hreg _ hrep; rw [hreg]; simp [Value.cells]
    | hole n => intro _ h; simp [V.isHole] at h
    | _ =>
      intro hreg _ hrep
      have hl := hrep.length
      match cs, hl with
      | [c], _ =>
        have : v = c := hreg
        subst this
        cases hrep <;> rfl
  exact .box t x w.heap.size v.cells cs (fun _ => False) _ (Deep.blk_alloc_new w _) hcl rfl (fun _ h => h.elim) (hr.alloc hF (fun _ h => h.elim) _)

theorem m_alloc (hI : Inv C F O Z σ a w) {o : Oper} {t : TypeId} {g : Bool} {pre : Prop} {A : A} (ho : o.op = .alloc t) (h : lop C σ g o = some (pre, A)) : Mks C F a w o A := by
  simp only [lop, ho, Option.map_eq_some_iff, Prod.mk.injEq] at h
  obtain ⟨x, hx, _, rfl⟩ := h
  obtain ⟨i, z, hi, hz, hzl, hzr⟩ := zeroOf_rep hx
  refine ⟨.pointer (some ⟨w.heap.size, 0, none⟩), .cells z.cells t, .box t x, [.pointer (some ⟨w.heap.size, 0, none⟩)], rfl, ?_, rfl, ?_⟩
  · simp [execOp, ho, Instr.alloc, zeroValue, typeInfo, hi, hz, newVar, newRow]
  · exact .box t x w.heap.size z.cells z.cells.toList (fun _ => False) _ (Deep.blk_alloc_new w _) rfl rfl (fun _ h => h.elim) (Rep.alloc (hzr (w := w) (F := F)) hI.flt (fun _ h => h.elim) _)

theorem fits_noHole {P : Program} {t : TypeId} {x : V} (h : fits P t x = true) : x.isHole = false := by
  cases x <;> simp [V.isHole]
  cases hh : aggT P t <;> simp [fits, hh] at h

theorem m_boxop (hI : Inv C F O Z σ a w) {o : Oper} {t : TypeId} {x : Operand} {g : Bool} {pre : Prop} {A : A} (ho : o.op = .box t x) (h : lop C σ g o = some (pre, A)) (hg : g = true) (hp : pre) : Mks C F a w o A := by
  simp only [lop, ho] at h
  split at h
  · rename_i gx v h1
    split at h
    · cases h
    · split at h
      · rename_i hf
        simp only [Option.some.injEq, Prod.mk.injEq] at h
        obtain ⟨rfl, rfl⟩ := h
        obtain ⟨cs, e1, e2⟩ := (opd_sound hI h1 (hp hg)).1
        exact ⟨.pointer (some ⟨w.heap.size, 0, none⟩), .cells (a.eval x).cells t, .box t v, [_], rfl, by simp [execOp, ho, Instr.box, newVar, newRow], rfl, m_box hI.flt e1 (fits_noHole hf) e2⟩
      · cases h
  · cases h

theorem madeCells_part (z : Array Value) (n i : Nat) (hi : i < n) (hz : 0 < z.size) : ((madeCells z (n * z.size)).toList.drop (i * z.size)).take z.size = z.toList := by
  apply List.ext_getElem?
  intro j
  rw [List.getElem?_take]
  split
  · rename_i hj
    rw [List.getElem?_drop]
    have hlt : i * z.size + j < n * z.size := by
      have : (i + 1) * z.size ≤ n * z.size := Nat.mul_le_mul_right _ hi
      rw [Nat.add_mul] at this
      omega
    simp only [madeCells, Array.toList_map, Array.toList_range, List.getElem?_map, List.getElem?_range hlt, Option.map_some]
    rw [Nat.mul_comm i, Nat.mul_add_mod, Nat.mod_eq_of_lt hj]
    simp [hj]
  · rename_i hj
    rw [List.getElem?_eq_none (by simpa using hj)]

theorem m_make (hI : Inv C F O Z σ a w) {o : Oper} {t : TypeId} {l c : Operand} {g : Bool} {pre : Prop} {A : A} (ho : o.op = .makeSlice t l c) (h : lop C σ g o = some (pre, A)) (hg : g = true) (hp : pre) : Mks C F a w o A := by
  simp only [lop, ho] at h
  split at h
  · rename_i e pl n pc m he h1 h2
    split at h
    · rename_i z hz
      split at h
      · rename_i hby
        simp only [Option.some.injEq, Prod.mk.injEq] at h
        obtain ⟨rfl, rfl⟩ := h
        obtain ⟨p1, p2, p3⟩ := hp
        obtain ⟨n0, nm, hm⟩ := p3 hg
        obtain ⟨i, zv, hi, hzz, hzl, hzr⟩ := zeroOf_rep hz
        have e1 := intOpd_sound hI h1 hg p1
        have e2 := intOpd_sound hI h2 hg p2
        have hby' : i.bytes ≤ 65536 := by simpa [Program.bytesOf, hi] using hby
        have hprod : (i.bytes : Int) * m ≤ 281474976710656 := by
          have : (i.bytes : Int) * m ≤ 65536 * 2147483647 := Int.mul_le_mul (by omega) (by omega) (by omega) (by omega)
          omega
        have hr := run_make (P := C.P) w t e i zv (elemOf_und he) hi hzz .i64 .i64 n m n0 nm hprod (by omega)
        have hisz : C.cz e = i.size := by simp [Ctx.cz, Program.cellsOf, hi]
        refine ⟨.slice (some ⟨w.heap.size, 0, none⟩) n.toNat m.toNat, .cells (madeCells zv.cells (m.toNat * i.size)) e, _, [_], rfl, ?_, rfl, ?_⟩
        · simp only [execOp, ho, Sem.run_bind, e1, e2, hr, Result.andThen_ok, Sem.run_pure]
        · have hzl' : zv.cells.size = i.size := by simpa using hzl
          refine .own e z _ w.heap.size _ _ _ (fun _ => zv.cells.toList) (fun _ _ => False) _ (Deep.blk_alloc_new w _) (by rw [size_madeCells, hisz]) (by simp) (by simp; omega) (by simp [maxLen]; omega) rfl (fun _ _ h => h.elim) (fun _ _ _ _ h => h.elim)
            (fun k hk => ⟨by rw [hisz]; exact hzl, ?_⟩) (fun k x hx => ?_)
          · intro j v hj
            have hk' : k < m.toNat := by simp at hk; omega
            rw [World.cell?_alloc_new]
            have hpart : ((madeCells zv.cells (m.toNat * zv.cells.size)).toList.drop (k * zv.cells.size)).take zv.cells.size = zv.cells.toList := by
              refine madeCells_part zv.cells m.toNat k hk' ?_
              have := (List.getElem?_eq_some_iff.1 hj).1
              simp at this
              omega
            have hjl : j < zv.cells.size := by have := (List.getElem?_eq_some_iff.1 hj).1; simpa using this
            rw [← hpart, List.getElem?_take, if_pos hjl, List.getElem?_drop, hzl'] at hj
            rw [hisz]
            simpa using hj
          · have : x = z := by
              rw [List.getElem?_replicate] at hx
              split at hx
              · simpa using hx.symm
              · cases hx
            subst this
            exact Rep.alloc hzr hI.flt (fun _ h => h.elim) _
      · cases h
    · cases h
  · cases h

theorem offs_same {s : Nat} : ∀ (fs : List V), (∀ x ∈ fs, x.size = s) → ∀ i, i ≤ fs.length → V.offs fs i = i * s
  | fs, h, 0, _ => by simp [V.offs, V.sizes]
  | [], h, i + 1, hi => by simp at hi
  | x :: fs, h, i + 1, hi => by
    have : V.offs (x :: fs) (i + 1) = x.size + V.offs fs i := by simp [V.offs, V.sizes]
    rw [this, offs_same fs (fun y hy => h y (List.mem_cons_of_mem _ hy)) i (by simpa using hi), h x (by simp), Nat.add_mul]
    omega

theorem agg_replicate {cz : TypeId → Nat} {z : V} {zc : List Value} (hz : Rep cz w F z zc (fun _ => False)) (n : Nat) {cells : List Value} (hn : cells.length = n * zc.length) (h : ∀ i, i < n → (cells.drop (i * zc.length)).take zc.length = zc) : Rep cz w F (.agg (List.replicate n z)) cells (fun _ => False) := by
  have hsz : ∀ x ∈ List.replicate n z, x.size = zc.length := by intro x hx; rw [(List.mem_replicate.1 hx).2, hz.length]
  have hss : V.sizes (List.replicate n z) = n * zc.length := by
    have := offs_same _ hsz n (by simp)
    rw [← this]
    simp [V.offs]
  refine .agg _ _ (fun _ _ => False) _ (by rw [hss, hn]) (fun _ _ h => h) (fun _ _ _ _ h => h.elim) (fun i x hx => ?_)
  have hi : i < n := by have := (List.getElem?_eq_some_iff.1 hx).1; simpa using this
  have hxz : x = z := by rw [List.getElem?_replicate, if_pos hi] at hx; simpa using hx.symm
  subst hxz
  rw [offs_same _ hsz i (by simp; omega), ← hz.length, h i hi]
  exact hz

theorem m_buildSlice (hI : Inv C F O Z σ a w) {o : Oper} {t : TypeId} {n : Nat} {parts : Array (Nat × Operand)} {g : Bool} {pre : Prop} {A : A} (ho : o.op = .buildSlice t n parts) (h : lop C σ g o = some (pre, A)) (hg : g = true) (hp : pre) : Mks C F a w o A := by
  simp only [lop, ho] at h
  split at h
  · rename_i e he
    split at h
    · rename_i z p vs hz h1
      split at h
      · rename_i hcz
        rw [Option.map_eq_some_iff] at h
        obtain ⟨es, hf, hee⟩ := h
        simp only [Prod.mk.injEq] at hee
        obtain ⟨rfl, rfl⟩ := hee
        obtain ⟨i, zv, hi, hzz, hzl, hzr⟩ := zeroOf_rep hz
        have hisz : C.P.cellsOf e = i.size := by simp [Program.cellsOf, hi]
        have hzl' : zv.cells.size = i.size := by simpa using hzl
        have hpos : 0 < zv.cells.size := by omega
        have hv := vals_sound hI hg h1 hp
        have hus := fa2_map (f := fun x : Nat × Operand => (x.1, a.eval x.2)) (R := fun (x : Nat × Value) (y : Nat × V) => x.1 = y.1 ∧ ∃ cs, y.2.reg cs x.2 ∧ (∀ n, y.2 ≠ .hole n) ∧ Rep C.cz w F y.2 cs (fun _ => False)) hv
        have hagg : Rep C.cz w F (.agg (List.replicate n z)) (madeCells zv.cells (n * zv.cells.size)).toList (fun _ => False) :=
          agg_replicate (hzr (w := w) (F := F)) n (by simp [size_madeCells]) (fun k hk => by simpa using madeCells_part zv.cells n k hk hpos)
        have hzs : ∀ x ∈ List.replicate n z, x.size = i.size := by intro x hx; rw [(List.mem_replicate.1 hx).2, ← (hzr (w := w) (F := F)).length, hzl]
        obtain ⟨cells', e1, e2, e3, e4⟩ := fill_sound (place := fun k => some (k * i.size, i.size)) hagg hf hus (fun k x hx => by
          have hk : k < n := by have := (List.getElem?_eq_some_iff.1 hx).1; simpa using this
          rw [offs_same _ hzs k (by simp; omega), hzs x (List.mem_of_getElem? hx)])
        have hes : es.length = n := by simpa using e3
        have hesz : ∀ x ∈ es, x.size = i.size := by
          intro x hx
          obtain ⟨k, hk⟩ := List.mem_iff_getElem?.1 hx
          obtain ⟨y, hy, hys⟩ := e4 k x hk
          rw [← hys]
          exact hzs y (List.mem_of_getElem? hy)
        have hlen : cells'.size = n * i.size := by
          have := e2.length
          simp only [Array.length_toList, V.size] at this
          rw [this]
          have := offs_same es hesz n (by omega)
          rw [← this]
          unfold V.offs
          rw [List.take_of_length_le (by omega)]
        refine ⟨.slice (some ⟨w.heap.size, 0, none⟩) n n, .cells cells' e, _, [_], rfl, ?_, rfl, ?_⟩
        · have hbig : ¬ (n * i.size > 2 ^ 24) := by rw [hisz] at hcz; omega
          have hmap : (parts.map fun (i, x) => (i, a.eval x)).toList = parts.toList.map (fun x : Nat × Operand => (x.1, a.eval x.2)) := by simp
          by_cases h0 : n * i.size = 0
          · have hnn : n = 0 := by
              rcases Nat.mul_eq_zero.1 h0 with h | h
              · exact h
              · omega
            subst hnn
            have e1' : Instr.fill (fun k => some (k * i.size, i.size)) (Array.map (fun x => (#[] : Array Value)[x % 0]!) (Array.range 0)) (parts.toList.map (fun x : Nat × Operand => (x.1, a.eval x.2))) = some cells' := by
              rw [← e1]
              congr 1
              simp [madeCells]
            simp only [execOp, ho, Sem.run_bind]
            simp only [Instr.buildSlice, Sem.run_bind, run_underlying (elemOf_und he), Result.andThen_ok, Go.sizeOf, typeInfo, run_program, hi, Sem.run_pure, Nat.zero_mul, if_neg (show ¬ (0 > 2 ^ 24) from by omega), if_true]
            rw [hmap]
            have hz0 : ∀ f : Nat → Value, Array.map f (Array.range 0) = #[] := fun f => by simp [Array.range_zero']
            rw [hz0] at e1'
            simp only [hz0]
            simp [e1', newRow]
          · simp only [execOp, ho, Sem.run_bind]
            simp only [Instr.buildSlice, Sem.run_bind, run_underlying (elemOf_und he), Result.andThen_ok, Go.sizeOf, typeInfo, run_program, hi, Sem.run_pure, if_neg hbig, if_neg h0, zeroValue, hzz]
            rw [hmap]
            have e1' : Instr.fill (fun k => some (k * i.size, i.size)) ((Array.range (n * i.size)).map (zv.cells[· % zv.cells.size]!)) (parts.toList.map (fun x : Nat × Operand => (x.1, a.eval x.2))) = some cells' := by
              rw [← e1]
              congr 1
              rw [hzl']
              simp [madeCells, hzl']
            simp [e1', newRow]
        · cases e2 with
          | agg fs cs Os O' hn hOs hdis hr =>
            refine .own e z es w.heap.size n n cells' (fun k => (cells'.toList.drop (k * i.size)).take i.size) (fun _ _ => False) _ (Deep.blk_alloc_new w _) (by rw [hlen]; show _ = n * C.P.cellsOf e; rw [hisz]) hes.symm (by omega) ?_ rfl (fun _ _ h => h.elim) (fun _ _ _ _ h => h.elim)
              (fun k hk => ⟨?_, ?_⟩) (fun k x hx => ?_)
            · have : n ≤ n * i.size := Nat.le_mul_of_pos_right n (by omega)
              rw [hisz] at hcz
              simp only [maxLen]
              omega
            · have : (k + 1) * i.size ≤ n * i.size := Nat.mul_le_mul_right _ (by omega)
              rw [Nat.add_mul] at this
              show _ = C.P.cellsOf e
              rw [hisz]
              simp
              omega
            · intro j v hj
              rw [List.getElem?_take] at hj
              split at hj
              · rw [List.getElem?_drop] at hj
                rw [World.cell?_alloc_new]
                show cells'[k * C.P.cellsOf e + j]? = _
                rw [hisz]
                simpa using hj
              · cases hj
            · have hk : k < es.length := (List.getElem?_eq_some_iff.1 hx).1
              have := hr k x hx
              rw [offs_same es hesz k (by omega), hesz x (List.mem_of_getElem? hx)] at this
              exact (this.mono (fun _ h => h) (fun b hb => hOs k b hb)).alloc hI.flt (fun _ h => h.elim) _
      · cases h
    · cases h
  · cases h
end
end Go.Ax
