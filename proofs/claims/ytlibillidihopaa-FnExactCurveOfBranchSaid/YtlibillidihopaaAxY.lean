/-
  AX, part Y: a step of the second level is a step of the first.
-/
import Derived.Test.YtlibillidihopaaAxX
namespace Go.Ax

def phi (B : Book) : FuncId → List V → Option (Prop × V × List V) := fun k args => match bget B k with
  | some f => match f args with
    | some (ps, r) => some (Alls ps, r, [])
    | none => none
  | none => none

section
variable {C : Ctx} {T : Tab} {S : Sta} {σ : Env} {B : Book}

theorem lookS_sound (hA : Agr S σ) {a : A} {v : V} {ps : List Prop} (h : lookS (std T) T S a = some (v, ps)) (hp : Alls ps) : (vz σ a).look σ = some v ∧ (vz σ a).okA σ ∧ (vz σ a).isAg = false := by
  cases a with
  | val x =>
    simp only [lookS, Option.some.injEq, Prod.mk.injEq] at h
    obtain ⟨rfl, _⟩ := h
    exact ⟨rfl, trivial, rfl⟩
  | rf s ver p =>
    simp only [lookS] at h
    split at h
    · rename_i r hr
      have ho := ownS_sound hA hr
      split at h
      · simp only [Option.some.injEq, Prod.mk.injEq] at h
        obtain ⟨rfl, _⟩ := h
        exact ⟨by simp [vz, A.look, ho, V.at], by simp only [vz, A.okA, ho]; cases r <;> trivial, rfl⟩
      · rename_i i q
        split at h
        · rename_i fs
          split at h
          · split at h
            · rename_i y hy
              simp only [Option.some.injEq, Prod.mk.injEq] at h
              obtain ⟨rfl, _⟩ := h
              rw [nthV_get] at hy
              have hl : i < fs.length := (List.getElem?_eq_some_iff.1 hy).1
              exact ⟨by simp [vz, A.look, ho, V.at, V.kid, hy], by simp only [vz, A.okA, ho]; exact hl, rfl⟩
            · cases h
          · cases h
        · rename_i hn
          split at h
          · rename_i y ps' hy
            split at h
            · rename_i hH
              simp only [Option.some.injEq, Prod.mk.injEq] at h
              obtain ⟨rfl, rfl⟩ := h
              obtain ⟨e1, e2⟩ := atR_sound hy hp
              rcases e2 with e2 | ⟨e2, e3, e4, _⟩
              · cases e2
              · refine ⟨by simp [vz, A.look, ho, e1], ?_, rfl⟩
                simp only [vz, A.okA, ho]
                unfold V.okr
                split
                · trivial
                · exact absurd rfl (e3 _)
                · exact ⟨e2, by rw [e1]; exact hH⟩
            · cases h
          · cases h
    · cases h
  | ad => simp [lookS] at h
  | fz => simp [lookS] at h
  | ag => simp [lookS] at h

mutual
theorem frzS_eq : ∀ x : V, frzS (std T) x = x.frz
  | .int _ _ => rfl
  | .bool _ => rfl
  | .str _ => rfl
  | .slc _ _ _ _ => rfl
  | .agg fs => by simp only [frzS, V.frz]; rw [frzsS_eq fs]
  | .tup fs => by simp only [frzS, V.frz]; rw [frzsS_eq fs]
  | .box _ _ => rfl
  | .fn _ _ => rfl
  | .hole _ => rfl
theorem frzsS_eq : ∀ xs : List V, frzS.frzsS (std T) xs = V.frzs xs
  | [] => rfl
  | x :: l => by simp only [frzS.frzsS, V.frzs]; rw [frzS_eq x, frzsS_eq l]
end

mutual
theorem nofzS_sound : ∀ x : V, Alls (nofzS (std T) x) → x.isFn = false → x.noFz = true
  | .int _ _, _, _ => rfl
  | .bool _, _, _ => rfl
  | .str _, _, _ => rfl
  | .slc true _ _ es, h, _ => by
    simp only [nofzS, alls_cons] at h
    have h1 : V.noFzs es = true := h.1
    simp [V.noFz, h1]
  | .slc false _ _ es, h, _ => by
    simp only [nofzS, alls_cons] at h
    have h1 : es = [] := h.1
    subst h1
    simp [V.noFz, V.noFzs]
  | .agg fs, h, h' => by simp only [V.noFz]; exact nofzsS_sound fs h h'
  | .tup fs, h, h' => by simp only [V.noFz]; exact nofzsS_sound fs h h'
  | .box _ _, _, h => by simp [V.isFn] at h
  | .fn _ _, _, h => by simp [V.isFn] at h
  | .hole _, _, _ => rfl
theorem nofzsS_sound : ∀ xs : List V, Alls (nofzS.nofzsS (std T) xs) → V.areFn xs = false → V.noFzs xs = true
  | [], _, _ => rfl
  | x :: l, h, h' => by
    simp only [nofzS.nofzsS, alls_append] at h
    simp only [V.areFn, Bool.or_eq_false_iff] at h'
    simp only [V.noFzs, Bool.and_eq_true]
    exact ⟨nofzS_sound x h.1 h'.1, nofzsS_sound l h.2 h'.2⟩
end

theorem lookFS_sound {r : V} {p : List Nat} : ∀ (fs : List V) (i : Nat) (ys : List V) (ps : List Prop), lookFS (std T) T r p fs i = some (ys, ps) → Alls ps →
    V.cpvs (fun q => r.at q) fs p i = ys ∧ V.cpoks (fun q => r.okm q ∧ (r.at q).isH = true) fs p i
  | [], i, ys, ps, h, _ => by
    simp only [lookFS, Option.some.injEq, Prod.mk.injEq] at h
    obtain ⟨rfl, _⟩ := h
    exact ⟨rfl, trivial⟩
  | f :: fs, i, ys, ps, h, hp => by
    simp only [lookFS] at h
    split at h
    · rename_i hlf
      split at h
      · rename_i hfo
        split at h
        · rename_i y qs hy
          split at h
          · rename_i hH
            split at h
            · rename_i zs rs hz
              simp only [Option.some.injEq, Prod.mk.injEq] at h
              obtain ⟨rfl, rfl⟩ := h
              rw [alls_append] at hp
              obtain ⟨e1, e2⟩ := lookFS_sound fs (i + 1) zs rs hz hp.2
              obtain ⟨a1, a2⟩ := atR_sound hy hp.1
              have a3 : r.okm (p ++ [i]) := by
                rcases a2 with a2 | ⟨a2, _⟩
                · simp at a2
                · exact a2
              have a4 : (r.at (p ++ [i])).isH = true := by rw [a1]; exact hH
              have b1 : V.cpv (fun q => r.at q) f (p ++ [i]) = y := by
                rw [← a1]
                cases f <;> first | (simp [V.leaf] at hlf; done) | (simp [V.owned] at hfo; done) | (simp only [V.owned] at hfo; simp [V.cpv, hfo]) | rfl
              have b2 : V.cpok (fun q => r.okm q ∧ (r.at q).isH = true) f (p ++ [i]) := by
                cases f <;> first | (simp [V.leaf] at hlf; done) | (simp [V.owned] at hfo; done) | (simp only [V.owned] at hfo; simp only [V.cpok, hfo]; exact ⟨a3, a4⟩) | exact ⟨a3, a4⟩
              exact ⟨by simp only [V.cpvs, b1, e1], b2, e2⟩
            · cases h
          · cases h
        · cases h
      · rename_i hfo
        split at h
        · rename_i zs rs hz
          simp only [Option.some.injEq, Prod.mk.injEq] at h
          obtain ⟨rfl, rfl⟩ := h
          obtain ⟨e1, e2⟩ := lookFS_sound fs (i + 1) zs rs hz hp
          have b1 : V.cpv (fun q => r.at q) f (p ++ [i]) = f := by
            cases f <;> first | (simp [V.leaf] at hlf; done) | (simp [V.owned] at hfo; done) | (simp only [V.owned] at hfo; simp [V.cpv, hfo]) | rfl
          have b2 : V.cpok (fun q => r.okm q ∧ (r.at q).isH = true) f (p ++ [i]) := by
            cases f <;> first | (simp [V.leaf] at hlf; done) | (simp [V.owned] at hfo; done) | (simp only [V.owned] at hfo; simp [V.cpok, hfo]) | trivial
          exact ⟨by simp only [V.cpvs, b1, e1], b2, e2⟩
        · cases h
    · cases h

theorem lookAS_sound (hA : Agr S σ) {a : A} {v : V} {ps : List Prop} (h : lookAS (std T) T S a = some (v, ps)) (hp : Alls ps) : (vz σ a).look σ = some v ∧ (vz σ a).okA σ ∧ (vz σ a).isAg = a.isAg := by
  cases a with
  | ag s ver p fs =>
    simp only [lookAS] at h
    split at h
    · rename_i r hr
      have ho := ownS_sound hA hr
      split at h
      · rename_i ys qs hl
        simp only [Option.some.injEq, Prod.mk.injEq] at h
        obtain ⟨rfl, rfl⟩ := h
        obtain ⟨e1, e2⟩ := lookFS_sound fs 0 ys qs hl hp
        exact ⟨by simp only [vz, A.look, ho, Option.map_some, V.cpv, e1], by simp only [vz, A.okA, ho, V.cpok]; exact e2, rfl⟩
      · cases h
    · cases h
  | _ =>
    simp only [lookAS] at h
    obtain ⟨l1, l2, l3⟩ := lookS_sound hA h hp
    exact ⟨l1, l2, l3⟩

theorem argsS_sound (hT : TabOk C.P T) (hA : Agr S σ) {g : Option Bool} (hg : gb g = true) : ∀ {xs : List Operand} {ts : List TypeId} {ps : List Prop} {vs : List V} {br : Bool}, argsS (std T) T S g xs ts = some (ps, vs, br) → Alls ps →
    ∃ p, looks C.P σ true xs ts = some (p, vs, br) ∧ p
  | [], _, ps, vs, br, h, _ => by
    simp only [argsS, Option.some.injEq, Prod.mk.injEq] at h
    obtain ⟨_, rfl, rfl⟩ := h
    exact ⟨True, rfl, trivial⟩
  | x :: xs, ts, ps, vs, br, h, hp => by
    simp only [argsS] at h
    split at h
    · rename_i gx a h1
      split at h
      · rename_i v qs h2
        split at h
        · rename_i rs vs' br' h3
          simp only [Option.some.injEq, Prod.mk.injEq] at h
          obtain ⟨rfl, rfl, rfl⟩ := h
          rw [alls_append, alls_append] at hp
          have o1 := opdS_sound hT hA h1 (geG_sound hp.1.1 hg)
          obtain ⟨l1, l2, l3⟩ := lookAS_sound hA h2 (imG_sound hp.1.2 hg)
          obtain ⟨p, e1, e2⟩ := argsS_sound hT hA hg h3 hp.2
          refine ⟨((true = true → true = true) ∧ (vz σ a).okA σ) ∧ p, ?_, ⟨fun h => h, l2⟩, e2⟩
          simp only [looks, o1, e1, l1, l3, frzS_eq]
        · cases h
      · cases h
    · cases h

theorem valsS_sound (hT : TabOk C.P T) (hA : Agr S σ) {g : Option Bool} (hg : gb g = true) {ty : Nat → TypeId} : ∀ {xs : List (Nat × Operand)} {ps : List Prop} {vs : List (Nat × V)}, valsS (std T) T S g ty xs = some (ps, vs) → Alls ps →
    ∃ p, vals C.P σ true ty xs = some (p, vs) ∧ p
  | [], ps, vs, h, _ => by
    simp only [valsS, Option.some.injEq, Prod.mk.injEq] at h
    obtain ⟨_, rfl⟩ := h
    exact ⟨True, rfl, trivial⟩
  | (i, x) :: xs, ps, vs, h, hp => by
    simp only [valsS] at h
    split at h
    · rename_i gx v h1
      split at h
      · rename_i ho
        split at h
        · rename_i e d
          split at h
          · rename_i qs vs' h2
            simp only [Option.some.injEq, Prod.mk.injEq] at h
            obtain ⟨rfl, rfl⟩ := h
            rw [alls_append] at hp
            have o1 := opdS_sound hT hA h1 (geG_sound hp.1 hg)
            obtain ⟨p, e1, e2⟩ := valsS_sound hT hA hg h2 hp.2
            refine ⟨(true = true → true = true) ∧ p, ?_, fun h => h, e2⟩
            simp only [vals, o1, e1, vz, V.owned, V.isHole]
            simp [zrep, isNilC]
          · cases h
        · cases h
      · rename_i ho
        split at h
        · cases h
        · rename_i hh
          split at h
          · rename_i qs vs' h2
            simp only [Option.some.injEq, Prod.mk.injEq] at h
            obtain ⟨rfl, rfl⟩ := h
            rw [alls_append] at hp
            have o1 := opdS_sound hT hA h1 (geG_sound hp.1 hg)
            obtain ⟨p, e1, e2⟩ := valsS_sound hT hA hg h2 hp.2
            refine ⟨(true = true → true = true) ∧ p, ?_, fun h => h, e2⟩
            simp only [vals, o1, e1, vz, ho, hh]
            simp
          · cases h
    · cases h

theorem intS_sound (hT : TabOk C.P T) (hA : Agr S σ) {x : Operand} {g gi : Option Bool} {n : Int} (h : intS T S x = some (gi, n)) (hg : gb g = true) (hp : Alls (geG (std T) g gi)) : intOpd C.P σ true x = some ((true = true → true = true), n) := by
  unfold intS at h
  split at h
  · rename_i g' n' h1
    simp only [Option.some.injEq, Prod.mk.injEq] at h
    obtain ⟨rfl, rfl⟩ := h
    have o1 := opdS_sound hT hA h1 (geG_sound hp hg)
    simp only [intOpd, o1, vz]
  · cases h
theorem boundS_sound (hT : TabOk C.P T) (hA : Agr S σ) {x : Option Operand} {g gi : Option Bool} {d n : Int} (h : boundS T S d x = some (gi, n)) (hg : gb g = true) (hp : Alls (geG (std T) g gi)) : ∃ p, boundOf C.P σ true d x = some (p, n) ∧ p := by
  cases x with
  | none =>
    simp only [boundS, Option.some.injEq, Prod.mk.injEq] at h
    obtain ⟨_, rfl⟩ := h
    exact ⟨True, rfl, trivial⟩
  | some x => exact ⟨_, intS_sound hT hA h hg hp, fun h => h⟩

theorem ikE_eq {k k' : IntKind} (h : ikE k k' = true) : k = k' := by
  cases k <;> cases k' <;> first | rfl | (simp [ikE, ikN] at h)

theorem fitT_sound (hT : TabOk C.P T) {t : TypeId} {y : V} (h : fitT T t y = true) : fits C.P t y = true := by
  unfold fitT at h
  split at h
  · rename_i ht
    have hc := hT.c ht
    simp only [chkTI, decide_eq_true_eq] at hc
    simp only [fits, hT.agg ht, hT.cells ht, kAgg, V.size, hc]; rfl
  · rename_i ht
    have hc := hT.c ht
    simp only [chkTI, decide_eq_true_eq] at hc
    simp only [fits, hT.agg ht, hT.cells ht, kAgg, V.size, hc]; rfl
  · rename_i ht
    have hc := hT.c ht
    simp only [chkTI, decide_eq_true_eq] at hc
    simp only [fits, hT.agg ht, hT.cells ht, kAgg, V.size, hc]; rfl
  · rename_i ht
    have hc := hT.c ht
    simp only [chkTI, Bool.and_eq_true, decide_eq_true_eq] at hc
    simp only [fits, hT.agg ht, hT.cells ht, kAgg, V.size, hc.1]; rfl
  · rename_i ht
    simp only [fits, hT.agg ht, hT.cells ht, kAgg, V.size, Nat.eq_of_beq_eq_true h]; simp
  · rename_i ht
    simp only [fits, hT.agg ht, hT.cells ht, kAgg, V.size, Nat.eq_of_beq_eq_true h]; rfl
  · rename_i ht
    simp only [fits, hT.agg ht, hT.cells ht, kAgg, V.size, Nat.eq_of_beq_eq_true h]; rfl
  · cases h

theorem binS_sound {op : BinOp} {k : IntKind} {a b : Int} {ps : List Prop} {v : V} (h : binS (std T) op k a b = some (ps, v)) (hp : Alls ps) : ∃ p, binV op (.int k a) (.int k b) = some (p, v) ∧ p := by
  cases op <;> simp only [binS, Option.some.injEq, Prod.mk.injEq, reduceCtorEq] at h
  all_goals
    obtain ⟨rfl, rfl⟩ := h
    simp only [binV, if_pos]
    refine ⟨_, rfl, ?_⟩
    first
      | trivial
      | exact (alls_cons.1 hp).1
theorem strS_sound {op : BinOp} {a b : ByteArray} {ps : List Prop} {v : V} (h : strS (std T) op a b = some (ps, v)) (hp : Alls ps) : ∃ p, binV op (.str a) (.str b) = some (p, v) ∧ p := by
  cases op <;> simp only [strS, Option.some.injEq, Prod.mk.injEq, reduceCtorEq] at h
  all_goals
    obtain ⟨rfl, rfl⟩ := h
    simp only [binV]
    refine ⟨_, rfl, ?_⟩
    first
      | trivial
      | (have h1 : (a.size : Int) + (b.size : Int) < 1099511627776 := (alls_cons.1 hp).1
         omega)
end
end Go.Ax
