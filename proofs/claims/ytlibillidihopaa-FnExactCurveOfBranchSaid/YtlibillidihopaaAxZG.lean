/-
  AX, part ZG: the rule for functions that write into one argument.
-/
import Derived.Test.YtlibillidihopaaAxZE
namespace Go.Ax
open Go.RowKit
section
theorem last_eq : ∀ (l : List V), l.length ≠ 0 → l = initV l ++ [lastV l]
  | [], h => absurd rfl h
  | [x], _ => rfl
  | x :: z :: l, _ => by
    have := last_eq (z :: l) (by simp)
    simp only [initV, lastV, List.cons_append]
    rw [← this]

theorem reg_inj {x y : V} {cs ds : List Value} {v : Value} (h : Sh x y) (hx : x.isHole = false) (h1 : x.reg cs v) (l1 : cs.length = x.size) (h2 : y.reg ds v) (l2 : ds.length = y.size) : ds = cs := by
  have one : ∀ {z : V} {c : List Value}, z.isHole = false → (∀ fs, z ≠ .agg fs) → z.reg c v → c.length = z.size → c = [v] := by
    intro z c hz hna hr hl
    have : z.size = 1 := by cases z <;> first | rfl | exact absurd rfl (hna _) | cases hz
    match c, (by omega : c.length = 1) with
    | [u], _ =>
      have : v = u := by cases z <;> first | exact hr | exact absurd rfl (hna _) | cases hz
      rw [this]
  by_cases ha : ∃ fs, x = .agg fs
  · obtain ⟨fs, rfl⟩ := ha
    obtain ⟨fs', rfl, _⟩ := h.facts.2.2.2.2.1 fs rfl
    have e1 : v = .agg cs.toArray := h1
    have e2 : v = .agg ds.toArray := h2
    rw [e1] at e2
    simp only [Value.agg.injEq] at e2
    have := congrArg Array.toList e2
    simpa using this.symm
  · have hy : ∀ fs, y ≠ .agg fs := by
      intro fs hy
      subst hy
      cases h with
      | refl => exact ha ⟨_, rfl⟩
      | scal _ _ _ h' => simp [V.isScalar] at h'
      | agg es => exact ha ⟨_, rfl⟩
    have hyh : y.isHole = false := by
      cases h with
      | refl => exact hx
      | scal _ _ _ h' => cases y <;> simp_all [V.isScalar, V.isHole]
      | slc => rfl
      | agg => rfl
      | box => rfl
    rw [one hx (fun fs e => ha ⟨fs, e⟩) h1 l1, one hyh hy h2 l2]

theorem fnIO_of {P : Program} {T : Tab} {B : Book} {Bi : IBook} {k : FuncId} {fn : Func} {body : Code} {args : List V} {r x y : V} {n : Nat} (j : Nat) (ks : List Nat) (hf : P.funcs[k]? = some fn) (hb : fn.body = some body) (hn : fn.ntmps = n) (hname : (fn.name == "runtime.NumGoroutine") = false)
    (hl : args.length ≤ n) (hm : P.follows .mixedOrders = true) (hT : TabOk P T) (hB : BookOk P B) (hBi : BookIOk P Bi) (hck : chkCode T (j + 1) true body = true) (hj : args[j]? = some x) (hnh : x.isHole = false) (hsh : Sh x y) (hro : r.owned = false)
    (h : ∀ (L : Alg) (lp : LoopA) (rr yy : V), L = std T → rr = r → yy = y → FactS (argS 0 args) → LoopOk L T B Bi n ks lp → wpS L T lp B Bi n ks body (retI L T fn.results.toList j rr yy) (argS 0 args)) : FnIO P k j args r y := by
  refine ⟨⟨fn, hf, hname, by rw [hb]; rfl⟩, ⟨x, hj, hsh⟩, fun vals w F Oj css0 hsz hv hF hOj => ?_⟩
  have hjl : j < args.length := (List.getElem?_eq_some_iff.1 hj).1
  refine calls_of_wp hf hb ?_
  let C : Ctx := { P := P, Φ := phi B, w0 := w, X := Oj, F0 := F, nt := n, Ψ := psi Bi, lo := j + 1, t0 := vals ++ Array.replicate (fn.ntmps - vals.size) undef, st := true }
  have hC : CtxOk C := phi_ok (C := C) rfl hB
  have hIO : IOk C := psi_ok (C := C) rfl hBi
  let σ : Env := fun t => if t < args.length then ⟨true, true, 0, .val (args.getD t (.hole 0))⟩ else ⟨false, true, 0, .val (.hole 0)⟩
  have hts : (vals ++ Array.replicate (fn.ntmps - vals.size) undef).size = n := by
    simp only [Array.size_append, Array.size_replicate]
    omega
  have hgl : ∀ t, t < args.length → (vals ++ Array.replicate (fn.ntmps - vals.size) undef).getD t undef = vals.getD t undef := by
    intro t ht
    simp only [Array.getD_eq_getD_getElem?]
    rw [Array.getElem?_append_left (by omega)]
  have hgr : ∀ t, ¬ t < args.length → (vals ++ Array.replicate (fn.ntmps - vals.size) undef).getD t undef = undef := by
    intro t ht
    simp only [Array.getD_eq_getD_getElem?]
    rw [Array.getElem?_append_right (by omega)]
    by_cases h : t - vals.size < fn.ntmps - vals.size
    · simp [h]
    · simp [h]
  have hA : Agr (argS 0 args) σ := by
    refine ⟨fun t g a h => ?_, fun t h => ?_⟩
    · obtain ⟨j, x, e1, e2, e3, e4⟩ := argS_mem _ _ _ _ _ h
      subst e3; subst e4
      simp only [Nat.zero_add] at e1
      subst e1
      have hlt : t < args.length := (List.getElem?_eq_some_iff.1 e2).1
      simp only [σ, if_pos hlt, gb, vz, getD_of_some e2]
      exact ⟨trivial, trivial, fun _ => trivial⟩
    · by_cases hlt : t < args.length
      · exact absurd (by have := mem_argS args 0 t _ (some_of_lt (.hole 0) hlt); simpa using this) (h (none, .val (args.getD t (.hole 0))))
      · simp [σ, hlt, E.owner]
  have hI : Inv C F (fun t => if t = j then Oj else fun _ => False) (fun _ => False) σ { tmps := vals ++ Array.replicate (fn.ntmps - vals.size) undef, defers := [] } w := by
    have hO : ∀ s b, (if s = j then Oj else fun _ => False) b → s = j ∧ Oj b := by
      intro s b hb
      split at hb
      · rename_i e; exact ⟨e, hb⟩
      · exact hb.elim
    refine ⟨fun t hg => ?_, fun s t b hst hb hb' => hst ((hO s b hb).1.trans (hO t b hb').1.symm), fun s b hb => (hOj b (hO s b hb).2).2, fun _ _ _ h => h, fun _ h => h.elim, fun s b hb => (hOj b (hO s b hb).2).1, fun _ h => h.elim, hF, fun s b hb => .inr (hO s b hb).2, fun _ h => h.elim, fun _ h => h, fun _ h => .inl h, fun _ _ _ => rfl, Nat.le_refl _, rfl, rfl, rfl, rfl, fun t s ver hr => ?_, fun t hg hu => ?_, hts, fun _ _ => rfl, fun _ _ _ _ _ _ h => h⟩
    · have hlt : t < args.length := by
        by_cases hlt : t < args.length
        · exact hlt
        · simp [σ, hlt] at hg
      refine ⟨by rw [hts]; omega, fun x hx => ?_, fun hn => absurd (by simp only [σ, if_pos hlt]) (hn (args.getD t (.hole 0)))⟩
      simp only [σ, if_pos hlt, A.val.injEq] at hx
      subst hx
      rw [hgl t hlt]
      obtain ⟨v1, v2⟩ := hv t _ (some_of_lt (.hole 0) hlt)
      exact ⟨_, v1, v2⟩
    · simp only [σ] at hr
      split at hr <;> simp [A.refs] at hr
    · have hlt : ¬ t < args.length := by
        intro hlt
        simp [σ, hlt] at hg
      exact hgr t hlt
  have hGS : GS C (argS 0 args) { tmps := vals ++ Array.replicate (fn.ntmps - vals.size) undef, defers := [] } w := ⟨σ, hA, F, _, hI⟩
  have hw := wpS_sound (C := C) hC hIO hT rfl rfl hm (lp := lpOf T C) (fun c Q S h1 h2 => h2 h1) body _ _ hck (h (std T) (lpOf T C) r y rfl rfl rfl hGS.facts (loopOk hC hIO hT rfl rfl hm ks)) _ w hGS
  refine Code.wp_mono (fun e a' w' hq => ?_) hw
  obtain ⟨S', q1, σ', hA', F', O', hI'⟩ := hq
  have fin : (match resS (std T) T (fn.results.toList ++ [.tmp j]) S' with
      | some (ps, l) => conj ps (oneV (initV l) = r ∧ lastV l = y)
      | none => False) → a'.defers = [] ∧ ∃ v, (results fn a'.tmps).run P w' = .ok v w' ∧ ∃ (v' : Value) (cs : List Value) (On Fr Xn : Nat → Prop), Ending.returned v = .returned v' ∧ r.reg cs v' ∧ Rep P.cellsOf w' (fun b => F b ∨ Fr b) r cs On ∧
        y.reg (css0 j) (vals.getD j undef) ∧ Rep P.cellsOf w' (fun b => F b ∨ Fr b) y (css0 j) Xn ∧ Chg w w' Oj On Fr Xn := by
    intro hq
    split at hq
    · rename_i ps l hres
      rw [conj_iff] at hq
      obtain ⟨f2, vf, css, Ons, f1, f3, f4, f5, f6⟩ := resS_sound (C := C) hT _ _ _ _ _ _ _ _ _ _ hI' hA' hres hq.1
      have hlast : l = initV l ++ [lastV l] := last_eq l (by rw [f2]; simp)
      obtain ⟨hq1, hq2, hq3⟩ := hq
      generalize initV l = l0 at hlast hq2
      rw [hq3] at hlast
      subst hlast
      have hl0 : l0.length = fn.results.size := by simpa using f2
      obtain ⟨vs, g0, g1, g2⟩ := results_all (fn := fn) a'.tmps P w' vf (fun i x hx => f1 i x (by
        rw [List.getElem?_append_left (List.getElem?_eq_some_iff.1 hx).1]; exact hx))
      refine ⟨hI'.defers, _, g2, ?_⟩
      have hFr : ∀ b, F' b → F b ∨ (F' b ∧ w.heap.size ≤ b) := fun b hb => (hI'.ffr b hb).imp id (fun h => ⟨hb, h⟩)
      have hsz : vs.size = l0.length := by rw [g0, hl0]
      -- the argument
      obtain ⟨y1, y2⟩ := f3 l0.length y (by simp)
      have hvj : vf l0.length = vals.getD j undef := by
        have := f1 l0.length (.tmp j) (by rw [List.getElem?_append_right (by simp [hl0])]; simp [hl0])
        simp only [resM, Sem.run_pure, Result.ok.injEq, and_true] at this
        rw [← this, hI'.kp j (Nat.lt_succ_self j)]
        exact hgl j hjl
      rw [hvj] at y1
      obtain ⟨x1, x2⟩ := hv j x hj
      have hcs : css l0.length = css0 j := reg_inj hsh hnh x1 x2.length y1 y2.length
      rw [hcs] at y1 y2
      have hchg : ∀ Fr : Nat → Prop, (∀ b, Fr b → F' b ∧ w.heap.size ≤ b) → Chg w w' Oj (fun _ => False) Fr (Ons l0.length) := fun Fr hfr =>
        ⟨hI'.size, hI'.os, hI'.tape, hI'.output, fun k hk hx => hI'.old k hk hx, fun b hb => hb.elim False.elim (fun hb => ⟨(hfr b hb).2, hI'.flt b (hfr b hb).1⟩),
          fun b hb => (f6 _ b hb).1.elim (fun h => .inr ⟨h, (f6 _ b hb).2.1⟩) .inl, fun _ h => h.elim, fun b hb => ⟨fun h => h, fun h => (f6 _ b hb).2.2 (hfr b h).1⟩,
          fun k off u hk hu h0 => hI'.hx rfl k off u hk hu h0⟩
      by_cases h1 : vs.size = 1
      · rw [dif_pos h1]
        have : ∃ z, l0 = [z] := by
          match l0, (by omega : l0.length = 1) with
          | [z], _ => exact ⟨z, rfl⟩
        obtain ⟨z, rfl⟩ := this
        have hr : z = r := hq2
        subst hr
        obtain ⟨e1, e2⟩ := f3 0 z rfl
        have hv0 : vs[0] = vf 0 := by
          rw [← g1 0 (by omega)]
          simp [Array.getD_eq_getD_getElem?, h1]
        exact ⟨_, css 0, fun _ => False, fun b => F' b ∧ w.heap.size ≤ b, _, rfl, by rw [hv0]; exact e1, (e2.unowned hro).mono hFr (fun _ h => h), y1, y2.mono hFr (fun _ h => h), hchg _ (fun _ h => h)⟩
      · rw [dif_neg h1]
        have hr : .tup l0 = r := by
          have := hq2
          unfold oneV at this
          split at this
          · rename_i x; exact absurd (by simpa using hsz) h1
          · exact this
        subst hr
        have hun : ∀ z ∈ l0, z.owned = false := by
          simpa [V.owned, V.owneds_eq] using hro
        refine ⟨_, [.tuple vs], fun _ => False, fun b => F' b ∧ w.heap.size ≤ b, _, rfl, rfl, ?_, y1, y2.mono hFr (fun _ h => h), hchg _ (fun _ h => h)⟩
        refine .tup l0 vs css (fun _ _ => False) _ hsz (fun i b hb => hb) (fun _ _ _ _ h => h.elim) (fun i x hx => ?_) (fun i x hx => ?_)
        · have hil := (List.getElem?_eq_some_iff.1 hx).1
          rw [g1 i (by omega)]
          exact (f3 i x (by rw [List.getElem?_append_left hil]; exact hx)).1
        · have hil := (List.getElem?_eq_some_iff.1 hx).1
          exact (((f3 i x (by rw [List.getElem?_append_left hil]; exact hx)).2).unowned (hun x (List.mem_of_getElem? hx))).mono hFr (fun _ h => h)
    · exact hq.elim
  cases e with
  | normal => exact fin q1
  | ret => exact fin q1
  | _ => exact q1.elim
end
end Go.Ax
