/-
  AX, part L: calls; the soundness of a step that turns nothing but its own register.
-/
import Derived.Test.YtlibillidihopaaAxK
namespace Go.Ax
open Go.RowKit

section
variable {C : Ctx} {F : Nat → Prop} {O : Nat → Nat → Prop} {Z : Nat → Prop} {σ : Env} {a : Act} {w w' : World}

theorem looks_sound (hI : Inv C F O Z σ a w) {g : Bool} (hg : g = true) : ∀ {ops : List Operand} {tys : List TypeId} {p : Prop} {vs : List V} {br : Bool}, looks C.P σ g ops tys = some (p, vs, br) → p →
    ops.length = vs.length ∧ (∀ (i : Nat) (x : V), vs[i]? = some x → ∃ cs, x.reg cs ((ops.map a.eval).toArray.getD i undef) ∧ Rep C.cz w (fun b => F b ∨ (br = true ∧ ∃ s, O s b)) x cs (fun _ => False))
  | [], tys, p, vs, br, h, _ => by
    simp only [looks, Option.some.injEq, Prod.mk.injEq] at h
    obtain ⟨_, rfl, rfl⟩ := h
    exact ⟨rfl, fun i x hx => by simp at hx⟩
  | o :: ops, tys, p, vs, br, h, hp => by
    simp only [looks] at h
    split at h
    · rename_i gx A p' vs' br' h1 h2
      split at h
      · rename_i v hv
        simp only [Option.some.injEq, Prod.mk.injEq] at h
        obtain ⟨rfl, rfl, rfl⟩ := h
        obtain ⟨⟨p1, p2⟩, p3⟩ := hp
        obtain ⟨e1, e2⟩ := looks_sound hI hg h2 p3
        refine ⟨by simp [e1], fun i x hx => ?_⟩
        cases i with
        | zero =>
          simp at hx
          subst hx
          obtain ⟨cs, g1, g2⟩ := look_sound hI (opd_sound hI h1 (p1 hg)).1 p2 hv
          exact ⟨cs, by simpa using g1, g2.mono (fun b hb => hb.imp id (fun hb => ⟨by have := hb.1; revert this; cases v.owned <;> cases A.isAg <;> simp, hb.2⟩)) (fun _ h => h)⟩
        | succ i =>
          obtain ⟨cs, g1, g2⟩ := e2 i x (by simpa using hx)
          exact ⟨cs, by simpa using g1, g2.mono (fun b hb => hb.imp id (fun hb => ⟨by rw [hb.1]; simp, hb.2⟩)) (fun _ h => h)⟩
      · cases h
    · cases h

theorem callFunc_run {P : Program} {k : FuncId} (h : Callable P k) (args : Array Value) (w : World) : (callFunc k args).run P w = .ok (.enter k args) w := by
  obtain ⟨fn, h1, h2, h3⟩ := h
  simp only [callFunc, Sem.run_bind, run_program, Result.andThen_ok, h1, h2, h3, Bool.false_eq_true, if_false, Sem.run_pure]

/-- the value of a function, called -/
theorem call_run (hI : Inv C F O Z σ a w) {o : Oper} {f : Operand} {args : Array Operand} {ats : Array TypeId} {gf : Bool} {k : FuncId} {caps : List V} (ho : o.op = .call ⟨.value f, args, ats⟩) (h1 : opd C.P σ 0 f = some (gf, .val (.fn k caps))) (hgf : gf = true)
    (hk : Callable C.P k) : ∃ cv : Array Value, cv.size = caps.length ∧ (∀ (i : Nat) (x : V), caps[i]? = some x → ∃ cs, x.reg cs (cv.getD i undef) ∧ Rep C.cz w F x cs (fun _ => False)) ∧
      (execOp a.eval o).run C.P w = .ok (.enter k (args.map a.eval ++ cv)) w := by
  obtain ⟨cs, e1, e2⟩ := (opd_sound hI h1 hgf).1
  cases e2 with
  | fn f' caps vs cs' O' hn hv hr =>
    have hev : a.eval f = .func (.func k) #[] vs := e1
    refine ⟨vs, hn, fun i x hx => ⟨cs' i, hv i x hx, hr i x hx⟩, ?_⟩
    simp only [execOp, ho, resolve, Sem.run_bind, hev, Deferred.ofValue, Sem.run_pure, Result.andThen_ok, invoke, Array.empty_append]
    exact callFunc_run hk _ w

/-- THE STEP IS SOUND. -/
theorem lop_sound (hC : CtxOk C) (hI : Inv C F O (fun _ => False) σ a w) {o : Oper} {g : Bool} {pre : Prop} {A : A} (hl : lop C σ g o = some (pre, A)) (hg : g = true) (hp : pre) {d : Nat} (hd : o.dst = some d) (hdl : d < a.tmps.size) (hlo : C.lo ≤ d)
    (hrefs : ∀ s ver, A.refs = some (s, ver) → ver ≤ (σ s).ver) {Q : Exit → Act → World → Prop} :
    o.wp C.P a w (fun a' w' => ∃ F' O', Inv C F' O' (fun _ => False) (σ.put d g A) a' w') Q := by
  have yld : Yld C F σ a w o A → o.wp C.P a w (fun a' w' => ∃ F' O', Inv C F' O' (fun _ => False) (σ.put d g A) a' w') Q := by
    rintro ⟨v, hr, hh⟩
    unfold Oper.wp
    rw [hr, Oper.upon_value, hd]
    cases A with
    | val x =>
      obtain ⟨cs, e1, e2⟩ := hh
      exact ⟨F, _, (hI.putVal hdl (.inl hlo) (g := g) (On := fun _ => False) (fun _ => ⟨e1, e2⟩) (fun _ h => h) (by simp [hg])).lessZ (fun _ h => h.elim)⟩
    | _ => exact ⟨F, _, hI.putRef hdl (.inl hlo) (by simp) (fun _ => hh) (by simp [hg]) hrefs⟩
  have mks : Mks C F a w o A → o.wp C.P a w (fun a' w' => ∃ F' O', Inv C F' O' (fun _ => False) (σ.put d g A) a' w') Q := by
    rintro ⟨v, obj, x, cs, rfl, hr, e1, e2⟩
    unfold Oper.wp
    rw [hr, Oper.upon_value, hd]
    have h1 : Inv C F O (fun b => b = w.heap.size) σ a (w.alloc obj) :=
      hI.worldZ (by simp) (fun k hk _ => Deep.blk_alloc_lt w obj k hk) (fun b hb => .inr (by subst hb; simp)) (fun _ b off u _ hz => hz.elim) rfl rfl rfl
    exact ⟨F, _, (h1.putVal hdl (.inl hlo) (g := g) (On := fun b => b = w.heap.size) (fun _ => ⟨e1, e2⟩) (fun _ h => h) (by simp [hg])).lessZ (fun _ h => h.elim)⟩
  have len : ∀ {x : Operand} {t : TypeId} {args : Array Operand} {ats : Array TypeId}, o.op = .call ⟨.builtin .len, args, ats⟩ → args.toList = [x] → ats.toList = [t] → Yld C F σ a w o A := by
    intro x t args ats ho h1 h2
    have hl' := hl
    simp only [lop, ho, h1, h2] at hl'
    split at hl'
    · rename_i gx A' hA
      split at hl'
      · cases hl'
      · rename_i hag
        split at hl'
        · rename_i o' e d' es hlk
          split at hl'
          · rename_i het
            simp only [Option.some.injEq, Prod.mk.injEq] at hl'
            obtain ⟨rfl, rfl⟩ := hl'
            exact q_len hI ho h1 h2 hA (hp hg).1 (by simpa using hag) (hp hg).2 hlk (.inl ⟨o', e, d', es, rfl, rfl, het⟩) hg
          · cases hl'
        · rename_i s hlk
          split at hl'
          · rename_i het
            simp only [Option.some.injEq, Prod.mk.injEq] at hl'
            obtain ⟨rfl, rfl⟩ := hl'
            exact q_len hI ho h1 h2 hA (hp hg).1 (by simpa using hag) (hp hg).2 hlk (.inr ⟨s, rfl, rfl, het⟩) hg
          · cases hl'
        · cases hl'
    · cases hl'
  cases hop : o.op with
  | move x => exact yld (q_move hI hop hl hg hp)
  | assign x => exact yld (q_assign hI hop hl hg hp)
  | pick c x y => exact yld (q_pick hI hop hl hg hp)
  | alloc t => exact mks (m_alloc hI hop hl)
  | box t x => exact mks (m_boxop hI hop hl hg hp)
  | build t ps => exact yld (q_build hI hop hl hg hp)
  | buildSlice t n ps => exact mks (m_buildSlice hI hop hl hg hp)
  | load t x => exact yld (q_load hI hop hl hg hp)
  | binOp op xt x y yt => exact yld (q_bin hI hop hl hg hp)
  | unOp op t x => exact yld (q_un hI hop hl hg hp)
  | convert s t x => exact yld (q_convert hI hop hl hg hp)
  | makeFunc fn fi ca => exact yld (q_makeFunc hI hop hl hg hp)
  | makeSlice t l c => exact mks (m_make hI hop hl hg hp)
  | slice t x lo hi mx =>
    cases mx with
    | none => exact yld (q_slice hI hop hl hg hp)
    | some m => simp [lop, hop] at hl
  | fieldAddr t x f => exact yld (q_fieldAddr hI hop hl hg hp)
  | indexAddr t x i => exact yld (q_indexAddr hI hop hl hg hp)
  | index t x i => exact yld (q_index hI hop hl hg hp)
  | extract x i => exact yld (q_extract hI hop hl hg hp)
  | call c =>
    obtain ⟨cal, args, ats⟩ := c
    cases cal with
    | builtin b =>
      cases b with
      | len =>
        have hl' := hl
        simp only [lop, hop] at hl'
        split at hl'
        · rename_i x t h1 h2
          exact yld (len hop h1 h2)
        · cases hl'
      | min =>
        simp only [lop, hop] at hl
        split at hl
        · rename_i x y h1
          split at hl
          · rename_i gx k m gy k' n h2 h3
            split at hl
            · rename_i hk
              subst hk
              simp only [Option.some.injEq, Prod.mk.injEq] at hl
              obtain ⟨rfl, rfl⟩ := hl
              exact yld (q_min hI hop h1 h2 h3 (hp.1 hg) (hp.2 hg) hg)
            · cases hl
          · cases hl
        · cases hl
      | max =>
        simp only [lop, hop] at hl
        split at hl
        · rename_i x y h1
          split at hl
          · rename_i gx k m gy k' n h2 h3
            split at hl
            · rename_i hk
              subst hk
              simp only [Option.some.injEq, Prod.mk.injEq] at hl
              obtain ⟨rfl, rfl⟩ := hl
              exact yld (q_max hI hop h1 h2 h3 (hp.1 hg) (hp.2 hg) hg)
            · cases hl
          · cases hl
        · cases hl
      | _ => simp [lop, hop] at hl
    | invoke r m => simp [lop, hop] at hl
    | value f =>
      simp only [lop, hop] at hl
      split at hl
      · rename_i gf k caps p vs br h1 h2
        split at hl
        · rename_i q r hΦ
          split at hl
          · cases hl
          · rename_i hbr
            simp only [Option.some.injEq, Prod.mk.injEq] at hl
            obtain ⟨rfl, rfl⟩ := hl
            obtain ⟨p1, p2, p3⟩ := hp
            obtain ⟨hcall, hfn⟩ := hC k _ q r hΦ (p3 hg)
            obtain ⟨cv, c1, c2, c3⟩ := call_run hI hop h1 (p1 hg) hcall
            obtain ⟨l1, l2⟩ := looks_sound hI hg h2 (p2 hg)
            have hcalls := hfn (args.map a.eval ++ cv) w (fun b => F b ∨ (br = true ∧ ∃ s, O s b)) (by simp [c1]; simpa using l1) (fun i x hx => by
              rw [List.getElem?_append] at hx
              split at hx
              · rename_i hi
                obtain ⟨cs, g1, g2⟩ := l2 i x hx
                refine ⟨cs, ?_, g2⟩
                have : i < (args.map a.eval).size := by simp; rw [← l1] at hi; simpa using hi
                have e : (args.map a.eval ++ cv).getD i undef = (args.toList.map a.eval).toArray.getD i undef := by
                  simp only [Array.getD_eq_getD_getElem?, Array.getElem?_append_left this]
                  simp
                rw [e]
                exact g1
              · rename_i hi
                obtain ⟨cs, g1, g2⟩ := c2 _ x hx
                refine ⟨cs, ?_, g2.mono (fun _ h => .inl h) (fun _ h => h)⟩
                have hsz : (args.map a.eval).size = vs.length := by simp; simpa using l1
                have e : (args.map a.eval ++ cv).getD i undef = cv.getD (i - vs.length) undef := by
                  simp only [Array.getD_eq_getD_getElem?]
                  rw [Array.getElem?_append_right (by omega), hsz]
                rw [e]
                exact g1) (fun b hb => hb.elim (hI.flt b) (fun hb => by obtain ⟨_, s, hb⟩ := hb; exact hI.olt s b hb))
            unfold Oper.wp
            rw [c3, Oper.upon_enter]
            refine hcalls.mono (fun e w' he => ?_)
            obtain ⟨v, cs, On, Fr, rfl, e1, e2, e3, e4, e5⟩ := he
            simp only [hd]
            have hw : Inv C F O (fun b => On b ∨ Fr b) σ a w' := hI.worldZ e5.size (fun k hk _ => e5.block k hk) (fun b hb => .inr (e3 b hb)) (fun _ b off u _ hz => hz.elim) e5.os e5.tape e5.output
            have hres : Rep C.cz w' (fun b => F b ∨ Fr b) r cs On := by
              cases br with
              | false => exact e2.mono (fun b hb => hb.imp (fun hb => hb.resolve_right (by simp)) id) (fun _ h => h)
              | true => exact e2.noFz (by simpa using hbr)
            have hfr := hw.freezeZ (Zf := Fr) (fun b hb => .inr hb) (fun b hb => Nat.le_trans hI.size (e3 b (.inr hb)).1)
            exact ⟨_, _, (hfr.putVal hdl (.inl hlo) (g := g) (On := On) (fun _ => ⟨e1, hres⟩) (fun b hb => ⟨.inl hb, e4 b hb⟩) (by simp [hg])).lessZ (fun _ h => h.elim)⟩
        · cases hl
      · cases hl
  | _ => simp [lop, hop] at hl
end
end Go.Ax
