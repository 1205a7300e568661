/-
  AX, part I: the other quiet operations.
-/
import Derived.Test.YtlibillidihopaaAxH
namespace Go.Ax

section
variable {C : Ctx} {F : Nat → Prop} {O : Nat → Nat → Prop} {Z : Nat → Prop} {σ : Env} {a : Act} {w w' : World}

theorem fz_holds {cz : TypeId → Nat} {tmps : Array Value} {x : V} {b o : Nat} {cs : List Value} (hF : F b) (hc : Cells w b o cs) (hr : Rep cz w F x cs (fun _ => False)) : Holds cz w F σ tmps (.fz x) (.pointer (some ⟨b, o, none⟩)) :=
  ⟨b, o, cs, rfl, hF, hc, hr⟩

/-- the box that a header refers to, and where its content lies -/
theorem box_sound (hI : Inv C F O Z σ a w) {s ver : Nat} {p : List Nat} {v : Value} {r c : V} {e : TypeId} (hop : Holds C.cz w F σ a.tmps (.rf s ver p) v) (hr : σ.own s ver = some r) (hk : r.okr p) (hat : r.at p = .box e c) :
    ∃ b cc Oc, v = .pointer (some ⟨b, 0, none⟩) ∧ Cells w b 0 cc ∧ Rep C.cz w F c cc Oc ∧ ((∀ fs, r ≠ .tup fs) → locV C.cz w (p ++ [0]) r (a.tmps.getD s undef) = some (b, 0)) := by
  obtain ⟨cs, Oy, e1, e2, e3⟩ := rf_sound hI hop hr hk
  obtain ⟨b, cc, Oc, g1, g2, g3, g4, _⟩ := locV_of_box hat e1 e2
  refine ⟨b, cc, Oc, g1, g2, g3, fun hnt => ?_⟩
  have hH : (r.at p).isH = true := by rw [hat]; rfl
  rcases V.okr_cases hk with rfl | ⟨fs, i, rfl, rfl, hi⟩ | ⟨hm, _⟩
  · have hrb : r = .box e c := hat
    have hb : v = a.tmps.getD s undef := hop r _ hr (by cases r <;> trivial) rfl
    rw [hb] at g1
    rw [hrb, g1]
    rfl
  · exact absurd rfl (hnt fs)
  · obtain ⟨hp0, hna, hok⟩ := V.okm_okp hm
    obtain ⟨_, h2, _⟩ := hI.slot s (Env.own_elim hr).1
    obtain ⟨cs0, h3, h4⟩ := h2 r (Env.own_elim hr).2.2
    obtain ⟨b1, o1, cy, Oy1, k1, k2, k3, _, _, _, _⟩ := h4.takeV h3 hok hp0 hna
    rw [locV_append C.cz w hp0, k1, hat]
    rw [hat] at k3
    obtain ⟨u, rfl, _⟩ := isHdr_of_isH k3 rfl
    have hc := k2 0 u rfl
    simp only [Nat.add_zero] at hc
    have hvu : v = u := hop r u hr (V.okv_of_okp hok) (by rw [hdrV_okm hm, if_pos hH, k1]; exact hc)
    simp only [Option.bind_some, locM, hc]
    rw [hvu] at g1
    rw [g1]

/-- the slice that a header refers to, and where its elements lie -/
theorem slc_sound (hI : Inv C F O Z σ a w) {s ver : Nat} {p : List Nat} {v : Value} {r d : V} {e : TypeId} {es : List V} (hop : Holds C.cz w F σ a.tmps (.rf s ver p) v) (hr : σ.own s ver = some r) (hk : r.okr p) (hat : r.at p = .slc true e d es) :
    (∃ ad cap, v = .slice ad es.length cap) ∧ (es ≠ [] → ∃ b cap, v = .slice (some ⟨b, 0, none⟩) es.length cap ∧ O s b ∧ ((∀ fs, r ≠ .tup fs) → ∀ i, locV C.cz w (p ++ [i]) r (a.tmps.getD s undef) = some (b, i * C.cz e))) := by
  obtain ⟨cs, Oy, e1, e2, e3⟩ := rf_sound hI hop hr hk
  rw [hat] at e1 e2
  have hH : (r.at p).isH = true := by rw [hat]; rfl
  cases e2 with
  | own0 => exact ⟨⟨none, 0, e1⟩, fun h => absurd rfl h⟩
  | own e d es b len cap cur cs' Os O' hb hsz hl hcap hm' hO hOs hdis hcs hrr =>
    subst hl
    refine ⟨⟨_, _, e1⟩, fun hne => ⟨b, cap, e1, e3 b hO, fun hnt i => ?_⟩⟩
    have e1' : v = .slice (some ⟨b, 0, none⟩) es.length cap := e1
    rcases V.okr_cases hk with rfl | ⟨fs, j, rfl, rfl, hi⟩ | ⟨hm, _⟩
    · have hrb : r = .slc true e d es := hat
      have hb : v = a.tmps.getD s undef := hop r _ hr (by cases r <;> trivial) rfl
      rw [hrb, ← hb, e1']
      rfl
    · exact absurd rfl (hnt fs)
    · obtain ⟨hp0, hna, hok⟩ := V.okm_okp hm
      obtain ⟨_, h2, _⟩ := hI.slot s (Env.own_elim hr).1
      obtain ⟨cs0, h3, h4⟩ := h2 r (Env.own_elim hr).2.2
      obtain ⟨b1, o1, cy, Oy1, k1, k2, k3, _, _, _, _⟩ := h4.takeV h3 hok hp0 hna
      rw [locV_append C.cz w hp0, k1, hat]
      rw [hat] at k3
      obtain ⟨u, rfl, _⟩ := isHdr_of_isH k3 rfl
      have hc := k2 0 u rfl
      simp only [Nat.add_zero] at hc
      have hvu : v = u := hop r u hr (V.okv_of_okp hok) (by rw [hdrV_okm hm, if_pos hH, k1]; exact hc)
      simp only [Option.bind_some, locM, hc]
      rw [hvu] at e1'
      rw [e1']

theorem q_fieldAddr (hI : Inv C F O Z σ a w) {o : Oper} {t : TypeId} {x : Operand} {f : Nat} {g : Bool} {pre : Prop} {A : A} (ho : o.op = .fieldAddr t x f) (h : lop C σ g o = some (pre, A)) (hg : g = true) (hp : pre) : Yld C F σ a w o A := by
  simp only [lop, ho] at h
  split at h
  · rename_i off ft gx fs hf h1
    split at h
    · rename_i hc
      simp only [Option.some.injEq, Prod.mk.injEq] at h
      obtain ⟨rfl, rfl⟩ := h
      obtain ⟨b, o', cs, e1, e2, e3, e4⟩ := (opd_sound hI h1 (hp hg)).1
      refine ⟨.pointer (some ⟨b, o' + off, none⟩), ?_, ?_⟩
      · simp only [execOp, ho, Sem.run_bind, e1, fieldAt_run hf hc.1, Result.andThen_ok, Sem.run_pure]
      · cases e4 with
        | agg fs cs Os O' hn hOs hdis hr =>
          have hi := some_of_lt (.hole 0) hc.2.1
          exact fz_holds e2 (by rw [← hc.2.2]; exact e3.part _ _) ((hr f _ hi).mono (fun _ h => h) (fun b hb => hOs f b hb))
    · cases h
  · rename_i off ft gx s ver p hf h1
    split at h
    · rename_i r hr
      split at h
      · rename_i fs hat
        split at h
        · rename_i hc
          simp only [Option.some.injEq, Prod.mk.injEq] at h
          obtain ⟨rfl, rfl⟩ := h
          obtain ⟨b, o', cy, Oy, e1, e2, e3, e4, e5, e6⟩ := ad_sound hI (opd_sound hI h1 (hp.1 hg)).1 hr (hp.2 hg)
          refine ⟨.pointer (some ⟨b, o' + off, none⟩), ?_, ?_⟩
          · simp only [execOp, ho, Sem.run_bind, e2, fieldAt_run hf hc.1, Result.andThen_ok, Sem.run_pure]
          · intro r' b' o1 hr' _ hl
            rw [hr] at hr'
            simp only [Option.some.injEq] at hr'
            subst hr'
            rw [locV_append C.cz w (V.okm_okp (hp.2 hg)).1, e1, hat] at hl
            simp only [Option.bind_some, locM, Option.some.injEq, Prod.mk.injEq, hc.2.2] at hl
            rw [hl.1, hl.2]
        · cases h
      · cases h
    · cases h
  · rename_i off ft gx s ver p hf h1
    split at h
    · rename_i r hr
      split at h
      · rename_i e fs hat
        split at h
        · rename_i hc
          simp only [Option.some.injEq, Prod.mk.injEq] at h
          obtain ⟨rfl, rfl⟩ := h
          obtain ⟨b, cc, Oc, e1, e2, e3, e4⟩ := box_sound hI (opd_sound hI h1 (hp.1 hg)).1 hr (hp.2 hg) hat
          refine ⟨.pointer (some ⟨b, 0 + off, none⟩), ?_, ?_⟩
          · simp only [execOp, ho, Sem.run_bind, e1, fieldAt_run hf hc.1, Result.andThen_ok, Sem.run_pure]
          · intro r' b' o1 hr' hok' hl
            rw [hr] at hr'
            simp only [Option.some.injEq] at hr'
            subst hr'
            have e4' := e4 (not_tup_of_okp hok' (by simp))
            rw [show p ++ [0, f] = (p ++ [0]) ++ [f] from by simp, locV_append C.cz w (by simp), e4', V.at_append, hat] at hl
            simp only [Option.bind_some, V.at, V.kid, locM, Option.some.injEq, Prod.mk.injEq, hc.2.2] at hl
            rw [hl.1, hl.2]
        · cases h
      · cases h
    · cases h
  · cases h

theorem q_indexAddr (hI : Inv C F O Z σ a w) {o : Oper} {t : TypeId} {x i : Operand} {g : Bool} {pre : Prop} {A : A} (ho : o.op = .indexAddr t x i) (h : lop C σ g o = some (pre, A)) (hg : g = true) (hp : pre) : Yld C F σ a w o A := by
  simp only [lop, ho] at h
  split at h
  · rename_i e gx e' d es pi n he h1 h2
    split at h
    · rename_i hc
      obtain ⟨rfl, hc⟩ := hc
      simp only [Option.some.injEq, Prod.mk.injEq] at h
      obtain ⟨rfl, rfl⟩ := h
      obtain ⟨p1, p2, p3⟩ := hp
      obtain ⟨n0, n1⟩ := p3 hg
      have ei := intOpd_sound hI h2 hg p2
      obtain ⟨cs, e1, e2⟩ := (opd_sound hI h1 (p1 hg)).1
      have hinf : (C.P.info? e).isSome = true := by obtain ⟨i, hi, _⟩ := cellsOf_info (P := C.P) (t := e) rfl hc; simp [hi]
      cases e2 with
      | fz0 => simp at n1; omega
      | fz e d es b off len cap cs' O' hl hcap hm hF hcs hr =>
        subst hl
        have e1' : a.eval x = .slice (some ⟨b, off, none⟩) es.length cap := e1
        have hlt : n.toNat < es.length := by omega
        refine ⟨.pointer (some ⟨b, off + n.toNat * C.P.cellsOf e, none⟩), ?_, ?_⟩
        · simp only [execOp, ho, Sem.run_bind, e1', ei, indexAt_run he n0 n1 w hinf, Result.andThen_ok, Sem.run_pure]
        · exact fz_holds hF (hcs _ hlt).2 (hr _ _ (some_of_lt d hlt))
    · cases h
  · rename_i e gx s ver p pi n he h1 h2
    split at h
    · rename_i r hr
      split at h
      · rename_i e' d es hat
        split at h
        · rename_i hc
          obtain ⟨rfl, hc⟩ := hc
          simp only [Option.some.injEq, Prod.mk.injEq] at h
          obtain ⟨rfl, rfl⟩ := h
          obtain ⟨p1, p2, p3⟩ := hp
          obtain ⟨n00, n0, n1⟩ := p3 hg
          have ei := intOpd_sound hI h2 hg p2
          have hinf : (C.P.info? e).isSome = true := by obtain ⟨i, hi, _⟩ := cellsOf_info (P := C.P) (t := e) rfl hc; simp [hi]
          obtain ⟨b, cap, e1, _, e2⟩ := (slc_sound hI (opd_sound hI h1 (p1 hg)).1 hr n00 hat).2 (by rintro rfl; simp at n1; omega)
          refine ⟨.pointer (some ⟨b, 0 + n.toNat * C.P.cellsOf e, none⟩), ?_, ?_⟩
          · simp only [execOp, ho, Sem.run_bind, e1, ei, indexAt_run he n0 n1 w hinf, Result.andThen_ok, Sem.run_pure]
          · intro r' b' o1 hr' hok' hl
            rw [hr] at hr'
            simp only [Option.some.injEq] at hr'
            subst hr'
            rw [e2 (not_tup_of_okp hok' (by simp)) n.toNat] at hl
            simp only [Option.some.injEq, Prod.mk.injEq] at hl
            rw [← hl.1, ← hl.2, Nat.zero_add]
        · cases h
      · cases h
    · cases h
  · cases h

theorem q_index (hI : Inv C F O Z σ a w) {o : Oper} {t : TypeId} {x i : Operand} {g : Bool} {pre : Prop} {A : A} (ho : o.op = .index t x i) (h : lop C σ g o = some (pre, A)) (hg : g = true) (hp : pre) : Yld C F σ a w o A := by
  simp only [lop, ho] at h
  split at h
  · rename_i gx s pi n hs h1 h2
    simp only [Option.some.injEq, Prod.mk.injEq] at h
    obtain ⟨rfl, rfl⟩ := h
    obtain ⟨p1, p2, p3⟩ := hp
    obtain ⟨n0, n1⟩ := p3 hg
    have ei := intOpd_sound hI h2 hg p2
    have e1 := holds_str (opd_sound hI h1 (p1 hg)).1
    have hlt : n.toNat < s.size := by omega
    refine val_yld (v := .int .u8 (s.data.getD n.toNat 0).toNat) (cs := [_]) ?_ rfl (.int ..)
    have hb : s[n.toNat]? = some (s.data.getD n.toNat 0) := by
      have : s[n.toNat]? = some s[n.toNat] := by simp [hlt]
      rw [this]
      have h2 : n.toNat < s.data.size := hlt
      have h3 : s[n.toNat] = s.data[n.toNat] := rfl
      rw [h3, Array.getD_eq_getD_getElem?, Array.getElem?_eq_getElem h2]
      rfl
    simp only [execOp, ho, Sem.run_bind, e1, ei, Instr.index, asIntOf, Sem.run_pure, Result.andThen_ok, run_underlying (isStr_und hs), if_pos n0, hb]
  · cases h

theorem q_extract (hI : Inv C F O Z σ a w) {o : Oper} {x : Operand} {i : Nat} {g : Bool} {pre : Prop} {A : A} (ho : o.op = .extract x i) (h : lop C σ g o = some (pre, A)) (hg : g = true) (hp : pre) : Yld C F σ a w o A := by
  simp only [lop, ho] at h
  split at h
  · rename_i gx fs h1
    split at h
    · rename_i hi
      simp only [Option.some.injEq, Prod.mk.injEq] at h
      obtain ⟨rfl, rfl⟩ := h
      obtain ⟨cs, e1, e2⟩ := (opd_sound hI h1 (hp hg)).1
      cases e2 with
      | tup fs vs cs' Os O' hn hOs hdis hv hr =>
        have e1' : a.eval x = .tuple vs := e1
        have hi' := some_of_lt (.hole 0) hi
        have hvs : vs[i]? = some (vs.getD i undef) := by
          have : i < vs.size := by omega
          simp [this]
        exact val_yld (v := vs.getD i undef) (cs := cs' i) (by simp only [execOp, ho, Sem.run_bind, e1', Instr.extract, hvs, Result.andThen_ok, Sem.run_pure]) (hv i _ hi') ((hr i _ hi').mono (fun _ h => h) (fun b hb => hOs i b hb))
    · cases h
  · rename_i gx s ver h1
    split at h
    · rename_i fs hr
      split at h
      · rename_i hi
        obtain ⟨cs, Oy, e1, e2, e3⟩ : ∃ cs Oy, (V.tup fs).reg cs (a.tmps.getD s undef) ∧ Rep C.cz w F (.tup fs) cs Oy ∧ ∀ b, Oy b → O s b := by
          obtain ⟨_, h2, _⟩ := hI.slot s (Env.own_elim hr).1
          obtain ⟨cs, h3, h4⟩ := h2 _ (Env.own_elim hr).2.2
          exact ⟨cs, O s, h3, h4, fun _ h => h⟩
        cases e2 with
        | tup fs vs cs' Os O' hn hOs hdis hv hrr =>
          have e1' : a.tmps.getD s undef = .tuple vs := e1
          have hi' := some_of_lt (.hole 0) hi
          have hvs : vs[i]? = some (vs.getD i undef) := by
            have : i < vs.size := by omega
            simp [this]
          have hgx : gx = true := by
            split at h
            · simp only [Option.some.injEq, Prod.mk.injEq] at h; exact (h.1 ▸ hp : (g = true → gx = true)) hg
            · simp only [Option.some.injEq, Prod.mk.injEq] at h; exact (h.1 ▸ hp : (g = true → gx = true)) hg
          have hev : a.eval x = .tuple vs := by
            have := (opd_sound hI h1 hgx).1 (.tup fs) _ hr trivial rfl
            rw [this, e1']
          have hrun : (execOp a.eval o).run C.P w = .ok (.value (vs.getD i undef)) w := by simp only [execOp, ho, Sem.run_bind, hev, Instr.extract, hvs, Result.andThen_ok, Sem.run_pure]
          split at h
          · simp only [Option.some.injEq, Prod.mk.injEq] at h
            obtain ⟨rfl, rfl⟩ := h
            refine ⟨_, hrun, ?_⟩
            intro r' h' hr' _ hh
            rw [hr] at hr'
            simp only [Option.some.injEq] at hr'
            subst hr'
            rw [e1'] at hh
            simp only [hdrV, Option.some.injEq] at hh
            exact hh
          · rename_i hno
            simp only [Option.some.injEq, Prod.mk.injEq] at h
            obtain ⟨rfl, rfl⟩ := h
            exact val_yld hrun (hv i _ hi') ((hrr i _ hi').unowned (by simpa using hno))
      · cases h
    · cases h
  · cases h

theorem q_convert (hI : Inv C F O Z σ a w) {o : Oper} {s d : TypeId} {x : Operand} {g : Bool} {pre : Prop} {A : A} (ho : o.op = .convert s d x) (h : lop C σ g o = some (pre, A)) (hg : g = true) (hp : pre) : Yld C F σ a w o A := by
  simp only [lop, ho] at h
  split at h
  · rename_i k1 k gx k2 n hs hd h1
    simp only [Option.some.injEq, Prod.mk.injEq] at h
    obtain ⟨rfl, rfl⟩ := h
    have e1 := holds_int (opd_sound hI h1 (hp hg)).1
    exact val_yld (v := .int k (k.wrap n)) (cs := [_]) (by simp [execOp, ho, e1, convert, run_underlying (intT_und hs), run_underlying (intT_und hd), Conv.intToInt]) rfl (.int ..)
  · cases h

theorem q_len (hI : Inv C F O Z σ a w) {o : Oper} {x : Operand} {t : TypeId} {g gx : Bool} {A : A} {args : Array Operand} {ats : Array TypeId} (ho : o.op = .call ⟨.builtin .len, args, ats⟩) (hargs : args.toList = [x]) (hats : ats.toList = [t])
    (h1 : opd C.P σ 0 x = some (gx, A)) (hgx : gx = true) (hna : A.isAg = false) (hok : A.okA σ) {y : V} (hl : A.look σ = some y) {n : Nat} (hy : (∃ o e d es, y = .slc o e d es ∧ n = es.length ∧ (elemOf C.P t).isSome = true) ∨ (∃ s, y = .str s ∧ n = s.size ∧ isStr C.P t = true)) (hg : g = true) :
    Yld C F σ a w o (.val (.int .i64 n)) := by
  have hargs' : args = #[x] := by cases args; simp_all
  have hats' : ats = #[t] := by cases ats; simp_all
  subst hargs'; subst hats'
  have hop := (opd_sound hI h1 hgx).1
  have hrep : ∃ cs Oy, y.reg cs (a.eval x) ∧ Rep C.cz w F y cs Oy := by
    cases A with
    | val z =>
      simp only [A.look, Option.some.injEq] at hl
      subst hl
      obtain ⟨cs, e1, e2⟩ := hop
      exact ⟨cs, _, e1, e2⟩
    | rf s ver p =>
      simp only [A.look, Option.map_eq_some_iff] at hl
      obtain ⟨r, hr, rfl⟩ := hl
      simp only [A.okA, hr] at hok
      obtain ⟨cs, Oy, e1, e2, _⟩ := rf_sound hI hop hr hok
      exact ⟨cs, Oy, e1, e2⟩
    | ag s ver p z => simp [A.isAg] at hna
    | ad => simp [A.look] at hl
    | fz => simp [A.look] at hl
  obtain ⟨cs, Oy, e1, e2⟩ := hrep
  rcases hy with ⟨o', e, d, es, rfl, rfl, ht⟩ | ⟨s', rfl, rfl, ht⟩
  · obtain ⟨e', he'⟩ := Option.isSome_iff_exists.1 ht
    have : ∃ ad cap, a.eval x = .slice ad es.length cap := by
      cases e2 <;> first | (subst_vars; exact ⟨_, _, e1⟩) | exact ⟨_, _, e1⟩
    obtain ⟨ad, cap, hv⟩ := this
    exact val_yld (v := .int .i64 es.length) (cs := [_]) (by simp [execOp, ho, resolve, invoke, builtin, hv, Builtin.len_, run_underlying (elemOf_und he'), goInt]) rfl (.int ..)
  · cases e2
    have hv : a.eval x = .string s' := e1
    exact val_yld (v := .int .i64 s'.size) (cs := [_]) (by simp [execOp, ho, resolve, invoke, builtin, hv, Builtin.len_, run_underlying (isStr_und ht), goInt]) rfl (.int ..)
end
end Go.Ax
