/-
  AX, part T: append.
-/
import Derived.Test.YtlibillidihopaaAxS
namespace Go.Ax
open Go.RowKit

theorem flat_seg (s : Nat) (cs : Nat → List Value) : ∀ (m : Nat), (∀ k, k < m → (cs k).length = s) → ((List.range m).flatMap cs).length = m * s ∧ ∀ k, k < m → (((List.range m).flatMap cs).drop (k * s)).take s = cs k
  | 0, _ => ⟨by simp, fun k hk => by omega⟩
  | m + 1, h => by
    obtain ⟨h1, h2⟩ := flat_seg s cs m (fun k hk => h k (by omega))
    rw [List.range_succ, List.flatMap_append]
    simp only [List.flatMap_cons, List.flatMap_nil, List.append_nil]
    refine ⟨by rw [List.length_append, h1, h m (by omega), Nat.add_mul]; omega, fun k hk => ?_⟩
    by_cases hkm : k < m
    · have : (k + 1) * s ≤ m * s := Nat.mul_le_mul_right _ hkm
      rw [Nat.add_mul] at this
      rw [List.drop_append_of_le_length (by rw [h1]; omega), List.take_append_of_le_length (by rw [List.length_drop, h1]; omega)]
      exact h2 k hkm
    · have : k = m := by omega
      subst this
      rw [← h1, List.drop_left, List.take_of_length_le (by rw [h k (by omega)]; exact Nat.le_refl _)]

section
variable {C : Ctx} {F : Nat → Prop} {O : Nat → Nat → Prop} {Z : Nat → Prop} {σ σ' : Env} {a : Act} {w w' : World} {cz : TypeId → Nat}

/-- an own slice is a row in the library's sense -/
theorem rowOf {e : TypeId} {d : V} {es : List V} {v : Value} {On : Nat → Prop} (h : Rep cz w F (.slc true e d es) [v] On) :
    ∃ (xs : List Value) (Os : Nat → Nat → Prop), w.ownsRow 0 e (cz e) v es.length xs ∧ (∀ k b, Os k b → On b ∧ v.ownBlock ≠ some b) ∧ (∀ j k b, j ≠ k → Os j b → ¬ Os k b) ∧ (∀ b, v.ownBlock = some b → On b) ∧
      ∀ (k : Nat) (x : V), es[k]? = some x → Rep cz w F x ((xs.drop (k * cz e)).take (cz e)) (Os k) := by
  cases h with
  | own0 => exact ⟨[], fun _ _ => False, World.ownsRow_nil w 0 e (cz e), fun _ _ h => h.elim, fun _ _ _ _ h => h.elim, fun b h => by simp [Value.ownBlock] at h, fun k x hx => by simp at hx⟩
  | own e d es b len cap cur cs Os O' hb hsz hl hcap hm hO hOs hdis hcs hr =>
    subst hl
    have hle : es.length * cz e ≤ cur.size := by rw [hsz]; exact Nat.mul_le_mul_right _ hcap
    refine ⟨cur.toList.take (es.length * cz e), Os, ⟨by simp only [List.length_take, Array.length_toList]; omega, .inr ⟨b, cap, cur, rfl, Nat.zero_le _, hb, hcap, hm, hsz, rfl⟩⟩, fun k x hx => ⟨(hOs k x hx).1, fun e => (hOs k x hx).2 (by simpa [Value.ownBlock] using e.symm)⟩, hdis, fun x hx => by simp [Value.ownBlock] at hx; subst hx; exact hO, fun k x hx => ?_⟩
    have hk : k < es.length := (List.getElem?_eq_some_iff.1 hx).1
    have hkk : (k + 1) * cz e ≤ es.length * cz e := Nat.mul_le_mul_right _ hk
    rw [Nat.add_mul] at hkk
    have : ((cur.toList.take (es.length * cz e)).drop (k * cz e)).take (cz e) = cs k := by
      apply List.ext_getElem?
      intro j
      obtain ⟨g1, g2⟩ := hcs k hk
      rw [List.getElem?_take]
      split
      · rename_i hj
        rw [List.getElem?_drop, List.getElem?_take, if_pos (by omega)]
        have hcj : (cs k)[j]? = some (cs k)[j] := List.getElem?_eq_getElem (by omega)
        have := g2 j _ hcj
        simp only [World.cell?, hb, Option.isSome_none, Bool.false_eq_true, if_false] at this
        rw [hcj, ← this]
        simp
      · rename_i hj
        rw [List.getElem?_eq_none (by omega)]
    rw [this]
    exact hr k x hx

theorem ofRow {e : TypeId} {d : V} {es : List V} {v : Value} {On : Nat → Prop} {xs : List Value} {Os : Nat → Nat → Prop} (h : w.ownsRow 0 e (cz e) v es.length xs) (hOs : ∀ k b, Os k b → On b ∧ v.ownBlock ≠ some b) (hdis : ∀ j k b, j ≠ k → Os j b → ¬ Os k b)
    (hO : ∀ b, v.ownBlock = some b → On b) (hr : ∀ (k : Nat) (x : V), es[k]? = some x → Rep cz w F x ((xs.drop (k * cz e)).take (cz e)) (Os k)) : Rep cz w F (.slc true e d es) [v] On := by
  obtain ⟨hl, hn | ⟨g, cap, cur, rfl, _, hg, hcap, hm, hsz, htk⟩⟩ := h
  · obtain ⟨rfl, hn⟩ := hn
    have : es = [] := List.eq_nil_of_length_eq_zero hn
    subst this
    exact .own0 ..
  · refine .own e d es g _ cap cur (fun k => (xs.drop (k * cz e)).take (cz e)) Os On hg hsz rfl hcap hm (hO g rfl) (fun k b hb => ⟨(hOs k b hb).1, fun e => (hOs k b hb).2 (by rw [e]; rfl)⟩) hdis (fun k hk => ⟨?_, ?_⟩) hr
    · have : (k + 1) * cz e ≤ es.length * cz e := Nat.mul_le_mul_right _ hk
      rw [Nat.add_mul] at this
      simp only [List.length_take, List.length_drop, hl]
      omega
    · intro j u hj
      rw [List.getElem?_take] at hj
      split at hj
      · rw [List.getElem?_drop, ← htk, List.getElem?_take] at hj
        split at hj
        · simp only [World.cell?, hg, Option.isSome_none, Bool.false_eq_true, if_false]
          simpa using hj
        · cases hj
      · cases hj

/-- the elements that are appended, as cells -/
structure Src (cz : TypeId → Nat) (w : World) (F : Nat → Prop) (e : TypeId) (es : List V) (v : Value) (news : List Value) (Os : Nat → Nat → Prop) : Prop where
  len : news.length = es.length * cz e
  lies : (∃ ad c, v = .slice (some ad) es.length c ∧ ∀ j u, news[j]? = some u → w.cell? (ad.add j) = some u) ∨ (∃ c, v = .slice none 0 c ∧ es = [])
  rep : ∀ (k : Nat) (x : V), es[k]? = some x → Rep cz w F x ((news.drop (k * cz e)).take (cz e)) (Os k)

theorem srcOf {o : Bool} {e : TypeId} {d : V} {es : List V} {v : Value} {On : Nat → Prop} (h : Rep cz w F (.slc o e d es) [v] On) : ∃ (news : List Value) (Os : Nat → Nat → Prop), Src cz w F e es v news Os ∧ (∀ k b, Os k b → On b) ∧ (∀ j k b, j ≠ k → Os j b → ¬ Os k b) := by
  cases o with
  | true =>
    obtain ⟨xs, Os, h1, h2, h3, h4, h5⟩ := rowOf h
    refine ⟨xs, Os, ⟨h1.1, ?_, h5⟩, fun k b hb => (h2 k b hb).1, h3⟩
    rcases h1.2 with ⟨rfl, hn⟩ | ⟨g, cap, cur, hv, _⟩
    · exact .inr ⟨0, rfl, List.eq_nil_of_length_eq_zero hn⟩
    · exact .inl ⟨⟨g, 0, none⟩, cap, hv, h1.cells (by rw [hv]; rfl)⟩
  | false =>
    cases h with
    | fz0 e d ad cap =>
      refine ⟨[], fun _ _ => False, ⟨by simp, ?_, fun k x hx => by simp at hx⟩, fun _ _ h => h.elim, fun _ _ _ _ h => h.elim⟩
      cases ad with
      | none => exact .inr ⟨cap, rfl, rfl⟩
      | some ad => exact .inl ⟨ad, cap, rfl, fun j u hj => by simp at hj⟩
    | fz e d es b off len cap cs O' hl hcap hm hF hcs hr =>
      subst hl
      obtain ⟨g1, g2⟩ := flat_seg (cz e) cs es.length (fun k hk => (hcs k hk).1)
      refine ⟨(List.range es.length).flatMap cs, fun _ _ => False, ⟨g1, .inl ⟨⟨b, off, none⟩, cap, rfl, fun j u hj => ?_⟩, fun k x hx => ?_⟩, fun _ _ h => h.elim, fun _ _ _ _ h => h.elim⟩
      · have hjl := (List.getElem?_eq_some_iff.1 hj).1
        rw [g1] at hjl
        have hpos : 0 < cz e := by
          rcases Nat.eq_zero_or_pos (cz e) with h0 | h0
          · rw [h0] at hjl; simp at hjl
          · exact h0
        have hk : j / cz e < es.length := (Nat.div_lt_iff_lt_mul hpos).2 hjl
        have hseg := g2 (j / cz e) hk
        have hjj : (cs (j / cz e))[j % cz e]? = some u := by
          rw [← hseg, List.getElem?_take, if_pos (Nat.mod_lt _ hpos), List.getElem?_drop]
          rw [show j / cz e * cz e + j % cz e = j from by rw [Nat.mul_comm]; exact Nat.div_add_mod j (cz e)]
          exact hj
        have := (hcs _ hk).2 _ _ hjj
        rw [Addr.add_lit]
        rw [show off + j / cz e * cz e + j % cz e = off + j from by rw [Nat.add_assoc, Nat.mul_comm (j / cz e)]; rw [Nat.div_add_mod]] at this
        exact this
      · rw [g2 k (List.getElem?_eq_some_iff.1 hx).1]
        exact hr k x hx

theorem Src.one {e : TypeId} {es : List V} {v : Value} {news : List Value} {Os : Nat → Nat → Prop} (h : Src cz w F e es v news Os) (hs : ∀ x ∈ es, x.solid = true) (hpos : 0 < cz e) : ∀ u ∈ news, u.oneCell' = true := by
  intro u hu
  obtain ⟨j, hj⟩ := List.mem_iff_getElem?.1 hu
  have hjl := (List.getElem?_eq_some_iff.1 hj).1
  rw [h.len] at hjl
  have hk : j / cz e < es.length := (Nat.div_lt_iff_lt_mul hpos).2 hjl
  have hx := List.getElem?_eq_getElem hk
  refine (h.rep _ _ hx).oneCell (hs _ (List.getElem_mem hk)) u ?_
  refine List.mem_iff_getElem?.2 ⟨j % cz e, ?_⟩
  rw [List.getElem?_take, if_pos (Nat.mod_lt _ hpos), List.getElem?_drop]
  rw [show j / cz e * cz e + j % cz e = j from by rw [Nat.mul_comm]; exact Nat.div_add_mod j (cz e)]
  exact hj

theorem run_append_none {P : Program} {t ty e : TypeId} {i : TypeInfo} (ht : P.underlying t = some (.slice e)) (hi : P.info? e = some i) {v : Value} {n base size : Nat} {xs : List Value} (hown : w.ownsRow base e size v n xs) (c : Nat) :
    (Builtin.append_ #[t, t] ty #[v, .slice none 0 c]).run P w = .ok v w := by
  rcases hown.2 with ⟨rfl, rfl⟩ | ⟨g, cap, cur, rfl, _, _, hnc, _⟩
  · simp [Builtin.append_, run_underlying ht, Go.sizeOf, typeInfo, hi, Builtin.lenOf, Builtin.firstCells]
  · simp [Builtin.append_, run_underlying ht, Go.sizeOf, typeInfo, hi, Builtin.lenOf, Builtin.firstCells, hnc, storeCells]

/-- APPEND: an own slice, and elements. -/
theorem append_core {P : Program} {t ty e : TypeId} {d : V} {es es2 : List V} {v v2 : Value} {On : Nat → Prop} {news : List Value} {Os2 : Nat → Nat → Prop} (ht : elemOf P t = some e) {z : V} (hz : zeroOf P e = some z) (hpos : 0 < P.cellsOf e) (hby : P.bytesOf e ≤ 65536)
    (h : Rep P.cellsOf w F (.slc true e d es) [v] On) (hs : Src P.cellsOf w F e es2 v2 news Os2) (hsol : ∀ x ∈ es2, x.solid = true) (hlen : es.length + es2.length ≤ 2147483647)
    (hd2 : ∀ j k b, j ≠ k → Os2 j b → ¬ Os2 k b) (hdis : ∀ k b, Os2 k b → ¬ On b) (hlt : ∀ b, (F b ∨ On b ∨ ∃ k, Os2 k b) → b < w.heap.size) (hFO : ∀ b, On b → ¬ F b) :
    ∃ v' w', (Builtin.append_ #[t, t] ty #[v, v2]).run P w = .ok v' w' ∧ Rep P.cellsOf w' F (.slc true e d (es ++ es2)) [v'] (fun b => On b ∨ (∃ k, Os2 k b) ∨ (w.heap.size ≤ b ∧ b < w'.heap.size)) ∧
      w.heap.size ≤ w'.heap.size ∧ (∀ k, k < w.heap.size → ¬ On k → w'.heap[k]? = w.heap[k]?) ∧ w'.os = w.os ∧ w'.tape = w.tape ∧ w'.output = w.output := by
  obtain ⟨xs, Os, r1, r2, r3, r4, r5⟩ := rowOf h
  obtain ⟨i, zv, hi, hzz, hzl, _⟩ := zeroOf_rep (cz := P.cellsOf) hz
  have hcz : P.cellsOf e = i.size := by simp [Program.cellsOf, hi]
  have hu := elemOf_und ht
  have elems : ∀ (w' : World) (v' : Value), (∀ k, k < w.heap.size → some k ≠ v.ownBlock → w'.heap[k]? = w.heap[k]?) → ∀ (k : Nat) (x : V), (es ++ es2)[k]? = some x →
      Rep P.cellsOf w' F x ((((xs ++ news).drop (k * P.cellsOf e)).take (P.cellsOf e))) (if k < es.length then Os k else Os2 (k - es.length)) := by
    intro w' v' hw k x hx
    have hxl : xs.length = es.length * P.cellsOf e := r1.1
    rw [List.getElem?_append] at hx
    split at hx
    · rename_i hk
      rw [if_pos hk]
      have : (k + 1) * P.cellsOf e ≤ es.length * P.cellsOf e := Nat.mul_le_mul_right _ hk
      rw [Nat.add_mul] at this
      rw [List.drop_append_of_le_length (by omega), List.take_append_of_le_length (by rw [List.length_drop]; omega)]
      refine (r5 k x hx).world (fun b hb => hw b ?_ ?_)
      · exact hlt b (hb.imp id (fun hb => .inl (r2 k b hb).1))
      · rcases hb with hb | hb
        · intro e; exact hFO b (r4 b e.symm) hb
        · exact fun e => (r2 k b hb).2 e.symm
    · rename_i hk
      rw [if_neg hk]
      have hkk : k * P.cellsOf e = es.length * P.cellsOf e + (k - es.length) * P.cellsOf e := by rw [← Nat.add_mul]; congr 1; omega
      rw [hkk, ← hxl, ← List.drop_drop, List.drop_left]
      refine (hs.rep (k - es.length) x hx).world (fun b hb => hw b ?_ ?_)
      · exact hlt b (hb.imp id (fun hb => .inr ⟨_, hb⟩))
      · rcases hb with hb | hb
        · intro e; exact hFO b (r4 b e.symm) hb
        · intro e; exact hdis _ b hb (r4 b e.symm)
  have disj : ∀ j k b, j ≠ k → (if j < es.length then Os j else Os2 (j - es.length)) b → ¬ (if k < es.length then Os k else Os2 (k - es.length)) b := by
    intro j k b hjk hb
    split at hb
    · split
      · exact r3 j k b hjk hb
      · exact fun hb' => hdis _ b hb' (r2 j b hb).1
    · split
      · exact fun hb' => hdis _ b hb (r2 k b hb').1
      · exact hd2 _ _ b (by omega) hb
  rcases hs.lies with ⟨ad, c, rfl, hcell⟩ | ⟨c, rfl, rfl⟩
  · have hby' : (es.length + es2.length) * i.bytes ≤ 140737488355328 := by
      have h1 : i.bytes ≤ 65536 := by simpa [Program.bytesOf, hi] using hby
      have : (es.length + es2.length) * i.bytes ≤ 2147483647 * 65536 := Nat.mul_le_mul hlen h1
      omega
    obtain ⟨v', w', e1, e2, e3, _⟩ := run_append_own (P := P) w 0 t ty e i zv i.size i.bytes hu hi hzz rfl rfl (by simpa using hzl) (by omega) v es.length xs (by rw [← hcz]; exact r1) ad es2.length c news (by rw [hs.len, hcz]) hcell
      (hs.one hsol hpos) (by simp [maxLen]; omega) hby' (Nat.zero_le _)
    rw [← hcz] at e2
    -- where the new block lies
    have hnb : ∀ b, v'.ownBlock = some b → (v.ownBlock = some b ∨ (w.heap.size ≤ b ∧ b < w'.heap.size)) := by
      intro b hb
      have hb2 := e2.lt b hb
      have hnl : news.length = es2.length * i.size := by rw [hs.len, hcz]
      rcases r1.2 with ⟨hvn, hn0⟩ | ⟨g, cap, cur, hvg, _, hg, hcap, hmx, hsz, htk⟩
      · have hx0 : xs = [] := List.eq_nil_of_length_eq_zero (by rw [r1.1, hn0]; simp)
        obtain ⟨v'', w'', f1, f2, _⟩ := run_append_own (P := P) w w.heap.size t ty e i zv i.size i.bytes hu hi hzz rfl rfl (by simpa using hzl) (by omega) v es.length xs (by rw [hvn, hn0, hx0]; exact World.ownsRow_nil w _ e i.size) ad es2.length c news hnl hcell
          (hs.one hsol hpos) (by simp [maxLen]; omega) hby' (Nat.le_refl _)
        rw [e1] at f1
        simp only [Result.ok.injEq] at f1
        obtain ⟨rfl, rfl⟩ := f1
        exact .inr ⟨(f2.lt b hb).1, hb2.2⟩
      · by_cases hroom : es.length + es2.length ≤ cap
        · left
          have hfit : es.length * i.size + news.length ≤ cur.size := by
            rw [hnl, hsz, ← Nat.add_mul, hcz]
            exact Nat.mul_le_mul_right _ hroom
          have hr := run_append_room (P := P) w t ty e i hu hi g es.length cap cur hg ad es2.length c news hnl hcell (hs.one hsol hpos) hroom hfit
          rw [← hvg, e1] at hr
          simp only [Result.ok.injEq] at hr
          rw [hr.1] at hb
          rw [hvg]
          exact hb
        · right
          have holds : ∀ j u, xs[j]? = some u → w.cell? ((⟨g, 0, none⟩ : Addr).add j) = some u := r1.cells (g := g) (by rw [hvg]; rfl)
          have hr := run_append_grow (P := P) w t ty e i zv hu hi hzz ⟨g, 0, none⟩ es.length cap xs (by rw [r1.1, hcz]) holds ad es2.length c news hnl hcell (by omega) (by omega) (growslice_fits (by omega) hby')
          rw [← hvg, e1] at hr
          simp only [Result.ok.injEq] at hr
          rw [hr.1] at hb
          simp only [Value.ownBlock, Option.some.injEq] at hb
          exact ⟨by omega, hb2.2⟩
    refine ⟨v', w', e1, ofRow (Os := fun k => if k < es.length then Os k else Os2 (k - es.length)) (by rw [List.length_append]; exact e2) (fun k b hb => ?_) disj (fun b hb => (hnb b hb).elim (fun h => .inl (r4 b h)) (fun h => .inr (.inr h))) (elems w' v' e3.block), e3.size, fun k hk hn => e3.block k hk (fun e => hn (r4 k e.symm)), e3.os, e3.tape, e3.output⟩
    have hbw : b < w.heap.size := by
      split at hb
      · exact hlt b (.inr (.inl (r2 k b hb).1))
      · exact hlt b (.inr (.inr ⟨_, hb⟩))
    refine ⟨?_, fun e => ?_⟩
    · split at hb
      · exact .inl (r2 k b hb).1
      · exact .inr (.inl ⟨_, hb⟩)
    rcases hnb b e with h' | ⟨h', _⟩
    · split at hb
      · exact (r2 k b hb).2 h'
      · exact hdis _ b hb (r4 b h')
    · omega
  · refine ⟨v, w, run_append_none hu hi r1 c, ?_, Nat.le_refl _, fun _ _ _ => rfl, rfl, rfl, rfl⟩
    rw [List.append_nil]
    exact h.mono (fun _ h => h) (fun _ h => .inl h)

theorem wstep_append (hI : Inv C F O (fun _ => False) σ a w) {o : Oper} {args : Array Operand} {ats : Array TypeId} {dd : Nat} {p : Prop} (hg : o.guard = none) (hop : o.op = .call ⟨.builtin .append, args, ats⟩) (hd : o.dst = some dd) (h : wstep C σ o = some (p, σ')) (hp : p)
    {Q : Exit → Act → World → Prop} : o.wp C.P a w (G C σ') Q := by
  simp only [wstep, hg, hop, hd] at h
  split at h
  · rename_i x y t t' hargs hats
    split at h
    · rename_i htt
      subst htt
      have hargs' : args = #[x, y] := by cases args; simp_all
      have hats' : ats = #[t, t] := by cases ats; simp_all
      subst hargs'; subst hats'
      split at h
      · rename_i e gx Ax he hAx
        split at h
        · rename_i q e' d es σ1 ht
          split at h
          · rename_i gy Ay hAy
            split at h
            · rename_i z oy ey d2 es2 hz hlk
              split at h
              · rename_i hc
                simp only [Bool.and_eq_true, beq_iff_eq, decide_eq_true_eq, Bool.not_eq_true'] at hc
                obtain ⟨⟨⟨⟨⟨hdn, rfl⟩, rfl⟩, hna⟩, hby⟩, hcz⟩ := hc
                have hdl : dd < a.tmps.size := by rw [hI.ts]; exact hdn.2
                -- what the first operand holds
                have first : gx = true → q → ∃ v1 On O1, a.eval x = v1 ∧ Rep C.cz w F (.slc true e d es) [v1] On ∧ Inv C F O1 (fun b => False ∨ On b) σ1 a w := by
                  intro hgx hq
                  obtain ⟨cs, On, e1, e2⟩ := takeA_sound hI (opd_sound hI hAx hgx).1 ht hq
                  obtain ⟨O1, hI1⟩ := e2.inv
                  have hl := e2.rep.length
                  match cs, hl with
                  | [u], _ => exact ⟨u, On, O1, e1, e2.rep, hI1⟩
                have fin : ∀ {es3 : List V} {σ2 : Env} {v1 v2 : Value} {On : Nat → Prop} {O2 : Nat → Nat → Prop} {U : Nat → Prop} {news : List Value} {Os2 : Nat → Nat → Prop}, a.eval x = v1 → a.eval y = v2 → Rep C.cz w F (.slc true e d es) [v1] On →
                    Inv C F O2 (fun b => On b ∨ U b) σ2 a w → Src C.cz w F e es3 v2 news Os2 → (∀ k b, Os2 k b → U b) → (∀ j k b, j ≠ k → Os2 j b → ¬ Os2 k b) → (∀ b, U b → ¬ On b) → (∀ x ∈ es3, x.solid = true) → es.length + es3.length ≤ 2147483647 → C.st = false →
                    o.wp C.P a w (G C (σ2.put dd true (.val (.slc true e d (es ++ es3))))) Q := by
                  intro es3 σ2 v1 v2 On O2 U news Os2 hv1 hv2 hrep hI2 hsrc hU hdj hUO hsol hlen hst
                  obtain ⟨v', w', r1, r2, r3, r4, r5, r6, r7⟩ := append_core (P := C.P) (t := t) (ty := o.type) he hz hcz hby hrep hsrc hsol hlen hdj (fun k b hb => hUO b (hU k b hb)) (fun b hb => by
                    rcases hb with hb | hb | ⟨k, hb⟩
                    · exact hI2.flt b hb
                    · exact hI2.zlt b (.inl hb)
                    · exact hI2.zlt b (.inr (hU k b hb))) (fun b hb => hI2.zf b (.inl hb))
                  have hexec : (execOp a.eval o).run C.P w = .ok (.value v') w' := by
                    simp only [execOp, hop, resolve, invoke, builtin, Sem.run_bind, Sem.run_pure, Result.andThen_ok]
                    have : (#[x, y].map a.eval) = #[v1, v2] := by simp [hv1, hv2]
                    rw [this, r1]
                    rfl
                  unfold Oper.wp
                  rw [hexec, Oper.upon_value, hd]
                  have hw := hI2.worldZ (Z' := fun b => (On b ∨ U b) ∨ (w.heap.size ≤ b ∧ b < w'.heap.size)) r3 (fun k hk hn => r4 k hk (fun h => hn (.inl h))) (fun b hb => hb) (fun hh => by rw [hst] at hh; cases hh) r5 r6 r7
                  exact ⟨F, _, (hw.putVal hdl (.inl hdn.1) (g := true) (x := .slc true e d (es ++ es3)) (v := v') (cs := [v']) (fun _ => ⟨rfl, r2⟩) (fun b hb => by
                    rcases hb with hb | ⟨k, hb⟩ | hb
                    · exact .inl (.inl hb)
                    · exact .inl (.inr (hU k b hb))
                    · exact .inr hb) (by simp)).lessZ (fun _ h => h.elim)⟩
                split at h
                · -- the elements are moved
                  split at h
                  · rename_i q2 e3 d3 es3 σ2 ht2
                    simp only [Option.some.injEq, Prod.mk.injEq] at h
                    obtain ⟨rfl, rfl⟩ := h
                    obtain ⟨p1, p2, p3, p4, p5, p6, pst⟩ := hp
                    obtain ⟨v1, On, O1, hv1, hrep, hI1⟩ := first p1 p2
                    obtain ⟨cs2, Om, f1, f2⟩ := takeA_sound hI1 (opd_sound hI1 hAy p3).1 ht2 p4
                    obtain ⟨O2, hI2⟩ := f2.inv
                    have he3 : e3 = e := by
                      cases Ay with
                      | val z' => simp only [A.look, Option.some.injEq] at hlk; subst hlk; simp only [takeA, Option.some.injEq, Prod.mk.injEq, V.slc.injEq] at ht2; exact ht2.2.1.2.1.symm
                      | rf s ver pp =>
                        simp only [A.look, Option.map_eq_some_iff] at hlk
                        obtain ⟨r, hr, hrat⟩ := hlk
                        simp only [takeA, hr] at ht2
                        cases pp with
                        | nil => simp only [Option.some.injEq, Prod.mk.injEq] at ht2; rw [V.at] at hrat; rw [hrat] at ht2; simp only [V.slc.injEq] at ht2; exact ht2.2.1.2.1.symm
                        | cons i pp =>
                          cases r with
                          | tup fs =>
                            cases pp with
                            | nil =>
                              simp only [Option.some.injEq, Prod.mk.injEq] at ht2
                              have : fs.getD i (.hole 0) = .slc oy e d2 es2 := hrat
                              rw [this] at ht2
                              simp only [V.slc.injEq] at ht2
                              exact ht2.2.1.2.1.symm
                            | cons j pp => simp at ht2
                          | _ => simp only [Option.some.injEq, Prod.mk.injEq] at ht2; rw [hrat] at ht2; simp only [V.slc.injEq] at ht2; exact ht2.2.1.2.1.symm
                      | ag => simp [A.isAg] at hna
                      | ad => simp [A.look] at hlk
                      | fz => simp [A.look] at hlk
                    subst he3
                    have hl := f2.rep.length
                    match cs2, hl with
                    | [u], _ =>
                      obtain ⟨news, Os2, s1, s2, s3⟩ := srcOf f2.rep
                      have hu : a.eval y = u := f1
                      exact fin hv1 hu hrep (hI2.lessZ (fun b hb => hb.elim (fun hb => .inl (.inr hb)) .inr)) s1 s2 s3 (fun b hb hb' => f2.new b hb (.inr hb')) p6 p5 pst
                  · cases h
                · -- the elements are copied
                  simp only [Option.some.injEq, Prod.mk.injEq] at h
                  obtain ⟨rfl, rfl⟩ := h
                  obtain ⟨p1, p2, p3, p4, p5, p6, hno, pst⟩ := hp
                  obtain ⟨v1, On, O1, hv1, hrep, hI1⟩ := first p1 p2
                  have hop2 := (opd_sound hI1 hAy p3).1
                  have src : ∃ u Oy, a.eval y = u ∧ Rep C.cz w F (.slc oy e d2 es2) [u] Oy := by
                    cases Ay with
                    | val z' =>
                      simp only [A.look, Option.some.injEq] at hlk
                      subst hlk
                      obtain ⟨cs, e1, e2⟩ := hop2
                      have hl := e2.length
                      match cs, hl with
                      | [u], _ => exact ⟨u, _, e1, e2⟩
                    | rf s ver pp =>
                      simp only [A.look, Option.map_eq_some_iff] at hlk
                      obtain ⟨r, hr, hrat⟩ := hlk
                      simp only [A.okA, hr] at p4
                      obtain ⟨cs, Oy, e1, e2, _⟩ := rf_sound hI1 hop2 hr p4
                      rw [hrat] at e1 e2
                      have hl := e2.length
                      match cs, hl with
                      | [u], _ => exact ⟨u, Oy, e1, e2⟩
                    | ag => simp [A.isAg] at hna
                    | ad => simp [A.look] at hlk
                    | fz => simp [A.look] at hlk
                  obtain ⟨u, Oy, hu, hrep2⟩ := src
                  obtain ⟨news, Os2, s1, s2, s3⟩ := srcOf hrep2
                  have hun : ∀ x ∈ es2, x.owned = false := by
                    simpa [V.owneds_eq] using hno
                  have s1' : Src C.cz w F e es2 u news (fun _ _ => False) := ⟨s1.len, s1.lies, fun k x hx => (s1.rep k x hx).unowned (hun x (List.mem_of_getElem? hx))⟩
                  exact fin hv1 hu hrep (U := fun _ => False) (hI1.lessZ (fun b hb => hb.elim .inr False.elim)) s1' (fun _ _ h => h) (fun _ _ _ _ h => h.elim) (fun _ h => h.elim) p6 p5 pst
              · cases h
            · cases h
          · cases h
        · cases h
      · cases h
    · cases h
  · cases h
end
end Go.Ax
