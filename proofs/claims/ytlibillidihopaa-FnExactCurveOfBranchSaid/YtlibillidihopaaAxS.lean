/-
  AX, part S: stores.
-/
import Derived.Test.YtlibillidihopaaAxR
namespace Go.Ax
open Go.RowKit

theorem V.setKid_self {x : V} {i : Nat} {y : V} (h : x.hasKid i) : (x.setKid i y).hasKid i ∧ (x.setKid i y).kid i = y := by
  cases x with
  | slc o e d es => exact ⟨⟨h.1, by simpa using h.2⟩, by simp [V.setKid, V.kid, h.2]⟩
  | agg fs => exact ⟨by simpa [V.setKid, V.hasKid] using h, by have h' : i < fs.length := h; simp [V.setKid, V.kid, h']⟩
  | box e c => exact ⟨trivial, rfl⟩
  | _ => exact h.elim

theorem V.upd_self : ∀ {p : List Nat} {x : V} {y : V}, x.okp p → (x.upd p y).okp p ∧ (x.upd p y).at p = y
  | [], _, _, _ => ⟨trivial, rfl⟩
  | i :: p, x, y, h => by
    obtain ⟨h1, h2⟩ := V.setKid_self (y := (x.kid i).upd p y) h.1
    obtain ⟨h3, h4⟩ := V.upd_self (y := y) h.2
    simp only [V.upd, V.okp, V.at]
    rw [h2]
    exact ⟨⟨h1, h3⟩, h4⟩

theorem V.setKid_setKid (x : V) (i : Nat) (y z : V) : (x.setKid i y).setKid i z = x.setKid i z := by
  cases x <;> simp [V.setKid]

theorem V.upd_upd : ∀ {p : List Nat} {x : V} {y z : V}, x.okp p → (x.upd p y).upd p z = x.upd p z
  | [], _, _, _, _ => rfl
  | i :: p, x, y, z, h => by
    obtain ⟨_, h2⟩ := V.setKid_self (y := (x.kid i).upd p y) h.1
    simp only [V.upd]
    rw [h2, V.upd_upd h.2, V.setKid_setKid]

theorem V.upd_not_agg {x y : V} {p : List Nat} (hp : p ≠ []) (h : ∀ fs, x ≠ .agg fs) : ∀ fs, x.upd p y ≠ .agg fs := by
  intro fs hh
  cases p with
  | nil => exact hp rfl
  | cons i p => cases x <;> simp [V.upd, V.setKid] at hh; exact h _ rfl

section
variable {C : Ctx} {F : Nat → Prop} {O : Nat → Nat → Prop} {Z : Nat → Prop} {σ σ' : Env} {a : Act} {w w' : World}

theorem scalar_cells {cz : TypeId → Nat} {x : V} {cs : List Value} {O' : Nat → Prop} (h : Rep cz w F x cs O') (hs : x.isScalar = true) : ∃ u, cs = [u] ∧ isHdr u = false := by
  cases h <;> simp_all [V.isScalar, isHdr]

theorem scalar_noKid {x : V} (hs : x.isScalar = true) : (∀ i, ¬ x.hasKid i) ∧ x.isH = false := by
  cases x <;> simp_all [V.isScalar, V.hasKid, V.isH]

theorem storeVar_run {P : Program} {t : TypeId} {y : V} {b o : Nat} {v : Value} {cs : List Value} {cur : Array Value} {e : TypeId} {O' : Nat → Prop} (hf : fits P t y = true) (hr : Rep P.cellsOf w F y cs O') (hreg : y.reg cs v) (hs : y.solid = true)
    (hb : w.heap[b]? = some (.cells cur e (0, 0))) (hfit : o + cs.length ≤ cur.size) (hne : cs ≠ []) :
    (storeVar t ⟨b, o, none⟩ v).run P w = .ok () (w.setRow b (cur.toList.take o ++ cs ++ cur.toList.drop (o + cs.length)).toArray) := by
  have hcl := reg_cells hr hreg hs
  have hsz : P.cellsOf t = cs.length := by
    unfold fits at hf
    rw [Bool.and_eq_true] at hf
    rw [hr.length]; simpa using hf.2
  have hpos : 0 < cs.length := by cases cs <;> simp_all
  obtain ⟨i, hi, hi2⟩ := cellsOf_info hsz (by omega)
  have hvs : v.cells.size = cs.length := by rw [← hcl]; simp
  have hst := run_storeCells_at P b o e cs 0 cur w hb (by simpa using hfit) (hr.oneCell hs)
  simp only [Nat.add_zero] at hst
  unfold storeVar
  simp only [Sem.run_bind, Go.sizeOf, typeInfo, run_program, Result.andThen_ok, hi, Sem.run_pure]
  rw [if_neg (by rw [hvs, hi2]; simp), hcl]
  exact hst

theorem setRow_Upd {b o n : Nat} {cur : Array Value} {e : TypeId} {cs : List Value} (hb : w.heap[b]? = some (.cells cur e (0, 0))) (hn : cs.length = n) (hfit : o + n ≤ cur.size) :
    Upd w (w.setRow b (cur.toList.take o ++ cs ++ cur.toList.drop (o + cs.length)).toArray) b o n ∧ Cells (w.setRow b (cur.toList.take o ++ cs ++ cur.toList.drop (o + cs.length)).toArray) b o cs := by
  have htl : (cur.toList.take o).length = o := by simp; omega
  have hcell : ∀ j, (w.setRow b (cur.toList.take o ++ cs ++ cur.toList.drop (o + cs.length)).toArray).cell? ⟨b, j, none⟩ = (cur.toList.take o ++ cs ++ cur.toList.drop (o + cs.length))[j]? := by
    intro j
    rw [cell_setRow_same w b j cur _ e (0, 0) hb]
    simp
  refine ⟨⟨fun k hk => setRow_other w b k _ hk, fun cur' e' fr hc => ?_, fun j hj => ?_⟩, fun j v hj => ?_⟩
  · rw [hb] at hc
    simp only [Option.some.injEq, Obj.cells.injEq] at hc
    obtain ⟨rfl, rfl, rfl⟩ := hc
    refine ⟨_, setRow_heap w b cur _ e _ hb, ?_⟩
    simp only [List.size_toArray, List.length_append, List.length_take, List.length_drop, Array.length_toList]
    omega
  · rw [hcell, getElem?_mid, htl]
    have : w.cell? ⟨b, j, none⟩ = cur[j]? := by simp [World.cell?, hb]
    rw [this]
    split
    · rename_i h; rw [List.getElem?_take, if_pos h]; simp
    · rw [if_neg (by omega), List.getElem?_drop]
      simp only [Array.getElem?_toList]
      congr 1
      omega
  · rw [hcell, getElem?_mid, htl]
    have hjl := (List.getElem?_eq_some_iff.1 hj).1
    rw [if_neg (by omega), if_pos (by omega)]
    rw [show o + j - o = j from by omega]
    exact hj

/-- a piece is stored at a part of a slot -/
theorem store_core {σ1 : Env} {On : Nat → Prop} (hI : Inv C F O Z σ1 a w) {o' : Oper} {t : TypeId} {x v : Operand} (hop : o'.op = .store t x v) (hdst : o'.dst = none) {s ver : Nat} {p : List Nat} {r y : V} {b o : Nat} {cs : List Value}
    (hy : Rep C.cz w F y cs On) (hreg : y.reg cs (a.eval v)) (hOn : ∀ z, On z → Z z) (hr : σ1.own s ver = some r) (hm : r.okm p) (hx : a.eval x = .pointer (some ⟨b, o, none⟩)) (hloc : locV C.cz w p r (a.tmps.getD s undef) = some (b, o))
    (hf : fits C.P t y = true) (hsz : (r.at p).size = y.size) (hs : y.solid = true) (hpos : y.size ≠ 0) (hst : C.st = true → ((r.at p).isScalar && y.isScalar) = true) {Q : Exit → Act → World → Prop} :
    o'.wp C.P a w (G C (if (r.at p).isScalar && y.isScalar then σ1.mod s (r.upd p y) else σ1.bmp s (r.upd p y))) Q := by
  obtain ⟨hp, hna, hok⟩ := V.okm_okp hm
  obtain ⟨hg, hver, ha⟩ := Env.own_elim hr
  obtain ⟨b', o1, cy, Oy, g1, g2, g3, g4, g5, g6, g7⟩ := hI.take hg ha hok hp hna
  rw [hloc] at g1
  simp only [Option.some.injEq, Prod.mk.injEq] at g1
  obtain ⟨rfl, rfl⟩ := g1
  obtain ⟨_, h2, _⟩ := hI.slot s hg
  obtain ⟨cs0, h3, h4⟩ := h2 r ha
  obtain ⟨cur, e, hb⟩ := locV_block h4 h3 hok hloc
  have hcyl : cy.length = y.size := by rw [g3.length, hsz]
  have hcsl : cs.length = y.size := hy.length
  have hfit : o + y.size ≤ cur.size := by
    have h0 : 0 < cy.length := by omega
    have := g2 (cy.length - 1) cy[cy.length - 1] (List.getElem?_eq_getElem (by omega))
    simp only [World.cell?, hb, Option.isSome_none, Bool.false_eq_true, if_false] at this
    have := (Array.getElem?_eq_some_iff.1 this).1
    omega
  have hne : cs ≠ [] := by rintro rfl; simp at hcsl; omega
  have hrun := storeVar_run (P := C.P) (o := o) hf hy hreg hs hb (by omega) hne
  obtain ⟨hU, hcells⟩ := setRow_Upd (w := w) (o := o) hb hcsl hfit
  generalize hw' : w.setRow b (cur.toList.take o ++ cs ++ cur.toList.drop (o + cs.length)).toArray = w' at hrun hU hcells
  have hwsz : w'.heap.size = w.heap.size := by rw [← hw']; simp
  have hos : w'.os = w.os ∧ w'.tape = w.tape ∧ w'.output = w.output := by rw [← hw']; exact ⟨rfl, rfl, rfl⟩
  have hr0 : r.okp p := hok
  obtain ⟨k1, k2⟩ := V.upd_self (y := .hole (r.at p).size) hok
  have hmodx : ((σ1.mod s (r.upd p (.hole (r.at p).size))) s).a = .val (r.upd p (.hole (r.at p).size)) := by simp [Env.mod]
  have hmodg : ((σ1.mod s (r.upd p (.hole (r.at p).size))) s).g = true := by simp [Env.mod, hg]
  have hloc' : locV C.cz w p (r.upd p (.hole (r.at p).size)) (a.tmps.getD s undef) = some (b, o) := by
    rw [locV_upd C.cz w (y := .hole (r.at p).size) (fun _ h => h) rfl rfl hok hp k1]; exact hloc
  have hyw' : Rep C.cz w' F y cs On := hy.world (fun k hk => hU.other k (fun e => by
    subst e
    rcases hk with hk | hk
    · exact hI.of s _ g4 hk
    · exact hI.oz s _ g4 (hOn _ hk)))
  have hupd : (r.upd p (.hole (r.at p).size)).upd p y = r.upd p y := V.upd_upd hok
  have hHs : C.st = true → ∀ off u, isHdr u = true → w.cell? ⟨b, off, none⟩ = some u → w'.cell? ⟨b, off, none⟩ = some u := by
    intro hh off u hu hc
    have hsc := hst hh
    simp only [Bool.and_eq_true] at hsc
    by_cases hoff : off = o
    · subst hoff
      obtain ⟨u', rfl, hu'⟩ := scalar_cells g3 hsc.1
      have := g2 0 u' rfl
      simp only [Nat.add_zero] at this
      rw [this] at hc
      simp only [Option.some.injEq] at hc
      subst hc
      rw [hu'] at hu; cases hu
    · obtain ⟨u', hu', _⟩ := scalar_cells hy hsc.2
      rw [hu'] at hcsl
      simp at hcsl
      rw [hU.cell off (by omega)]; exact hc
  have fin : ∀ σ'', (σ'' = (σ1.mod s (r.upd p (.hole (r.at p).size))).bmp s ((r.upd p (.hole (r.at p).size)).upd p y) ∨ (σ'' = (σ1.mod s (r.upd p (.hole (r.at p).size))).mod s ((r.upd p (.hole (r.at p).size)).upd p y) ∧
      ∀ ver, Pres C.cz w w' (σ1.mod s (r.upd p (.hole (r.at p).size))) ((σ1.mod s (r.upd p (.hole (r.at p).size))).mod s ((r.upd p (.hole (r.at p).size)).upd p y)) a.tmps a.tmps s ver)) → G C σ'' a w' := by
    intro σ'' hσ
    exact ⟨F, _, (g7.putAt hmodg hmodx k1 hp (V.upd_not_agg hp hna) (by rw [k2, hsz]) hloc' hU hwsz hyw' hcells (fun z hz => .inl (hOn z hz)) hHs hos.1 hos.2.1 hos.2.2 hσ).lessZ (fun _ h => h.elim)⟩
  unfold Oper.wp
  have hexec : (execOp a.eval o').run C.P w = .ok .skip w' := by
    simp only [execOp, hop, Sem.run_bind, hx, Instr.storeAt, Instr.sureAddr, Sem.run_pure, Result.andThen_ok, hrun]
  rw [hexec, Oper.upon_skip, hdst]
  show G C _ a w'
  split
  · rename_i hsc
    simp only [Bool.and_eq_true] at hsc
    have he : σ1.mod s (r.upd p y) = (σ1.mod s (r.upd p (.hole (r.at p).size))).mod s ((r.upd p (.hole (r.at p).size)).upd p y) := by
      rw [hupd]; funext t'; simp only [Env.mod]; split <;> simp_all
    rw [he]
    refine fin _ (.inr ⟨rfl, fun ver' x' hx' => ?_⟩)
    rw [Env.own_mod_eq] at hx'
    split at hx'
    · rename_i hv
      split at hx'
      case isFalse => cases hx'
      simp only [Option.some.injEq] at hx'
      subst hx'
      obtain ⟨nk1, nk2⟩ := scalar_noKid hsc.2
      have hxo : (r.upd p (.hole (r.at p).size)).owned = true := by
        cases p with
        | nil => exact absurd rfl hp
        | cons i p => cases r <;> first | rfl | exact hok.1.elim | exact hok.1.1 | exact absurd rfl (hna _)
      have hsz2 : y.size = ((r.upd p (.hole (r.at p).size)).at p).size := by rw [k2]; exact hsz.symm
      obtain ⟨csx, hregx, hrepx⟩ := (g7.slot s hmodg).2.1 _ hmodx
      have hH : ∀ k off u, ((fun t => if t = s then fun z => O s z ∧ ¬ Oy z else O t) s) k → isHdr u = true → w.cell? ⟨k, off, none⟩ = some u → w'.cell? ⟨k, off, none⟩ = some u := by
        intro k off u _ hu hc
        by_cases hkb : k = b
        · subst hkb
          by_cases hoff : off = o
          · subst hoff
            obtain ⟨u', rfl, hu'⟩ := scalar_cells g3 hsc.1
            have := g2 0 u' rfl
            simp only [Nat.add_zero] at this
            rw [this] at hc
            simp only [Option.some.injEq] at hc
            subst hc
            rw [hu'] at hu; cases hu
          · obtain ⟨u', hu', _⟩ := scalar_cells hy hsc.2
            rw [hu'] at hcsl
            simp at hcsl
            rw [hU.cell off (by omega)]; exact hc
        · rw [World.cell?_of_block (a := ⟨k, off, none⟩) (hU.other k hkb)]; exact hc
      refine ⟨r.upd p (.hole (r.at p).size), Env.own_iff'.2 ⟨hmodg, hv.2, hmodx, hxo⟩, fun q u hq hu => ?_, fun q r' hq hr' => ?_⟩
      · obtain ⟨e1, e2⟩ := hdrV_upd C.cz w' nk1 nk2 hsz2 k1 hp hq hu
        exact ⟨e1, hdrV_mem hrepx hregx e1 hH e2⟩
      · rw [locV_upd C.cz w' nk1 nk2 hsz2 k1 hp hq] at hr'
        have e1 := okp_upd nk1 nk2 hsz2 k1 hq
        exact ⟨e1, by rw [locV_mem hrepx hregx e1 hH] at hr'; exact hr'⟩
    · cases hx'
  · have he : σ1.bmp s (r.upd p y) = (σ1.mod s (r.upd p (.hole (r.at p).size))).bmp s ((r.upd p (.hole (r.at p).size)).upd p y) := by
      rw [hupd]; funext t'; simp only [Env.mod, Env.bmp]; split <;> simp_all
    rw [he]
    exact fin _ (.inl rfl)

theorem wstep_store (hI : Inv C F O (fun _ => False) σ a w) {o : Oper} {t : TypeId} {x v : Operand} {p : Prop} (hg : o.guard = none) (hop : o.op = .store t x v) (hd : o.dst = none) (h : wstep C σ o = some (p, σ')) (hp : p) {Q : Exit → Act → World → Prop} :
    o.wp C.P a w (G C σ') Q := by
  simp only [wstep, hg, hop, hd] at h
  split at h
  · rename_i gv Av hAv
    split at h
    · rename_i q y σ1 ht
      split at h
      · rename_i gx s ver pth hx
        split at h
        · rename_i r hr
          split at h
          · rename_i hc
            simp only [Bool.and_eq_true, beq_iff_eq] at hc
            simp only [Option.some.injEq, Prod.mk.injEq] at h
            obtain ⟨rfl, rfl⟩ := h
            obtain ⟨p1, p2, p3, p4, pst⟩ := hp
            obtain ⟨cs, On, e1, e2⟩ := takeA_sound hI (opd_sound hI hAv p1).1 ht p2
            obtain ⟨O1, hI1⟩ := e2.inv
            obtain ⟨b, o', cy, Oy, g1, g2, g3, g4, g5, g6⟩ := ad_sound hI1 (opd_sound hI1 hx p3).1 hr p4
            exact store_core hI1 hop hd e2.rep e1 (fun z hz => .inr hz) hr p4 g2 g1 hc.1.1.1 hc.1.1.2 hc.1.2 (by have := hc.2; simp at this; omega) pst
          · cases h
        · cases h
      · rename_i gx s ver pth hx
        split at h
        · rename_i r hr
          split at h
          · rename_i e c hat
            split at h
            · rename_i hc
              simp only [Bool.and_eq_true, beq_iff_eq] at hc
              simp only [Option.some.injEq, Prod.mk.injEq] at h
              obtain ⟨rfl, rfl⟩ := h
              obtain ⟨p1, p2, p3, p4, p5, pst⟩ := hp
              obtain ⟨cs, On, e1, e2⟩ := takeA_sound hI (opd_sound hI hAv p1).1 ht p2
              obtain ⟨O1, hI1⟩ := e2.inv
              obtain ⟨b, cc, Oc, g1, g2, g3, g4⟩ := box_sound hI1 (opd_sound hI1 hx p3).1 hr p4 hat
              have hac : r.at (pth ++ [0]) = c := by rw [V.at_append, hat]; rfl
              have := store_core (Q := Q) hI1 hop hd e2.rep e1 (fun z hz => .inr hz) hr p5 g1 (g4 (not_tup_of_okp (V.okm_okp p5).2.2 (by simp))) hc.1.1.1 (by rw [hac]; exact hc.1.1.2) hc.1.2 (by have := hc.2; simp at this; omega) (by rw [hac]; exact pst)
              rw [hac] at this
              exact this
            · cases h
          · cases h
        · cases h
      · cases h
    · cases h
  · cases h
end
end Go.Ax
