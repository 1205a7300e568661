/-
  AX, part TE: a struct with own parts moves from a register into a new box; the register keeps a copy of it.
-/
import Derived.Test.YtlibillidihopaaAxTD
namespace Go.Ax
open Go.RowKit

def bstep (C : Ctx) (σ : Env) (o : Oper) : Option (Prop × Env) :=
  match o.guard, o.op, o.dst with
  | none, .box t x, some d => match opd C.P σ t x with
    | some (gx, .rf s ver []) => match σ.own s ver with
      | some (.agg fs) => if C.dst d ∧ s ≠ d ∧ agOk fs fs = true then
          some (gx = true, ((σ.drp s).put d true (.val (.box t (.agg fs)))).put s true (.ag d (((σ.drp s) d).ver + 1) [0] fs)) else none
      | _ => none
    | _ => none
  | _, _, _ => none

section
variable {C : Ctx} {F : Nat → Prop} {O : Nat → Nat → Prop} {Z : Nat → Prop} {σ σ' σ1 : Env} {a : Act} {w w' : World}

theorem bstep_sound (hI : Inv C F O (fun _ => False) σ a w) {o : Oper} {p : Prop} (h : bstep C σ o = some (p, σ')) (hp : p) {Q : Exit → Act → World → Prop} : o.guard = none ∧ o.wp C.P a w (G C σ') Q := by
  unfold bstep at h
  split at h
  · rename_i t x d hg hop hd
    refine ⟨hg, ?_⟩
    split at h
    · rename_i gx s ver hA
      split at h
      · rename_i fs hr
        split at h
        · rename_i hc
          obtain ⟨hdd, hsd, hok⟩ := hc
          simp only [Option.some.injEq, Prod.mk.injEq] at h
          obtain ⟨rfl, rfl⟩ := h
          obtain ⟨hgs, _, ha⟩ := Env.own_elim hr
          have hv : a.eval x = a.tmps.getD s undef := (opd_sound hI hA hp).1 _ _ hr trivial rfl
          obtain ⟨cs, e1, e2, e3, e4⟩ := hI.takeAll hgs ha
          have hvc : a.tmps.getD s undef = .agg cs.toArray := e1
          have hlt : ∀ b, O s b → b < w.heap.size := hI.olt s
          have hrun : (execOp a.eval o).run C.P w = .ok (.value (.pointer (some ⟨w.heap.size, 0, none⟩))) (w.alloc (.cells cs.toArray t)) := by
            simp [execOp, hop, Instr.box, newVar, newRow, hv, hvc, Value.cells]
          have hrep1 : Rep C.cz (w.alloc (.cells cs.toArray t)) F (.agg fs) cs (O s) := e2.alloc hI.flt hlt _
          have hbox : Rep C.cz (w.alloc (.cells cs.toArray t)) F (.box t (.agg fs)) [.pointer (some ⟨w.heap.size, 0, none⟩)] (fun b => O s b ∨ b = w.heap.size) :=
            .box t (.agg fs) w.heap.size cs.toArray cs (O s) _ (Deep.blk_alloc_new w _) (by simp) (.inr rfl) (fun z hz => ⟨.inl hz, by have := hlt z hz; omega⟩) hrep1
          have h1 : Inv C F (fun t => if t = s then fun _ => False else O t) (fun b => O s b ∨ b = w.heap.size) (σ.drp s) a (w.alloc (.cells cs.toArray t)) :=
            e4.worldZ (by simp) (fun k hk _ => Deep.blk_alloc_lt w _ k hk) (fun b hb => hb.elim (fun hb => .inl (.inr hb)) (fun hb => .inr (by subst hb; simp)))
              (fun _ b off u _ hz hu h0 => by
                have hb : b < w.heap.size := hz.elim False.elim (hlt b)
                rw [World.cell?_of_block (a := ⟨b, off, none⟩) (Deep.blk_alloc_lt w _ b hb)]
                exact h0) rfl rfl rfl
          have hdl : d < a.tmps.size := by rw [hI.ts]; exact hdd.2
          have h2 := (h1.putVal hdl (.inl hdd.1) (g := true) (x := .box t (.agg fs)) (v := .pointer (some ⟨w.heap.size, 0, none⟩)) (cs := [.pointer (some ⟨w.heap.size, 0, none⟩)]) (On := fun b => O s b ∨ b = w.heap.size) (fun _ => ⟨rfl, hbox⟩) (fun b hb => hb) (by simp)).lessZ (Z' := fun _ => False) (fun _ h => h.elim)
          obtain ⟨l1, l2⟩ := agOk_len hok
          have hcells : Cells (w.alloc (.cells cs.toArray t)) w.heap.size 0 cs := by
            intro j v hj
            simp only [World.cell?, Deep.blk_alloc_new, Option.isSome_none, Bool.false_eq_true, if_false, Nat.zero_add]
            simpa using hj
          have hput := h2.putRef (d := s) (g := true) (x := .ag d (((σ.drp s) d).ver + 1) [0] fs) (v := a.tmps.getD s undef) (by simpa [Act.put] using e3) (.inr (by simp only [Act.put]; rw [getD_set_ne' hsd])) (by simp) (fun _ => by
            refine ⟨cs, hvc, ?_⟩
            cases e2 with
            | agg _ _ Os _ hn hOs hdis hrr =>
              refine .agg fs [0] cs hn (fun i f hf => ?_)
              have hrf := hrr i f hf
              rcases (l2 i f f hf hf).2 with ⟨ho, hH, _⟩ | ⟨ho, hlf, _⟩
              · obtain ⟨u, hu, _⟩ := isHdr_of_isH hrf hH
                rw [hu]
                refine .hd f _ u hH (fun r h' hr' hokv hh => ?_)
                have hro : r = .box t (.agg fs) := by
                  have := (Env.own_elim hr').2.2
                  simpa [Env.put] using this.symm
                subst hro
                have hil := (List.getElem?_eq_some_iff.1 hf).1
                have hfs : f.size = 1 := by rw [← hrf.length, hu]; rfl
                have hou : cs[V.offs fs i]? = some u := by
                  have : ((cs.drop (V.offs fs i)).take f.size)[0]? = some u := by rw [hu]; rfl
                  rw [List.getElem?_take, hfs] at this
                  simpa using this
                have hcell := hcells _ u hou
                have hreg : (a.put (some d) (.pointer (some ⟨w.heap.size, 0, none⟩))).tmps.getD d undef = .pointer (some ⟨w.heap.size, 0, none⟩) := by
                  simp only [Act.put]; rw [getD_set_eq' hdl]
                rw [hreg] at hh
                have hati : (V.box t (.agg fs)).at ([0] ++ [i]) = f := by simp only [List.cons_append, List.nil_append, V.at, V.kid]; exact getD_of_some hf
                rw [hdrV_okm (by exact ⟨trivial, hil, trivial⟩), hati, if_pos hH] at hh
                simp only [List.cons_append, List.nil_append, locV, locM, Nat.zero_add, Option.bind_some] at hh
                rw [Nat.zero_add] at hcell
                rw [hcell] at hh
                simp only [Option.some.injEq] at hh
                exact hh.symm
              · exact .val f _ _ ho ((hrf.unowned ho).alloc hI.flt (fun _ h => h.elim) _) hrf.length) (by simp) (fun s' ver' hr' => by
            simp only [A.refs, Option.some.injEq, Prod.mk.injEq] at hr'
            obtain ⟨rfl, rfl⟩ := hr'
            simp [Env.put])
          rw [put_same (by simp only [Act.put]; rw [getD_set_ne' hsd]) (by simpa [Act.put] using e3)] at hput
          unfold Oper.wp
          rw [hrun, Oper.upon_value, hd]
          exact ⟨F, _, hput⟩
        · cases h
      · cases h
    · cases h
  · cases h
end
end Go.Ax
