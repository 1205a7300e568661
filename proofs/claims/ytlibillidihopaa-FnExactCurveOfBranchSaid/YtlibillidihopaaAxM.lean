/-
  AX, part M: a step sees its operands alone; steps that are apart commute; regions that draw their order.
-/
import Derived.Test.YtlibillidihopaaAxL
import Derived.Orders
namespace Go.Ax

section
variable {C : Ctx} {σ σ' : Env}

/-- σ' owns all that σ owns -/
def Le (σ σ' : Env) : Prop := ∀ s ver x, σ.own s ver = some x → σ'.own s ver = some x

/-- σ' owns all that σ owns, of what these operands refer to -/
def LeR (P : Program) (σ σ' : Env) (l : List Operand) : Prop := ∀ ty x g A s ver y, x ∈ l → opd P σ ty x = some (g, A) → A.refs = some (s, ver) → σ.own s ver = some y → σ'.own s ver = some y

theorem look_mono {A : A} {x : V} (h : ∀ s ver y, A.refs = some (s, ver) → σ.own s ver = some y → σ'.own s ver = some y) (hl : A.look σ = some x) : A.look σ' = some x ∧ A.okA σ = A.okA σ' := by
  cases A with
  | val z => exact ⟨hl, rfl⟩
  | rf s ver p =>
    simp only [A.look, Option.map_eq_some_iff] at hl
    obtain ⟨r, hr, rfl⟩ := hl
    have := h s ver r rfl hr
    simp only [A.look, A.okA, hr, this, Option.map_some, and_self]
  | ag s ver p fs =>
    simp only [A.look, Option.map_eq_some_iff] at hl
    obtain ⟨r, hr, rfl⟩ := hl
    have := h s ver r rfl hr
    simp only [A.look, A.okA, hr, this, Option.map_some, and_self]
  | ad => simp [A.look] at hl
  | fz => simp [A.look] at hl

theorem looks_mono {g : Bool} : ∀ {ops : List Operand} {tys : List TypeId} {r : Prop × List V × Bool}, LeR C.P σ σ' ops → (∀ ty x, x ∈ ops → opd C.P σ ty x = opd C.P σ' ty x) → looks C.P σ g ops tys = some r → looks C.P σ' g ops tys = some r
  | [], _, _, _, _, hl => hl
  | o :: ops, tys, r, h, ho, hl => by
    simp only [looks] at hl ⊢
    rw [← ho _ o (by simp)]
    split at hl
    · rename_i gx A p vs br h1 h2
      rw [h1, looks_mono (fun ty x g A s ver y hx => h ty x g A s ver y (List.mem_cons_of_mem _ hx)) (fun ty x hx => ho ty x (List.mem_cons_of_mem _ hx)) h2]
      dsimp only
      split at hl
      · rename_i v hv
        obtain ⟨e1, e2⟩ := look_mono (fun s ver y hr => h _ o _ _ s ver y (by simp) h1 hr) hv
        rw [e1, ← e2]
        exact hl
      · cases hl
    · cases hl

theorem vals_same {P : Program} {g : Bool} {ty : Nat → TypeId} : ∀ {ps : List (Nat × Operand)}, (∀ t (y : Nat × Operand), y ∈ ps → opd P σ t y.2 = opd P σ' t y.2) → vals P σ g ty ps = vals P σ' g ty ps
  | [], _ => rfl
  | (i, x) :: ps, h => by
    simp only [vals]
    rw [h _ (i, x) (by simp), vals_same (fun t y hy => h t y (List.mem_cons_of_mem _ hy))]

theorem intOpd_same {P : Program} {g : Bool} {x : Operand} (h : ∀ t, opd P σ t x = opd P σ' t x) : intOpd P σ g x = intOpd P σ' g x := by
  unfold intOpd; rw [h]

theorem boundOf_same {P : Program} {g : Bool} {d : Int} {x : Option Operand} (h : ∀ t y, x = some y → opd P σ t y = opd P σ' t y) : boundOf P σ g d x = boundOf P σ' g d x := by
  cases x with
  | none => rfl
  | some y => exact intOpd_same (fun t => h t y rfl)

theorem lop_mono {g : Bool} {o : Oper} {r : Prop × A} (h : LeR C.P σ σ' o.op.operands.toList) (ho : ∀ ty x, x ∈ o.op.operands → opd C.P σ ty x = opd C.P σ' ty x) (hl : lop C σ g o = some r) : lop C σ' g o = some r := by
  cases hop : o.op with
  | move x =>
    rw [hop] at ho h
    simp only [lop, hop] at hl ⊢
    rw [← ho _ x (by simp [Op.operands])]; exact hl
  | assign x =>
    rw [hop] at ho h
    simp only [lop, hop] at hl ⊢
    rw [← ho _ x (by simp [Op.operands])]
    split at hl
    · exact hl
    · rename_i gx s ver i p h1
      split at hl
      · cases hl
      · rename_i x' hx' hr
        rw [h _ x _ _ s ver _ (by simp [Op.operands]) h1 rfl hr]
        split
        · rename_i heq; simp only [Option.some.injEq] at heq; exact absurd heq (by simpa using hx' _)
        · exact hl
        · rename_i heq; cases heq
      · cases hl
    · cases hl
  | pick c x y =>
    rw [hop] at ho h
    simp only [lop, hop] at hl ⊢
    rw [← ho _ c (by simp [Op.operands])]
    split at hl
    · rename_i gc b h1
      rw [← ho _ (if b then x else y) (by cases b <;> simp [Op.operands])]
      exact hl
    · cases hl
  | alloc t => simp only [lop, hop] at hl ⊢; exact hl
  | box t x =>
    rw [hop] at ho h
    simp only [lop, hop] at hl ⊢
    rw [← ho _ x (by simp [Op.operands])]; exact hl
  | build t ps =>
    rw [hop] at ho h
    simp only [lop, hop] at hl ⊢
    rw [← vals_same (fun t y hy => ho t y.2 (by simp [Op.operands]; exact ⟨y.1, by simpa using hy⟩))]; exact hl
  | buildSlice t n ps =>
    rw [hop] at ho h
    simp only [lop, hop] at hl ⊢
    simp only [← vals_same (P := C.P) (σ := σ) (σ' := σ') (g := g) (ps := ps.toList) (fun t y hy => ho t y.2 (by simp [Op.operands]; exact ⟨y.1, by simpa using hy⟩))]; exact hl
  | load t x =>
    rw [hop] at ho h
    simp only [lop, hop] at hl ⊢
    rw [← ho _ x (by simp [Op.operands])]
    split at hl
    · exact hl
    · rename_i gx s ver p h1
      split at hl
      · rename_i r' hr; rw [h _ x _ _ s ver _ (by simp [Op.operands]) h1 rfl hr]; exact hl
      · cases hl
    · rename_i gx s ver p h1
      split at hl
      · rename_i r' hr; rw [h _ x _ _ s ver _ (by simp [Op.operands]) h1 rfl hr]; exact hl
      · cases hl
    · cases hl
  | binOp op xt x y yt =>
    rw [hop] at ho h
    simp only [lop, hop] at hl ⊢
    rw [← ho _ x (by simp [Op.operands]), ← ho _ y (by simp [Op.operands])]; exact hl
  | unOp op t x =>
    rw [hop] at ho h
    simp only [lop, hop] at hl ⊢
    rw [← ho _ x (by simp [Op.operands])]; exact hl
  | convert s t x =>
    rw [hop] at ho h
    simp only [lop, hop] at hl ⊢
    rw [← ho _ x (by simp [Op.operands])]; exact hl
  | makeFunc fn fi ca =>
    rw [hop] at ho h
    cases fn with
    | func f =>
      simp only [lop, hop] at hl ⊢
      rw [← vals_same (fun t y hy => ho t y.2 (by simp only [List.mem_map] at hy; obtain ⟨z, hz, rfl⟩ := hy; simp [Op.operands]; right; simpa using hz))]; exact hl
    | _ => simp [lop, hop] at hl
  | makeSlice t l c =>
    rw [hop] at ho h
    simp only [lop, hop] at hl ⊢
    rw [← intOpd_same (fun t => ho t l (by simp [Op.operands])), ← intOpd_same (fun t => ho t c (by simp [Op.operands]))]; exact hl
  | slice t x lo hi mx =>
    rw [hop] at ho h
    cases mx with
    | none =>
      simp only [lop, hop] at hl ⊢
      have hlo : ∀ t y, lo = some y → opd C.P σ t y = opd C.P σ' t y := by rintro t y rfl; exact ho t y (by simp [Op.operands])
      have hhi : ∀ t y, hi = some y → opd C.P σ t y = opd C.P σ' t y := by rintro t y rfl; exact ho t y (by simp [Op.operands])
      rw [← ho _ x (by simp [Op.operands])]
      simp only [← boundOf_same (P := C.P) (g := g) hlo, ← boundOf_same (P := C.P) (g := g) hhi]
      exact hl
    | some m => simp [lop, hop] at hl
  | fieldAddr t x f =>
    rw [hop] at ho h
    simp only [lop, hop] at hl ⊢
    rw [← ho _ x (by simp [Op.operands])]
    split at hl
    · exact hl
    · rename_i gx s ver p h0 h1
      split at hl
      · rename_i r' hr; rw [h _ x _ _ s ver _ (by simp [Op.operands]) h1 rfl hr]; exact hl
      · cases hl
    · rename_i gx s ver p h0 h1
      split at hl
      · rename_i r' hr; rw [h _ x _ _ s ver _ (by simp [Op.operands]) h1 rfl hr]; exact hl
      · cases hl
    · cases hl
  | indexAddr t x i =>
    rw [hop] at ho h
    simp only [lop, hop] at hl ⊢
    rw [← ho _ x (by simp [Op.operands]), ← intOpd_same (fun t => ho t i (by simp [Op.operands]))]
    split at hl
    · exact hl
    · rename_i gx s ver p _ _ h0 h1 h2
      split at hl
      · rename_i r' hr; rw [h _ x _ _ _ _ _ (by simp [Op.operands]) h1 rfl hr]; exact hl
      · cases hl
    · cases hl
  | index t x i =>
    rw [hop] at ho h
    simp only [lop, hop] at hl ⊢
    rw [← ho _ x (by simp [Op.operands]), ← intOpd_same (fun t => ho t i (by simp [Op.operands]))]; exact hl
  | extract x i =>
    rw [hop] at ho h
    simp only [lop, hop] at hl ⊢
    rw [← ho _ x (by simp [Op.operands])]
    split at hl
    · exact hl
    · rename_i gx s ver h1
      split at hl
      · rename_i r' hr; rw [h _ x _ _ s ver _ (by simp [Op.operands]) h1 rfl hr]; exact hl
      · cases hl
    · cases hl
  | call c =>
    rw [hop] at ho h
    obtain ⟨cal, args, ats⟩ := c
    cases cal with
    | builtin b =>
      have hargs : ∀ t x, x ∈ args.toList → opd C.P σ t x = opd C.P σ' t x := fun t x hx => ho t x (by simp [Op.operands, Call.operands]; simpa using hx)
      cases b with
      | len =>
        simp only [lop, hop] at hl ⊢
        split at hl
        · rename_i x t h1 h2
          rw [← hargs _ x (by rw [h1]; simp)]
          split at hl
          · rename_i gx A' hA
            split at hl
            · cases hl
            · rename_i hag
              rw [if_neg hag]
              split at hl
              · rename_i hlk; obtain ⟨e1, e2⟩ := look_mono (fun s ver y hr => h _ x _ _ s ver y (by simp [Op.operands, Call.operands]; simpa using (by rw [h1]; simp : x ∈ args.toList)) hA hr) hlk; rw [e1, ← e2]; exact hl
              · rename_i hlk; obtain ⟨e1, e2⟩ := look_mono (fun s ver y hr => h _ x _ _ s ver y (by simp [Op.operands, Call.operands]; simpa using (by rw [h1]; simp : x ∈ args.toList)) hA hr) hlk; rw [e1, ← e2]; exact hl
              · cases hl
          · cases hl
        · cases hl
      | min =>
        simp only [lop, hop] at hl ⊢
        split at hl
        · rename_i x y h1
          rw [← hargs _ x (by rw [h1]; simp), ← hargs _ y (by rw [h1]; simp)]; exact hl
        · cases hl
      | max =>
        simp only [lop, hop] at hl ⊢
        split at hl
        · rename_i x y h1
          rw [← hargs _ x (by rw [h1]; simp), ← hargs _ y (by rw [h1]; simp)]; exact hl
        · cases hl
      | _ => simp [lop, hop] at hl
    | invoke r m => simp [lop, hop] at hl
    | value f =>
      simp only [lop, hop] at hl ⊢
      rw [← ho _ f (by simp [Op.operands, Call.operands])]
      split at hl
      · rename_i h1 h2
        rw [looks_mono (fun ty x g A s ver y hx => h ty x g A s ver y (by simp [Op.operands, Call.operands]; right; simpa using hx)) (fun t x hx => ho t x (by simp [Op.operands, Call.operands]; right; simpa using hx)) h2, h1]
        exact hl
      · cases hl
  | _ => simp [lop, hop] at hl
end
end Go.Ax
