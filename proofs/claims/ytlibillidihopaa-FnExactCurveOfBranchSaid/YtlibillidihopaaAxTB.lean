/-
  AX, part TB: a piece of a slot goes out to a call that writes into it, and comes back.
-/
import Derived.Test.YtlibillidihopaaAxTA
namespace Go.Ax
open Go.RowKit

/-- how the world has turned at a call's end: X: what it may write; On, Fr: new blocks; Xn: what the piece owns now -/
structure Chg (w w' : World) (X On Fr Xn : Nat → Prop) : Prop where
  size : w.heap.size ≤ w'.heap.size
  os : w'.os = w.os
  tape : w'.tape = w.tape
  output : w'.output = w.output
  same : ∀ k, k < w.heap.size → ¬ X k → w'.heap[k]? = w.heap[k]?
  new : ∀ b, On b ∨ Fr b → w.heap.size ≤ b ∧ b < w'.heap.size
  xn : ∀ b, Xn b → X b ∨ (w.heap.size ≤ b ∧ b < w'.heap.size)
  d1 : ∀ b, On b → ¬ Fr b
  d2 : ∀ b, Xn b → ¬ On b ∧ ¬ Fr b
  hdr : ∀ k off u, X k → isHdr u = true → w.cell? ⟨k, off, none⟩ = some u → w'.cell? ⟨k, off, none⟩ = some u

section
variable {C : Ctx} {F : Nat → Prop} {O : Nat → Nat → Prop} {Z : Nat → Prop} {σ σ' : Env} {a : Act} {w w' : World} {X On Fr Xn : Nat → Prop}

/-- the world turns while the piece is out -/
theorem Inv.chg (h : Inv C F O X σ a w) (hc : Chg w w' X On Fr Xn) : Inv C (fun b => F b ∨ Fr b) O (fun b => Xn b ∨ On b) σ a w' := by
  have h1 := h.worldZ (Z' := fun b => (Xn b ∨ On b) ∨ Fr b) hc.size hc.same (fun b hb => by
    rcases hb with (hb | hb) | hb
    · exact hc.xn b hb
    · exact .inr (hc.new b (.inl hb))
    · exact .inr (hc.new b (.inr hb))) (fun _ b off u _ hz hu h0 => hc.hdr b off u hz hu h0) hc.os hc.tape hc.output
  have h2 := h1.freezeZ (Zf := Fr) (fun b hb => .inr hb) (fun b hb => Nat.le_trans h.size (hc.new b (.inr hb)).1)
  refine h2.lessZ (fun b hb => ⟨.inl hb, fun hf => ?_⟩)
  rcases hb with hb | hb
  · exact (hc.d2 b hb).2 hf
  · exact hc.d1 b hb hf

theorem Chg.fz (hI : Inv C F O Z σ a w) (hc : Chg w w' X On Fr Xn) (hX : ∀ b, X b → ¬ F b) : ∀ b, F b → w'.heap[b]? = w.heap[b]? :=
  fun b hb => hc.same b (hI.flt b hb) (fun hx => hX b hx hb)

theorem Chg.hH (hI : Inv C F O Z σ a w) (hc : Chg w w' X On Fr Xn) : ∀ s k off u, O s k → isHdr u = true → w.cell? ⟨k, off, none⟩ = some u → w'.cell? ⟨k, off, none⟩ = some u := by
  intro s k off u hk hu h0
  by_cases hx : X k
  · exact hc.hdr k off u hx hu h0
  · rw [World.cell?_of_block (a := ⟨k, off, none⟩) (hc.same k (hI.olt s k hk) hx)]; exact h0

/-- a whole slot -/
theorem io_root (hI : Inv C F O (fun _ => False) σ a w) {s : Nat} {r : V} (hg : (σ s).g = true) (hx : (σ s).a = .val r) (_hr : r.owned = true) :
    ∃ cy Oy, r.reg cy (a.tmps.getD s undef) ∧ Rep C.cz w F r cy Oy ∧ (∀ z, Oy z → z < w.heap.size ∧ ¬ F z) ∧ (∃ O1, Inv C F O1 Oy (σ.drp s) a w) ∧
      ∀ (w' : World) (On Fr Xn : Nat → Prop) (y : V), Chg w w' Oy On Fr Xn → Rep C.cz w' (fun b => F b ∨ Fr b) y cy Xn → y.reg cy (a.tmps.getD s undef) → Sh r y →
        ∃ O', Inv C (fun b => F b ∨ Fr b) O' On (σ.mod s y) a w' := by
  obtain ⟨cs, e1, e2, e3, e4⟩ := hI.takeAll hg hx
  have e5 : Inv C F (fun t => if t = s then fun _ => False else O t) (O s) (σ.drp s) a w := e4.lessZ (fun b hb => .inr hb)
  refine ⟨cs, O s, e1, e2, fun z hz => ⟨hI.olt s z hz, hI.of s z hz⟩, ⟨_, e5⟩, fun w' On Fr Xn y hc hy hreg hsh => ?_⟩
  have h1 := e5.chg hc
  have h2 := h1.putVal (d := s) (g := true) (x := y) (v := a.tmps.getD s undef) (cs := cs) (On := Xn) e3 (.inr rfl) (fun _ => ⟨hreg, hy⟩) (fun b hb => .inl hb) (by simp)
  rw [put_same rfl e3] at h2
  have h3 : Inv C (fun b => F b ∨ Fr b) _ On _ a w' := h2.lessZ (fun b hb => ⟨.inr hb, fun hx => (hc.d2 b hx).1 hb⟩)
  refine ⟨_, hI.combine h3 (fun b hb => .inl hb) (hc.fz hI (fun b hb => hI.of s b hb)) (hc.hH hI) (fun t => ?_) (fun t hn => ?_) (fun t x hx' => ?_)⟩
  · simp only [Env.mod]
    split
    · rename_i e; rw [e]; exact ⟨rfl, rfl, rfl⟩
    · exact ⟨rfl, rfl, rfl⟩
  · have : t ≠ s := fun e => hn r (e ▸ hx)
    simp [Env.mod, this]
  · by_cases hts : t = s
    · subst hts
      rw [hx] at hx'
      simp only [A.val.injEq] at hx'
      subst hx'
      exact ⟨y, by simp [Env.mod], hsh, fun _ => ⟨by simp [Env.put], by simp [Env.put]⟩⟩
    · exact ⟨x, by simp [Env.mod, hts, hx'], .refl x, fun hg' => ⟨by simp [Env.put, Env.drp, hts, hg'], by simp [Env.put, Env.drp, hts, hx']⟩⟩

/-- a part of a slot -/
theorem io_part (hI : Inv C F O (fun _ => False) σ a w) {s : Nat} {p : List Nat} {r : V} (hg : (σ s).g = true) (hx : (σ s).a = .val r) (hok : r.okp p) (hp : p ≠ []) (hna : ∀ fs, r ≠ .agg fs) :
    ∃ b o cy Oy, locV C.cz w p r (a.tmps.getD s undef) = some (b, o) ∧ Cells w b o cy ∧ Rep C.cz w F (r.at p) cy Oy ∧ (∀ z, Oy z → z < w.heap.size ∧ ¬ F z) ∧ (∃ O1, Inv C F O1 Oy (σ.mod s (r.upd p (.hole (r.at p).size))) a w) ∧
      ∀ (w' : World) (On Fr Xn : Nat → Prop) (y : V), Chg w w' Oy On Fr Xn → Rep C.cz w' (fun b => F b ∨ Fr b) y cy Xn → Sh (r.at p) y →
        ∃ O', Inv C (fun b => F b ∨ Fr b) O' On (σ.mod s (r.upd p y)) a w' := by
  obtain ⟨b, o, cy, Oy, g1, g2, g3, g4, g5, g6, g7⟩ := hI.take hg hx hok hp hna
  have e5 : Inv C F _ Oy (σ.mod s (r.upd p (.hole (r.at p).size))) a w := g7.lessZ (fun b hb => .inr hb)
  refine ⟨b, o, cy, Oy, g1, g2, g3, fun z hz => ⟨hI.olt s z (g6 z hz), hI.of s z (g6 z hz)⟩, ⟨_, e5⟩, fun w' On Fr Xn y hc hy hsh => ?_⟩
  have h1 := e5.chg hc
  have hmodx : ((σ.mod s (r.upd p (.hole (r.at p).size))) s).a = .val (r.upd p (.hole (r.at p).size)) := by simp [Env.mod]
  have hmodg : ((σ.mod s (r.upd p (.hole (r.at p).size))) s).g = true := by simp [Env.mod, hg]
  obtain ⟨k1, k2⟩ := V.upd_self (y := .hole (r.at p).size) hok
  have hsz : y.size = (r.at p).size := hsh.facts.1.symm
  obtain ⟨c0, r0, r1⟩ := (e5.slot s hmodg).2.1 _ hmodx
  have hsame : w'.heap[b]? = w.heap[b]? := hc.same b (hI.olt s b g4) g5
  have hloc : locV C.cz w' p (r.upd p (.hole (r.at p).size)) (a.tmps.getD s undef) = some (b, o) := by
    rw [locV_mem r1 r0 k1 (fun k off u hk hu h0 => by
      have hk' : O s k ∧ ¬ Oy k := by simpa using hk
      rw [World.cell?_of_block (a := ⟨k, off, none⟩) (hc.same k (hI.olt s k hk'.1) hk'.2)]; exact h0)]
    rw [locV_upd C.cz w (y := .hole (r.at p).size) (fun _ h => h) rfl rfl hok hp k1]
    exact g1
  have hcy : Cells w' b o cy := g2.of_block hsame
  have hU : Upd w' w' b o y.size := ⟨fun _ _ => rfl, fun cur e fr h => ⟨cur, h, rfl⟩, fun _ _ => rfl⟩
  have hupd : (r.upd p (.hole (r.at p).size)).upd p y = r.upd p y := V.upd_upd hok
  have h2 := h1.putAt hmodg hmodx k1 hp (V.upd_not_agg hp hna) (by rw [k2, hsz]) hloc hU rfl hy hcy (fun z hz => .inl hz) (fun _ off u _ h0 => h0) rfl rfl rfl (.inl rfl)
  rw [hupd] at h2
  have h3 : Inv C (fun b => F b ∨ Fr b) _ On _ a w' := h2.lessZ (fun b hb => ⟨.inr hb, fun hx => (hc.d2 b hx).1 hb⟩)
  refine ⟨_, hI.combine h3 (fun b hb => .inl hb) (hc.fz hI (fun b hb => hI.of s b (g6 b hb))) (hc.hH hI) (fun t => ?_) (fun t hn => ?_) (fun t x hx' => ?_)⟩
  · simp only [Env.mod]
    split
    · rename_i e; rw [e]; exact ⟨rfl, rfl, rfl⟩
    · exact ⟨rfl, rfl, rfl⟩
  · have : t ≠ s := fun e => hn r (e ▸ hx)
    simp [Env.mod, this]
  · by_cases hts : t = s
    · subst hts
      rw [hx] at hx'
      simp only [A.val.injEq] at hx'
      subst hx'
      exact ⟨r.upd p y, by simp [Env.mod], Sh.upd hok hsh, fun hg' => ⟨by simp [Env.bmp, Env.mod, hg'], by simp [Env.bmp]⟩⟩
    · exact ⟨x, by simp [Env.mod, hts, hx'], .refl x, fun hg' => ⟨by simp [Env.bmp, Env.mod, hts, hg'], by simp [Env.bmp, Env.mod, hts, hx']⟩⟩
end
end Go.Ax
