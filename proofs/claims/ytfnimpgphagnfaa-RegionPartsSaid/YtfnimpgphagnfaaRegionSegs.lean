/- Layer 1 (region): drawn regions in which a call of the pool's stands: what changes, and what has come about. -/
import Derived.Test.YtfnimpgphagnfaaGhost
import Derived.Test.YtfnimpgphagnfaaRegionHands
namespace Go.Proofs.Ytfnimpgphagnfaa
set_option linter.unusedVariables false
set_option linter.unusedSimpArgs false
open Go.RowKit
theorem Chg.cell {S : Nat → Prop} {w w' : World} (h : Chg S w w') {b o : Nat} {v : Value} (hc : w.cell? ⟨b, o, none⟩ = some v) (hn : ¬ S b) : w'.cell? ⟨b, o, none⟩ = some v := by
  have := h.block b (World.block_lt_of_cell? w _ hc) hn
  unfold World.cell? at hc ⊢
  simp only at hc ⊢
  rw [this]; exact hc
theorem Blk.pair2 {w : World} {g : Nat} {t : TypeId} {a b : Value} (h : Blk w g t [a, b]) : w.cell? ⟨g, 0, none⟩ = some a ∧ w.cell? ⟨g, 1, none⟩ = some b := ⟨h.cell (i := 0) rfl, h.cell (i := 1) rfl⟩
/-- a pool of a law's own, whatever new blocks it has taken -/
def PlY (w0 : World) (g : Nat) (p : PoolF) (S : Nat → Prop) (N : Nat) (w : World) : Prop := ∃ S', Pl w0 w S' g p ∧ ∀ j, S' j → S j ∨ N ≤ j
theorem PlY.more {w0 w w' : World} {g N : Nat} {p : PoolF} {S : Nat → Prop} (h : PlY w0 g p S N w) (k : Gr w w') : PlY w0 g p S N w' := by
  obtain ⟨S', h1, h2⟩ := h
  exact ⟨S', h1.more k, h2⟩
/-- a block of handles is none of the pool's -/
theorem PoolAt.drop {w : World} {S : Nat → Prop} {g b : Nat} {p : PoolF} {cs : List Value} (h : PoolAt w S g p) (hb : Blk w b 33 cs) : PoolAt w (fun j => S j ∧ j ≠ b) g p := by
  obtain ⟨ads, cs', adt, ct, A, C, bd, hx⟩ := h
  refine ⟨ads, cs', adt, ct, A, C, bd, hx.blk, hx.row, hx.tak, hx.slab, hx.land, hx.inj, hx.sep, ⟨hx.sg, hx.blk.ne hb (by decide)⟩, fun x e => ⟨hx.srow x e, hb.owns_ne hx.row (by decide) x e⟩, fun x e => ⟨hx.stak x e, hb.owns_ne hx.tak (by decide) x e⟩, fun i hi => ⟨hx.sslab i hi, (hx.slab i hi).ne hb (by decide)⟩, fun i x hi e => ⟨hx.sland i x hi e, hb.owns_ne (hx.land i hi) (by decide) x e⟩, fun j hj => hx.lt j hj.1⟩
theorem Pl.drop {w0 w : World} {S : Nat → Prop} {g b : Nat} {p : PoolF} {cs : List Value} (h : Pl w0 w S g p) (hb : Blk w b 33 cs) : Pl w0 w (fun j => S j ∧ j ≠ b) g p := ⟨h.gr, h.pool.drop hb, h.ok, fun j hj => h.base j hj.1⟩
/-- what has been done of a statement that calls Alloc and keeps the handle -/
structure AG where
  done : Bool
  b : Option Nat
  st : Bool
def AG.none : AG := ⟨false, .none, false⟩
def AG.le (g g' : AG) : Prop := (g.done = true → g'.done = true) ∧ (∀ b, g.b = some b → g'.b = some b) ∧ (g.st = true → g'.st = true)
def zh : List Value := [.int .i64 0, .int .i64 0, .int .i64 0, .int .i64 0]
structure AInv (w0 W0 : World) (S : Nat → Prop) (gp : Nat) (p p' : PoolF) (cs : List Value) (s : World × AG) : Prop where
  chg : Chg (fun j => S j ∨ W0.heap.size ≤ j) W0 s.1
  pool : if s.2.done = true then PlY w0 gp p' S W0.heap.size s.1 else Pl w0 s.1 S gp p
  blk : ∀ b, s.2.b = some b → W0.heap.size ≤ b ∧ Blk s.1 b 33 (if s.2.st = true then cs else zh)
  no : s.2.b = none → s.2.st = false
def ALe (w0 W0 : World) (S : Nat → Prop) (gp : Nat) (p p' : PoolF) (cs : List Value) (s s' : World × AG) : Prop := AG.le s.2 s'.2 ∧ (AInv w0 W0 S gp p p' cs s → AInv w0 W0 S gp p p' cs s')
section
variable {w0 W0 w w' : World} {S : Nat → Prop} {gp : Nat} {p p' : PoolF} {cs : List Value} {g : AG}
theorem ALe.refl (s : World × AG) : ALe w0 W0 S gp p p' cs s s := ⟨⟨fun h => h, fun _ h => h, fun h => h⟩, fun h => h⟩
theorem ALe.trans (a b c : World × AG) (h : ALe w0 W0 S gp p p' cs a b) (k : ALe w0 W0 S gp p p' cs b c) : ALe w0 W0 S gp p p' cs a c := ⟨⟨fun x => k.1.1 (h.1.1 x), fun b x => k.1.2.1 b (h.1.2.1 b x), fun x => k.1.2.2 (h.1.2.2 x)⟩, fun x => k.2 (h.2 x)⟩
theorem AInv.start (h : Pl w0 W0 S gp p) : AInv w0 W0 S gp p p' cs (W0, AG.none) := ⟨Chg.refl _, h, fun b e => (by cases e), fun _ => rfl⟩
theorem AInv.call (h : AInv w0 W0 S gp p p' cs (w, g)) (hd : g.done = false) {S' : Nat → Prop} (hS : ∀ j, S j → j < W0.heap.size) (m : Moved S gp p' w w' S') (P' : Pl w0 w' S' gp p') : AInv w0 W0 S gp p p' cs (w', { g with done := true }) := by
  refine ⟨h.chg.trans m.chg (fun j hj => .inl (.inl hj)), ?_, fun b e => ?_, h.no⟩
  · show if true = true then _ else _
    rw [if_pos rfl]
    refine ⟨S', P', fun j hj => ?_⟩
    rcases m.sub j hj with h1 | h1
    · exact .inl h1
    · exact .inr (Nat.le_trans h.chg.size h1)
  · obtain ⟨h1, h2⟩ := h.blk b e
    exact ⟨h1, m.chg.blk h2 (fun hs => by have := hS b hs; omega)⟩
theorem AInv.new (h : AInv w0 W0 S gp p p' cs (w, g)) (hb : g.b = .none) : AInv w0 W0 S gp p p' cs (w.alloc (.cells zh.toArray 33), { g with b := some w.heap.size }) := by
  have hst := h.no hb
  refine ⟨h.chg.trans (Gr.alloc w _).chg (fun j hj => .inl hj), ?_, fun b e => ?_, fun e => (by cases e)⟩
  · have := h.pool
    show if g.done = true then _ else _
    split
    · rename_i hd; rw [if_pos hd] at this; exact this.more (Gr.alloc _ _)
    · rename_i hd; rw [if_neg hd] at this; exact this.more (Gr.alloc _ _)
  · cases e
    refine ⟨h.chg.size, ?_⟩
    show Blk _ _ _ (if g.st = true then cs else zh)
    have hst' : g.st = false := hst
    rw [hst', if_neg (by decide)]
    exact Blk.new w _ _
theorem Pl.write (h : Pl w0 w S gp p) {b : Nat} {cs' : List Value} (hB : Blk w b 33 cs') (hb : w0.heap.size ≤ b) (k : w.grownBy w' (some b)) : Pl w0 w' (fun j => S j ∧ j ≠ b) gp p :=
  (h.drop hB).grown (fun e => e.2 rfl) hb k
theorem AInv.store (h : AInv w0 W0 S gp p p' cs (w, g)) (hS : ∀ j, S j → j < W0.heap.size) (hw0 : w0.heap.size ≤ W0.heap.size) {b : Nat} (hb : g.b = some b) (k : w.grownBy w' (some b)) (hB : Blk w' b 33 cs) : AInv w0 W0 S gp p p' cs (w', { g with st := true }) := by
  obtain ⟨h1, h2⟩ := h.blk b hb
  refine ⟨h.chg.trans (Chg.grown (S := fun j => j = b) k rfl) (fun j hj => .inl (.inr (by subst hj; exact h1))), ?_, fun b' e => ?_, fun e => (by rw [hb] at e; cases e)⟩
  · have := h.pool
    show if g.done = true then _ else _
    split
    · rename_i hd
      rw [if_pos hd] at this
      obtain ⟨S', a1, a2⟩ := this
      exact ⟨_, a1.write h2 (Nat.le_trans hw0 h1) k, fun j hj => a2 j hj.1⟩
    · rename_i hd
      rw [if_neg hd] at this
      exact this.grown (fun e => by have := hS b e; omega) (by omega) k
  · have e2 : g.b = some b' := e
    rw [hb] at e2
    cases e2
    exact ⟨h1, hB⟩
end
/-- a pool, and handles that the law keeps -/
structure AM (w wr : World) (S : Nat → Prop) (g : Nat) (p : PoolF) (adD : Option Addr) (capD : Nat) (D : List Hd) : Prop where
  pl : Pl w wr S g p
  oD : ∀ x, adD = some x → ¬ S x.block
  bD : Owns wr w.heap.size 33 4 adD capD D.length (hv D)
section
variable {w wr w' : World} {S S' : Nat → Prop} {g : Nat} {p p' : PoolF} {adD : Option Addr} {capD : Nat} {D : List Hd}
theorem AM.moved (h : AM w wr S g p adD capD D) (m : Moved S g p' wr w' S') (P' : Pl w w' S' g p') : AM w w' S' g p' adD capD D :=
  ⟨P', fun x hx => ((Out.mk (h.oD x hx) (h.bD.lt x hx).2).moved m).no, m.chg.owns h.bD h.oD⟩
theorem AM.more (h : AM w wr S g p adD capD D) (k : Gr wr w') : AM w w' S g p adD capD D := ⟨h.pl.more k, h.oD, h.bD.gr k⟩
theorem AM.app (h : AM w wr S g p adD capD D) {ad' : Option Addr} {cap' : Nat} {x : Hd} (k : wr.grownBy w' (adD.map (·.block))) (o : Owns w' w.heap.size 33 4 ad' cap' (D.length + 1) (hv D ++ hc x)) (f : ∀ a, ad' = some a → adD = some a ∨ wr.heap.size ≤ a.block) :
    AM w w' S g p ad' cap' (D ++ [x]) := by
  refine ⟨h.pl.grownO (fun b hb => ?_) k, fun y hy => ?_, ?_⟩
  · cases adD with
    | none => cases hb
    | some y => cases hb; exact ⟨h.oD y rfl, (h.bD.lt y rfl).1⟩
  · rcases f y hy with h1 | h1
    · exact h.oD y h1
    · exact fun e => by have := h.pl.pool.lt _ e; omega
  · rw [List.length_append, hv_append]
    have : hv [x] = hc x := by simp [hv]
    rw [this]
    exact o
end
end Go.Proofs.Ytfnimpgphagnfaa
