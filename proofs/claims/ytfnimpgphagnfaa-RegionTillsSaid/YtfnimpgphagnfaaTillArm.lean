/- Layer 1 (region): what one step of RegionTills keeps. -/
import Derived.Test.YtfnimpgphagnfaaTillHand
import Derived.Test.YtfnimpgphagnfaaRegionCountM
namespace Go.Proofs.Ytfnimpgphagnfaa
set_option linter.unusedVariables false
set_option linter.unusedSimpArgs false
open Go.RowKit
/-- where the handles lie -/
def ZD (ad : Option Addr) (j : Nat) : Prop := ∃ x, ad = some x ∧ x.block = j
structure TI (w0 : World) (g gm n i : Nat) (p : PoolF) (ad : Option Addr) (cap : Nat) (D : List Hd) (w : World) : Prop where
  tz : Tz w0 g gm (ZD ad) p p w
  gens : Gens p i
  own : Owns w w0.heap.size 33 4 ad cap D.length (hv D)
  nb : p.bytes.length = n
  dl : D.length ≤ i
theorem make_len (p : PoolF) : (makeR p).2.2.bytes.length = p.bytes.length := by
  unfold makeR
  cases makeF p <;> rfl
theorem alloc_len (p : PoolF) (r n a : Int) : (allocF p r n a).2.2.bytes.length = p.bytes.length := by
  unfold allocF
  cases landF p r with
  | none => rfl
  | some i =>
    simp only
    split
    · rfl
    · split
      · cases idleF p with
        | none => rfl
        | some s => exact List.length_set
      · rfl
theorem store_len (p : PoolF) (x : Hd) (t : Int) (b : List UInt8) : (storeF p x t b).2.bytes.length = p.bytes.length := by
  unfold storeF
  split
  · split
    · rfl
    · exact List.length_set
  · rfl
theorem free_len (p : PoolF) (r : Int) : (freeF p r).2.bytes.length = p.bytes.length := by
  unfold freeF
  cases landF p r with
  | none => rfl
  | some i => exact (freeSlabs_len p _).1
/-- one step: the two pools, the handles, the step's own block -/
structure AT (w0 : World) (g gm : Nat) (Z : Nat → Prop) (bx : Nat) (tv : List Value) (ad : Option Addr) (cap : Nat) (D : List Hd) (p q : PoolF) (w : World) : Prop where
  tz : Tz w0 g gm Z p q w
  own : Owns w w0.heap.size 33 4 ad cap D.length (hv D)
  blk : Blk w bx 52 tv
  zb : Z bx
  za : ∀ x, ad = some x → Z x.block
section
variable {w0 w w' : World} {g gm bx : Nat} {Z Z' : Nat → Prop} {p q p' q' : PoolF} {tv : List Value} {ad : Option Addr} {cap : Nat} {D : List Hd}
theorem AT.more (h : AT w0 g gm Z bx tv ad cap D p q w) (k : Gr w w') : AT w0 g gm Z bx tv ad cap D p q w' := ⟨h.tz.more k, h.own.gr k, h.blk.gr k, h.zb, h.za⟩
theorem AT.step (h : AT w0 g gm Z bx tv ad cap D p q w) (c : Chg (Tk w0 Z) w w') (t : Tz w0 g gm Z p' q' w') : AT w0 g gm Z bx tv ad cap D p' q' w' :=
  ⟨t, c.owns h.own (fun x hx e => e.2 (h.za x hx)), c.blk h.blk (fun e => e.2 h.zb), h.zb, h.za⟩
theorem AT.lay (h : AT w0 g gm Z bx tv ad cap D p q w) (k : Gr w w') (hs : ∀ j, Z j → Z' j) (hZ : ∀ j, Z' j → Z j ∨ (w.heap.size ≤ j ∧ j < w'.heap.size)) : AT w0 g gm Z' bx tv ad cap D p q w' :=
  ⟨h.tz.lay k hZ, h.own.gr k, h.blk.gr k, hs _ h.zb, fun x hx => hs _ (h.za x hx)⟩
theorem AT.fin {n i : Nat} (h : AT w0 g gm Z bx tv ad cap D p p w) (hg : Gens p i) (hn : p.bytes.length = n) (hd : D.length ≤ i) : TI w0 g gm n i p ad cap D w :=
  ⟨h.tz.drop (fun j ⟨x, hx, e⟩ => e ▸ h.za x hx), hg, h.own, hn, hd⟩
/-- a handle more -/
theorem Tz.append (h : Tz w0 g gm Z p q w) {o : Option Nat} (k : w.grownBy w' o) (ho : ∀ b, o = some b → Z b ∧ w0.heap.size ≤ b) (hZ : ∀ j, Z' j → Z j ∨ (w.heap.size ≤ j ∧ j < w'.heap.size)) : Tz w0 g gm Z' p q w' := by
  have h1 := h.grown k (fun b hb => ⟨.inl (ho b hb).1, (ho b hb).2⟩)
  obtain ⟨S, Sm, h, hz⟩ := h
  have hs : ∀ j, S j → j < w.heap.size := fun j hj => h.pl.pool.lt j hj
  have hm : ∀ j, Sm j → j < w.heap.size := fun j hj => h.rm.lt j hj
  refine ⟨S, Sm, ⟨h.pl.grownO (fun b hb => ⟨fun e => (hz b (ho b hb).1).1 e, (ho b hb).2⟩) k, h.rm.chg (T := fun j => o = some j) ⟨k.os, k.tape, k.output, k.size, fun j hj hn => k.block j hj (fun e => hn e.symm)⟩ (fun j hj e => (hz j (ho j e).1).2.1 hj), h.okq, h.dis, h.base⟩, fun j hj => ?_⟩
  rcases hZ j hj with h2 | ⟨h2, h3⟩
  · exact ⟨(hz j h2).1, (hz j h2).2.1, Nat.lt_of_lt_of_le (hz j h2).2.2 k.size⟩
  · exact ⟨fun e => by have := hs j e; omega, fun e => by have := hm j e; omega, h3⟩
end
/-- a block that is kept is written -/
theorem AT.put {w0 w : World} {g gm bx : Nat} {Z : Nat → Prop} {p q : PoolF} {tv : List Value} {ad : Option Addr} {cap : Nat} {D : List Hd} (h : AT w0 g gm Z bx tv ad cap D p q w) {b : Nat} (c : Nat) (u : Value) (hz : Z b) (hb : w0.heap.size ≤ b) (hx : bx ≠ b) (ha : ∀ x, ad = some x → x.block ≠ b) :
    AT w0 g gm Z bx tv ad cap D p q (w.setCell ⟨b, c, none⟩ u) := by
  have k := grown_set w b c u
  exact ⟨h.tz.grown k (fun b' e => by obtain rfl := Option.some.inj e; exact ⟨.inl hz, hb⟩), h.own.grown k (fun x hx e => ha x hx (Option.some.inj e)), h.blk.grown k (fun e => hx (Option.some.inj e)), h.zb, h.za⟩
/-- the stages of a region with two calls -/
def TK (A B C : World → Prop) : Nat → World → Prop
  | 0, w => A w
  | 1, w => B w
  | _, w => C w
theorem TK.more {A B C : World → Prop} (hA : ∀ w w', A w → Gr w w' → A w') (hB : ∀ w w', B w → Gr w w' → B w') (hC : ∀ w w', C w → Gr w w' → C w') : ∀ k w w', TK A B C k w → Gr w w' → TK A B C k w'
  | 0, _, _, h, k => hA _ _ h k
  | 1, _, _, h, k => hB _ _ h k
  | _ + 2, _, _, h, k => hC _ _ h k
theorem g1_ne {a : Nat} : ∀ k, k ≠ a → (fun k => if k = a then 0 else 1 : Nat → Nat) k ≠ 0 := fun k hk => by simp [hk]
theorem g2_ne {a b : Nat} (hab : a ≠ b) : (∀ k, k ≠ a → (fun k => if k = a then 0 else if k = b then 1 else 2 : Nat → Nat) k ≠ 0) ∧ ∀ k, k ≠ b → (fun k => if k = a then 0 else if k = b then 1 else 2 : Nat → Nat) k ≠ 1 :=
  ⟨fun k hk => by simp only [hk, if_false]; split <;> decide, fun k hk => by simp only [hk, if_false]; split <;> decide⟩
theorem sv_at2 {bytes : List (List UInt8)} {s : Nat} (h : s < bytes.length) : (sv bytes)[s]? = some (.string (str (bytes.getD s []))) := by
  rw [sv_get _ _ h, List.getD_eq_getElem?_getD, List.getElem?_eq_getElem h, Option.getD_some]
theorem Chg.cell {S : Nat → Prop} {w w' : World} (h : Chg S w w') {b o : Nat} {v : Value} (hc : w.cell? ⟨b, o, none⟩ = some v) (hn : ¬ S b) : w'.cell? ⟨b, o, none⟩ = some v := by
  have := h.block b (World.block_lt_of_cell? w _ hc) hn
  unfold World.cell? at hc ⊢
  simp only at hc ⊢
  rw [this]; exact hc
theorem six_cells {w : World} {g : Nat} {t : TypeId} {a b c d e f : Value} (h : Blk w g t [a, b, c, d, e, f]) : w.cell? ⟨g, 0, none⟩ = some a ∧ w.cell? ⟨g, 1, none⟩ = some b ∧ w.cell? ⟨g, 2, none⟩ = some c ∧ w.cell? ⟨g, 3, none⟩ = some d ∧ w.cell? ⟨g, 4, none⟩ = some e ∧ w.cell? ⟨g, 5, none⟩ = some f :=
  ⟨h.cell rfl, h.cell rfl, h.cell rfl, h.cell rfl, h.cell rfl, h.cell rfl⟩
theorem Tz.start {w w1 w2 w3 : World} {g gm a n : Nat} {S Sm : Nat → Prop} (h : Pl w w2 S g (newF a n)) (ok : PoolOk (newF a n)) (k : Gr w2 w3) (r : RPool w3 Sm gm (newF a n)) (b : ∀ j, Sm j → w2.heap.size ≤ j) : Tz w g gm (ZD none) (newF a n) (newF a n) w3 :=
  ⟨S, Sm, ⟨h.more k, r, ok, fun j hj hm => by have := h.pool.lt j hj; have := b j hm; omega, fun j hj => Nat.le_trans h.gr.size (b j hj)⟩, fun j ⟨x, hx, _⟩ => by cases hx⟩
end Go.Proofs.Ytfnimpgphagnfaa
