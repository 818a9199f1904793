/- Blocks that are known whole. No program is in sight here. -/
import Derived.Test.YtfnimpgphagnfaaMem
namespace Go.Proofs.Ytfnimpgphagnfaa
set_option linter.unusedVariables false
set_option linter.unusedSimpArgs false
open Go.RowKit
/-- block g is just these cells, none frozen -/
def Blk (w : World) (g : Nat) (t : TypeId) (cs : List Value) : Prop := w.heap[g]? = some (.cells cs.toArray t (0, 0))
section
variable {w w' : World} {g : Nat} {t : TypeId} {cs : List Value}
theorem Blk.lt (h : Blk w g t cs) : g < w.heap.size := (Array.getElem?_eq_some_iff.1 h).1
theorem Blk.cell (h : Blk w g t cs) {i : Nat} {v : Value} (hi : cs[i]? = some v) : w.cell? ⟨g, i, none⟩ = some v := by
  rw [cell_of_row w g i cs.toArray t (0, 0) h]; simpa using hi
theorem Blk.frozen (h : Blk w g t cs) (i : Nat) : w.frozen? ⟨g, i, none⟩ = false := by
  unfold Blk at h
  simp [World.frozen?, h]
theorem Blk.new (w : World) (t : TypeId) (cs : Array Value) : Blk (w.alloc (.cells cs t)) w.heap.size t cs.toList := by
  have := heap_alloc_new w (.cells cs t)
  simpa [Blk] using this
theorem Blk.gr (h : Blk w g t cs) (k : Gr w w') : Blk w' g t cs := k.heap h
theorem Blk.drew (h : Blk w g t cs) : Blk w.drew g t cs := h
theorem Blk.alloc (h : Blk w g t cs) (o : Obj) : Blk (w.alloc o) g t cs := h.gr (Gr.alloc w o)
theorem Blk.set_ (h : Blk w g t cs) (i : Nat) (u : Value) : Blk (w.setCell ⟨g, i, none⟩ u) g t (cs.set i u) := by
  unfold Blk at h ⊢
  simp [World.setCell, Array.getElem?_modify, h]
theorem Blk.far (h : Blk w g t cs) {p : Addr} (hp : g ≠ p.block) (u : Value) : Blk (w.setCell p u) g t cs := (Below.heap_setCell w p u g hp).trans h
theorem Blk.grown {row : Option Nat} (h : Blk w g t cs) (hb : w.grownBy w' row) (hg : some g ≠ row) : Blk w' g t cs := (hb.block g h.lt hg).trans h
theorem Blk.three {a b c : Value} (h : Blk w g t [a, b, c]) : w.cell? ⟨g, 0, none⟩ = some a ∧ w.cell? ⟨g, 1, none⟩ = some b ∧ w.cell? ⟨g, 2, none⟩ = some c ∧ w.frozen? ⟨g, 0, none⟩ = false ∧ w.frozen? ⟨g, 1, none⟩ = false ∧ w.frozen? ⟨g, 2, none⟩ = false :=
  ⟨h.cell rfl, h.cell rfl, h.cell rfl, h.frozen _, h.frozen _, h.frozen _⟩
theorem size_alloc1 (w : World) (o : Obj) : (w.alloc o).heap.size = w.heap.size + 1 := by simp
theorem Blk.of1 {cs : Array Value} (k : Gr (w.alloc (.cells cs t)) w') : Blk w' w.heap.size t cs.toList := (Blk.new w t cs).gr k
theorem Blk.of2a {cs : Array Value} {o : Obj} (k : Gr ((w.alloc (.cells cs t)).alloc o) w') : Blk w' w.heap.size t cs.toList := ((Blk.new w t cs).alloc o).gr k
theorem Blk.of2b {cs : Array Value} {o : Obj} (k : Gr ((w.alloc o).alloc (.cells cs t)) w') : Blk w' (w.heap.size + 1) t cs.toList := by
  have := (Blk.new (w.alloc o) t cs).gr k
  rwa [size_alloc1] at this
theorem Blk.of3a {cs : Array Value} {o o' : Obj} (k : Gr (((w.alloc (.cells cs t)).alloc o).alloc o') w') : Blk w' w.heap.size t cs.toList := (((Blk.new w t cs).alloc o).alloc o').gr k
theorem Blk.of3b {cs : Array Value} {o o' : Obj} (k : Gr (((w.alloc o).alloc (.cells cs t)).alloc o') w') : Blk w' (w.heap.size + 1) t cs.toList := by
  have := ((Blk.new (w.alloc o) t cs).alloc o').gr k
  rwa [size_alloc1] at this
theorem Blk.of3c {cs : Array Value} {o o' : Obj} (k : Gr (((w.alloc o).alloc o').alloc (.cells cs t)) w') : Blk w' (w.heap.size + 2) t cs.toList := by
  have := (Blk.new ((w.alloc o).alloc o') t cs).gr k
  rwa [size_alloc1, size_alloc1] at this
theorem Gr.far {row : Option Nat} (h : Gr w w') : w.grownBy w' row := ⟨h.os, h.tape, h.output, h.size, fun k hk _ => h.block k hk⟩
theorem grown_trans {a b c : World} {row : Option Nat} (h : a.grownBy b row) (k : b.grownBy c row) : a.grownBy c row :=
  ⟨k.os.trans h.os, k.tape.trans h.tape, k.output.trans h.output, Nat.le_trans h.size k.size, fun j hj hne => (k.block j (Nat.lt_of_lt_of_le hj h.size) hne).trans (h.block j hj hne)⟩
theorem grown_set (w : World) (g i : Nat) (u : Value) : w.grownBy (w.setCell ⟨g, i, none⟩ u) (some g) :=
  ⟨rfl, rfl, rfl, by simp, fun k _ hne => Below.heap_setCell w _ u k (fun e => hne (by rw [e]))⟩
theorem grown_drew (w : World) (row : Option Nat) : w.grownBy w.drew row := (Gr.drew w).far
theorem Gr.of_far {a w w' : World} {g : Nat} (h : Gr a w) (k : w.grownBy w' (some g)) (hg : a.heap.size ≤ g) : Gr a w' := h.grown k (fun _ e => by cases e; exact hg)
/-- a pointer to a new block of these cells -/
def NewBlk (B : Nat) (t : TypeId) (cs : List Value) : Value → World → Prop := fun v w => ∃ g, v = .pointer (some ⟨g, 0, none⟩) ∧ B ≤ g ∧ Blk w g t cs
theorem NewBlk.stable (B : Nat) (t : TypeId) (cs : List Value) : ∀ v w1 w2, NewBlk B t cs v w1 → Gr w1 w2 → NewBlk B t cs v w2 := fun _ _ _ ⟨g, e, hb, h⟩ k => ⟨g, e, hb, h.gr k⟩
end
end Go.Proofs.Ytfnimpgphagnfaa
