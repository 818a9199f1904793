/- A region that draws its order, in which a call turns one block: from what it was into something that is good. No program is in sight here. -/
import Derived.Test.YtnbinodhdgnjlaaAnyS
import Derived.Test.YtnbinodhdgnjlaaBlk
namespace Go.Proofs.Ytnbinodhdgnjlaa
set_option linter.unusedVariables false
set_option linter.unusedSimpArgs false
open Go.RowKit
section
variable {P : Program}
def Turn (g : Nat) (Good : World → Prop) (w w' : World) : Prop := w.grownBy w' (some g) ∧ (w'.heap[g]? = w.heap[g]? ∨ Good w') ∧ (Good w → Good w')
variable {g : Nat} {Good : World → Prop}
theorem Turn.refl (w : World) : Turn g Good w w := ⟨(Gr.refl w).far, .inl rfl, id⟩
theorem Turn.trans {a b c : World} (h : Turn g Good a b) (k : Turn g Good b c) : Turn g Good a c :=
  ⟨grown_trans h.1 k.1, by
    rcases k.2.1 with k1 | k1
    · rcases h.2.1 with h1 | h1
      · exact .inl (k1.trans h1)
      · exact .inr (k.2.2 h1)
    · exact .inr k1, fun x => k.2.2 (h.2.2 x)⟩
theorem Turn.drew (hd : ∀ w, Good w → Good w.drew) (w : World) : Turn g Good w w.drew := ⟨grown_drew w _, .inl rfl, hd w⟩
theorem Gr.turn {w w' : World} (h : Gr w w') (hg : g < w.heap.size) (hk : Good w → Good w') : Turn g Good w w' := ⟨h.far, .inl (h.block g hg), hk⟩
@[go_sem] theorem turn_refl (w : World) : Turn g Good w w ↔ True := ⟨fun _ => trivial, fun _ => Turn.refl w⟩
theorem Turn.cell {w w' : World} (h : Turn g Good w w') {p : Addr} {v : Value} (hp : w.cell? p = some v) (hne : p.block ≠ g) : w'.cell? p = some v := by
  have := h.1.block p.block (World.block_lt_of_cell? w p hp) (fun e => hne (Option.some.inj e))
  unfold World.cell? at hp ⊢
  rw [this]; exact hp
/-- a thing that is known of the world since the turn -/
def Since (Good : World → Prop) : Value → World → Prop := fun _ w => Good w
theorem Since.stable : Stable (Turn g Good) (Since Good) := fun _ _ _ h k => k.2.2 h
theorem region_tail_turn (g : Nat) (Good : World → Prop) (hd0 : ∀ w, Good w → Good w.drew) {id : Nat} {Q : Exit → Act → World → Prop} {a0 : Act} {w : World} {l : List Oper} (n0 n : Nat) (Rs : List (Value → World → Prop))
    (hm : P.follows .mixedOrders = true) (hB : anyB (l.take n0) n = true) (hT : tailB l n0 = true) (hd : (l.take n0).all (·.dst.isSome) = true) (hlen : Rs.length = (l.take n0).length) (hn : a0.tmps.size = n) (hst : AllStable (Turn g Good) Rs)
    (hs : AllShown P (Turn g Good) (l.take n0) Rs a0 w (l.take n0) 0) (hfin : ∀ w1 val, Turn g Good w w1 → Holds val w1 Rs 0 → wpList P l.toArray Q (l.drop n0) (putAll val (l.take n0) 0 a0) w1) : (Code.region id l.toArray true).wp P Q a0 w :=
  region_any_tail Turn.refl (fun _ _ _ => Turn.trans) (Turn.drew hd0) n0 n (nth Rs) hm hB hT hn (fun i v w1 w2 => hst.get i v w1 w2) (fun i o hi => by simpa using hs.get i o hi)
    (fun w1 val hg h => hfin w1 val hg (Holds.of fun i hi => by
      have hi' : i < (l.take n0).length := by omega
      rw [Nat.zero_add]
      exact h i (l.take n0)[i] (by rw [List.getElem?_eq_getElem hi']) (List.all_eq_true.1 hd _ (List.getElem_mem hi'))))
end
end Go.Proofs.Ytnbinodhdgnjlaa
