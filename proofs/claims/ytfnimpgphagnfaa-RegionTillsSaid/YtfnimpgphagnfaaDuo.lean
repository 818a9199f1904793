/- A region that draws its order, in which a slice that the call owns is appended to, and then a cell of a block is stored. No program is in sight here. -/
import Derived.Test.YtfnimpgphagnfaaAnyS
import Derived.Test.YtfnimpgphagnfaaBlk
namespace Go.Proofs.Ytfnimpgphagnfaa
set_option linter.unusedVariables false
set_option linter.unusedSimpArgs false
open Go.RowKit
section
variable {P : Program}
/-- THE STEP of such an append, by what it needs of the world -/
theorem append_once3 {t u e : TypeId} {z : Value} {size bytes : Nat} (E : Elem P t e z size bytes) {w0 w : World} {base : Nat} {ad : Option Addr} {cap n : Nat} {xs : List Value}
    (hown : Owns w0 base e size ad cap n xs) {x : Value} {m : Nat} {news : List Value} {row : Option Nat} (hrow : row = ad.map (·.block))
    {A B : Option Obj} (hA : ∀ g, row = some g → A = w0.heap[g]?) (hB : B = if n + m ≤ cap then appRow (n * size) news A else A)
    (hrc : ∀ g, row = some g → w.heap[g]? = w0.heap[g]? ∨ (w0.heap[g]? = A ∧ w.heap[g]? = B)) (hsz0 : w0.heap.size ≤ w.heap.size) (hx : Src P u w size x m news)
    (h63 : n + m ≤ maxLen) (hbytes : (n + m) * bytes ≤ 140737488355328) (hbase : base ≤ w0.heap.size) {ty : TypeId} :
    ∃ v w', (Builtin.append_ #[t, u] ty #[.slice ad n cap, x]).run P w = .ok v w' ∧ Once row A B w w' ∧ Apn row B base e size (n + m) (xs ++ news) w0.heap.size v w' := by
  have hwOwn : Owns w base e size ad cap n xs ∧ ∀ g, row = some g → n + m ≤ cap → appRow (n * size) news w.heap[g]? = B := by
    obtain ⟨h1, h2, h3, ⟨e1, e2, e3⟩ | ⟨g, cur, fr, e1, e2, hg, hfr, hs, ht⟩⟩ := hown
    · subst e1
      exact ⟨⟨h1, h2, h3, .inl ⟨rfl, e2, e3⟩⟩, fun g hg => by rw [hrow] at hg; cases hg⟩
    · subst e1
      have hr : row = some g := hrow
      have hAg := hA g hr
      rw [hg] at hAg
      rcases hrc g hr with h | ⟨_, h⟩
      · rw [hg] at h
        refine ⟨⟨h1, h2, h3, .inr ⟨g, cur, fr, rfl, e2, h, hfr, hs, ht⟩⟩, fun g' hg' hrm => ?_⟩
        rw [hr] at hg'; cases hg'
        rw [h, hB, if_pos hrm, hAg]
      · have hnc : n * size ≤ cur.size := by rw [hs]; exact Nat.mul_le_mul_right _ h2
        have hlen : (cur.toList.take (n * size)).length = n * size := by simp; omega
        have htk : (cur.toList.take (n * size) ++ news ++ cur.toList.drop (n * size + news.length)).take (n * size) = xs := by
          rw [List.append_assoc]
          have := List.take_left (l₁ := cur.toList.take (n * size)) (l₂ := news ++ cur.toList.drop (n * size + news.length))
          rw [hlen] at this
          rw [this, ht]
        by_cases hroom : n + m ≤ cap
        · rw [hB, if_pos hroom, hAg] at h
          have hfit : n * size + news.length ≤ cur.size := by rw [hx.1, hs, ← Nat.add_mul]; exact Nat.mul_le_mul_right _ hroom
          have hsz : (cur.toList.take (n * size) ++ news ++ cur.toList.drop (n * size + news.length)).toArray.size = cur.size := by simp; omega
          refine ⟨⟨h1, h2, h3, .inr ⟨g, _, fr, rfl, e2, h, by rw [hsz]; exact hfr, by rw [hsz]; exact hs, htk⟩⟩, fun g' hg' _ => ?_⟩
          rw [hr] at hg'; cases hg'
          rw [h, hB, if_pos hroom, hAg]
          exact appRow_idem _ _ _ _ _ hfit
        · rw [hB, if_neg hroom, hAg] at h
          exact ⟨⟨h1, h2, h3, .inr ⟨g, cur, fr, rfl, e2, h, hfr, hs, ht⟩⟩, fun g' hg' hrm => absurd hrm hroom⟩
  obtain ⟨ho, hBw⟩ := hwOwn
  obtain ⟨ad', cap', w', r1, r2, r3, r4, r5⟩ := run_append_at (u := u) (ty := ty) E ho hx h63 hbytes (Nat.le_trans hbase hsz0)
  refine ⟨_, w', r1, ⟨hrow ▸ r3, ?_⟩, ad', cap', rfl, r2, ?_, fun a ha => ?_⟩
  · intro g hg
    have had : ad = some ⟨g, 0, .none⟩ := by
      rw [hrow] at hg
      obtain ⟨_, _, _, ⟨e1, _⟩ | ⟨g', cur, fr, e1, _⟩⟩ := ho
      · rw [e1] at hg; cases hg
      · rw [e1] at hg ⊢; cases hg; rfl
    rcases r5 g had with ⟨hrm, h⟩ | ⟨h, _⟩
    · rw [hBw g hg hrm] at h
      rcases hrc g hg with h2 | ⟨_, h2⟩
      · exact .inr ⟨h2.trans (hA g hg).symm, h⟩
      · exact .inl (h.trans h2.symm)
    · exact .inl h
  · intro a ha hg
    have had : ad = some ⟨a.block, 0, .none⟩ := by
      rw [hrow] at hg
      obtain ⟨_, _, _, ⟨e1, _⟩ | ⟨g', cur, fr, e1, _⟩⟩ := ho
      · rw [e1] at hg; cases hg
      · rw [e1] at hg ⊢; cases hg; rfl
    rcases r5 a.block had with ⟨hrm, h⟩ | ⟨_, h⟩
    · rw [h]; exact hBw _ hg.symm hrm
    · exact absurd rfl (h a ha)
  · rcases r4 a ha with h | h
    · exact .inl (by rw [hrow, h]; rfl)
    · exact .inr (Nat.le_trans hsz0 h)
/-- a row becomes another one, just once; a block turns into something good -/
structure Duo (row : Option Nat) (A B : Option Obj) (g : Nat) (Good : World → Prop) (w w' : World) : Prop where
  os : w'.os = w.os
  tape : w'.tape = w.tape
  output : w'.output = w.output
  size : w.heap.size ≤ w'.heap.size
  block : ∀ k, k < w.heap.size → some k ≠ row → k ≠ g → w'.heap[k]? = w.heap[k]?
  row : ∀ r, row = some r → w'.heap[r]? = w.heap[r]? ∨ (w.heap[r]? = A ∧ w'.heap[r]? = B)
  turn : w'.heap[g]? = w.heap[g]? ∨ Good w'
  good : Good w → Good w'
variable {row : Option Nat} {A B : Option Obj} {g : Nat} {Good : World → Prop}
theorem Duo.refl (w : World) : Duo row A B g Good w w := ⟨rfl, rfl, rfl, Nat.le_refl _, fun _ _ _ _ => rfl, fun _ _ => .inl rfl, .inl rfl, id⟩
theorem Duo.trans {a b c : World} (h : Duo row A B g Good a b) (k : Duo row A B g Good b c) : Duo row A B g Good a c :=
  ⟨k.os.trans h.os, k.tape.trans h.tape, k.output.trans h.output, Nat.le_trans h.size k.size,
   fun j hj h1 h2 => (k.block j (Nat.lt_of_lt_of_le hj h.size) h1 h2).trans (h.block j hj h1 h2),
   fun r hr => by
    rcases h.row r hr with h1 | ⟨h1, h2⟩ <;> rcases k.row r hr with k1 | ⟨k1, k2⟩
    · exact .inl (k1.trans h1)
    · exact .inr ⟨h1 ▸ k1, k2⟩
    · exact .inr ⟨h1, k1.trans h2⟩
    · exact .inr ⟨h1, k2⟩,
   by
    rcases k.turn with k1 | k1
    · rcases h.turn with h1 | h1
      · exact .inl (k1.trans h1)
      · exact .inr (k.good h1)
    · exact .inr k1,
   fun x => k.good (h.good x)⟩
theorem Duo.drew (hd : ∀ w, Good w → Good w.drew) (w : World) : Duo row A B g Good w w.drew := ⟨rfl, rfl, rfl, Nat.le_refl _, fun _ _ _ _ => rfl, fun _ _ => .inl rfl, .inl rfl, hd w⟩
theorem Gr.duo {w w' : World} (h : Gr w w') (hr : ∀ r, row = some r → r < w.heap.size) (hg : g < w.heap.size) (hk : Good w → Good w') : Duo row A B g Good w w' :=
  ⟨h.os, h.tape, h.output, h.size, fun k hk _ _ => h.block k hk, fun r hr' => .inl (h.block r (hr r hr')), .inl (h.block g hg), hk⟩
theorem Once.duo {w w' : World} (h : Once row A B w w') (hg : g < w.heap.size) (hgr : some g ≠ row) (hk : Good w → Good w') : Duo row A B g Good w w' :=
  ⟨h.1.os, h.1.tape, h.1.output, h.1.size, fun k hk h1 _ => h.1.block k hk h1, h.2, .inl (h.1.block g hg hgr), hk⟩
@[go_sem] theorem duo_refl (w : World) : Duo row A B g Good w w ↔ True := ⟨fun _ => trivial, fun _ => Duo.refl w⟩
theorem Duo.cell {w w' : World} (h : Duo row A B g Good w w') {p : Addr} {v : Value} (hp : w.cell? p = some v) (hne : some p.block ≠ row) (hg : p.block ≠ g) : w'.cell? p = some v := by
  have := h.block p.block (World.block_lt_of_cell? w p hp) hne hg
  unfold World.cell? at hp ⊢
  rw [this]; exact hp
theorem Duo.far {w w' a : World} (h : Duo row A B g Good w w') (hr : ∀ r, row = some r → a.heap.size ≤ r) (k : a.grownBy w (some g)) : a.grownBy w' (some g) :=
  ⟨h.os.trans k.os, h.tape.trans k.tape, h.output.trans k.output, Nat.le_trans k.size h.size, fun j hj hne => by
    have hj2 := Nat.lt_of_lt_of_le hj k.size
    exact (h.block j hj2 (fun e => by have := hr j e.symm; omega) (fun e => hne (by rw [e]))).trans (k.block j hj hne)⟩
theorem Apn.duo {base : Nat} {e : TypeId} {size n : Nat} {xs : List Value} {N : Nat} {v : Value} {w1 w2 : World} (h : Apn row B base e size n xs N v w1) (hg : g < N) (hgr : some g ≠ row) (k : Duo row A B g Good w1 w2) : Apn row B base e size n xs N v w2 := by
  obtain ⟨ad, cap, rfl, ho, hb, hn⟩ := h
  have key : ∀ y, ad = some y → w2.heap[y.block]? = w1.heap[y.block]? := by
    intro y hy
    by_cases hr : some y.block = row
    · have h1 := hb _ hy hr
      rcases k.row y.block hr.symm with h2 | ⟨_, h2⟩
      · exact h2
      · rw [h2]; exact h1.symm
    · refine k.block y.block (ho.lt _ hy).2 hr (fun e => ?_)
      rcases hn y hy with h1 | h1
      · exact hr h1
      · omega
  exact ⟨ad, cap, rfl, ho.kept (fun g' hg' => key _ hg'), fun y hy hr => by rw [key y hy]; exact hb y hy hr, hn⟩
theorem Apn.dstable {base : Nat} {e : TypeId} {size n : Nat} {xs : List Value} {N : Nat} (hg : g < N) (hgr : some g ≠ row) : Stable (Duo row A B g Good) (Apn row B base e size n xs N) := fun _ _ _ h k => h.duo hg hgr k
/-- one element, in a block that was made since -/
def OneD (N : Nat) (xs : List Value) : Value → World → Prop := fun v w => ∃ g e fr, v = .slice (some ⟨g, 0, none⟩) 1 1 ∧ N ≤ g ∧ w.heap[g]? = some (.cells xs.toArray e fr)
theorem OneD.dstable {N : Nat} {xs : List Value} (hg : g < N) (hr : ∀ r, row = some r → r < N) : Stable (Duo row A B g Good) (OneD N xs) := by
  rintro v w1 w2 ⟨k, e, fr, rfl, hN, hk⟩ d
  exact ⟨k, e, fr, rfl, hN, (d.block k (Array.getElem?_eq_some_iff.1 hk).1 (fun e => by have := hr k e.symm; omega) (by omega)).trans hk⟩
/-- a block whose last cell is the slice of the append -/
def TailGood (row : Option Nat) (B : Option Obj) (base : Nat) (t e : TypeId) (size n : Nat) (xs : List Value) (N g : Nat) (cs : List Value) (w : World) : Prop := ∃ v, Blk w g t (cs ++ [v]) ∧ Apn row B base e size n xs N v w
theorem TailGood.duo {base : Nat} {t e : TypeId} {size n : Nat} {xs : List Value} {N : Nat} {cs : List Value} {w1 w2 : World} (h : TailGood row B base t e size n xs N g cs w1) (hg : g < N) (hgr : some g ≠ row) (k : Duo row A B g Good w1 w2) (hs : w2.heap[g]? = w1.heap[g]?) : TailGood row B base t e size n xs N g cs w2 := by
  obtain ⟨v, h1, h2⟩ := h
  exact ⟨v, hs.trans h1, h2.duo hg hgr k⟩
theorem TailGood.drew {base : Nat} {t e : TypeId} {size n : Nat} {xs : List Value} {N : Nat} {cs : List Value} (hg : g < N) (hgr : some g ≠ row) (w : World) (h : TailGood row B base t e size n xs N g cs w) : TailGood row B base t e size n xs N g cs w.drew :=
  h.duo (A := none) (Good := fun _ => True) hg hgr (Duo.drew (fun _ _ => trivial) w) rfl
theorem duo_set {base : Nat} {t e : TypeId} {size n : Nat} {xs : List Value} {N : Nat} {cs : List Value} {v : Value} {w : World} {i : Nat} (hB : Blk (w.setCell ⟨g, i, none⟩ v) g t (cs ++ [v])) (ha : Apn row B base e size n xs N v w) (hg : g < N) (hgr : some g ≠ row) :
    Duo row A B g (TailGood row B base t e size n xs N g cs) w (w.setCell ⟨g, i, none⟩ v) ∧ TailGood row B base t e size n xs N g cs (w.setCell ⟨g, i, none⟩ v) := by
  have hf := grown_set w g i v
  have k : Duo row A B g (fun _ => True) w (w.setCell ⟨g, i, none⟩ v) :=
    ⟨hf.os, hf.tape, hf.output, hf.size, fun k hk _ h => hf.block k hk (fun e => h (Option.some.inj e)), fun r hr => .inl (Below.heap_setCell w _ v r (fun e => hgr (by rw [hr, e]))), .inr trivial, fun _ => trivial⟩
  have good : TailGood row B base t e size n xs N g cs (w.setCell ⟨g, i, none⟩ v) := ⟨v, hB, ha.duo hg hgr k⟩
  exact ⟨⟨k.os, k.tape, k.output, k.size, k.block, k.row, .inr good, fun _ => good⟩, good⟩
/-- a good thing since -/
def SinceG (G : World → Prop) : Value → World → Prop := fun _ w => G w
theorem SinceG.stable : Stable (Duo row A B g Good) (SinceG Good) := fun _ _ _ h k => k.good h
theorem region_duo (row : Option Nat) (A B : Option Obj) (g : Nat) (Good : World → Prop) (hd : ∀ w, Good w → Good w.drew) {id : Nat} {Q : Exit → Act → World → Prop} {a0 : Act} {w : World} {l : List Oper} (n : Nat) (Rs : List (Value → World → Prop))
    (hm : P.follows .mixedOrders = true) (hB : anyB l n = true) (_ : true = true) (hlen : Rs.length = l.length) (hn : a0.tmps.size = n) (hst : AllStable (Duo row A B g Good) Rs)
    (hs : AllShown P (Duo row A B g Good) l Rs a0 w l 0) (hfin : ∀ w1 val, Duo row A B g Good w w1 → Holds val w1 Rs 0 → Q .normal (putAll val l 0 a0) w1) : (Code.region id l.toArray true).wp P Q a0 w :=
  region_any_store Duo.refl (fun _ _ _ => Duo.trans) (Duo.drew hd) n (nth Rs) hm hB hn (fun i v w1 w2 => hst.get i v w1 w2) (fun i o hi => by simpa using hs.get i o hi)
    (fun w1 val hg h => by
      have hex : ∀ i, ∃ v, (i < l.length → nth Rs i v w1) ∧ ∀ o, l[i]? = some o → o.dst.isSome = true → val i = v := by
        intro i
        by_cases hi : i < l.length
        · obtain ⟨v, hv, he⟩ := h i l[i] (by simp [hi])
          exact ⟨v, fun _ => hv, fun o ho hd => by rw [List.getElem?_eq_getElem hi] at ho; cases ho; exact he hd⟩
        · exact ⟨undef, fun h => absurd h hi, fun o ho => by rw [List.getElem?_eq_none (by omega)] at ho; cases ho⟩
      obtain ⟨val2, h2⟩ := Classical.axiomOfChoice hex
      rw [putAll_congr (f := val) (g := val2) l 0 a0 fun i o hi hd => by rw [Nat.zero_add]; exact (h2 i).2 o hi hd]
      exact hfin w1 val2 hg (Holds.of fun i hi => by rw [Nat.zero_add]; exact (h2 i).1 (by omega)))
end
end Go.Proofs.Ytfnimpgphagnfaa
