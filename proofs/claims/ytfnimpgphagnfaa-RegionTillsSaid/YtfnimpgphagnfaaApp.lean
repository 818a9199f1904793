/- An append to a slice that the call owns, within a region that draws its order: whatever is done beside. No program is in sight here. -/
import Derived.Test.YtfnimpgphagnfaaAnyT
import Derived.Test.YtfnimpgphagnfaaBlk
namespace Go.Proofs.Ytfnimpgphagnfaa
set_option linter.unusedVariables false
set_option linter.unusedSimpArgs false
open Go.RowKit
section
variable {P : Program}
/-- what append leaves of a block that has room -/
def appRow (n : Nat) (news : List Value) : Option Obj → Option Obj
  | some (.cells cur e fr) => some (.cells (cur.toList.take n ++ news ++ cur.toList.drop (n + news.length)).toArray e fr)
  | o => o
theorem appRow_idem (n : Nat) (news : List Value) (cur : Array Value) (e : TypeId) (fr : Nat × Nat) (h : n + news.length ≤ cur.size) :
    appRow n news (appRow n news (some (.cells cur e fr))) = appRow n news (some (.cells cur e fr)) := by
  simp only [appRow]
  have hn : (cur.toList.take n).length = n := by simp; omega
  have e1 : (cur.toList.take n ++ news ++ cur.toList.drop (n + news.length)).take n = cur.toList.take n := by
    rw [List.append_assoc]
    have := List.take_left (l₁ := cur.toList.take n) (l₂ := news ++ cur.toList.drop (n + news.length))
    rwa [hn] at this
  have e2 : (cur.toList.take n ++ news ++ cur.toList.drop (n + news.length)).drop (n + news.length) = cur.toList.drop (n + news.length) := by
    have := List.drop_left (l₁ := cur.toList.take n ++ news) (l₂ := cur.toList.drop (n + news.length))
    rwa [show (cur.toList.take n ++ news).length = n + news.length by rw [List.length_append, hn]] at this
  rw [e1, e2]
/-- a block may become another one, just once -/
def Once (row : Option Nat) (A B : Option Obj) (w w' : World) : Prop := w.grownBy w' row ∧ ∀ g, row = some g → w'.heap[g]? = w.heap[g]? ∨ (w.heap[g]? = A ∧ w'.heap[g]? = B)
section
variable {row : Option Nat} {A B : Option Obj}
theorem Once.refl (w : World) : Once row A B w w := ⟨(Gr.refl w).far, fun _ _ => .inl rfl⟩
theorem Once.trans {a b c : World} (h : Once row A B a b) (k : Once row A B b c) : Once row A B a c :=
  ⟨grown_trans h.1 k.1, fun g hg => by
    rcases h.2 g hg with h1 | ⟨h1, h2⟩ <;> rcases k.2 g hg with k1 | ⟨k1, k2⟩
    · exact .inl (k1.trans h1)
    · exact .inr ⟨h1 ▸ k1, k2⟩
    · exact .inr ⟨h1, k1.trans h2⟩
    · exact .inr ⟨h1, k2⟩⟩
theorem Once.drew (w : World) : Once row A B w w.drew := ⟨grown_drew w row, fun _ _ => .inl rfl⟩
theorem Gr.once {w w' : World} (h : Gr w w') (hr : ∀ g, row = some g → g < w.heap.size) : Once row A B w w' := ⟨h.far, fun g hg => .inl (h.block g (hr g hg))⟩
theorem Once.size {w w' : World} (h : Once row A B w w') : w.heap.size ≤ w'.heap.size := h.1.size
theorem Once.cell {w w' : World} (h : Once row A B w w') {p : Addr} {v : Value} (hp : w.cell? p = some v) (hne : some p.block ≠ row) : w'.cell? p = some v := by
  have := h.1.block p.block (World.block_lt_of_cell? w p hp) hne
  unfold World.cell? at hp ⊢
  rw [this]; exact hp
theorem Once.owns {w w' : World} (h : Once row A B w w') {base : Nat} {e : TypeId} {size : Nat} {ad : Option Addr} {cap n : Nat} {xs : List Value} (ho : Owns w base e size ad cap n xs)
    (hne : ∀ a, ad = some a → some a.block ≠ row) : Owns w' base e size ad cap n xs := ho.grown h.1 hne
theorem Once.bytes {w w' : World} (h : Once row A B w w') {ad : Option Addr} {l : List UInt8} (hb : Bytes w ad l) (hne : ∀ a, ad = some a → some a.block ≠ row) : Bytes w' ad l := fun i hi => by
  obtain ⟨b, off, e, hc⟩ := hb i hi
  exact ⟨b, off, e, h.cell hc (show some b ≠ row from hne ⟨b, off, none⟩ e)⟩
@[go_sem] theorem once_refl (w : World) : Once row A B w w ↔ True := ⟨fun _ => trivial, fun _ => Once.refl w⟩
theorem region_tail_once {id : Nat} {Q : Exit → Act → World → Prop} {a0 : Act} {w : World} {l : List Oper} (row : Option Nat) (A B : Option Obj) (n0 n : Nat) (Rs : List (Value → World → Prop))
    (hm : P.follows .mixedOrders = true) (hB : anyB (l.take n0) n = true) (hT : tailB l n0 = true) (hd : (l.take n0).all (·.dst.isSome) = true) (hlen : Rs.length = (l.take n0).length) (hn : a0.tmps.size = n) (hst : AllStable (Once row A B) Rs)
    (hs : AllShown P (Once row A B) (l.take n0) Rs a0 w (l.take n0) 0) (hfin : ∀ w1 val, Once row A B w w1 → Holds val w1 Rs 0 → wpList P l.toArray Q (l.drop n0) (putAll val (l.take n0) 0 a0) w1) : (Code.region id l.toArray true).wp P Q a0 w :=
  region_any_tail Once.refl (fun _ _ _ => Once.trans) Once.drew n0 n (nth Rs) hm hB hT hn (fun i v w1 w2 => hst.get i v w1 w2) (fun i o hi => by simpa using hs.get i o hi)
    (fun w1 val hg h => hfin w1 val hg (Holds.of fun i hi => by
      have hi' : i < (l.take n0).length := by omega
      rw [Nat.zero_add]
      exact h i (l.take n0)[i] (by rw [List.getElem?_eq_getElem hi']) (List.all_eq_true.1 hd _ (List.getElem_mem hi'))))
/-- bytes that were made since -/
def MadeB (base : Nat) (e : TypeId) (l : List UInt8) : Value → World → Prop := fun v w => ∃ ad cap, v = .slice ad l.length cap ∧ Owns w base e 1 ad cap l.length (bv l)
theorem MadeB.stable {base : Nat} {e : TypeId} {l : List UInt8} (h : ∀ g, row = some g → g < base) : Stable (Once row A B) (MadeB base e l) := by
  rintro v w1 w2 ⟨ad, cap, rfl, ho⟩ k
  exact ⟨ad, cap, rfl, k.owns ho fun a ha hr => by have := (ho.lt a ha).1; have := h _ hr.symm; omega⟩
/-- what the slice of the append is known to be -/
def Apd (row : Option Nat) (B : Option Obj) (base : Nat) (e : TypeId) (size n : Nat) (xs : List Value) : Value → World → Prop := fun v w =>
  ∃ ad cap, v = .slice ad n cap ∧ Owns w base e size ad cap n xs ∧ ∀ a, ad = some a → some a.block = row → w.heap[a.block]? = B
theorem Apd.stable (base : Nat) (e : TypeId) (size n : Nat) (xs : List Value) : Stable (Once row A B) (Apd row B base e size n xs) := by
  rintro v w1 w2 ⟨ad, cap, rfl, ho, hb⟩ h
  have key : ∀ g, ad = some ⟨g, 0, .none⟩ → w2.heap[g]? = w1.heap[g]? := by
    intro g hg
    by_cases hr : some g = row
    · have h1 := hb _ hg hr
      rcases h.2 g hr.symm with h2 | ⟨_, h2⟩
      · exact h2
      · rw [h2]; exact h1.symm
    · exact h.1.block g (ho.lt _ hg).2 hr
  refine ⟨ad, cap, rfl, ho.kept key, fun a ha hr => ?_⟩
  obtain ⟨_, _, _, ⟨e1, _⟩ | ⟨g, cur, fr, e1, _⟩⟩ := ho
  · rw [e1] at ha; cases ha
  · rw [e1] at ha; cases ha
    rw [key g e1]; exact hb _ e1 hr
/-- the same, and where it lies: in the row, or in a block that was made since -/
def Apn (row : Option Nat) (B : Option Obj) (base : Nat) (e : TypeId) (size n : Nat) (xs : List Value) (N : Nat) : Value → World → Prop := fun v w =>
  ∃ ad cap, v = .slice ad n cap ∧ Owns w base e size ad cap n xs ∧ (∀ a, ad = some a → some a.block = row → w.heap[a.block]? = B) ∧ ∀ a, ad = some a → some a.block = row ∨ N ≤ a.block
theorem Apn.stable (base : Nat) (e : TypeId) (size n : Nat) (xs : List Value) (N : Nat) : Stable (Once row A B) (Apn row B base e size n xs N) := by
  rintro v w1 w2 ⟨ad, cap, rfl, ho, hb, hn⟩ h
  obtain ⟨ad', cap', he, ho', hb'⟩ := Apd.stable (A := A) base e size n xs (.slice ad n cap) w1 w2 ⟨ad, cap, rfl, ho, hb⟩ h
  cases he
  exact ⟨ad, cap, rfl, ho', hb', hn⟩
end
/-- append, and what it does to the block itself -/
theorem run_append_at {t u ty e : TypeId} {z : Value} {size bytes : Nat} (E : Elem P t e z size bytes) {w : World} {base : Nat} {ad : Option Addr} {cap n : Nat} {xs : List Value}
    (hown : Owns w base e size ad cap n xs) {x : Value} {m : Nat} {news : List Value} (hx : Src P u w size x m news)
    (h63 : n + m ≤ maxLen) (hbytes : (n + m) * bytes ≤ 140737488355328) (hbase : base ≤ w.heap.size) :
    ∃ ad' cap' w', (Builtin.append_ #[t, u] ty #[.slice ad n cap, x]).run P w = .ok (.slice ad' (n + m) cap') w' ∧ Owns w' base e size ad' cap' (n + m) (xs ++ news) ∧
      w.grownBy w' (ad.map (·.block)) ∧ (∀ a, ad' = some a → ad = some a ∨ w.heap.size ≤ a.block) ∧
      (∀ g, ad = some ⟨g, 0, .none⟩ → (n + m ≤ cap ∧ w'.heap[g]? = appRow (n * size) news w.heap[g]?) ∨ (w'.heap[g]? = w.heap[g]? ∧ ∀ a, ad' = some a → a.block ≠ g)) := by
  obtain ⟨ad', cap', w', h1, h2, h3, h4⟩ := run_append (ty := ty) E hown hx h63 hbytes hbase
  refine ⟨ad', cap', w', h1, h2, h3, h4, fun g hg => ?_⟩
  have hglt := (hown.lt _ hg).2
  obtain ⟨ht, hinfo, hzs, hpos⟩ := E
  obtain ⟨i, hi, hz, hsize, hby⟩ := info_parts hinfo
  subst hsize
  subst hby
  obtain ⟨d, hd, hdd⟩ : ∃ d, P.underlying u = some d ∧ (d = .string ∨ ∃ e', d = .slice e') := by
    obtain ⟨_, _, ⟨_, _, e', _, _, hu⟩ | ⟨_, _, _, _, _, hu⟩⟩ := hx
    · exact ⟨_, hu, .inr ⟨e', rfl⟩⟩
    · exact ⟨_, hu, .inl rfl⟩
  have hlen := hx.lenOf (P := P) w
  have hfirst := hx.first
  have hxl := hx.1
  have h1c := hx.2.1
  obtain ⟨hl, hnc, hcm, hcase⟩ := hown
  subst hg
  by_cases hroom : n + m ≤ cap
  · left
    refine ⟨hroom, ?_⟩
    rcases hcase with ⟨h, _⟩ | ⟨g', cur, fr, e1, hbg, hg, hfr, hcs, htake⟩
    · cases h
    · cases e1
      have hfit : n * i.size + 0 + news.length ≤ cur.size := by rw [hxl, hcs, Nat.add_zero, ← Nat.add_mul]; exact Nat.mul_le_mul_right _ hroom
      have hst := run_storeCells_un (P := P) g (n * i.size) e fr news 0 cur w hg hfr hfit h1c
      simp only [Nat.add_zero] at hst
      have hr : (Builtin.append_ #[t, u] ty #[.slice (some ⟨g, 0, .none⟩) n cap, x]).run P w = .ok (.slice (some ⟨g, 0, .none⟩) (n + m) cap) (w.setRow g (cur.toList.take (n * i.size) ++ news ++ cur.toList.drop (n * i.size + news.length)).toArray) := by
        rcases hdd with rfl | ⟨e', rfl⟩ <;> simp [Builtin.append_, run_underlying ht, run_underlying hd, sizeOf, typeInfo, hi, hlen, hroom, hfirst, Addr.add_lit, hst]
      rw [hr] at h1
      cases h1
      rw [hg, setRow_heap w g cur _ e fr hg]
      rfl
  · right
    rcases hcase with ⟨h, _⟩ | ⟨g', cur, fr, e1, hbg, hg, hfr, hcs, htake⟩
    · cases h
    · cases e1
      have hold : (Builtin.firstCells i.size n (.slice (some ⟨g, 0, .none⟩) n cap)).run P w.drew = .ok xs.toArray w.drew := by
        have hrow : Row w (some ⟨g, 0, .none⟩) xs := Owns.row (base := base) (e := e) (size := i.size) (cap := cap) (n := n) ⟨hl, hnc, hcm, .inr ⟨g, cur, fr, rfl, hbg, hg, hfr, hcs, htake⟩⟩
        refine run_firstCells_some (P := P) w.drew i.size n _ n cap xs hl ?_
        intro j v hj
        obtain ⟨b, off, hh, hc⟩ := hrow j v hj
        cases hh
        have hadd : (⟨g, 0, none⟩ : Addr).add j = ⟨g, 0 + j, none⟩ := by unfold Addr.add; split <;> simp_all
        rw [hadd]; exact hc
      have hfirst' := (hx.gr (Gr.drew w)).first
      have hnr : ¬ (n + m ≤ cap) := hroom
      have h63' : ¬ (9223372036854775807 < ((n : Int) + (m : Int))) := by unfold maxLen at h63; omega
      have hfit := growslice_fits (need := n + m) (old := cap) (bytes := i.bytes) (by omega) hbytes
      have h48' : ¬ (281474976710656 < Builtin.nextslicecap (n + m) cap * i.bytes) := by omega
      have hr : ∃ o, (Builtin.append_ #[t, u] ty #[.slice (some ⟨g, 0, .none⟩) n cap, x]).run P w = .ok (.slice (some ⟨w.heap.size, 0, .none⟩) (n + m) (grownCap w (n + m) cap e)) (w.drew.alloc o) := by
        refine ⟨.cells (xs.toArray ++ news.toArray ++ Builtin.zeroCells z.cells (grownCap w (n + m) cap e - (n + m))) e, ?_⟩
        rcases hdd with rfl | ⟨e', rfl⟩ <;> simp [Builtin.append_, run_underlying ht, run_underlying hd, sizeOf, typeInfo, zeroValue, hi, hz, hlen, hnr, h63', h48', Question.forced, hfirst', hold, newRow, grownCap]
        all_goals (congr 2; apply Array.ext'; simp [List.append_assoc])
      obtain ⟨o, hr⟩ := hr
      rw [hr] at h1
      cases h1
      exact ⟨Below.heap_alloc w.drew _ g hglt, fun a ha => by cases ha; exact Nat.ne_of_gt hglt⟩
/-- THE STEP of such an append: whatever is done beside it -/
theorem append_once2 {t u e : TypeId} {z : Value} {size bytes : Nat} (E : Elem P t e z size bytes) {w0 w : World} {base : Nat} {ad : Option Addr} {cap n : Nat} {xs : List Value}
    (hown : Owns w0 base e size ad cap n xs) {x : Value} {m : Nat} {news : List Value} {row : Option Nat} (hrow : row = ad.map (·.block))
    {A B : Option Obj} (hA : ∀ g, row = some g → A = w0.heap[g]?) (hB : B = if n + m ≤ cap then appRow (n * size) news A else A)
    (hle : Once row A B w0 w) (hx : Src P u w size x m news)
    (h63 : n + m ≤ maxLen) (hbytes : (n + m) * bytes ≤ 140737488355328) (hbase : base ≤ w0.heap.size) {ty : TypeId} :
    ∃ v w', (Builtin.append_ #[t, u] ty #[.slice ad n cap, x]).run P w = .ok v w' ∧ Once row A B w w' ∧ Apn row B base e size (n + m) (xs ++ news) w0.heap.size v w' := by
  have hwOwn : Owns w base e size ad cap n xs ∧ ∀ g, row = some g → n + m ≤ cap → appRow (n * size) news w.heap[g]? = B := by
    obtain ⟨h1, h2, h3, ⟨e1, e2, e3⟩ | ⟨g, cur, fr, e1, e2, hg, hfr, hs, ht⟩⟩ := hown
    · subst e1
      exact ⟨⟨h1, h2, h3, .inl ⟨rfl, e2, e3⟩⟩, fun g hg => by rw [hrow] at hg; cases hg⟩
    · subst e1
      have hr : row = some g := hrow
      have hAg := hA g hr
      rw [hg] at hAg
      rcases hle.2 g hr with h | ⟨_, h⟩
      · rw [hg] at h
        refine ⟨⟨h1, h2, h3, .inr ⟨g, cur, fr, rfl, e2, h, hfr, hs, ht⟩⟩, fun g' hg' hrm => ?_⟩
        rw [hr] at hg'; cases hg'
        rw [h, hB, if_pos hrm, hAg]
      · have hnc : n * size ≤ cur.size := by rw [hs]; exact Nat.mul_le_mul_right _ h2
        have hlen : (cur.toList.take (n * size)).length = n * size := by simp; omega
        have htk : (cur.toList.take (n * size) ++ news ++ cur.toList.drop (n * size + news.length)).take (n * size) = xs := by
          rw [List.append_assoc]
          have := List.take_left (l₁ := cur.toList.take (n * size)) (l₂ := news ++ cur.toList.drop (n * size + news.length))
          rw [hlen] at this
          rw [this, ht]
        by_cases hroom : n + m ≤ cap
        · rw [hB, if_pos hroom, hAg] at h
          have hfit : n * size + news.length ≤ cur.size := by rw [hx.1, hs, ← Nat.add_mul]; exact Nat.mul_le_mul_right _ hroom
          have hsz : (cur.toList.take (n * size) ++ news ++ cur.toList.drop (n * size + news.length)).toArray.size = cur.size := by simp; omega
          refine ⟨⟨h1, h2, h3, .inr ⟨g, _, fr, rfl, e2, h, by rw [hsz]; exact hfr, by rw [hsz]; exact hs, htk⟩⟩, fun g' hg' _ => ?_⟩
          rw [hr] at hg'; cases hg'
          rw [h, hB, if_pos hroom, hAg]
          exact appRow_idem _ _ _ _ _ hfit
        · rw [hB, if_neg hroom, hAg] at h
          exact ⟨⟨h1, h2, h3, .inr ⟨g, cur, fr, rfl, e2, h, hfr, hs, ht⟩⟩, fun g' hg' hrm => absurd hrm hroom⟩
  obtain ⟨ho, hBw⟩ := hwOwn
  obtain ⟨ad', cap', w', r1, r2, r3, r4, r5⟩ := run_append_at (u := u) (ty := ty) E ho hx h63 hbytes (Nat.le_trans hbase hle.size)
  refine ⟨_, w', r1, ⟨hrow ▸ r3, ?_⟩, ad', cap', rfl, r2, ?_, fun a ha => ?_⟩
  · intro g hg
    have had : ad = some ⟨g, 0, .none⟩ := by
      rw [hrow] at hg
      obtain ⟨_, _, _, ⟨e1, _⟩ | ⟨g', cur, fr, e1, _⟩⟩ := ho
      · rw [e1] at hg; cases hg
      · rw [e1] at hg ⊢; cases hg; rfl
    rcases r5 g had with ⟨hrm, h⟩ | ⟨h, _⟩
    · rw [hBw g hg hrm] at h
      rcases hle.2 g hg with h2 | ⟨_, h2⟩
      · exact .inr ⟨h2.trans (hA g hg).symm, h⟩
      · exact .inl (h.trans h2.symm)
    · exact .inl h
  · intro a ha hg
    have had : ad = some ⟨a.block, 0, .none⟩ := by
      rw [hrow] at hg
      obtain ⟨_, _, _, ⟨e1, _⟩ | ⟨g', cur, fr, e1, _⟩⟩ := ho
      · rw [e1] at hg; cases hg
      · rw [e1] at hg ⊢; cases hg; rfl
    rcases r5 a.block had with ⟨hrm, h⟩ | ⟨_, h⟩
    · rw [h]; exact hBw _ hg.symm hrm
    · exact absurd rfl (h a ha)
  · rcases r4 a ha with h | h
    · exact .inl (by rw [hrow, h]; rfl)
    · exact .inr (Nat.le_trans hle.size h)
theorem append_once {t u e : TypeId} {z : Value} {size bytes : Nat} (E : Elem P t e z size bytes) {w0 w : World} {base : Nat} {ad : Option Addr} {cap n : Nat} {xs : List Value}
    (hown : Owns w0 base e size ad cap n xs) {x : Value} {m : Nat} {news : List Value} {row : Option Nat} (hrow : row = ad.map (·.block))
    {A B : Option Obj} (hA : ∀ g, row = some g → A = w0.heap[g]?) (hB : B = if n + m ≤ cap then appRow (n * size) news A else A)
    (hle : Once row A B w0 w) (hx : Src P u w size x m news)
    (h63 : n + m ≤ maxLen) (hbytes : (n + m) * bytes ≤ 140737488355328) (hbase : base ≤ w0.heap.size) {ty : TypeId} :
    ∃ v w', (Builtin.append_ #[t, u] ty #[.slice ad n cap, x]).run P w = .ok v w' ∧ Once row A B w w' ∧ Apd row B base e size (n + m) (xs ++ news) v w' := by
  obtain ⟨v, w', h1, h2, ad', cap', h3, h4, h5, _⟩ := append_once2 (ty := ty) E hown hrow hA hB hle hx h63 hbytes hbase
  exact ⟨v, w', h1, h2, ad', cap', h3, h4, h5⟩
end
end Go.Proofs.Ytfnimpgphagnfaa
