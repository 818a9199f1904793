/- Appends to slices that a region which draws its order makes itself. No program is in sight here. -/
import Derived.Test.YtfnimpgphagnfaaApp
namespace Go.Proofs.Ytfnimpgphagnfaa
set_option linter.unusedVariables false
set_option linter.unusedSimpArgs false
open Go.RowKit
section
variable {P : Program}
def Roomy (k : Nat) : Option Obj → Prop
  | some (.cells cur _ _) => k ≤ cur.size
  | _ => False
/-- the blocks below N are what they were; a later one may have had its cells from n on overwritten by these, once -/
def Fresh (N n : Nat) (news : List Value) (w w' : World) : Prop := Below N w w' ∧ ∀ g, g < w.heap.size → w'.heap[g]? = w.heap[g]? ∨ (Roomy (n + news.length) w.heap[g]? ∧ w'.heap[g]? = appRow n news w.heap[g]?)
theorem Fresh.refl {N n : Nat} {news : List Value} (w : World) : Fresh N n news w w := ⟨Below.refl _ _, fun _ _ => .inl rfl⟩
theorem Fresh.size {N n : Nat} {news : List Value} {w w' : World} (h : Fresh N n news w w') : w.heap.size ≤ w'.heap.size := h.1.size
theorem Fresh.trans {N n : Nat} {news : List Value} {a b c : World} (h : Fresh N n news a b) (k : Fresh N n news b c) : Fresh N n news a c := by
  refine ⟨h.1.trans k.1, fun g hg => ?_⟩
  rcases h.2 g hg with h1 | ⟨hr, h1⟩ <;> rcases k.2 g (Nat.lt_of_lt_of_le hg h.size) with k1 | ⟨kr, k1⟩
  · exact .inl (k1.trans h1)
  · rw [h1] at kr k1; exact .inr ⟨kr, k1⟩
  · exact .inr ⟨hr, k1.trans h1⟩
  · rw [h1] at k1
    refine .inr ⟨hr, k1.trans ?_⟩
    generalize a.heap[g]? = o at hr ⊢
    match o, hr with
    | some (.cells cur e fr), hr => exact appRow_idem n news cur e fr hr
theorem Fresh.drew {N n : Nat} {news : List Value} (w : World) : Fresh N n news w w.drew := ⟨(Below.refl _ _).drew, fun _ _ => .inl rfl⟩
theorem Gr.fresh {N n : Nat} {news : List Value} {w w' : World} (h : Gr w w') (hN : N ≤ w.heap.size) : Fresh N n news w w' := ⟨Below.mono h hN, fun g hg => .inl (h.block g hg)⟩
theorem Fresh.gr {N n : Nat} {news : List Value} {w w' w0 : World} (h : Fresh N n news w w') (h0 : Gr w0 w) (hN : w0.heap.size ≤ N) : Gr w0 w' := Below.trans h0 (Below.mono h.1 hN)
theorem appRow_take {n : Nat} {news : List Value} {cur : Array Value} (hr : n + news.length ≤ cur.size) :
    (cur.toList.take n ++ news ++ cur.toList.drop (n + news.length)).toArray.size = cur.size ∧
    (∀ m, m ≤ n → (cur.toList.take n ++ news ++ cur.toList.drop (n + news.length)).toArray.toList.take m = cur.toList.take m) ∧
    (cur.toList.take n ++ news ++ cur.toList.drop (n + news.length)).toArray.toList.take (n + news.length) = cur.toList.take n ++ news := by
  have hn : (cur.toList.take n).length = n := by simp; omega
  refine ⟨by simp; omega, fun m hm => ?_, ?_⟩
  · show (cur.toList.take n ++ news ++ cur.toList.drop (n + news.length)).take m = _
    rw [List.append_assoc, List.take_append_of_le_length (by omega), List.take_take, Nat.min_eq_left hm]
  · show (cur.toList.take n ++ news ++ cur.toList.drop (n + news.length)).take (n + news.length) = _
    have := List.take_left (l₁ := cur.toList.take n ++ news) (l₂ := cur.toList.drop (n + news.length))
    rwa [show (cur.toList.take n ++ news).length = n + news.length by rw [List.length_append, hn]] at this
theorem Fresh.owns {N n : Nat} {news : List Value} {w w' : World} (h : Fresh N n news w w') {base : Nat} {e : TypeId} {size : Nat} {ad : Option Addr} {cap m : Nat} {xs : List Value} (ho : Owns w base e size ad cap m xs)
    (hx : xs.length ≤ n ∨ ∃ ys, xs = ys ++ news ∧ ys.length = n) : Owns w' base e size ad cap m xs := by
  obtain ⟨h1, h2, h3, h4 | ⟨g, cur, fr, e1, e2, hg, hfr, hs, ht⟩⟩ := ho
  · exact ⟨h1, h2, h3, .inl h4⟩
  · have hlt : g < w.heap.size := (Array.getElem?_eq_some_iff.1 hg).1
    rcases h.2 g hlt with hk | ⟨hr, hk⟩
    · exact ⟨h1, h2, h3, .inr ⟨g, cur, fr, e1, e2, hk.trans hg, hfr, hs, ht⟩⟩
    · rw [hg] at hk hr
      obtain ⟨t1, t2, t3⟩ := appRow_take hr
      refine ⟨h1, h2, h3, .inr ⟨g, _, fr, e1, e2, hk, by rw [t1]; exact hfr, by rw [t1]; exact hs, ?_⟩⟩
      rcases hx with hx | ⟨ys, rfl, hy⟩
      · rw [t2 _ (by omega)]; exact ht
      · have hm : m * size = n + news.length := by rw [← h1, List.length_append, hy]
        rw [hm] at ht ⊢
        rw [t3]
        have : cur.toList.take n = ys := by
          have h5 : (cur.toList.take (n + news.length)).take n = (ys ++ news).take n := by rw [ht]
          rw [List.take_take, Nat.min_eq_left (by omega), ← hy, List.take_left] at h5
          rw [← hy]; exact h5
        rw [this]
theorem Fresh.cell {N n : Nat} {news : List Value} {w w' : World} (h : Fresh N n news w w') {p : Addr} {v : Value} (hp : w.cell? p = some v) (hb : p.block < N) : w'.cell? p = some v := by
  have := h.1.block p.block hb
  unfold World.cell? at hp ⊢
  rw [this]; exact hp
theorem Fresh.row {N n : Nat} {news : List Value} {w w' : World} (h : Fresh N n news w w') {ad : Option Addr} {vs : List Value} (hr : Row w ad vs) (hN : w.heap.size ≤ N) : Row w' ad vs := fun i u hi => by
  obtain ⟨b, off, e, hc⟩ := hr i u hi
  exact ⟨b, off, e, h.cell hc (Nat.lt_of_lt_of_le (World.block_lt_of_cell? w _ hc) hN)⟩
theorem Owns.void (w : World) (B : Nat) (e : TypeId) (size : Nat) (hB : B ≤ w.heap.size) : Owns (w.alloc (.cells #[] e)) B e size (some ⟨w.heap.size, 0, none⟩) 0 0 [] :=
  Owns.made w B #[] e (0, 0) size 0 0 [] hB (Nat.zero_le _) (Nat.le_refl _) (by simp) (by simp) (by simp)
/-- a slice that was made since, of so many elements -/
def Made (N : Nat) (e : TypeId) (size m : Nat) (xs : List Value) : Value → World → Prop := fun v w => ∃ ad cap, v = .slice ad m cap ∧ Owns w N e size ad cap m xs
/-- an empty one -/
def Mt (N : Nat) (e : TypeId) (size : Nat) : Value → World → Prop := fun v w => ∃ ad, v = .slice ad 0 0 ∧ Owns w N e size ad 0 0 []
/-- one element, in a block of its own -/
def OneB (xs : List Value) : Value → World → Prop := fun v w => ∃ g e fr, v = .slice (some ⟨g, 0, none⟩) 1 1 ∧ w.heap[g]? = some (.cells xs.toArray e fr)
/-- a slice of what was there -/
def OldRow (N m : Nat) (xs : List Value) : Value → World → Prop := fun v w => ∃ ad cap, v = .slice ad m cap ∧ Row w ad xs ∧ ∀ a, ad = some a → a.block < N
variable {N n : Nat} {news : List Value}
theorem Made.stable (e : TypeId) (size m : Nat) (xs : List Value) (hx : xs.length ≤ n ∨ ∃ ys, xs = ys ++ news ∧ ys.length = n) : Stable (Fresh N n news) (Made N e size m xs) := by
  rintro v w1 w2 ⟨ad, cap, rfl, ho⟩ h
  exact ⟨ad, cap, rfl, h.owns ho hx⟩
theorem Mt.stable (e : TypeId) (size : Nat) : Stable (Fresh N n news) (Mt N e size) := by
  rintro v w1 w2 ⟨ad, rfl, ho⟩ h
  exact ⟨ad, rfl, h.owns ho (.inl (Nat.zero_le _))⟩
theorem OneB.stable : Stable (Fresh N n news) (OneB news) := by
  rintro v w1 w2 ⟨g, e, fr, rfl, hg⟩ h
  refine ⟨g, e, fr, rfl, ?_⟩
  rcases h.2 g (Array.getElem?_eq_some_iff.1 hg).1 with hk | ⟨hr, hk⟩
  · exact hk.trans hg
  · rw [hg] at hk hr
    have h0 : n + news.length ≤ news.length := by have h9 : n + news.length ≤ news.toArray.size := hr; simpa using h9
    obtain rfl : n = 0 := by omega
    rw [hk]
    simp [appRow]
theorem OneB.src {u e' : TypeId} {size : Nat} {xs : List Value} {v : Value} {w : World} (h : OneB xs v w) (hx : xs.length = size) (h1 : ∀ x ∈ xs, x.oneCell' = true) (hu : P.underlying u = some (.slice e')) : Src P u w size v 1 xs := by
  obtain ⟨g, e, fr, rfl, hg⟩ := h
  refine ⟨by omega, h1, .inl ⟨_, _, e', rfl, fun i y hi => ⟨g, 0, rfl, ?_⟩, hu⟩⟩
  unfold World.cell?
  simp only [Nat.zero_add, hg]
  simpa using hi
theorem OldRow.stable (m : Nat) (xs : List Value) : Stable (Fresh N n news) (OldRow N m xs) := by
  rintro v w1 w2 ⟨ad, cap, rfl, hr, hb⟩ h
  refine ⟨ad, cap, rfl, fun i u hi => ?_, hb⟩
  obtain ⟨b, off, e, hc⟩ := hr i u hi
  have := h.1.block b (hb _ e)
  refine ⟨b, off, e, ?_⟩
  unfold World.cell? at hc ⊢
  simp only at hc ⊢
  rw [this]; exact hc
theorem region_tail_fresh {id : Nat} {Q : Exit → Act → World → Prop} {a0 : Act} {w : World} {l : List Oper} (N n : Nat) (news : List Value) (n0 k : Nat) (Rs : List (Value → World → Prop))
    (hm : P.follows .mixedOrders = true) (hB : anyB (l.take n0) k = true) (hT : tailB l n0 = true) (hd : (l.take n0).all (·.dst.isSome) = true) (hlen : Rs.length = (l.take n0).length) (hn : a0.tmps.size = k) (hst : AllStable (Fresh N n news) Rs)
    (hs : AllShown P (Fresh N n news) (l.take n0) Rs a0 w (l.take n0) 0) (hfin : ∀ w1 val, Fresh N n news w w1 → Holds val w1 Rs 0 → wpList P l.toArray Q (l.drop n0) (putAll val (l.take n0) 0 a0) w1) : (Code.region id l.toArray true).wp P Q a0 w :=
  region_any_tail Fresh.refl (fun _ _ _ => Fresh.trans) Fresh.drew n0 k (nth Rs) hm hB hT hn (fun i v w1 w2 => hst.get i v w1 w2) (fun i o hi => by simpa using hs.get i o hi)
    (fun w1 val hg h => hfin w1 val hg (Holds.of fun i hi => by
      have hi' : i < (l.take n0).length := by omega
      rw [Nat.zero_add]
      exact h i (l.take n0)[i] (by rw [List.getElem?_eq_getElem hi']) (List.all_eq_true.1 hd _ (List.getElem_mem hi'))))
@[go_sem] theorem fresh_refl (w : World) : Fresh N n news w w ↔ True := ⟨fun _ => trivial, fun _ => Fresh.refl w⟩
/-- THE STEPS -/
theorem append_mt {t u e : TypeId} {z : Value} {size bytes : Nat} (E : Elem P t e z size bytes) {w : World} {ad : Option Addr} (ho : Owns w N e size ad 0 0 []) {x : Value} {m : Nat} {xs : List Value} (hx : Src P u w size x m xs)
    (h63 : m ≤ maxLen) (hbytes : m * bytes ≤ 140737488355328) (hN : N ≤ w.heap.size) {ty : TypeId} :
    ∃ v w', (Builtin.append_ #[t, u] ty #[.slice ad 0 0, x]).run P w = .ok v w' ∧ Fresh N n news w w' ∧ Made N e size m xs v w' := by
  obtain ⟨ad', cap', w', r1, r2, r3, r4, r5⟩ := run_append_at (u := u) (ty := ty) E ho hx (by omega) (by rw [Nat.zero_add]; exact hbytes) hN
  rw [Nat.zero_add, List.nil_append] at r2
  rw [Nat.zero_add] at r1
  have hbelow : Below N w w' := ⟨r3.os, r3.tape, r3.output, r3.size, fun g hg => by
    refine r3.block g (by omega) (fun hh => ?_)
    cases ad with
    | none => cases hh
    | some a => simp only [Option.map_some, Option.some.injEq] at hh; have := (ho.lt a rfl).1; omega⟩
  refine ⟨_, w', r1, ⟨hbelow, fun g hg => .inl ?_⟩, ad', cap', rfl, r2⟩
  by_cases hh : some g = ad.map (·.block)
  · have had : ad = some ⟨g, 0, .none⟩ := by
      obtain ⟨_, _, _, ⟨e1, _⟩ | ⟨g', cur, fr, e1, _⟩⟩ := ho
      · rw [e1] at hh; cases hh
      · rw [e1] at hh ⊢; cases hh; rfl
    rcases r5 g had with ⟨hm, h⟩ | ⟨h, _⟩
    · have hm0 : m = 0 := by omega
      subst hm0
      have hxs : xs = [] := List.eq_nil_of_length_eq_zero (by have := hx.1; omega)
      rw [h, hxs]
      cases hq : w.heap[g]? with
      | none => rfl
      | some o => cases o <;> simp [appRow]
    · exact h
  · exact r3.block g hg hh
theorem append_made {t u e : TypeId} {z : Value} {size bytes : Nat} (E : Elem P t e z size bytes) {w : World} {ad : Option Addr} {cap k m : Nat} {xs : List Value} (ho : Owns w N e size ad cap k xs) {x : Value} (hx : Src P u w size x m news) (hn : n = k * size)
    (h63 : k + m ≤ maxLen) (hbytes : (k + m) * bytes ≤ 140737488355328) (hN : N ≤ w.heap.size) {ty : TypeId} :
    ∃ v w', (Builtin.append_ #[t, u] ty #[.slice ad k cap, x]).run P w = .ok v w' ∧ Fresh N n news w w' ∧ Made N e size (k + m) (xs ++ news) v w' := by
  obtain ⟨ad', cap', w', r1, r2, r3, r4, r5⟩ := run_append_at (u := u) (ty := ty) E ho hx h63 hbytes hN
  have hbelow : Below N w w' := ⟨r3.os, r3.tape, r3.output, r3.size, fun g hg => by
    refine r3.block g (by omega) (fun hh => ?_)
    cases ad with
    | none => cases hh
    | some a => simp only [Option.map_some, Option.some.injEq] at hh; have := (ho.lt a rfl).1; omega⟩
  refine ⟨_, w', r1, ⟨hbelow, fun g hg => ?_⟩, ad', cap', rfl, r2⟩
  by_cases hh : some g = ad.map (·.block)
  · obtain ⟨_, _, _, ⟨e1, _⟩ | ⟨g', cur, fr, e1, _, hg', _, hs, _⟩⟩ := ho
    · rw [e1] at hh; cases hh
    · rw [e1] at hh; cases hh
      rcases r5 _ e1 with ⟨hm, h⟩ | ⟨h, _⟩
      · refine .inr ⟨?_, by rw [hn]; exact h⟩
        rw [hg']
        show n + news.length ≤ cur.size
        rw [hs, hn, hx.1, ← Nat.add_mul]; exact Nat.mul_le_mul_right _ hm
      · exact .inl h
  · exact .inl (r3.block g hg hh)
end
end Go.Proofs.Ytfnimpgphagnfaa
