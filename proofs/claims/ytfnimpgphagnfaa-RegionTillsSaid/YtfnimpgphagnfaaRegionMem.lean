/- Layer 1 (region): a pool in memory. -/
import Derived.Test.YtfnimpgphagnfaaRows
import Derived.Test.YtfnimpgphagnfaaRegionMath
import Derived.Test.YtfnimpgphagnfaaBlk
import Derived.Test.YtfnimpgphagnfaaApp
namespace Go.Proofs.Ytfnimpgphagnfaa
set_option linter.unusedVariables false
set_option linter.unusedSimpArgs false
open Go.RowKit
/-- only blocks of S have changed -/
structure Chg (S : Nat → Prop) (w w' : World) : Prop where
  os : w'.os = w.os
  tape : w'.tape = w.tape
  output : w'.output = w.output
  size : w.heap.size ≤ w'.heap.size
  block : ∀ j, j < w.heap.size → ¬ S j → w'.heap[j]? = w.heap[j]?
section
variable {S S' : Nat → Prop} {a w w' w2 : World}
theorem Chg.refl (w : World) : Chg S w w := ⟨rfl, rfl, rfl, Nat.le_refl _, fun _ _ _ => rfl⟩
theorem Chg.trans (h : Chg S w w') (k : Chg S' w' w2) (hs : ∀ j, S' j → S j ∨ w.heap.size ≤ j) : Chg S w w2 :=
  ⟨k.os.trans h.os, k.tape.trans h.tape, k.output.trans h.output, Nat.le_trans h.size k.size, fun j hj hn => (k.block j (Nat.lt_of_lt_of_le hj h.size) (fun hs' => by
    rcases hs j hs' with h1 | h1
    · exact hn h1
    · omega)).trans (h.block j hj hn)⟩
theorem Gr.chg (h : Gr w w') : Chg S w w' := ⟨h.os, h.tape, h.output, h.size, fun j hj _ => h.block j hj⟩
theorem Chg.grown {b : Nat} (h : w.grownBy w' (some b)) (hb : S b) : Chg S w w' := ⟨h.os, h.tape, h.output, h.size, fun j hj hn => h.block j hj (fun e => hn ((Option.some.inj e) ▸ hb))⟩
theorem Chg.grownO {o : Option Nat} (h : w.grownBy w' o) (hb : ∀ b, o = some b → S b) : Chg S w w' := ⟨h.os, h.tape, h.output, h.size, fun j hj hn => h.block j hj (fun e => hn (hb j e.symm))⟩
theorem Chg.gr (h : Chg S w w') (k : Gr a w) (hs : ∀ j, S j → a.heap.size ≤ j) : Gr a w' :=
  ⟨h.os.trans k.os, h.tape.trans k.tape, h.output.trans k.output, Nat.le_trans k.size h.size, fun j hj => (h.block j (Nat.lt_of_lt_of_le hj k.size) (fun e => by have := hs j e; omega)).trans (k.block j hj)⟩
theorem Chg.heap (h : Chg S w w') {j : Nat} {o : Obj} (hj : w.heap[j]? = some o) (hn : ¬ S j) : w'.heap[j]? = some o := (h.block j (Array.getElem?_eq_some_iff.1 hj).1 hn).trans hj
theorem Chg.blk (h : Chg S w w') {g : Nat} {t : TypeId} {cs : List Value} (hb : Blk w g t cs) (hn : ¬ S g) : Blk w' g t cs := h.heap hb hn
theorem Chg.owns (h : Chg S w w') {base : Nat} {e : TypeId} {size : Nat} {ad : Option Addr} {cap n : Nat} {xs : List Value} (ho : Owns w base e size ad cap n xs) (hn : ∀ x, ad = some x → ¬ S x.block) : Owns w' base e size ad cap n xs :=
  ho.kept fun k hk => h.block k (ho.lt _ hk).2 (hn _ hk)
theorem Chg.row (h : Chg S w w') {ad : Option Addr} {vs : List Value} (hr : Row w ad vs) (hn : ∀ x, ad = some x → ¬ S x.block) : Row w' ad vs := fun i u hi => by
  obtain ⟨b, off, e, hc⟩ := hr i u hi
  refine ⟨b, off, e, ?_⟩
  have := h.block b (World.block_lt_of_cell? w _ hc) (hn _ e)
  unfold World.cell? at hc ⊢
  simp only at hc ⊢
  rw [this]; exact hc
end
theorem Blk.ne {w : World} {g g' : Nat} {t t' : TypeId} {cs cs' : List Value} (h : Blk w g t cs) (h' : Blk w g' t' cs') (ht : t ≠ t') : g ≠ g' := fun e => by
  subst e
  unfold Blk at h h'
  rw [h] at h'
  cases h'
  exact ht rfl
theorem Blk.owns_ne {w : World} {g : Nat} {t e : TypeId} {cs : List Value} (h : Blk w g t cs) {base size cap n : Nat} {ad : Option Addr} {xs : List Value} (ho : Owns w base e size ad cap n xs) (ht : t ≠ e) : ∀ x, ad = some x → x.block ≠ g := fun x hx ex => by
  obtain ⟨_, _, _, ⟨e1, _⟩ | ⟨g', cur, fr, e1, e2, hg, _⟩⟩ := ho
  · rw [e1] at hx; cases hx
  · rw [e1] at hx; cases hx
    simp only at ex
    subst ex
    unfold Blk at h
    rw [h] at hg
    cases hg
    exact ht rfl
theorem Owns.ne {w : World} {e e' : TypeId} {base base' size size' cap cap' n n' : Nat} {ad ad' : Option Addr} {xs xs' : List Value} (h : Owns w base e size ad cap n xs) (h' : Owns w base' e' size' ad' cap' n' xs') (ht : e ≠ e') : ∀ x y, ad = some x → ad' = some y → x.block ≠ y.block := fun x y hx hy ex => by
  obtain ⟨_, _, _, ⟨e1, _⟩ | ⟨g, cur, fr, e1, _, hg, _⟩⟩ := h
  · rw [e1] at hx; cases hx
  · obtain ⟨_, _, _, ⟨e2, _⟩ | ⟨g', cur', fr', e2, _, hg', _⟩⟩ := h'
    · rw [e2] at hy; cases hy
    · rw [e1] at hx; rw [e2] at hy; cases hx; cases hy
      simp only at ex
      subst ex
      rw [hg] at hg'
      cases hg'
      exact ht rfl
/-- rows of four cells each -/
def flat (F : Nat → List Value) (n : Nat) : List Value := (List.range n).flatMap F
theorem flat_succ (F : Nat → List Value) (n : Nat) : flat F (n + 1) = flat F n ++ F n := by simp [flat, List.range_succ]
theorem flat_congr {F G : Nat → List Value} : ∀ n, (∀ i, i < n → F i = G i) → flat F n = flat G n
  | 0, _ => rfl
  | n + 1, h => by rw [flat_succ, flat_succ, flat_congr n (fun i hi => h i (by omega)), h n (by omega)]
theorem flat_len {F : Nat → List Value} (hF : ∀ i, (F i).length = 4) : ∀ n, (flat F n).length = 4 * n
  | 0 => rfl
  | n + 1 => by rw [flat_succ, List.length_append, flat_len hF n, hF]; omega
theorem flat_get {F : Nat → List Value} (hF : ∀ i, (F i).length = 4) : ∀ n i k, i < n → k < 4 → (flat F n)[i * 4 + k]? = (F i)[k]?
  | 0, _, _, h, _ => by omega
  | n + 1, i, k, h, hk => by
    rw [flat_succ]
    have hl := flat_len hF n
    by_cases hi : i < n
    · rw [List.getElem?_append_left (by omega)]
      exact flat_get hF n i k hi hk
    · obtain rfl : i = n := by omega
      rw [List.getElem?_append_right (by omega), hl]
      congr 1; omega
theorem flat_set {F : Nat → List Value} (hF : ∀ i, (F i).length = 4) : ∀ n i k v, i < n → k < 4 → (flat F n).set (i * 4 + k) v = flat (fun j => if j = i then (F j).set k v else F j) n
  | 0, _, _, _, h, _ => by omega
  | n + 1, i, k, v, h, hk => by
    rw [flat_succ, flat_succ]
    have hl := flat_len hF n
    by_cases hi : i < n
    · rw [List.set_append_left _ _ (by omega), flat_set hF n i k v hi hk, if_neg (by omega)]
    · obtain rfl : i = n := by omega
      rw [List.set_append_right _ _ (by omega), hl, if_pos rfl, show i * 4 + k - 4 * i = k by omega]
      congr 1
      exact flat_congr _ (fun j hj => by rw [if_neg (by omega)])
/-- a region's cells -/
def landV (l : Land) (ad : Option Addr) (cap : Nat) : List Value := [.bool l.there, .int .i64 (l.gen : Int), .slice ad l.slabs.length cap, .int .i64 (l.fill : Int)]
def poolV (p : PoolF) (ads : Option Addr) (cs : Nat) (adt : Option Addr) (ct : Nat) (A : Nat → Option Addr) (C : Nat → Nat) : List Value :=
  [.int .i64 (p.size : Int), .slice ads p.bytes.length cs, .slice adt p.taken.length ct] ++ flat (fun i => landV (landAt p i) (A i) (C i)) 256
def iv (l : List Nat) : List Value := l.map fun (n : Nat) => .int .i64 (n : Int)
def slabV (bd : Nat → Nat) (size n : Nat) : List Value := (List.range n).map fun i => .slice (some ⟨bd i, 0, none⟩) size size
/-- a pool in block g; all that it has lies in S -/
structure PX (w : World) (S : Nat → Prop) (g : Nat) (p : PoolF) (ads : Option Addr) (cs : Nat) (adt : Option Addr) (ct : Nat) (A : Nat → Option Addr) (C : Nat → Nat) (bd : Nat → Nat) : Prop where
  blk : Blk w g 81 (poolV p ads cs adt ct A C)
  row : Owns w 0 23 1 ads cs p.bytes.length (slabV bd p.size p.bytes.length)
  tak : Owns w 0 4 1 adt ct p.taken.length (p.taken.map .bool)
  slab : ∀ i, i < p.bytes.length → Blk w (bd i) 5 (bv (bytesAt p i))
  land : ∀ i, i < 256 → Owns w 0 3 1 (A i) (C i) (landAt p i).slabs.length (iv (landAt p i).slabs)
  inj : ∀ i j, i < p.bytes.length → j < p.bytes.length → bd i = bd j → i = j
  sep : ∀ i j x y, i < 256 → j < 256 → A i = some x → A j = some y → x.block = y.block → i = j
  sg : S g
  srow : ∀ x, ads = some x → S x.block
  stak : ∀ x, adt = some x → S x.block
  sslab : ∀ i, i < p.bytes.length → S (bd i)
  sland : ∀ i x, i < 256 → A i = some x → S x.block
  lt : ∀ j, S j → j < w.heap.size
def PoolAt (w : World) (S : Nat → Prop) (g : Nat) (p : PoolF) : Prop := ∃ ads cs adt ct A C bd, PX w S g p ads cs adt ct A C bd
section
variable {w w' : World} {S S' : Nat → Prop} {g : Nat} {p : PoolF} {ads adt : Option Addr} {cs ct : Nat} {A : Nat → Option Addr} {C bd : Nat → Nat}
theorem landV_len (l : Land) (ad : Option Addr) (cap : Nat) : (landV l ad cap).length = 4 := rfl
theorem poolV_land {i k : Nat} (hi : i < 256) (hk : k < 4) : (poolV p ads cs adt ct A C)[3 + i * 4 + k]? = (landV (landAt p i) (A i) (C i))[k]? := by
  unfold poolV
  rw [List.getElem?_append_right (by simp; omega), show 3 + i * 4 + k - [Value.int .i64 (p.size : Int), .slice ads p.bytes.length cs, .slice adt p.taken.length ct].length = i * 4 + k by simp; omega]
  exact flat_get (fun i => landV_len _ _ _) 256 i k hi hk
theorem PX.head (h : PX w S g p ads cs adt ct A C bd) : w.cell? ⟨g, 0, none⟩ = some (.int .i64 (p.size : Int)) ∧ w.cell? ⟨g, 1, none⟩ = some (.slice ads p.bytes.length cs) ∧ w.cell? ⟨g, 2, none⟩ = some (.slice adt p.taken.length ct) :=
  ⟨h.blk.cell rfl, h.blk.cell rfl, h.blk.cell rfl⟩
theorem PX.lcell (h : PX w S g p ads cs adt ct A C bd) {i : Nat} (hi : i < 256) :
    w.cell? ⟨g, 3 + i * 4, none⟩ = some (.bool (landAt p i).there) ∧ w.cell? ⟨g, 3 + i * 4 + 1, none⟩ = some (.int .i64 ((landAt p i).gen : Int)) ∧ w.cell? ⟨g, 3 + i * 4 + 2, none⟩ = some (.slice (A i) (landAt p i).slabs.length (C i)) ∧ w.cell? ⟨g, 3 + i * 4 + 3, none⟩ = some (.int .i64 ((landAt p i).fill : Int)) :=
  ⟨h.blk.cell (poolV_land (k := 0) hi (by decide)), h.blk.cell (poolV_land (k := 1) hi (by decide)), h.blk.cell (poolV_land (k := 2) hi (by decide)), h.blk.cell (poolV_land (k := 3) hi (by decide))⟩
/-- blocks of S as they were -/
theorem PX.same (h : PX w S g p ads cs adt ct A C bd) (k : ∀ j, S j → w'.heap[j]? = w.heap[j]?) (hs : w.heap.size ≤ w'.heap.size) : PX w' S g p ads cs adt ct A C bd :=
  ⟨(k g h.sg).trans h.blk, h.row.kept (fun x hx => k x (h.srow _ hx)), h.tak.kept (fun x hx => k x (h.stak _ hx)), fun i hi => (k _ (h.sslab i hi)).trans (h.slab i hi), fun i hi => (h.land i hi).kept (fun x hx => k x (h.sland i _ hi hx)),
   h.inj, h.sep, h.sg, h.srow, h.stak, h.sslab, h.sland, fun j hj => Nat.lt_of_lt_of_le (h.lt j hj) hs⟩
theorem PX.gr (h : PX w S g p ads cs adt ct A C bd) (k : Gr w w') : PX w' S g p ads cs adt ct A C bd := h.same (fun j hj => k.block j (h.lt j hj)) k.size
theorem PoolAt.gr (h : PoolAt w S g p) (k : Gr w w') : PoolAt w' S g p := by
  obtain ⟨ads, cs, adt, ct, A, C, bd, h⟩ := h
  exact ⟨ads, cs, adt, ct, A, C, bd, h.gr k⟩
theorem PoolAt.lt (h : PoolAt w S g p) : ∀ j, S j → j < w.heap.size := by
  obtain ⟨ads, cs, adt, ct, A, C, bd, h⟩ := h
  exact h.lt
theorem PoolAt.chg {T : Nat → Prop} (h : PoolAt w S g p) (k : Chg T w w') (hd : ∀ j, S j → ¬ T j) : PoolAt w' S g p := by
  obtain ⟨ads, cs, adt, ct, A, C, bd, h⟩ := h
  exact ⟨ads, cs, adt, ct, A, C, bd, h.same (fun j hj => k.block j (h.lt j hj) (hd j hj)) k.size⟩
end
def upd {α : Type} (A : Nat → α) (i : Nat) (a : α) : Nat → α := fun j => if j = i then a else A j
theorem upd_same {α : Type} (A : Nat → α) (i : Nat) (a : α) : upd A i a i = a := by simp [upd]
theorem upd_other {α : Type} (A : Nat → α) {i j : Nat} (a : α) (h : j ≠ i) : upd A i a j = A j := by simp [upd, h]
section
variable {w w' : World} {S : Nat → Prop} {g : Nat} {p : PoolF} {ads adt : Option Addr} {cs ct : Nat} {A : Nat → Option Addr} {C bd : Nat → Nat}
theorem head_set {hd : List Value} (hh : hd.length = 3) {F : Nat → List Value} (hF : ∀ i, (F i).length = 4) {i k : Nat} (hi : i < 256) (hk : k < 4) (v : Value) :
    (hd ++ flat F 256).set (3 + i * 4 + k) v = hd ++ flat (fun j => if j = i then (F j).set k v else F j) 256 := by
  rw [List.set_append_right _ _ (by omega), hh, show 3 + i * 4 + k - 3 = i * 4 + k by omega, flat_set hF 256 i k v hi hk]
def setLand (p : PoolF) (i : Nat) (l : Land) : PoolF := { p with lands := p.lands.set i l }
theorem poolV_setLand (hl : p.lands.length = 256) {i : Nat} (hi : i < 256) (l : Land) (ad : Option Addr) (cap : Nat) :
    poolV (setLand p i l) ads cs adt ct (upd A i ad) (upd C i cap) = [.int .i64 (p.size : Int), .slice ads p.bytes.length cs, .slice adt p.taken.length ct] ++ flat (fun j => if j = i then landV l ad cap else landV (landAt p j) (A j) (C j)) 256 := by
  unfold poolV
  congr 1
  refine flat_congr _ fun j hj => ?_
  have ha : landAt (setLand p i l) j = if i = j then l else landAt p j := landAt_set p i j l (by omega)
  rw [ha]
  by_cases e : j = i
  · subst e
    rw [if_pos rfl, if_pos rfl, upd_same, upd_same]
  · rw [if_neg (fun x => e x.symm), if_neg e, upd_other _ _ e, upd_other _ _ e]
theorem landV_if_len (i : Nat) (l : Land) (ad : Option Addr) (cap : Nat) : ∀ j, (if j = i then landV l ad cap else landV (landAt p j) (A j) (C j)).length = 4 := fun j => by split <;> rfl
theorem poolV_set4 (hl : p.lands.length = 256) {i : Nat} (hi : i < 256) (l : Land) (ad : Option Addr) (cap : Nat) :
    ((((poolV p ads cs adt ct A C).set (3 + i * 4) (.bool l.there)).set (3 + i * 4 + 1) (.int .i64 (l.gen : Int))).set (3 + i * 4 + 2) (.slice ad l.slabs.length cap)).set (3 + i * 4 + 3) (.int .i64 (l.fill : Int)) =
      poolV (setLand p i l) ads cs adt ct (upd A i ad) (upd C i cap) := by
  rw [poolV_setLand hl hi]
  unfold poolV
  have hF : ∀ j, ((fun i => landV (landAt p i) (A i) (C i)) j).length = 4 := fun j => rfl
  have e0 := head_set (hd := [.int .i64 (p.size : Int), .slice ads p.bytes.length cs, .slice adt p.taken.length ct]) rfl hF hi (k := 0) (by decide) (.bool l.there)
  rw [Nat.add_zero] at e0
  rw [e0, head_set rfl (fun j => by split <;> rfl) hi (by decide), head_set rfl (fun j => by repeat (first | rfl | split)) hi (by decide), head_set rfl (fun j => by repeat (first | rfl | split)) hi (by decide)]
  congr 1
  refine flat_congr _ fun j hj => ?_
  by_cases e : j = i
  · subst e; simp only [if_true]; rfl
  · simp only [e, if_false]
/-- one region's cells are others: with slabs of its own, or none -/
theorem PX.put_land (h : PX w S g p ads cs adt ct A C bd) (hl : p.lands.length = 256) {i : Nat} (hi : i < 256) (l : Land) (ad : Option Addr) (cap : Nat)
    (hb : Blk w' g 81 (poolV (setLand p i l) ads cs adt ct (upd A i ad) (upd C i cap))) (k : ∀ j, S j → j ≠ g → w'.heap[j]? = w.heap[j]?) (hs : w.heap.size ≤ w'.heap.size)
    (ho : Owns w' 0 3 1 ad cap l.slabs.length (iv l.slabs)) (had : ad = none ∨ ad = A i) : PX w' S g (setLand p i l) ads cs adt ct (upd A i ad) (upd C i cap) bd := by
  have hg1 := h.blk.owns_ne h.row (by decide)
  have hg2 := h.blk.owns_ne h.tak (by decide)
  have hg3 : ∀ j, j < 256 → ∀ x, A j = some x → x.block ≠ g := fun j hj => h.blk.owns_ne (h.land j hj) (by decide)
  have ha : ∀ j, landAt (setLand p i l) j = if i = j then l else landAt p j := fun j => landAt_set p i j l (by omega)
  have hA : ∀ j x, j < 256 → upd A i ad j = some x → A j = some x := fun j x hj hx => by
    by_cases e : j = i
    · subst e; rw [upd_same] at hx; rcases had with h1 | h1
      · rw [h1] at hx; cases hx
      · rw [← h1]; exact hx
    · rw [upd_other _ _ e] at hx; exact hx
  refine ⟨hb, h.row.kept (fun x hx => k x (h.srow _ hx) (hg1 _ hx)), h.tak.kept (fun x hx => k x (h.stak _ hx) (hg2 _ hx)), fun j hj => (k _ (h.sslab j hj) ((h.slab j hj).ne h.blk (by decide))).trans (h.slab j hj), fun j hj => ?_, h.inj,
    fun a b x y ha hb hx hy => h.sep a b x y ha hb (hA a x ha hx) (hA b y hb hy), h.sg, h.srow, h.stak, h.sslab, fun a x ha hx => h.sland a x ha (hA a x ha hx), fun j hj => Nat.lt_of_lt_of_le (h.lt j hj) hs⟩
  rw [ha]
  by_cases e : j = i
  · subst e; rw [if_pos rfl, upd_same, upd_same]; exact ho
  · rw [if_neg (fun x => e x.symm), upd_other _ _ e, upd_other _ _ e]
    exact (h.land j hj).kept (fun x hx => k x (h.sland j _ hj hx) (hg3 j hj _ hx))
end
/-- a pool turned to p' by a call -/
structure Moved (S : Nat → Prop) (g : Nat) (p' : PoolF) (w w' : World) (S' : Nat → Prop) : Prop where
  chg : Chg S w w'
  sub : ∀ j, S' j → S j ∨ w.heap.size ≤ j
  pool : PoolAt w' S' g p'
/-- a region's four cells are written: it has no slabs then -/
theorem PX.put4 {w : World} {S : Nat → Prop} {g : Nat} {p : PoolF} {ads adt : Option Addr} {cs ct : Nat} {A : Nat → Option Addr} {C bd : Nat → Nat} (h : PX w S g p ads cs adt ct A C bd) (hl : p.lands.length = 256) {i : Nat} (hi : i < 256) (t : Bool) (n : Nat) :
    Moved S g (setLand p i ⟨t, n, [], 0⟩) w ((((w.setCell ⟨g, 3 + i * 4, none⟩ (.bool t)).setCell ⟨g, 3 + i * 4 + 1, none⟩ (.int .i64 (n : Int))).setCell ⟨g, 3 + i * 4 + 2, none⟩ (.slice none 0 0)).setCell ⟨g, 3 + i * 4 + 3, none⟩ (.int .i64 0)) S := by
  have hk := grown_trans (grown_trans (grown_trans (grown_set w g (3 + i * 4) (.bool t)) (grown_set _ g (3 + i * 4 + 1) (.int .i64 (n : Int)))) (grown_set _ g (3 + i * 4 + 2) (.slice none 0 0))) (grown_set _ g (3 + i * 4 + 3) (.int .i64 0))
  have hb := (((h.blk.set_ (3 + i * 4) (.bool t)).set_ (3 + i * 4 + 1) (.int .i64 (n : Int))).set_ (3 + i * 4 + 2) (.slice none 0 0)).set_ (3 + i * 4 + 3) (.int .i64 0)
  have e := poolV_set4 (ads := ads) (cs := cs) (adt := adt) (ct := ct) (A := A) (C := C) hl hi ⟨t, n, [], 0⟩ none 0
  refine ⟨Chg.grown hk h.sg, fun j hj => .inl hj, ads, cs, adt, ct, _, _, bd, h.put_land hl hi ⟨t, n, [], 0⟩ none 0 (e ▸ hb) (fun j hj hne => hk.block j (h.lt j hj) (fun e => hne (Option.some.inj e))) hk.size (Owns.empty _ _ _ _) (.inl rfl)⟩
theorem Moved.after {S S' : Nat → Prop} {g : Nat} {p' : PoolF} {w v w' : World} (h : Chg S w v) (k : Moved S g p' v w' S') : Moved S g p' w w' S' :=
  ⟨h.trans k.chg (fun j hj => .inl hj), fun j hj => by
    rcases k.sub j hj with h1 | h1
    · exact .inl h1
    · exact .inr (Nat.le_trans h.size h1), k.pool⟩
theorem Moved.then {S S' S2 : Nat → Prop} {g : Nat} {p' p2 : PoolF} {w v w' : World} (h : Moved S g p' w v S') (k : Moved S' g p2 v w' S2) : Moved S g p2 w w' S2 :=
  ⟨h.chg.trans k.chg h.sub, fun j hj => by
    rcases k.sub j hj with h1 | h1
    · exact h.sub j h1
    · exact .inr (Nat.le_trans h.chg.size h1), k.pool⟩
theorem Moved.gr {S S' : Nat → Prop} {g : Nat} {p' : PoolF} {w v w' : World} (h : Moved S g p' w v S') (k : Gr v w') : Moved S g p' w w' S' :=
  ⟨h.chg.trans (S' := S) k.chg (fun j hj => .inl hj), h.sub, h.pool.gr k⟩
theorem Moved.refl {S : Nat → Prop} {g : Nat} {p : PoolF} {w : World} (h : PoolAt w S g p) : Moved S g p w w S := ⟨Chg.refl _, fun j hj => .inl hj, h⟩
end Go.Proofs.Ytfnimpgphagnfaa
