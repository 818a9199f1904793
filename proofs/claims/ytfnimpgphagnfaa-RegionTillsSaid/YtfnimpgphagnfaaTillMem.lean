/- Layer 1 (region): the reference's pool in memory, in the same plain words. -/
import Derived.Test.YtfnimpgphagnfaaRegionOk2
import Derived.Test.YtfnimpgphagnfaaRegionFree
namespace Go.Proofs.Ytfnimpgphagnfaa
set_option linter.unusedVariables false
set_option linter.unusedSimpArgs false
open Go.RowKit
/-- keys, as Go's values -/
def sv (l : List (List UInt8)) : List Value := l.map fun s => .string (str s)
theorem sv_get (l : List (List UInt8)) (i : Nat) (h : i < l.length) : (sv l)[i]? = some (.string (str l[i])) := by simp [sv, h]
def ov (O : List Int) : List Value := O.map (.int .i64)
theorem ov_get (O : List Int) (i : Nat) (h : i < O.length) : (ov O)[i]? = some (.int .i64 (O.getD i 0)) := by simp [ov, h, List.getD_eq_getElem?_getD]
/-- whose the slabs are -/
def OwnOk (p : PoolF) (O : List Int) : Prop := O.length = p.taken.length ∧ ∀ s, s < p.taken.length → p.taken.getD s false = decide (0 ≤ O.getD s 0)
structure QX (w : World) (S : Nat → Prop) (g : Nat) (p : PoolF) (O : List Int) (ads : Option Addr) (cs : Nat) (adt : Option Addr) (ct : Nat) (A : Nat → Option Addr) (C : Nat → Nat) : Prop where
  blk : Blk w g 74 (poolV p ads cs adt ct A C)
  row : Owns w 0 9 1 ads cs p.bytes.length (sv p.bytes)
  own : Owns w 0 3 1 adt ct p.taken.length (ov O)
  land : ∀ i, i < 256 → Owns w 0 3 1 (A i) (C i) (landAt p i).slabs.length (iv (landAt p i).slabs)
  ok : OwnOk p O
  sep : ∀ i j x y, i < 256 → j < 256 → A i = some x → A j = some y → x.block = y.block → i = j
  apt : ∀ i x y, i < 256 → A i = some x → adt = some y → x.block ≠ y.block
  sg : S g
  srow : ∀ x, ads = some x → S x.block
  sown : ∀ x, adt = some x → S x.block
  sland : ∀ i x, i < 256 → A i = some x → S x.block
  lt : ∀ j, S j → j < w.heap.size
def RPool (w : World) (S : Nat → Prop) (g : Nat) (p : PoolF) : Prop := ∃ O ads cs adt ct A C, QX w S g p O ads cs adt ct A C
structure RMoved (S : Nat → Prop) (g : Nat) (p' : PoolF) (w w' : World) (S' : Nat → Prop) : Prop where
  chg : Chg S w w'
  sub : ∀ j, S' j → S j ∨ w.heap.size ≤ j
  pool : RPool w' S' g p'
section
variable {w w' : World} {S S' : Nat → Prop} {g : Nat} {p : PoolF} {O : List Int} {ads adt : Option Addr} {cs ct : Nat} {A : Nat → Option Addr} {C : Nat → Nat}
theorem QX.head (h : QX w S g p O ads cs adt ct A C) : w.cell? ⟨g, 0, none⟩ = some (.int .i64 (p.size : Int)) ∧ w.cell? ⟨g, 1, none⟩ = some (.slice ads p.bytes.length cs) ∧ w.cell? ⟨g, 2, none⟩ = some (.slice adt p.taken.length ct) :=
  ⟨h.blk.cell rfl, h.blk.cell rfl, h.blk.cell rfl⟩
theorem QX.lcell (h : QX w S g p O ads cs adt ct A C) {i : Nat} (hi : i < 256) :
    w.cell? ⟨g, 3 + i * 4, none⟩ = some (.bool (landAt p i).there) ∧ w.cell? ⟨g, 3 + i * 4 + 1, none⟩ = some (.int .i64 ((landAt p i).gen : Int)) ∧ w.cell? ⟨g, 3 + i * 4 + 2, none⟩ = some (.slice (A i) (landAt p i).slabs.length (C i)) ∧ w.cell? ⟨g, 3 + i * 4 + 3, none⟩ = some (.int .i64 ((landAt p i).fill : Int)) :=
  ⟨h.blk.cell (poolV_land (k := 0) hi (by decide)), h.blk.cell (poolV_land (k := 1) hi (by decide)), h.blk.cell (poolV_land (k := 2) hi (by decide)), h.blk.cell (poolV_land (k := 3) hi (by decide))⟩
theorem QX.same (h : QX w S g p O ads cs adt ct A C) (k : ∀ j, S j → w'.heap[j]? = w.heap[j]?) (hs : w.heap.size ≤ w'.heap.size) : QX w' S g p O ads cs adt ct A C :=
  ⟨(k g h.sg).trans h.blk, h.row.kept (fun x hx => k x (h.srow _ hx)), h.own.kept (fun x hx => k x (h.sown _ hx)), fun i hi => (h.land i hi).kept (fun x hx => k x (h.sland i _ hi hx)),
   h.ok, h.sep, h.apt, h.sg, h.srow, h.sown, h.sland, fun j hj => Nat.lt_of_lt_of_le (h.lt j hj) hs⟩
theorem QX.gr (h : QX w S g p O ads cs adt ct A C) (k : Gr w w') : QX w' S g p O ads cs adt ct A C := h.same (fun j hj => k.block j (h.lt j hj)) k.size
theorem RPool.gr (h : RPool w S g p) (k : Gr w w') : RPool w' S g p := by
  obtain ⟨O, ads, cs, adt, ct, A, C, h⟩ := h
  exact ⟨O, ads, cs, adt, ct, A, C, h.gr k⟩
theorem RPool.lt (h : RPool w S g p) : ∀ j, S j → j < w.heap.size := by
  obtain ⟨O, ads, cs, adt, ct, A, C, h⟩ := h
  exact h.lt
theorem RPool.chg {T : Nat → Prop} (h : RPool w S g p) (k : Chg T w w') (hd : ∀ j, S j → ¬ T j) : RPool w' S g p := by
  obtain ⟨O, ads, cs, adt, ct, A, C, h⟩ := h
  exact ⟨O, ads, cs, adt, ct, A, C, h.same (fun j hj => k.block j (h.lt j hj) (hd j hj)) k.size⟩
theorem RMoved.after {p' : PoolF} {v : World} (h : Chg S w v) (k : RMoved S g p' v w' S') : RMoved S g p' w w' S' :=
  ⟨h.trans k.chg (fun j hj => .inl hj), fun j hj => by
    rcases k.sub j hj with h1 | h1
    · exact .inl h1
    · exact .inr (Nat.le_trans h.size h1), k.pool⟩
theorem RMoved.then {S2 : Nat → Prop} {p' p2 : PoolF} {v : World} (h : RMoved S g p' w v S') (k : RMoved S' g p2 v w' S2) : RMoved S g p2 w w' S2 :=
  ⟨h.chg.trans k.chg h.sub, fun j hj => by
    rcases k.sub j hj with h1 | h1
    · exact h.sub j h1
    · exact .inr (Nat.le_trans h.chg.size h1), k.pool⟩
theorem RMoved.gr {p' : PoolF} {v : World} (h : RMoved S g p' w v S') (k : Gr v w') : RMoved S g p' w w' S' :=
  ⟨h.chg.trans (S' := S) k.chg (fun j hj => .inl hj), h.sub, h.pool.gr k⟩
theorem RMoved.refl (h : RPool w S g p) : RMoved S g p w w S := ⟨Chg.refl _, fun j hj => .inl hj, h⟩
theorem QX.gne_row (h : QX w S g p O ads cs adt ct A C) : ∀ x, ads = some x → x.block ≠ g := h.blk.owns_ne h.row (by decide)
theorem QX.gne_own (h : QX w S g p O ads cs adt ct A C) : ∀ x, adt = some x → x.block ≠ g := h.blk.owns_ne h.own (by decide)
theorem QX.gne_land (h : QX w S g p O ads cs adt ct A C) {i : Nat} (hi : i < 256) : ∀ x, A i = some x → x.block ≠ g := h.blk.owns_ne (h.land i hi) (by decide)
/-- one region's cells are others: with its slabs, or none -/
theorem QX.put_land (h : QX w S g p O ads cs adt ct A C) (hl : p.lands.length = 256) {i : Nat} (hi : i < 256) (l : Land) (ad : Option Addr) (cap : Nat)
    (hb : Blk w' g 74 (poolV (setLand p i l) ads cs adt ct (upd A i ad) (upd C i cap))) (k : ∀ j, S j → j ≠ g → w'.heap[j]? = w.heap[j]?) (hs : w.heap.size ≤ w'.heap.size)
    (ho : Owns w' 0 3 1 ad cap l.slabs.length (iv l.slabs)) (had : ad = none ∨ ad = A i) : QX w' S g (setLand p i l) O ads cs adt ct (upd A i ad) (upd C i cap) := by
  have ha : ∀ j, landAt (setLand p i l) j = if i = j then l else landAt p j := fun j => landAt_set p i j l (by omega)
  have hA : ∀ j x, j < 256 → upd A i ad j = some x → A j = some x := fun j x hj hx => by
    by_cases e : j = i
    · subst e; rw [upd_same] at hx; rcases had with h1 | h1
      · rw [h1] at hx; cases hx
      · rw [← h1]; exact hx
    · rw [upd_other _ _ e] at hx; exact hx
  refine ⟨hb, h.row.kept (fun x hx => k x (h.srow _ hx) (h.gne_row _ hx)), h.own.kept (fun x hx => k x (h.sown _ hx) (h.gne_own _ hx)), fun j hj => ?_, h.ok,
    fun a b x y ha hb hx hy => h.sep a b x y ha hb (hA a x ha hx) (hA b y hb hy), fun a x y ha hx hy => h.apt a x y ha (hA a x ha hx) hy, h.sg, h.srow, h.sown, fun a x ha hx => h.sland a x ha (hA a x ha hx), fun j hj => Nat.lt_of_lt_of_le (h.lt j hj) hs⟩
  rw [ha]
  by_cases e : j = i
  · subst e; rw [if_pos rfl, upd_same, upd_same]; exact ho
  · rw [if_neg (fun x => e x.symm), upd_other _ _ e, upd_other _ _ e]
    exact (h.land j hj).kept (fun x hx => k x (h.sland j _ hj hx) (h.gne_land hj _ hx))
theorem QX.put4 (h : QX w S g p O ads cs adt ct A C) (hl : p.lands.length = 256) {i : Nat} (hi : i < 256) (t : Bool) (n : Nat) :
    RMoved S g (setLand p i ⟨t, n, [], 0⟩) w ((((w.setCell ⟨g, 3 + i * 4, none⟩ (.bool t)).setCell ⟨g, 3 + i * 4 + 1, none⟩ (.int .i64 (n : Int))).setCell ⟨g, 3 + i * 4 + 2, none⟩ (.slice none 0 0)).setCell ⟨g, 3 + i * 4 + 3, none⟩ (.int .i64 0)) S := by
  have hk := grown_trans (grown_trans (grown_trans (grown_set w g (3 + i * 4) (.bool t)) (grown_set _ g (3 + i * 4 + 1) (.int .i64 (n : Int)))) (grown_set _ g (3 + i * 4 + 2) (.slice none 0 0))) (grown_set _ g (3 + i * 4 + 3) (.int .i64 0))
  have hb := (((h.blk.set_ (3 + i * 4) (.bool t)).set_ (3 + i * 4 + 1) (.int .i64 (n : Int))).set_ (3 + i * 4 + 2) (.slice none 0 0)).set_ (3 + i * 4 + 3) (.int .i64 0)
  have e := poolV_set4 (ads := ads) (cs := cs) (adt := adt) (ct := ct) (A := A) (C := C) hl hi ⟨t, n, [], 0⟩ none 0
  refine ⟨Chg.grown hk h.sg, fun j hj => .inl hj, O, ads, cs, adt, ct, _, _, h.put_land hl hi ⟨t, n, [], 0⟩ none 0 (e ▸ hb) (fun j hj hne => hk.block j (h.lt j hj) (fun e => hne (Option.some.inj e))) hk.size (Owns.empty _ _ _ _) (.inl rfl)⟩
theorem QX.put_fill (h : QX w S g p O ads cs adt ct A C) (hl : p.lands.length = 256) {i : Nat} (hi : i < 256) (f : Nat) :
    QX (w.setCell ⟨g, 3 + i * 4 + 3, none⟩ (.int .i64 (f : Int))) S g (fillAt p i f) O ads cs adt ct A C := by
  have k := grown_set w g (3 + i * 4 + 3) (.int .i64 (f : Int))
  have hb := h.blk.set_ (3 + i * 4 + 3) (.int .i64 (f : Int))
  have e := poolV_set1 (ads := ads) (cs := cs) (adt := adt) (ct := ct) (A := A) (C := C) hl hi (k := 3) (by decide) (.int .i64 (f : Int)) ⟨(landAt p i).there, (landAt p i).gen, (landAt p i).slabs, f⟩ (A i) (C i) rfl
  have := h.put_land hl hi ⟨(landAt p i).there, (landAt p i).gen, (landAt p i).slabs, f⟩ (A i) (C i) (e ▸ hb) (fun j hj hne => k.block j (h.lt j hj) (fun e => hne (Option.some.inj e))) k.size
    ((h.land i hi).grown k (fun x hx e => h.gne_land hi x hx (Option.some.inj e))) (.inr rfl)
  rw [upd_id, upd_id] at this
  exact this
/-- a slab is some region's, or nobody's -/
theorem QX.put_own (h : QX w S g p O ads cs adt ct A C) {bt s : Nat} (ht : adt = some ⟨bt, 0, none⟩) (hs : s < p.taken.length) (r : Int) (b : Bool) (hr : b = decide (0 ≤ r)) :
    QX (w.setCell ⟨bt, s, none⟩ (.int .i64 r)) S g (setTaken p s b) (O.set s r) ads cs adt ct A C := by
  have k := grown_set w bt s (.int .i64 r)
  have hne := h.gne_own _ ht
  simp only at hne
  refine ⟨?_, h.row.grown k (fun x hx e => (h.row.ne h.own (by decide)) x _ hx ht (Option.some.inj e)), ?_, fun i hi => (h.land i hi).grown k (fun x hx e => h.apt i x _ hi hx ht (Option.some.inj e)), ⟨?_, fun i hi => ?_⟩,
    h.sep, h.apt, h.sg, h.srow, h.sown, h.sland, fun j hj => Nat.lt_of_lt_of_le (h.lt j hj) k.size⟩
  · have e : poolV (setTaken p s b) ads cs adt ct A C = poolV p ads cs adt ct A C := by
      unfold poolV setTaken
      simp only [List.length_set]
      rfl
    rw [e]
    exact h.blk.grown k (fun e => hne (Option.some.inj e).symm)
  · have := h.own.store ht hs (.int .i64 r)
    show Owns _ 0 _ 1 adt ct (p.taken.set s b).length (ov (O.set s r))
    rw [List.length_set]
    unfold ov at this ⊢
    rw [List.map_set]
    exact this
  · show (O.set s r).length = (p.taken.set s b).length
    rw [List.length_set, List.length_set]
    exact h.ok.1
  · have hi : i < p.taken.length := by
      have e : i < (p.taken.set s b).length := hi
      rw [List.length_set] at e
      exact e
    show (p.taken.set s b).getD i false = decide (0 ≤ (O.set s r).getD i 0)
    have h2 := h.ok.2 i hi
    simp only [List.getD_eq_getElem?_getD, List.getElem?_set] at h2 ⊢
    by_cases e : s = i
    · subst e
      rw [if_pos rfl, if_pos rfl, if_pos hs, if_pos (by rw [h.ok.1]; exact hs)]
      exact hr
    · rw [if_neg e, if_neg e]
      exact h2
/-- a slab's bytes are others -/
theorem QX.put_str (h : QX w S g p O ads cs adt ct A C) {bt s : Nat} (ht : ads = some ⟨bt, 0, none⟩) (hs : s < p.bytes.length) (l : List UInt8) :
    QX (w.setCell ⟨bt, s, none⟩ (.string (str l))) S g (setBytes p s l) O ads cs adt ct A C := by
  have k := grown_set w bt s (.string (str l))
  have hne := h.gne_row _ ht
  simp only at hne
  refine ⟨?_, ?_, h.own.grown k (fun x hx e => (h.own.ne h.row (by decide)) x _ hx ht (Option.some.inj e)), fun i hi => (h.land i hi).grown k (fun x hx e => ((h.land i hi).ne h.row (by decide)) x _ hx ht (Option.some.inj e)), h.ok,
    h.sep, h.apt, h.sg, h.srow, h.sown, h.sland, fun j hj => Nat.lt_of_lt_of_le (h.lt j hj) k.size⟩
  · have e : poolV (setBytes p s l) ads cs adt ct A C = poolV p ads cs adt ct A C := by
      unfold poolV setBytes
      simp only [List.length_set]
      rfl
    rw [e]
    exact h.blk.grown k (fun e => hne (Option.some.inj e).symm)
  · have := h.row.store ht hs (.string (str l))
    show Owns _ 0 _ 1 ads cs (p.bytes.set s l).length (sv (p.bytes.set s l))
    rw [List.length_set]
    unfold sv at this ⊢
    rw [List.map_set]
    exact this
/-- a region has a slab more -/
theorem QX.put_slab (h : QX w S g p O ads cs adt ct A C) (hl : p.lands.length = 256) {i s : Nat} (hi : i < 256) {w4 : World} {ad : Option Addr} {cap : Nat} (k : w.grownBy w4 ((A i).map (·.block)))
    (o : Owns w4 0 3 1 ad cap ((landAt p i).slabs.length + 1) (iv ((landAt p i).slabs ++ [s]))) (f : ∀ a, ad = some a → A i = some a ∨ w.heap.size ≤ a.block) :
    ∃ S', Chg S w (w4.setCell ⟨g, 3 + i * 4 + 2, none⟩ (.slice ad ((landAt p i).slabs.length + 1) cap)) ∧ (∀ j, S' j → S j ∨ w.heap.size ≤ j) ∧
      QX (w4.setCell ⟨g, 3 + i * 4 + 2, none⟩ (.slice ad ((landAt p i).slabs.length + 1) cap)) S' g (setLand p i ⟨(landAt p i).there, (landAt p i).gen, (landAt p i).slabs ++ [s], (landAt p i).fill⟩) O ads cs adt ct (upd A i ad) (upd C i cap) := by
  have hAg := h.gne_land hi
  have hgl := h.lt g h.sg
  have hne : ∀ x, ad = some x → x.block ≠ g := fun x hx e => by
    rcases f x hx with h1 | h1
    · exact hAg x h1 e
    · omega
  have hk4 : ∀ j, j < w.heap.size → (∀ x, A i = some x → x.block ≠ j) → w4.heap[j]? = w.heap[j]? := fun j hj hx => k.block j hj (fun e => by
    cases hA : A i with
    | none => rw [hA] at e; cases e
    | some x => rw [hA] at e; exact hx x hA (Option.some.inj e).symm)
  have hb4 : Blk w4 g 74 (poolV p ads cs adt ct A C) := (hk4 g hgl hAg).trans h.blk
  have k5 := grown_set w4 g (3 + i * 4 + 2) (.slice ad ((landAt p i).slabs.length + 1) cap)
  have hb5 := hb4.set_ (3 + i * 4 + 2) (.slice ad ((landAt p i).slabs.length + 1) cap)
  have hlen : (landAt p i).slabs.length + 1 = ((landAt p i).slabs ++ [s]).length := by simp
  rw [poolV_set1 (ads := ads) (cs := cs) (adt := adt) (ct := ct) (A := A) (C := C) hl hi (k := 2) (by decide) (.slice ad ((landAt p i).slabs.length + 1) cap) ⟨(landAt p i).there, (landAt p i).gen, (landAt p i).slabs ++ [s], (landAt p i).fill⟩ ad cap (by rw [hlen]; rfl)] at hb5
  have hall : ∀ j, j < w.heap.size → j ≠ g → (∀ x, A i = some x → x.block ≠ j) → (w4.setCell ⟨g, 3 + i * 4 + 2, none⟩ (.slice ad ((landAt p i).slabs.length + 1) cap)).heap[j]? = w.heap[j]? := fun j hj hjg hx => (k5.block j (Nat.lt_of_lt_of_le hj k.size) (fun e => hjg (Option.some.inj e))).trans (hk4 j hj hx)
  have ha : ∀ j, landAt (setLand p i ⟨(landAt p i).there, (landAt p i).gen, (landAt p i).slabs ++ [s], (landAt p i).fill⟩) j = if i = j then ⟨(landAt p i).there, (landAt p i).gen, (landAt p i).slabs ++ [s], (landAt p i).fill⟩ else landAt p j := fun j => landAt_set p i j _ (by omega)
  refine ⟨fun j => S j ∨ (w.heap.size ≤ j ∧ j < w4.heap.size), ⟨k5.os.trans k.os, k5.tape.trans k.tape, k5.output.trans k.output, Nat.le_trans k.size k5.size, fun j hj hn => hall j hj (fun e => hn (e ▸ h.sg)) (fun x hx e => hn (e ▸ h.sland i x hi hx))⟩, fun j hj => hj.imp id (fun e => e.1), ?_⟩
  refine ⟨hb5, h.row.kept (fun b hb => hall b (h.lt _ (h.srow _ hb)) (h.gne_row _ hb) (fun x hx => (h.land i hi).ne h.row (by decide) x _ hx hb)), h.own.kept (fun b hb => hall b (h.lt _ (h.sown _ hb)) (h.gne_own _ hb) (fun x hx => h.apt i x _ hi hx hb)),
    fun j hj => ?_, h.ok, fun a b x y ha3 hb3 hx hy hxy => ?_, fun a x y ha3 hx hy => ?_, .inl h.sg, fun x hx => .inl (h.srow x hx), fun x hx => .inl (h.sown x hx), fun j x hj hx => ?_, fun j hj => ?_⟩
  · rw [ha]
    by_cases e : j = i
    · subst e
      rw [if_pos rfl, upd_same, upd_same]
      have := o.grown k5 (fun x hx e => hne x hx (Option.some.inj e))
      rw [hlen] at this
      simpa using this
    · rw [if_neg (fun x => e x.symm), upd_other _ _ e, upd_other _ _ e]
      exact (h.land j hj).kept (fun b hb => hall b (h.lt _ (h.sland j _ hj hb)) (h.gne_land hj _ hb) (fun x hx e2 => e (h.sep i j x _ hi hj hx hb e2).symm))
  · by_cases ea : a = i
    · by_cases eb : b = i
      · omega
      · subst ea
        rw [upd_same] at hx
        rw [upd_other _ _ eb] at hy
        rcases f x hx with h1 | h1
        · exact h.sep a b x y ha3 hb3 h1 hy hxy
        · have := h.lt _ (h.sland b y hb3 hy); omega
    · rw [upd_other _ _ ea] at hx
      by_cases eb : b = i
      · subst eb
        rw [upd_same] at hy
        rcases f y hy with h1 | h1
        · exact h.sep a b x y ha3 hb3 hx h1 hxy
        · have := h.lt _ (h.sland a x ha3 hx); omega
      · rw [upd_other _ _ eb] at hy
        exact h.sep a b x y ha3 hb3 hx hy hxy
  · by_cases e : a = i
    · subst e
      rw [upd_same] at hx
      rcases f x hx with h1 | h1
      · exact h.apt a x y ha3 h1 hy
      · have := h.lt _ (h.sown y hy); omega
    · rw [upd_other _ _ e] at hx
      exact h.apt a x y ha3 hx hy
  · by_cases e : j = i
    · subst e
      rw [upd_same] at hx
      rcases f x hx with h1 | h1
      · exact .inl (h.sland j x hj h1)
      · exact .inr ⟨h1, (o.lt x hx).2⟩
    · rw [upd_other _ _ e] at hx
      exact .inl (h.sland j x hj hx)
  · rcases hj with h1 | h1
    · exact Nat.lt_of_lt_of_le (h.lt j h1) (Nat.le_trans k.size k5.size)
    · exact Nat.lt_of_lt_of_le h1.2 k5.size
end
end Go.Proofs.Ytfnimpgphagnfaa
