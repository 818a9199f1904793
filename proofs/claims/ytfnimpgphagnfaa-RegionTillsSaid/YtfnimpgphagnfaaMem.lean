/- Memory that a call makes itself: slices that own the head of a row, whatever mark the row bears; what append, make, a store and a conversion do to them. No program is in sight here. -/
import Derived.Test.YtfnimpgphagnfaaBase
import Derived.Deep.Draws
import Derived.Deep.QuietTactic
import Derived.BigQuiet
import Derived.StillTailTactics
import Derived.WalkSpells
namespace Go.Proofs.Ytfnimpgphagnfaa
set_option linter.unusedVariables false
set_option linter.unusedSimpArgs false
open Go.RowKit

/-- old blocks are as they were -/
def Gr (w w' : World) : Prop := Below w.heap.size w w'
theorem Gr.refl (w : World) : Gr w w := Below.refl _ _
theorem Gr.size {w w' : World} (h : Gr w w') : w.heap.size ≤ w'.heap.size := Below.size h
theorem Gr.trans {a b c : World} (h : Gr a b) (k : Gr b c) : Gr a c := Below.trans h (Below.mono k h.size)
theorem Gr.below {B : Nat} {a b c : World} (h : Below B a b) (k : Gr b c) (hB : B ≤ b.heap.size) : Below B a c := Below.trans h (Below.mono k hB)
theorem Gr.alloc (w : World) (o : Obj) : Gr w (w.alloc o) := (Below.refl _ _).alloc (Nat.le_refl _) o
theorem Gr.drew (w : World) : Gr w w.drew := (Below.refl _ _).drew
theorem Gr.drewN (w : World) (n : Nat) : Gr w (w.drewN n) := ⟨rfl, rfl, rfl, Nat.le_refl _, fun _ _ => rfl⟩
theorem Gr.setCell {a w : World} (h : Gr a w) {p : Addr} (hp : a.heap.size ≤ p.block) (u : Value) : Gr a (w.setCell p u) := Below.setCell h hp u
theorem Gr.cell {w w' : World} (h : Gr w w') {p : Addr} {v : Value} (hp : w.cell? p = some v) : w'.cell? p = some v :=
  (Below.cell h (World.block_lt_of_cell? w p hp)).trans hp
theorem Gr.grown {a w w' : World} {row : Option Nat} (h : Gr a w) (hg : w.grownBy w' row) (hr : ∀ k, row = some k → a.heap.size ≤ k) : Gr a w' :=
  Below.grown h hg h.size hr
theorem Gr.heap {w w' : World} (h : Gr w w') {k : Nat} {o : Obj} (hk : w.heap[k]? = some o) : w'.heap[k]? = some o :=
  (h.block k (Array.getElem?_eq_some_iff.1 hk).1).trans hk

theorem Row.nil (w : World) (ad : Option Addr) : Row w ad [] := fun i u h => by simp at h
theorem Row.gr {w w' : World} {ad : Option Addr} {vs : List Value} (h : Row w ad vs) (g : Gr w w') : Row w' ad vs := fun i u hi => by
  obtain ⟨b, off, e, hc⟩ := h i u hi
  exact ⟨b, off, e, g.cell hc⟩
theorem Bytes.gr {w w' : World} {ad : Option Addr} {l : List UInt8} (h : Bytes w ad l) (g : Gr w w') : Bytes w' ad l := fun i hi => by
  obtain ⟨b, off, e, hc⟩ := h i hi
  exact ⟨b, off, e, g.cell hc⟩
/-- bytes as Go's values -/
def bv (l : List UInt8) : List Value := l.map fun x => .int .u8 (x.toNat : Int)
theorem bv_length (l : List UInt8) : (bv l).length = l.length := by simp [bv]
theorem bv_append (l m : List UInt8) : bv (l ++ m) = bv l ++ bv m := by simp [bv]
theorem bv_get (l : List UInt8) (i : Nat) (h : i < l.length) : (bv l)[i]? = some (.int .u8 (l[i].toNat : Int)) := by simp [bv, h]
theorem Bytes.row {w : World} {ad : Option Addr} {l : List UInt8} (h : Bytes w ad l) : Row w ad (bv l) := fun i u hi => by
  have hl : i < l.length := by rw [← bv_length l]; exact (List.getElem?_eq_some_iff.1 hi).1
  rw [bv_get l i hl] at hi
  obtain ⟨b, off, e, hc⟩ := h i hl
  exact ⟨b, off, e, hc.trans hi⟩
theorem Row.bytes {w : World} {ad : Option Addr} {l : List UInt8} (h : Row w ad (bv l)) : Bytes w ad l := fun i hi =>
  h i _ (bv_get l i hi)

/-- the slice (ad, n, cap) owns the head of a row among the blocks from 'base' on: n elements of 'size' cells, which are xs -/
def Owns (w : World) (base : Nat) (e : TypeId) (size : Nat) (ad : Option Addr) (cap n : Nat) (xs : List Value) : Prop :=
  xs.length = n * size ∧ n ≤ cap ∧ cap ≤ maxLen ∧
  ((ad = none ∧ n = 0 ∧ cap = 0) ∨
   ∃ g cur fr, ad = some ⟨g, 0, none⟩ ∧ base ≤ g ∧ w.heap[g]? = some (.cells cur e fr) ∧ cur.size ≤ fr.1 + (if fr = (0, 0) then cur.size else 0) ∧ cur.size = cap * size ∧ cur.toList.take (n * size) = xs)

theorem Owns.empty (w : World) (base : Nat) (e : TypeId) (size : Nat) : Owns w base e size none 0 0 [] := ⟨by simp, Nat.le_refl _, Nat.zero_le _, .inl ⟨rfl, rfl, rfl⟩⟩
theorem Owns.base {w : World} {base base' : Nat} {e : TypeId} {size : Nat} {ad : Option Addr} {cap n : Nat} {xs : List Value} (h : Owns w base e size ad cap n xs) (hb : base' ≤ base) : Owns w base' e size ad cap n xs := by
  obtain ⟨h1, h2, h3, h4 | ⟨g, cur, fr, e1, e2, rest⟩⟩ := h
  · exact ⟨h1, h2, h3, .inl h4⟩
  · exact ⟨h1, h2, h3, .inr ⟨g, cur, fr, e1, by omega, rest⟩⟩
theorem Owns.lt {w : World} {base : Nat} {e : TypeId} {size : Nat} {ad : Option Addr} {cap n : Nat} {xs : List Value} (h : Owns w base e size ad cap n xs) :
    ∀ a, ad = some a → base ≤ a.block ∧ a.block < w.heap.size := by
  intro a ha
  obtain ⟨_, _, _, ⟨e1, _⟩ | ⟨g, cur, fr, e1, e2, hg, _⟩⟩ := h
  · rw [e1] at ha; cases ha
  · rw [e1] at ha
    cases ha
    exact ⟨e2, (Array.getElem?_eq_some_iff.1 hg).1⟩
theorem Owns.kept {w w' : World} {base : Nat} {e : TypeId} {size : Nat} {ad : Option Addr} {cap n : Nat} {xs : List Value} (h : Owns w base e size ad cap n xs)
    (hk : ∀ g, ad = some ⟨g, 0, .none⟩ → w'.heap[g]? = w.heap[g]?) : Owns w' base e size ad cap n xs := by
  obtain ⟨h1, h2, h3, h4 | ⟨g, cur, fr, e1, e2, hg, rest⟩⟩ := h
  · exact ⟨h1, h2, h3, .inl h4⟩
  · exact ⟨h1, h2, h3, .inr ⟨g, cur, fr, e1, e2, (hk g e1).trans hg, rest⟩⟩
theorem Owns.gr {w w' : World} {base : Nat} {e : TypeId} {size : Nat} {ad : Option Addr} {cap n : Nat} {xs : List Value} (h : Owns w base e size ad cap n xs) (g : Gr w w') : Owns w' base e size ad cap n xs :=
  h.kept fun k hk => g.block k (h.lt _ hk).2
theorem Owns.grown {w w' : World} {base : Nat} {e : TypeId} {size : Nat} {ad : Option Addr} {cap n : Nat} {xs : List Value} {row : Option Nat} (h : Owns w base e size ad cap n xs) (g : w.grownBy w' row)
    (hne : ∀ a, ad = some a → some a.block ≠ row) : Owns w' base e size ad cap n xs :=
  h.kept fun k hk => g.block k (h.lt _ hk).2 (hne _ hk)
theorem Owns.row {w : World} {base : Nat} {e : TypeId} {size : Nat} {ad : Option Addr} {cap n : Nat} {xs : List Value} (h : Owns w base e size ad cap n xs) : Row w ad xs := by
  obtain ⟨h1, h2, h3, ⟨e1, e2, e3⟩ | ⟨g, cur, fr, e1, e2, hg, hfr, hs, ht⟩⟩ := h
  · subst e2
    have : xs = [] := List.eq_nil_of_length_eq_zero (by simpa using h1)
    subst this
    exact Row.nil _ _
  · intro i u hi
    refine ⟨g, 0, e1, ?_⟩
    rw [Nat.zero_add, cell_of_row w g i cur e fr hg]
    rw [← ht, List.getElem?_take] at hi
    split at hi
    · simpa using hi
    · cases hi
theorem Owns.nil_of {w : World} {base : Nat} {e : TypeId} {size : Nat} {cap n : Nat} {xs : List Value} (h : Owns w base e size .none cap n xs) : n = 0 ∧ cap = 0 ∧ xs = [] := by
  obtain ⟨h1, h2, h3, ⟨e1, e2, e3⟩ | ⟨g, cur, fr, e1, _⟩⟩ := h
  · subst e2; exact ⟨rfl, e3, List.eq_nil_of_length_eq_zero (by simpa using h1)⟩
  · cases e1

/-- no cell of the row is frozen -/
theorem free_of {fr : Nat × Nat} {s : Nat} (h : s ≤ fr.1 + (if fr = (0, 0) then s else 0)) (i : Nat) (hi : i < s) : (decide (fr.1 ≤ i) && decide (i < fr.2)) = false := by
  by_cases h0 : fr = (0, 0)
  · subst h0; simp
  · rw [if_neg h0] at h
    have : ¬ fr.1 ≤ i := by omega
    simp [this]
theorem frozen_of {w : World} {g : Nat} {cur : Array Value} {e : TypeId} {fr : Nat × Nat} (hg : w.heap[g]? = some (.cells cur e fr)) (hfr : cur.size ≤ fr.1 + (if fr = (0, 0) then cur.size else 0)) (i : Nat) (hi : i < cur.size) :
    w.frozen? ⟨g, i, none⟩ = false := by
  obtain ⟨f1, f2⟩ := fr
  simp only [World.frozen?, hg]
  exact free_of (fr := (f1, f2)) hfr i hi

theorem run_storeCells_un {P : Program} (g o : Nat) (t : TypeId) (fr : Nat × Nat) : ∀ (vs : List Value) (i : Nat) (cur : Array Value) (w : World), w.heap[g]? = some (.cells cur t fr) →
    cur.size ≤ fr.1 + (if fr = (0, 0) then cur.size else 0) → o + i + vs.length ≤ cur.size → (∀ v ∈ vs, v.oneCell' = true) →
    (storeCells ⟨g, o, none⟩ vs i).run P w = .ok () (w.setRow g (cur.toList.take (o + i) ++ vs ++ cur.toList.drop (o + i + vs.length)).toArray)
  | [], i, cur, w, hg, _, _, _ => by
    simp only [storeCells, List.append_nil, List.length_nil, Nat.add_zero, List.take_append_drop, Array.toArray_toList]
    rw [setRow_self w g cur t fr hg]
    rfl
  | v :: rest, i, cur, w, hg, hfr, hl, h1 => by
    have hi : o + i < cur.size := by simp at hl; omega
    have hadd : (⟨g, o, none⟩ : Addr).add i = ⟨g, o + i, none⟩ := by unfold Addr.add; split <;> simp_all
    have hcell : w.cell? ⟨g, o + i, none⟩ = some cur[o + i] := by simp [World.cell?, hg, hi]
    have hfro : w.frozen? ⟨g, o + i, none⟩ = false := frozen_of hg hfr _ hi
    have hst : (store ((⟨g, o, none⟩ : Addr).add i) v).run P w = .ok () (w.setRow g (cur.setIfInBounds (o + i) v)) := by
      rw [hadd, run_store P w _ v _ (h1 v (by simp)), hcell]
      simp [hfro, setCell_eq_setRow w g (o + i) cur t fr v hg]
    have ih := run_storeCells_un (P := P) g o t fr rest (i + 1) (cur.setIfInBounds (o + i) v) (w.setRow g (cur.setIfInBounds (o + i) v)) (setRow_heap w g cur _ t _ hg) (by simpa using hfr) (by simp at hl ⊢; omega) (fun x hx => h1 x (by simp [hx]))
    simp only [storeCells, Sem.run_bind, hst, Result.andThen_ok, ih, setRow_setRow]
    congr 3
    have e := list_seg_step cur.toList (o + i) v rest (by simp at hl ⊢; omega)
    simpa [Array.toList_setIfInBounds, Nat.add_assoc] using e

/-- what is known of a slice type and its elements -/
structure Elem (P : Program) (t e : TypeId) (z : Value) (size bytes : Nat) : Prop where
  ty : P.underlying t = some (.slice e)
  info : (P.info? e).map (fun i => (i.zero, i.size, i.bytes)) = some (some z, size, bytes)
  zs : z.cells.size = size
  pos : 0 < size

/-- what is appended, or copied: m elements, whose cells are news -/
def Src (P : Program) (u : TypeId) (w : World) (size : Nat) (x : Value) (m : Nat) (news : List Value) : Prop :=
  news.length = m * size ∧ (∀ v ∈ news, v.oneCell' = true) ∧
  ((∃ ad c e, x = .slice ad m c ∧ Row w ad news ∧ P.underlying u = some (.slice e)) ∨
   (∃ s : ByteArray, x = .string s ∧ m = s.size ∧ size = 1 ∧ news = bv s.data.toList ∧ P.underlying u = some .string))

theorem Src.gr {P : Program} {u : TypeId} {w w' : World} {size : Nat} {x : Value} {m : Nat} {news : List Value} (h : Src P u w size x m news) (g : Gr w w') : Src P u w' size x m news := by
  obtain ⟨h1, h2, ⟨ad, c, e, h3, h4, h5⟩ | h3⟩ := h
  · exact ⟨h1, h2, .inl ⟨ad, c, e, h3, h4.gr g, h5⟩⟩
  · exact ⟨h1, h2, .inr h3⟩
theorem bv_one (l : List UInt8) : ∀ v ∈ bv l, v.oneCell' = true := by
  intro v hv
  simp only [bv, List.mem_map] at hv
  obtain ⟨x, _, rfl⟩ := hv
  rfl
theorem Src.bytes {P : Program} {u e : TypeId} {w : World} {ad : Option Addr} {len c : Nat} {l : List UInt8} (h : Bytes w ad l) (hl : l.length = len) (hu : P.underlying u = some (.slice e)) : Src P u w 1 (.slice ad len c) len (bv l) :=
  ⟨by rw [bv_length]; omega, bv_one l, .inl ⟨ad, c, e, rfl, h.row, hu⟩⟩
theorem Src.str {P : Program} {u : TypeId} {w : World} (s : ByteArray) (hu : P.underlying u = some .string) : Src P u w 1 (.string s) s.size (bv s.data.toList) :=
  ⟨by rw [bv_length]; simp, bv_one _, .inr ⟨s, rfl, rfl, rfl, rfl, hu⟩⟩
theorem Src.own {P : Program} {u e e' : TypeId} {w : World} {base size : Nat} {ad : Option Addr} {cap n : Nat} {xs : List Value} (h : Owns w base e size ad cap n xs) (h1 : ∀ v ∈ xs, v.oneCell' = true) (hu : P.underlying u = some (.slice e')) : Src P u w size (.slice ad n cap) n xs :=
  ⟨h.1, h1, .inl ⟨ad, cap, e', rfl, h.row, hu⟩⟩

theorem Src.lenOf {P : Program} {u : TypeId} {w : World} {size : Nat} {x : Value} {m : Nat} {news : List Value} (h : Src P u w size x m news) (w' : World) : (Builtin.lenOf x).run P w' = .ok m w' := by
  obtain ⟨_, _, ⟨ad, c, e, rfl, _, _⟩ | ⟨s, rfl, rfl, _, _, _⟩⟩ := h
  · simp [Builtin.lenOf]
  · simp [Builtin.lenOf]
theorem Src.first {P : Program} {u : TypeId} {w : World} {size : Nat} {x : Value} {m : Nat} {news : List Value} (h : Src P u w size x m news) : (Builtin.firstCells size m x).run P w = .ok news.toArray w := by
  obtain ⟨h1, h2, ⟨ad, c, e, rfl, h4, _⟩ | ⟨s, rfl, rfl, h5, rfl, _⟩⟩ := h
  · cases ad with
    | none =>
      have : news = [] := by
        cases news with
        | nil => rfl
        | cons v r => obtain ⟨b, off, hh, _⟩ := h4 0 v rfl; cases hh
      subst this
      simp [Builtin.firstCells]
    | some a =>
      refine run_firstCells_some (P := P) w size m a m c news h1 ?_
      intro j v hj
      obtain ⟨b, off, hh, hc⟩ := h4 j v hj
      cases hh
      have hadd : (⟨b, off, none⟩ : Addr).add j = ⟨b, off + j, none⟩ := by unfold Addr.add; split <;> simp_all
      rw [hadd]; exact hc
  · have hx : (s.extract 0 s.size) = s := by simp
    simp [Builtin.firstCells, hx, bv]
    apply Array.ext'
    simp

theorem toList_take_append (cur : List Value) (k : Nat) (news : List Value) (h : k + news.length ≤ cur.length) :
    (cur.take k ++ news ++ cur.drop (k + news.length)).take (k + news.length) = cur.take k ++ news := by
  have : (cur.take k ++ news).length = k + news.length := by simp; omega
  rw [← this]; exact List.take_left

/-- WHAT append DOES to a slice that the call owns -/
theorem run_append {P : Program} {t u ty e : TypeId} {z : Value} {size bytes : Nat} (E : Elem P t e z size bytes) {w : World} {base : Nat} {ad : Option Addr} {cap n : Nat} {xs : List Value}
    (hown : Owns w base e size ad cap n xs) {x : Value} {m : Nat} {news : List Value} (hx : Src P u w size x m news)
    (h63 : n + m ≤ maxLen) (hbytes : (n + m) * bytes ≤ 140737488355328) (hbase : base ≤ w.heap.size) :
    ∃ ad' cap' w', (Builtin.append_ #[t, u] ty #[.slice ad n cap, x]).run P w = .ok (.slice ad' (n + m) cap') w' ∧ Owns w' base e size ad' cap' (n + m) (xs ++ news) ∧
      w.grownBy w' (ad.map (·.block)) ∧ (∀ a, ad' = some a → ad = some a ∨ w.heap.size ≤ a.block) := by
  obtain ⟨ht, hinfo, hzs, hpos⟩ := E
  obtain ⟨i, hi, hz, hsize, hby⟩ := info_parts hinfo
  subst hsize
  subst hby
  obtain ⟨d, hd, hdd⟩ : ∃ d, P.underlying u = some d ∧ (d = .string ∨ ∃ e', d = .slice e') := by
    obtain ⟨_, _, ⟨_, _, e', _, _, hu⟩ | ⟨_, _, _, _, _, hu⟩⟩ := hx
    · exact ⟨_, hu, .inr ⟨e', rfl⟩⟩
    · exact ⟨_, hu, .inl rfl⟩
  have hlen := hx.lenOf (P := P) w
  have hfirst := hx.first
  have hxl := hx.1
  have h1 := hx.2.1
  obtain ⟨hl, hnc, hcm, hcase⟩ := hown
  by_cases hroom : n + m ≤ cap
  · rcases hcase with ⟨rfl, rfl, rfl⟩ | ⟨g, cur, fr, rfl, hbg, hg, hfr, hcs, htake⟩
    · have hm : m = 0 := by omega
      subst hm
      have hn : news = [] := List.eq_nil_of_length_eq_zero (by simpa using hxl)
      have hxs : xs = [] := List.eq_nil_of_length_eq_zero (by simpa using hl)
      subst hn; subst hxs
      refine ⟨none, 0, w, ?_, Owns.empty _ _ _ _, ⟨rfl, rfl, rfl, Nat.le_refl _, fun _ _ _ => rfl⟩, fun a h => by cases h⟩
      rcases hdd with rfl | ⟨e', rfl⟩ <;> simp [Builtin.append_, run_underlying ht, run_underlying hd, sizeOf, typeInfo, hi, hlen, hfirst]
    · have hfit : n * i.size + 0 + news.length ≤ cur.size := by rw [hxl, hcs, Nat.add_zero, ← Nat.add_mul]; exact Nat.mul_le_mul_right _ hroom
      have hst := run_storeCells_un (P := P) g (n * i.size) e fr news 0 cur w hg hfr hfit h1
      simp only [Nat.add_zero] at hst hfit
      refine ⟨some ⟨g, 0, .none⟩, cap, w.setRow g (cur.toList.take (n * i.size) ++ news ++ cur.toList.drop (n * i.size + news.length)).toArray, ?_, ⟨by rw [List.length_append, hl, hxl, Nat.add_mul], hroom, hcm, .inr ⟨g, (cur.toList.take (n * i.size) ++ news ++ cur.toList.drop (n * i.size + news.length)).toArray, fr, rfl, hbg, setRow_heap w g cur _ e fr hg, ?_, ?_, ?_⟩⟩, ⟨rfl, rfl, rfl, by simp, fun k _ hk => setRow_other w g k _ (fun e => hk (by simp [e]))⟩, fun a h => .inl h⟩
      · rcases hdd with rfl | ⟨e', rfl⟩ <;> simp [Builtin.append_, run_underlying ht, run_underlying hd, sizeOf, typeInfo, hi, hlen, hroom, hfirst, Addr.add_lit, hst]
      · have : (cur.toList.take (n * i.size) ++ news ++ cur.toList.drop (n * i.size + news.length)).toArray.size = cur.size := by simp; omega
        rw [this]; exact hfr
      · simp only [List.size_toArray, List.length_append, List.length_take, List.length_drop, Array.length_toList]; omega
      · rw [Nat.add_mul, ← hxl, toList_take_append _ _ _ (by simpa using hfit), htake]
  · have hold : (Builtin.firstCells i.size n (.slice ad n cap)).run P w.drew = .ok xs.toArray w.drew := by
      cases ad with
      | none =>
        have : xs = [] := (Owns.nil_of (w := w) (base := base) (e := e) (size := i.size) (cap := cap) (n := n) ⟨hl, hnc, hcm, hcase⟩).2.2
        subst this
        simp [Builtin.firstCells]
      | some a =>
        have hrow : Row w (some a) xs := Owns.row (base := base) (e := e) (size := i.size) (cap := cap) (n := n) ⟨hl, hnc, hcm, hcase⟩
        refine run_firstCells_some (P := P) w.drew i.size n a n cap xs hl ?_
        intro j v hj
        obtain ⟨b, off, hh, hc⟩ := hrow j v hj
        cases hh
        have hadd : (⟨b, off, none⟩ : Addr).add j = ⟨b, off + j, none⟩ := by unfold Addr.add; split <;> simp_all
        rw [hadd]; exact hc
    have hfirst' := (hx.gr (Gr.drew w)).first
    have hnr : ¬ (n + m ≤ cap) := hroom
    have h63' : ¬ (9223372036854775807 < ((n : Int) + (m : Int))) := by unfold maxLen at h63; omega
    have hfit := growslice_fits (need := n + m) (old := cap) (bytes := i.bytes) (by omega) hbytes
    have h48' : ¬ (281474976710656 < Builtin.nextslicecap (n + m) cap * i.bytes) := by omega
    have hge := grownCap_ge w (n + m) cap e
    refine ⟨some ⟨w.heap.size, 0, .none⟩, grownCap w (n + m) cap e, w.drew.alloc (.cells (xs.toArray ++ news.toArray ++ Builtin.zeroCells z.cells (grownCap w (n + m) cap e - (n + m))) e), ?_,
      ⟨by rw [List.length_append, hl, hxl, Nat.add_mul], hge, grownCap_le_maxLen w (n + m) cap e h63, .inr ⟨w.heap.size, _, (0, 0), rfl, hbase, heap_alloc_new w.drew _, by simp, ?_, ?_⟩⟩, ⟨rfl, rfl, rfl, by simp, fun k hk _ => Below.heap_alloc w.drew _ k hk⟩, fun a h => by cases h; exact .inr (Nat.le_refl _)⟩
    · rcases hdd with rfl | ⟨e', rfl⟩ <;> simp [Builtin.append_, run_underlying ht, run_underlying hd, sizeOf, typeInfo, zeroValue, hi, hz, hlen, hnr, h63', h48', Question.forced, hfirst', hold, newRow, grownCap]
      all_goals (congr 2; apply Array.ext'; simp [List.append_assoc])
    · simp only [Array.size_append, List.size_toArray, size_zeroCells, hzs, hl, hxl, ← Nat.add_mul]
      congr 1
      omega
    · simp only [Array.toList_append]
      have : (xs ++ news).length = (n + m) * i.size := by rw [List.length_append, hl, hxl, Nat.add_mul]
      rw [← this]; exact List.take_left

theorem wp_append {P : Program} {t u e : TypeId} {z : Value} {size bytes : Nat} (E : Elem P t e z size bytes) {w : World} {ops : Array Oper} {rest : List Oper} {o : Oper} {a : Act} {Q : Exit → Act → World → Prop} (hgd : o.guard = none) (s x : Operand)
    (ho : o.op = .call { callee := .builtin .append, args := #[s, x], argTypes := #[t, u] })
    {base : Nat} {ad : Option Addr} {cap n : Nat} {xs : List Value} (hs : a.eval s = .slice ad n cap) (hown : Owns w base e size ad cap n xs)
    {xv : Value} {m : Nat} {news : List Value} (hxv : a.eval x = xv) (hx : Src P u w size xv m news)
    (h63 : n + m ≤ maxLen) (hbytes : (n + m) * bytes ≤ 140737488355328) (hbase : base ≤ w.heap.size)
    (h : ∀ ad' cap' w', Owns w' base e size ad' cap' (n + m) (xs ++ news) → w.grownBy w' (ad.map (·.block)) → (∀ a, ad' = some a → ad = some a ∨ w.heap.size ≤ a.block) → wpList P ops Q rest (a.put o.dst (.slice ad' (n + m) cap')) w') :
    wpList P ops Q (o :: rest) a w := by
  refine wpList_plain hgd fun K hK => ?_
  obtain ⟨ad', cap', w', hr, h2, h3, h4⟩ := run_append (u := u) (ty := o.type) E hown hx h63 hbytes hbase
  unfold Oper.wp execOp
  simp only [ho, resolve, invoke, builtin, Sem.run_bind, Sem.run_pure, Result.andThen_ok, List.map_toArray, List.map_cons, List.map_nil, hs, hxv, hr]
  exact hK _ _ (h ad' cap' w' h2 h3 h4)

theorem Row.alloc (w : World) (C : Array Value) (e : TypeId) (fr : Nat × Nat) (vs : List Value) (h : C.toList = vs) : Row (w.alloc (.cells C e fr)) (some ⟨w.heap.size, 0, none⟩) vs := by
  intro i u hi
  refine ⟨w.heap.size, 0, rfl, ?_⟩
  rw [Nat.zero_add, cell_of_row _ w.heap.size i C e fr (heap_alloc_new w _)]
  rw [← h] at hi
  simpa using hi
theorem Bytes.alloc (w : World) (C : Array Value) (e : TypeId) (fr : Nat × Nat) (l : List UInt8) (h : C.toList = bv l) : Bytes (w.alloc (.cells C e fr)) (some ⟨w.heap.size, 0, none⟩) l :=
  (Row.alloc w C e fr _ h).bytes
theorem Owns.made (w : World) (base : Nat) (C : Array Value) (e : TypeId) (fr : Nat × Nat) (size n cap : Nat) (xs : List Value) (hb : base ≤ w.heap.size) (hm : cap ≤ maxLen) (hn : n ≤ cap)
    (hs : C.size = cap * size) (hfr : C.size ≤ fr.1 + (if fr = (0, 0) then C.size else 0)) (hx : C.toList.take (n * size) = xs) : Owns (w.alloc (.cells C e fr)) base e size (some ⟨w.heap.size, 0, none⟩) cap n xs := by
  refine ⟨?_, hn, hm, .inr ⟨w.heap.size, C, fr, rfl, hb, heap_alloc_new w _, hfr, hs, hx⟩⟩
  rw [← hx, List.length_take, Array.length_toList, hs]
  exact Nat.min_eq_left (Nat.mul_le_mul_right _ hn)

/-- a region that draws its order, whose operations read, or call what only makes memory: one walk, in the order of the text -/
theorem region_gr {P : Program} {id : Nat} {Q : Exit → Act → World → Prop} {a : Act} {w : World} {l : List Oper} (hm : P.follows .mixedOrders = true) (hB : Region.lexB .any l.toArray = true)
    (h : wpQuiet P l.toArray (Gr w) (fun a' => ∀ w', Gr w w' → Q .normal a' w') l a) : (Code.region id l.toArray true).wp P Q a w :=
  wp_region_quiet (C := Gr w) hm hB (Gr.drew w) (by simpa using h)
/-- a class of worlds is not empty: what does not speak of the world holds -/
@[go_sem] theorem gr_const (w : World) (p : Prop) : (∀ w', Gr w w' → p) ↔ p := ⟨fun h => h w (Gr.refl w), fun h _ _ => h⟩
/-- a contract, met in a world of the class -/
theorem Calls.gr_of {P : Program} {f : FuncId} {args : Array Value} {w w1 : World} {v : Value} {R : Ending → World → Prop} (hg : Gr w w1) (h : Calls P f args w1 R) (hr : ∀ e w2, R e w2 → e = .returned v ∧ Gr w1 w2) :
    Calls P f args w1 fun e w2 => e = .returned v ∧ Gr w w2 :=
  h.mono fun e w2 hR => ⟨(hr e w2 hR).1, hg.trans (hr e w2 hR).2⟩
theorem same_gr {e : Ending} {v : Value} {w w2 : World} (h : e = .returned v ∧ w = w2) : e = .returned v ∧ Gr w w2 := ⟨h.1, h.2 ▸ Gr.refl w⟩
/-- a slice of bytes, as a string -/
def str (l : List UInt8) : ByteArray := ⟨l.toArray⟩
theorem str_list (l : List UInt8) : (str l).data.toList = l := by simp [str]
theorem str_size (l : List UInt8) : (str l).size = l.length := by simp [str, ByteArray.size]
theorem str_append (a b : List UInt8) : str a ++ str b = str (a ++ b) := by
  apply ByteArray.ext
  simp [str]
@[go_sem] theorem str_toList (l : List UInt8) : (str l).toList = l := by rw [Go.ByteArray.toList_eq, str_list]
theorem str_inj {a b : List UInt8} (h : str a = str b) : a = b := by
  have := congrArg (fun t => t.data.toList) h
  simpa [str] using this
theorem run_string {P : Program} {w : World} {src dst e : TypeId} (hs : P.underlying src = some (.slice e)) (he : P.underlying e = some (.int .u8)) (hd : P.underlying dst = some .string)
    {ad : Option Addr} {len cap : Nat} {l : List UInt8} (hl : l.length = len) (hb : Bytes w ad l) : (convert src dst (.slice ad len cap)).run P w = .ok (.string (str l)) w := by
  subst hl
  cases ad with
  | none =>
    have : l = [] := by
      cases l with
      | nil => rfl
      | cons x r => obtain ⟨b, off, hh, _⟩ := hb 0 (by simp); cases hh
    subst this
    rw [run_convert_bytes_string w src dst e .none _ cap hs he hd]
    rfl
  | some a =>
    refine run_convert_bytes_back w src dst e a cap l hs he hd ?_
    intro j hj
    obtain ⟨b, off, hh, hc⟩ := hb j hj
    cases hh
    have hadd : (⟨b, off, none⟩ : Addr).add j = ⟨b, off + j, none⟩ := by unfold Addr.add; split <;> simp_all
    rw [hadd]; exact hc

/-- make([]T, n, m), elements of one cell -/
theorem wp_make {P : Program} {t e : TypeId} {z : Value} {bytes : Nat} (E : Elem P t e z 1 bytes) (hz1 : z.cells = #[z]) {w : World} {ops : Array Oper} {rest : List Oper} {o : Oper} {a : Act} {Q : Exit → Act → World → Prop} (hgd : o.guard = none) (l c : Operand)
    (ho : o.op = .makeSlice t l c) {kl kc : IntKind} {L C : Int} (n m : Nat) (hl : a.eval l = .int kl L) (hc : a.eval c = .int kc C) (hL : L = (n : Int)) (hC : C = (m : Int)) (hnm : n ≤ m) (h63 : m ≤ maxLen) (hbytes : bytes * m ≤ 281474976710656)
    (h : ∀ w', Owns w' w.heap.size e 1 (some ⟨w.heap.size, 0, none⟩) m n (List.replicate n z) → Gr w w' → w'.heap.size = w.heap.size + 1 → wpList P ops Q rest (a.put o.dst (.slice (some ⟨w.heap.size, 0, none⟩) n m)) w') :
    wpList P ops Q (o :: rest) a w := by
  refine wpList_plain hgd fun K hK => ?_
  obtain ⟨ht, hinfo, hzs, hpos⟩ := E
  obtain ⟨i, hi, hz, hsize, hby⟩ := info_parts hinfo
  subst hL
  subst hC
  have h63' : (m : Int) ≤ 9223372036854775807 := by simp [maxLen] at h63; omega
  have hb' : (i.bytes : Int) * (m : Int) ≤ 281474976710656 := by
    have h : ((i.bytes * m : Nat) : Int) ≤ 281474976710656 := by rw [hby]; omega
    rwa [Int.natCast_mul] at h
  have hr := run_make (P := P) w t e i z ht hi hz kl kc n m (by omega) (by omega) hb' h63'
  simp only [Int.toNat_natCast] at hr
  unfold Oper.wp
  simp only [execOp, ho, hl, hc, Sem.run_bind, Sem.run_pure, hr, Result.andThen_ok]
  refine hK _ _ (h _ ?_ (Gr.alloc _ _) (by simp))
  refine Owns.made w _ _ e (0, 0) 1 n m _ (Nat.le_refl _) h63 hnm ?_ (by simp) ?_
  · rw [hsize, Nat.mul_one, hz1, ← Array.length_toList, toList_madeCells_one, List.length_replicate]
  · rw [hsize, Nat.mul_one, Nat.mul_one, hz1, toList_madeCells_one, List.take_replicate, Nat.min_eq_left hnm]
theorem bv_replicate (n : Nat) : List.replicate n (Value.int .u8 0) = bv (List.replicate n 0) := by simp [bv]
/-- a store into an owned row -/
theorem Owns.store {w : World} {base : Nat} {e : TypeId} {ad : Option Addr} {cap n : Nat} {xs : List Value} (h : Owns w base e 1 ad cap n xs) {g i : Nat} (had : ad = some ⟨g, 0, .none⟩) (hi : i < n) (u : Value) :
    Owns (w.setCell ⟨g, i, .none⟩ u) base e 1 ad cap n (xs.set i u) := by
  obtain ⟨h1, h2, h3, ⟨e1, _⟩ | ⟨g', cur, fr, e1, e2, hg, hfr, hs, ht⟩⟩ := h
  · rw [e1] at had; cases had
  · rw [e1] at had
    cases had
    rw [setCell_eq_setRow w g i cur e fr u hg]
    refine ⟨by simp [h1], h2, h3, .inr ⟨g, _, fr, e1, e2, setRow_heap w g cur _ e fr hg, by simpa using hfr, by simpa using hs, ?_⟩⟩
    rw [Array.toList_setIfInBounds, ← ht]
    apply List.ext_getElem?
    intro j
    simp only [List.getElem?_take, List.getElem?_set, List.length_take]
    by_cases h1 : j < n * 1
    · by_cases h2 : i = j
      · subst h2
        have h4 : i < min (n * 1) cur.toList.length := by rw [Nat.lt_min]; exact ⟨h1, by simp; omega⟩
        have h5 : i < cur.toList.length := by simp; omega
        simp only [h1, h4, h5, if_true]
      · simp only [h1, h2, if_true, if_false]
    · have h2 : ¬ i = j := by omega
      simp only [h1, h2, if_false]
theorem Owns.unfrozen {w : World} {base : Nat} {e : TypeId} {size : Nat} {ad : Option Addr} {cap n : Nat} {xs : List Value} (h : Owns w base e size ad cap n xs) {g i : Nat} (had : ad = some ⟨g, 0, .none⟩) (hi : i < n * size) : w.frozen? ⟨g, i, .none⟩ = false := by
  obtain ⟨h1, h2, h3, ⟨e1, _⟩ | ⟨g', cur, fr, e1, e2, hg, hfr, hs, ht⟩⟩ := h
  · rw [e1] at had; cases had
  · rw [e1] at had
    cases had
    exact frozen_of hg hfr i (by rw [hs]; exact Nat.lt_of_lt_of_le hi (Nat.mul_le_mul_right _ h2))
theorem Owns.at {w : World} {base : Nat} {e : TypeId} {size : Nat} {ad : Option Addr} {cap n : Nat} {xs : List Value} (h : Owns w base e size ad cap n xs) {i : Nat} {u : Value} (hi : xs[i]? = some u) :
    ∃ g, ad = some ⟨g, 0, .none⟩ ∧ base ≤ g ∧ w.cell? ⟨g, i, .none⟩ = some u := by
  obtain ⟨b, off, e1, hc⟩ := h.row i u hi
  obtain ⟨_, _, _, ⟨e2, _⟩ | ⟨g', cur, fr, e2, hb, _⟩⟩ := h
  · rw [e2] at e1; cases e1
  · rw [e2] at e1
    cases e1
    exact ⟨b, e2, hb, by rw [Nat.zero_add] at hc; exact hc⟩
theorem Owns.bytes {w : World} {base : Nat} {e : TypeId} {ad : Option Addr} {cap n : Nat} {l : List UInt8} (h : Owns w base e 1 ad cap n (bv l)) : Bytes w ad l := h.row.bytes
theorem Owns.len {w : World} {base : Nat} {e : TypeId} {ad : Option Addr} {cap n : Nat} {l : List UInt8} (h : Owns w base e 1 ad cap n (bv l)) : l.length = n := by
  have := h.1; rw [bv_length] at this; omega
theorem bv_set (l : List UInt8) (i : Nat) (x : UInt8) : (bv l).set i (.int .u8 (x.toNat : Int)) = bv (l.set i x) := by simp [bv, List.map_set]

theorem Bytes.take {w : World} {ad : Option Addr} {l : List UInt8} (h : Bytes w ad l) (n : Nat) : Bytes w ad (l.take n) := fun i hi => by
  have hl : i < l.length := by rw [List.length_take] at hi; omega
  obtain ⟨b, off, e, hc⟩ := h i hl
  exact ⟨b, off, e, by rw [hc, List.getElem_take]⟩
theorem Bytes.drop {w : World} {b off : Nat} {l : List UInt8} (h : Bytes w (some ⟨b, off, none⟩) l) (n : Nat) : Bytes w (some ⟨b, off + n, none⟩) (l.drop n) := fun i hi => by
  have hl : n + i < l.length := by rw [List.length_drop] at hi; omega
  obtain ⟨b', off', e, hc⟩ := h (n + i) hl
  cases e
  exact ⟨b, off + n, rfl, by rw [Nat.add_assoc, hc, List.getElem_drop]⟩

/-- what hands back bytes of its own -/
def RetB (e : TypeId) (w : World) (l : List UInt8) : Ending → World → Prop := fun x w' =>
  ∃ ad cap, x = .returned (.slice ad l.length cap) ∧ Owns w' w.heap.size e 1 ad cap l.length (bv l) ∧ Gr w w'

/-- one byte, laid in a block of its own -/
theorem Src.one {P : Program} {u e e' : TypeId} (w : World) (X : Int) (x : UInt8) (hX : X = (x.toNat : Int)) (hu : P.underlying u = some (.slice e')) :
    Src P u (w.alloc (.cells #[.int .u8 X] e)) 1 (.slice (some ⟨w.heap.size, 0, none⟩) 1 1) 1 (bv [x]) := by
  subst hX
  exact Src.bytes (Bytes.alloc w _ e (0, 0) [x] rfl) rfl hu
/-- what grew behind a new block, with writes to an owned row alone -/
theorem Gr.app {a w w' : World} {o : Obj} {ad : Option Addr} {base : Nat} {e : TypeId} {size cap n : Nat} {xs : List Value} (h : Gr a w) (ho : Owns w base e size ad cap n xs) (hb : a.heap.size ≤ base) (hg : (w.alloc o).grownBy w' (ad.map (·.block))) : Gr a w' :=
  (h.trans (Gr.alloc _ _)).grown hg (fun k hk => by
    cases ad with
    | none => cases hk
    | some x => cases hk; exact Nat.le_trans hb (ho.lt x rfl).1)

/-- a cut of a slice, as the walk writes it -/
theorem Bytes.cut {w : World} {ad : Option Addr} {l : List UInt8} (h : Bytes w ad l) (k n : Nat) (hk : k + n ≤ l.length) : Bytes w (Option.map (fun x => x.add k) ad) ((l.drop k).take n) := fun i hi => by
  have hl : k + i < l.length := by simp at hi; omega
  obtain ⟨b, off, e, hc⟩ := h (k + i) hl
  subst e
  have hadd : (⟨b, off, none⟩ : Addr).add k = ⟨b, off + k, none⟩ := by unfold Addr.add; split <;> simp_all
  refine ⟨b, off + k, by simp [hadd], ?_⟩
  rw [Nat.add_assoc, hc, List.getElem_take, List.getElem_drop]
theorem cut_len {l : List UInt8} {k n : Nat} (hk : k + n ≤ l.length) : ((l.drop k).take n).length = n := by simp; omega

/-- a cut of a string -/
theorem run_str_cut {P : Program} {T : TypeId} (hT : P.underlying T = some .string) (t : ByteArray) (k n : Nat) (h : k + n ≤ t.size) (w : World) :
    (Instr.slice T (.string t) (some (.int .i64 (k : Int))) (some (.int .i64 ((k : Int) + (n : Int)))) none).run P w = .ok (.string (t.extract k (k + n))) w := by
  rw [run_slice_string_if _ _ _ _ _ _ _ hT, if_pos ⟨by omega, by omega⟩, if_pos ⟨by omega, by omega⟩]
  congr 3 <;> omega

/-- a string, as bytes of its own -/
theorem bytes_str {P : Program} {src dst e : TypeId} (hs : P.underlying src = some .string) (hd : P.underlying dst = some (.slice e)) (he : P.underlying e = some (.int .u8)) (w : World) (l : List UInt8) (hl : l.length ≤ maxLen) :
    ∃ cap w', (convert src dst (.string (str l))).run P w = .ok (.slice (some ⟨w.heap.size, 0, none⟩) l.length cap) w' ∧ Owns w' w.heap.size e 1 (some ⟨w.heap.size, 0, none⟩) cap l.length (bv l) ∧ Gr w w' ∧ w'.heap.size = w.heap.size + 1 := by
  have h1 := run_bytes_of_string (P := P) w src dst e (str l) hs hd he
  rw [str_size] at h1
  have hge := grownCap_ge w l.length 0 e
  have hle := grownCap_le_maxLen w l.length 0 e hl
  have hsz : (bytesRow (str l) (grownCap w l.length 0 e)).size = grownCap w l.length 0 e := by
    have h2 : (str l).data.size = l.length := by simp [str]
    simp only [bytesRow, Array.size_append, Array.size_map, Array.size_replicate, h2, str_size]
    omega
  refine ⟨_, _, h1, ?_, ⟨rfl, rfl, rfl, by simp, fun k hk => Below.heap_alloc w.drew _ k hk⟩, by simp⟩
  refine ⟨by simp [bv], hge, hle, .inr ⟨w.heap.size, _, _, rfl, Nat.le_refl _, heap_alloc_new w.drew _, by simp, by rw [hsz, Nat.mul_one], ?_⟩⟩
  simp [bytesRow, str, bv]

end Go.Proofs.Ytfnimpgphagnfaa
