/- Layer 1 (region): Alloc walked. -/
import Derived.Test.YtnafhjgfkofkbaaBunA
import Derived.Test.YtnafhjgfkofkbaaRows
import Derived.Lib.SliceRun
/- Layer 1 (region): a pool in plain words. No program is in sight here. -/
namespace Go.Proofs.Ytnafhjgfkofkbaa
set_option linter.unusedVariables false
set_option linter.unusedSimpArgs false
open Go.RowKit
/-- a region: is it there, its generation, its slabs, how far it is handed out -/
structure Land where
  there : Bool
  gen : Nat
  slabs : List Nat
  fill : Nat
def noLand : Land := ⟨false, 0, [], 0⟩
/-- a pool: how many bytes a slab has, the slabs' bytes, which are taken, the regions -/
structure PoolF where
  size : Nat
  bytes : List (List UInt8)
  taken : List Bool
  lands : List Land
def landAt (p : PoolF) (i : Nat) : Land := p.lands.getD i noLand
/-- a region that is in order -/
structure LandOk (p : PoolF) (l : Land) : Prop where
  nodup : l.slabs.Nodup
  lt : ∀ s ∈ l.slabs, s < p.bytes.length
  fill : (l.slabs = [] ∧ l.fill = 0) ∨ (l.slabs ≠ [] ∧ (l.slabs.length - 1) * p.size < l.fill ∧ l.fill ≤ l.slabs.length * p.size)
  away : l.there = false → l.slabs = []
/-- a pool that is in order -/
structure PoolOk (p : PoolF) : Prop where
  s1 : 64 ≤ p.size
  s2 : p.size ≤ 65536
  s3 : p.size % 8 = 0
  n1 : 1 ≤ p.bytes.length
  n2 : p.bytes.length ≤ 4096
  bl : ∀ b ∈ p.bytes, b.length = p.size
  tk : p.taken.length = p.bytes.length
  ln : p.lands.length = 256
  ld : ∀ i, i < 256 → LandOk p (landAt p i)
  has : ∀ s, s < p.bytes.length → (p.taken.getD s false = true ↔ ∃ i, i < 256 ∧ s ∈ (landAt p i).slabs)
  apart : ∀ i j s, i < 256 → j < 256 → s ∈ (landAt p i).slabs → s ∈ (landAt p j).slabs → i = j
theorem nodup_len : ∀ (n : Nat) (l : List Nat), l.Nodup → (∀ s ∈ l, s < n) → l.length ≤ n
  | 0, l, _, h => by
    cases l with
    | nil => simp
    | cons a t => have := h a (by simp); omega
  | n + 1, l, hd, h => by
    have h1 := nodup_len n (l.filter (· != n)) (hd.filter _) (fun s hs => by
      rw [List.mem_filter] at hs
      have := h s hs.1
      have h2 : s ≠ n := by simpa using hs.2
      omega)
    have h2 : l.length ≤ (l.filter (· != n)).length + 1 := by
      clear h1 h
      induction l with
      | nil => simp
      | cons a t ih =>
        rw [List.nodup_cons] at hd
        by_cases ha : a = n
        · subst ha
          have : t.filter (· != a) = t := List.filter_eq_self.2 (fun x hx => by
            have : x ≠ a := fun e => hd.1 (e ▸ hx)
            simpa using this)
          rw [List.filter_cons, if_neg (by simp), this]
          simp
        · rw [List.filter_cons, if_pos (by simpa using ha)]
          have := ih hd.2
          simp only [List.length_cons]
          omega
    omega
theorem LandOk.len {p : PoolF} {l : Land} (h : LandOk p l) : l.slabs.length ≤ p.bytes.length := nodup_len _ _ h.nodup h.lt
theorem LandOk.cap {p : PoolF} {l : Land} (h : LandOk p l) (hp : PoolOk p) : l.slabs.length * p.size ≤ 268435456 :=
  Nat.le_trans (Nat.mul_le_mul (Nat.le_trans h.len hp.n2) hp.s2) (by decide)
theorem LandOk.fill_le {p : PoolF} {l : Land} (h : LandOk p l) : l.fill ≤ l.slabs.length * p.size := by
  rcases h.fill with ⟨h1, h2⟩ | ⟨_, _, h3⟩
  · omega
  · exact h3
theorem landAt_set (p : PoolF) (i j : Nat) (l : Land) (hi : i < p.lands.length) : landAt { p with lands := p.lands.set i l } j = if i = j then l else landAt p j := by
  unfold landAt
  simp only [List.getD_eq_getElem?_getD, List.getElem?_set]
  by_cases h : i = j
  · subst h; simp [hi]
  · simp [h]
/-- the region of a number -/
def landF (p : PoolF) (r : Int) : Option Nat := if 0 ≤ r ∧ r < 256 ∧ (landAt p r.toNat).there = true then some r.toNat else none
theorem landF_some {p : PoolF} {r : Int} {i : Nat} (h : landF p r = some i) : r = (i : Int) ∧ i < 256 ∧ (landAt p i).there = true := by
  unfold landF at h
  split at h
  · rename_i hc
    cases h
    refine ⟨by omega, by omega, hc.2.2⟩
  · cases h
theorem landF_of {p : PoolF} {i : Nat} (hi : i < 256) (h : (landAt p i).there = true) : landF p (i : Int) = some i := by
  unfold landF
  rw [if_pos ⟨by omega, by omega, by simpa using h⟩]
  simp
/-- Make -/
def makeAt (p : PoolF) (i : Nat) : PoolF := { p with lands := p.lands.set i ⟨true, (landAt p i).gen + 1, [], 0⟩ }
def makeF (p : PoolF) : Option Nat := (List.range 256).find? fun i => !(landAt p i).there
theorem makeF_some {p : PoolF} {i : Nat} (h : makeF p = some i) : i < 256 ∧ (landAt p i).there = false ∧ ∀ j, j < i → (landAt p j).there = true := by
  unfold makeF at h
  rw [List.find?_range_eq_some] at h
  obtain ⟨h1, h2, h3⟩ := h
  refine ⟨by simpa using h2, by simpa using h1, fun j hj => ?_⟩
  have := h3 j hj
  simpa using this
theorem makeF_none {p : PoolF} (h : makeF p = none) : ∀ j, j < 256 → (landAt p j).there = true := by
  unfold makeF at h
  rw [List.find?_eq_none] at h
  intro j hj
  have := h j (by simpa using hj)
  simpa using this
theorem makeF_is {p : PoolF} {i : Nat} (hi : i < 256) (h0 : (landAt p i).there = false) (h1 : ∀ j, j < i → (landAt p j).there = true) : makeF p = some i := by
  unfold makeF
  rw [List.find?_range_eq_some]
  exact ⟨by simpa using h0, by simpa using hi, fun j hj => by simpa using h1 j hj⟩
theorem makeF_isnone {p : PoolF} (h1 : ∀ j, j < 256 → (landAt p j).there = true) : makeF p = none := by
  unfold makeF
  rw [List.find?_eq_none]
  intro j hj
  have := h1 j (by simpa using hj)
  simpa using this
/-- the least idle slab -/
def idleF (p : PoolF) : Option Nat := (List.range p.taken.length).find? fun s => !(p.taken.getD s false)
theorem idleF_some {p : PoolF} {s : Nat} (h : idleF p = some s) : s < p.taken.length ∧ p.taken.getD s false = false ∧ ∀ j, j < s → p.taken.getD j false = true := by
  unfold idleF at h
  rw [List.find?_range_eq_some] at h
  obtain ⟨h1, h2, h3⟩ := h
  refine ⟨by simpa using h2, by simpa using h1, fun j hj => ?_⟩
  have := h3 j hj
  simpa using this
theorem idleF_none {p : PoolF} (h : idleF p = none) : ∀ j, j < p.taken.length → p.taken.getD j false = true := by
  unfold idleF at h
  rw [List.find?_eq_none] at h
  intro j hj
  have := h j (by simpa using hj)
  simpa using this
/-- a region has one slab more -/
def growAt (p : PoolF) (i s : Nat) : PoolF :=
  { p with bytes := p.bytes.set s (List.replicate p.size 0), taken := p.taken.set s true, lands := p.lands.set i ⟨(landAt p i).there, (landAt p i).gen, (landAt p i).slabs ++ [s], (landAt p i).slabs.length * p.size⟩ }
def fillAt (p : PoolF) (i f : Nat) : PoolF := { p with lands := p.lands.set i ⟨(landAt p i).there, (landAt p i).gen, (landAt p i).slabs, f⟩ }
/-- a piece -/
structure Hd where
  region : Int
  gen : Int
  off : Int
  len : Int
def noHd : Hd := ⟨0, 0, 0, 0⟩
def alignOk (a : Int) : Bool := a == 1 || a == 2 || a == 4 || a == 8 || a == 16 || a == 32 || a == 64
def upTo (n a : Nat) : Nat := (n + a - 1) / a * a
/-- how much of the last slab is handed out -/
def inF (p : PoolF) (i : Nat) : Nat := p.size - ((landAt p i).slabs.length * p.size - (landAt p i).fill)
/-- Alloc: the piece, the error, the pool behind it -/
def allocF (p : PoolF) (r n a : Int) : Hd × Nat × PoolF :=
  match landF p r with
  | none => (noHd, 7, p)
  | some i =>
    if n < 1 ∨ n > (p.size : Int) ∨ alignOk a = false then (noHd, 1, p)
    else
      let at_ := upTo (inF p i) a.toNat
      if (landAt p i).slabs = [] ∨ p.size < at_ + n.toNat then
        match idleF p with
        | none => (noHd, 5, p)
        | some s => (⟨(i : Int), ((landAt p i).gen : Int), (((landAt p i).slabs.length * p.size : Nat) : Int), n⟩, 0, fillAt (growAt p i s) i ((landAt p i).slabs.length * p.size + n.toNat))
      else (⟨(i : Int), ((landAt p i).gen : Int), ((((landAt p i).slabs.length - 1) * p.size + at_ : Nat) : Int), n⟩, 0, fillAt p i (((landAt p i).slabs.length - 1) * p.size + at_ + n.toNat))
/-- a piece's slab and where it begins there; or the error -/
def pieceF (p : PoolF) (h : Hd) : (Nat × Nat) × Nat :=
  match landF p h.region with
  | none => ((0, 0), 3)
  | some i =>
    if ((landAt p i).gen : Int) ≠ h.gen then ((0, 0), 3)
    else if h.len < 1 ∨ h.off < 0 ∨ h.off > ((landAt p i).fill : Int) ∨ h.len > ((landAt p i).fill : Int) - h.off then ((0, 0), 1)
    else if h.off.toNat % p.size + h.len.toNat > p.size then ((0, 0), 1)
    else (((landAt p i).slabs.getD (h.off.toNat / p.size) 0, h.off.toNat % p.size), 0)
def bytesAt (p : PoolF) (s : Nat) : List UInt8 := p.bytes.getD s []
/-- Load -/
def loadF (p : PoolF) (h : Hd) : List UInt8 × Nat :=
  match pieceF p h with
  | ((s, k), 0) => (((bytesAt p s).drop k).take h.len.toNat, 0)
  | (_, e) => ([], e)
/-- Store -/
def storeF (p : PoolF) (h : Hd) (at_ : Int) (b : List UInt8) : Nat × PoolF :=
  match pieceF p h with
  | ((s, k), 0) =>
    if at_ < 0 ∨ at_ > h.len ∨ (b.length : Int) > h.len - at_ then (1, p)
    else (0, { p with bytes := p.bytes.set s (((bytesAt p s).take (k + at_.toNat)) ++ b ++ ((bytesAt p s).drop (k + at_.toNat + b.length))) })
  | (_, e) => (e, p)
/-- Free -/
def freeSlabs (p : PoolF) (l : List Nat) : PoolF := { p with bytes := l.foldl (fun bs s => bs.set s (List.replicate p.size 0xDD)) p.bytes, taken := l.foldl (fun t s => t.set s false) p.taken }
def freeF (p : PoolF) (r : Int) : Nat × PoolF :=
  match landF p r with
  | none => (7, p)
  | some i => (0, { freeSlabs p (landAt p i).slabs with lands := p.lands.set i ⟨false, (landAt p i).gen, [], 0⟩ })
def slabsF (p : PoolF) (r : Int) : List Nat × Nat :=
  match landF p r with
  | none => ([], 7)
  | some i => ((landAt p i).slabs, 0)
def rawF (p : PoolF) (s : Int) : List UInt8 × Nat := if s < 0 ∨ s ≥ (p.bytes.length : Int) then ([], 1) else (bytesAt p s.toNat, 0)
def countF (p : PoolF) : Nat := (p.taken.filter (!·)).length
/-- New -/
def newF (size slabs : Nat) : PoolF := ⟨size, List.replicate slabs (List.replicate size 0), List.replicate slabs false, List.replicate 256 noLand⟩
def newOk (size slabs : Int) : Bool := decide (64 ≤ size) && decide (size ≤ 65536) && decide (size % 8 = 0) && decide (1 ≤ slabs) && decide (slabs ≤ 4096) && decide (size * slabs ≤ 4194304)
theorem landAt_new (size slabs i : Nat) : landAt (newF size slabs) i = noLand := by
  unfold landAt newF
  simp only [List.getD_eq_getElem?_getD, List.getElem?_replicate]
  split <;> rfl
theorem new_ok {size slabs : Nat} (h1 : 64 ≤ size) (h2 : size ≤ 65536) (h3 : size % 8 = 0) (h4 : 1 ≤ slabs) (h5 : slabs ≤ 4096) : PoolOk (newF size slabs) := by
  have hb : (newF size slabs).bytes.length = slabs := List.length_replicate
  have ht : (newF size slabs).taken.length = slabs := List.length_replicate
  refine ⟨h1, h2, h3, by rw [hb]; exact h4, by rw [hb]; exact h5, fun b hb => ?_, by rw [hb, ht], List.length_replicate, fun i _ => ?_, fun s hs => ?_, fun i j s _ _ hs => ?_⟩
  · rw [List.eq_of_mem_replicate hb]; exact List.length_replicate
  · rw [landAt_new]; exact ⟨by simp [noLand], by simp [noLand], .inl ⟨rfl, rfl⟩, fun _ => rfl⟩
  · simp only [landAt_new, noLand, List.not_mem_nil, and_false, exists_false, iff_false]
    show ¬ (List.replicate slabs false).getD s false = true
    rw [List.getD_eq_getElem?_getD, List.getElem?_replicate]
    split <;> simp
  · rw [landAt_new] at hs; simp [noLand] at hs
/-- a region turned: what stays -/
theorem make_ok {p : PoolF} (h : PoolOk p) {i : Nat} (hi : i < 256) (h0 : (landAt p i).there = false) : PoolOk (makeAt p i) := by
  have hs : (landAt p i).slabs = [] := (h.ld i hi).away h0
  have hl : i < p.lands.length := by rw [h.ln]; exact hi
  have ha : ∀ j, landAt (makeAt p i) j = if i = j then ⟨true, (landAt p i).gen + 1, [], 0⟩ else landAt p j := fun j => landAt_set p i j _ hl
  have hsl : ∀ j, (landAt (makeAt p i) j).slabs = (landAt p j).slabs := fun j => by
    rw [ha]; split
    · rename_i e; subst e; exact hs.symm
    · rfl
  refine ⟨h.s1, h.s2, h.s3, h.n1, h.n2, h.bl, h.tk, by simpa [makeAt] using h.ln, fun j hj => ?_, fun s hs => ?_, fun j k s hj hk h1 h2 => ?_⟩
  · rw [ha]; split
    · exact ⟨by simp, by simp, .inl ⟨rfl, rfl⟩, fun _ => rfl⟩
    · have := h.ld j hj
      exact ⟨this.nodup, this.lt, this.fill, this.away⟩
  · simp only [hsl]; exact h.has s hs
  · rw [hsl] at h1 h2; exact h.apart j k s hj hk h1 h2
end Go.Proofs.Ytnafhjgfkofkbaa
/- Layer 1 (region): a pool in memory. -/
namespace Go.Proofs.Ytnafhjgfkofkbaa
set_option linter.unusedVariables false
set_option linter.unusedSimpArgs false
open Go.RowKit
/-- only blocks of S have changed -/
structure Chg (S : Nat → Prop) (w w' : World) : Prop where
  os : w'.os = w.os
  tape : w'.tape = w.tape
  output : w'.output = w.output
  size : w.heap.size ≤ w'.heap.size
  block : ∀ j, j < w.heap.size → ¬ S j → w'.heap[j]? = w.heap[j]?
section
variable {S S' : Nat → Prop} {a w w' w2 : World}
theorem Chg.refl (w : World) : Chg S w w := ⟨rfl, rfl, rfl, Nat.le_refl _, fun _ _ _ => rfl⟩
theorem Chg.trans (h : Chg S w w') (k : Chg S' w' w2) (hs : ∀ j, S' j → S j ∨ w.heap.size ≤ j) : Chg S w w2 :=
  ⟨k.os.trans h.os, k.tape.trans h.tape, k.output.trans h.output, Nat.le_trans h.size k.size, fun j hj hn => (k.block j (Nat.lt_of_lt_of_le hj h.size) (fun hs' => by
    rcases hs j hs' with h1 | h1
    · exact hn h1
    · omega)).trans (h.block j hj hn)⟩
theorem Gr.chg (h : Gr w w') : Chg S w w' := ⟨h.os, h.tape, h.output, h.size, fun j hj _ => h.block j hj⟩
theorem Chg.grown {b : Nat} (h : w.grownBy w' (some b)) (hb : S b) : Chg S w w' := ⟨h.os, h.tape, h.output, h.size, fun j hj hn => h.block j hj (fun e => hn ((Option.some.inj e) ▸ hb))⟩
theorem Chg.grownO {o : Option Nat} (h : w.grownBy w' o) (hb : ∀ b, o = some b → S b) : Chg S w w' := ⟨h.os, h.tape, h.output, h.size, fun j hj hn => h.block j hj (fun e => hn (hb j e.symm))⟩
theorem Chg.gr (h : Chg S w w') (k : Gr a w) (hs : ∀ j, S j → a.heap.size ≤ j) : Gr a w' :=
  ⟨h.os.trans k.os, h.tape.trans k.tape, h.output.trans k.output, Nat.le_trans k.size h.size, fun j hj => (h.block j (Nat.lt_of_lt_of_le hj k.size) (fun e => by have := hs j e; omega)).trans (k.block j hj)⟩
theorem Chg.heap (h : Chg S w w') {j : Nat} {o : Obj} (hj : w.heap[j]? = some o) (hn : ¬ S j) : w'.heap[j]? = some o := (h.block j (Array.getElem?_eq_some_iff.1 hj).1 hn).trans hj
theorem Chg.blk (h : Chg S w w') {g : Nat} {t : TypeId} {cs : List Value} (hb : Blk w g t cs) (hn : ¬ S g) : Blk w' g t cs := h.heap hb hn
theorem Chg.owns (h : Chg S w w') {base : Nat} {e : TypeId} {size : Nat} {ad : Option Addr} {cap n : Nat} {xs : List Value} (ho : Owns w base e size ad cap n xs) (hn : ∀ x, ad = some x → ¬ S x.block) : Owns w' base e size ad cap n xs :=
  ho.kept fun k hk => h.block k (ho.lt _ hk).2 (hn _ hk)
theorem Chg.row (h : Chg S w w') {ad : Option Addr} {vs : List Value} (hr : Row w ad vs) (hn : ∀ x, ad = some x → ¬ S x.block) : Row w' ad vs := fun i u hi => by
  obtain ⟨b, off, e, hc⟩ := hr i u hi
  refine ⟨b, off, e, ?_⟩
  have := h.block b (World.block_lt_of_cell? w _ hc) (hn _ e)
  unfold World.cell? at hc ⊢
  simp only at hc ⊢
  rw [this]; exact hc
end
theorem Blk.ne {w : World} {g g' : Nat} {t t' : TypeId} {cs cs' : List Value} (h : Blk w g t cs) (h' : Blk w g' t' cs') (ht : t ≠ t') : g ≠ g' := fun e => by
  subst e
  unfold Blk at h h'
  rw [h] at h'
  cases h'
  exact ht rfl
theorem Blk.owns_ne {w : World} {g : Nat} {t e : TypeId} {cs : List Value} (h : Blk w g t cs) {base size cap n : Nat} {ad : Option Addr} {xs : List Value} (ho : Owns w base e size ad cap n xs) (ht : t ≠ e) : ∀ x, ad = some x → x.block ≠ g := fun x hx ex => by
  obtain ⟨_, _, _, ⟨e1, _⟩ | ⟨g', cur, fr, e1, e2, hg, _⟩⟩ := ho
  · rw [e1] at hx; cases hx
  · rw [e1] at hx; cases hx
    simp only at ex
    subst ex
    unfold Blk at h
    rw [h] at hg
    cases hg
    exact ht rfl
theorem Owns.ne {w : World} {e e' : TypeId} {base base' size size' cap cap' n n' : Nat} {ad ad' : Option Addr} {xs xs' : List Value} (h : Owns w base e size ad cap n xs) (h' : Owns w base' e' size' ad' cap' n' xs') (ht : e ≠ e') : ∀ x y, ad = some x → ad' = some y → x.block ≠ y.block := fun x y hx hy ex => by
  obtain ⟨_, _, _, ⟨e1, _⟩ | ⟨g, cur, fr, e1, _, hg, _⟩⟩ := h
  · rw [e1] at hx; cases hx
  · obtain ⟨_, _, _, ⟨e2, _⟩ | ⟨g', cur', fr', e2, _, hg', _⟩⟩ := h'
    · rw [e2] at hy; cases hy
    · rw [e1] at hx; rw [e2] at hy; cases hx; cases hy
      simp only at ex
      subst ex
      rw [hg] at hg'
      cases hg'
      exact ht rfl
/-- rows of four cells each -/
def flat (F : Nat → List Value) (n : Nat) : List Value := (List.range n).flatMap F
theorem flat_succ (F : Nat → List Value) (n : Nat) : flat F (n + 1) = flat F n ++ F n := by simp [flat, List.range_succ]
theorem flat_congr {F G : Nat → List Value} : ∀ n, (∀ i, i < n → F i = G i) → flat F n = flat G n
  | 0, _ => rfl
  | n + 1, h => by rw [flat_succ, flat_succ, flat_congr n (fun i hi => h i (by omega)), h n (by omega)]
theorem flat_len {F : Nat → List Value} (hF : ∀ i, (F i).length = 4) : ∀ n, (flat F n).length = 4 * n
  | 0 => rfl
  | n + 1 => by rw [flat_succ, List.length_append, flat_len hF n, hF]; omega
theorem flat_get {F : Nat → List Value} (hF : ∀ i, (F i).length = 4) : ∀ n i k, i < n → k < 4 → (flat F n)[i * 4 + k]? = (F i)[k]?
  | 0, _, _, h, _ => by omega
  | n + 1, i, k, h, hk => by
    rw [flat_succ]
    have hl := flat_len hF n
    by_cases hi : i < n
    · rw [List.getElem?_append_left (by omega)]
      exact flat_get hF n i k hi hk
    · obtain rfl : i = n := by omega
      rw [List.getElem?_append_right (by omega), hl]
      congr 1; omega
theorem flat_set {F : Nat → List Value} (hF : ∀ i, (F i).length = 4) : ∀ n i k v, i < n → k < 4 → (flat F n).set (i * 4 + k) v = flat (fun j => if j = i then (F j).set k v else F j) n
  | 0, _, _, _, h, _ => by omega
  | n + 1, i, k, v, h, hk => by
    rw [flat_succ, flat_succ]
    have hl := flat_len hF n
    by_cases hi : i < n
    · rw [List.set_append_left _ _ (by omega), flat_set hF n i k v hi hk, if_neg (by omega)]
    · obtain rfl : i = n := by omega
      rw [List.set_append_right _ _ (by omega), hl, if_pos rfl, show i * 4 + k - 4 * i = k by omega]
      congr 1
      exact flat_congr _ (fun j hj => by rw [if_neg (by omega)])
/-- a region's cells -/
def landV (l : Land) (ad : Option Addr) (cap : Nat) : List Value := [.bool l.there, .int .i64 (l.gen : Int), .slice ad l.slabs.length cap, .int .i64 (l.fill : Int)]
def poolV (p : PoolF) (ads : Option Addr) (cs : Nat) (adt : Option Addr) (ct : Nat) (A : Nat → Option Addr) (C : Nat → Nat) : List Value :=
  [.int .i64 (p.size : Int), .slice ads p.bytes.length cs, .slice adt p.taken.length ct] ++ flat (fun i => landV (landAt p i) (A i) (C i)) 256
def iv (l : List Nat) : List Value := l.map fun (n : Nat) => .int .i64 (n : Int)
def slabV (bd : Nat → Nat) (size n : Nat) : List Value := (List.range n).map fun i => .slice (some ⟨bd i, 0, none⟩) size size
/-- a pool in block g; all that it has lies in S -/
structure PX (w : World) (S : Nat → Prop) (g : Nat) (p : PoolF) (ads : Option Addr) (cs : Nat) (adt : Option Addr) (ct : Nat) (A : Nat → Option Addr) (C : Nat → Nat) (bd : Nat → Nat) : Prop where
  blk : Blk w g 72 (poolV p ads cs adt ct A C)
  row : Owns w 0 73 1 ads cs p.bytes.length (slabV bd p.size p.bytes.length)
  tak : Owns w 0 4 1 adt ct p.taken.length (p.taken.map .bool)
  slab : ∀ i, i < p.bytes.length → Blk w (bd i) 5 (bv (bytesAt p i))
  land : ∀ i, i < 256 → Owns w 0 3 1 (A i) (C i) (landAt p i).slabs.length (iv (landAt p i).slabs)
  inj : ∀ i j, i < p.bytes.length → j < p.bytes.length → bd i = bd j → i = j
  sep : ∀ i j x y, i < 256 → j < 256 → A i = some x → A j = some y → x.block = y.block → i = j
  sg : S g
  srow : ∀ x, ads = some x → S x.block
  stak : ∀ x, adt = some x → S x.block
  sslab : ∀ i, i < p.bytes.length → S (bd i)
  sland : ∀ i x, i < 256 → A i = some x → S x.block
  lt : ∀ j, S j → j < w.heap.size
def PoolAt (w : World) (S : Nat → Prop) (g : Nat) (p : PoolF) : Prop := ∃ ads cs adt ct A C bd, PX w S g p ads cs adt ct A C bd
section
variable {w w' : World} {S S' : Nat → Prop} {g : Nat} {p : PoolF} {ads adt : Option Addr} {cs ct : Nat} {A : Nat → Option Addr} {C bd : Nat → Nat}
theorem landV_len (l : Land) (ad : Option Addr) (cap : Nat) : (landV l ad cap).length = 4 := rfl
theorem poolV_land {i k : Nat} (hi : i < 256) (hk : k < 4) : (poolV p ads cs adt ct A C)[3 + i * 4 + k]? = (landV (landAt p i) (A i) (C i))[k]? := by
  unfold poolV
  rw [List.getElem?_append_right (by simp; omega), show 3 + i * 4 + k - [Value.int .i64 (p.size : Int), .slice ads p.bytes.length cs, .slice adt p.taken.length ct].length = i * 4 + k by simp; omega]
  exact flat_get (fun i => landV_len _ _ _) 256 i k hi hk
theorem PX.head (h : PX w S g p ads cs adt ct A C bd) : w.cell? ⟨g, 0, none⟩ = some (.int .i64 (p.size : Int)) ∧ w.cell? ⟨g, 1, none⟩ = some (.slice ads p.bytes.length cs) ∧ w.cell? ⟨g, 2, none⟩ = some (.slice adt p.taken.length ct) :=
  ⟨h.blk.cell rfl, h.blk.cell rfl, h.blk.cell rfl⟩
theorem PX.lcell (h : PX w S g p ads cs adt ct A C bd) {i : Nat} (hi : i < 256) :
    w.cell? ⟨g, 3 + i * 4, none⟩ = some (.bool (landAt p i).there) ∧ w.cell? ⟨g, 3 + i * 4 + 1, none⟩ = some (.int .i64 ((landAt p i).gen : Int)) ∧ w.cell? ⟨g, 3 + i * 4 + 2, none⟩ = some (.slice (A i) (landAt p i).slabs.length (C i)) ∧ w.cell? ⟨g, 3 + i * 4 + 3, none⟩ = some (.int .i64 ((landAt p i).fill : Int)) :=
  ⟨h.blk.cell (poolV_land (k := 0) hi (by decide)), h.blk.cell (poolV_land (k := 1) hi (by decide)), h.blk.cell (poolV_land (k := 2) hi (by decide)), h.blk.cell (poolV_land (k := 3) hi (by decide))⟩
/-- blocks of S as they were -/
theorem PX.same (h : PX w S g p ads cs adt ct A C bd) (k : ∀ j, S j → w'.heap[j]? = w.heap[j]?) (hs : w.heap.size ≤ w'.heap.size) : PX w' S g p ads cs adt ct A C bd :=
  ⟨(k g h.sg).trans h.blk, h.row.kept (fun x hx => k x (h.srow _ hx)), h.tak.kept (fun x hx => k x (h.stak _ hx)), fun i hi => (k _ (h.sslab i hi)).trans (h.slab i hi), fun i hi => (h.land i hi).kept (fun x hx => k x (h.sland i _ hi hx)),
   h.inj, h.sep, h.sg, h.srow, h.stak, h.sslab, h.sland, fun j hj => Nat.lt_of_lt_of_le (h.lt j hj) hs⟩
theorem PX.gr (h : PX w S g p ads cs adt ct A C bd) (k : Gr w w') : PX w' S g p ads cs adt ct A C bd := h.same (fun j hj => k.block j (h.lt j hj)) k.size
theorem PoolAt.gr (h : PoolAt w S g p) (k : Gr w w') : PoolAt w' S g p := by
  obtain ⟨ads, cs, adt, ct, A, C, bd, h⟩ := h
  exact ⟨ads, cs, adt, ct, A, C, bd, h.gr k⟩
theorem PoolAt.lt (h : PoolAt w S g p) : ∀ j, S j → j < w.heap.size := by
  obtain ⟨ads, cs, adt, ct, A, C, bd, h⟩ := h
  exact h.lt
theorem PoolAt.chg {T : Nat → Prop} (h : PoolAt w S g p) (k : Chg T w w') (hd : ∀ j, S j → ¬ T j) : PoolAt w' S g p := by
  obtain ⟨ads, cs, adt, ct, A, C, bd, h⟩ := h
  exact ⟨ads, cs, adt, ct, A, C, bd, h.same (fun j hj => k.block j (h.lt j hj) (hd j hj)) k.size⟩
end
def upd {α : Type} (A : Nat → α) (i : Nat) (a : α) : Nat → α := fun j => if j = i then a else A j
theorem upd_same {α : Type} (A : Nat → α) (i : Nat) (a : α) : upd A i a i = a := by simp [upd]
theorem upd_other {α : Type} (A : Nat → α) {i j : Nat} (a : α) (h : j ≠ i) : upd A i a j = A j := by simp [upd, h]
section
variable {w w' : World} {S : Nat → Prop} {g : Nat} {p : PoolF} {ads adt : Option Addr} {cs ct : Nat} {A : Nat → Option Addr} {C bd : Nat → Nat}
theorem head_set {hd : List Value} (hh : hd.length = 3) {F : Nat → List Value} (hF : ∀ i, (F i).length = 4) {i k : Nat} (hi : i < 256) (hk : k < 4) (v : Value) :
    (hd ++ flat F 256).set (3 + i * 4 + k) v = hd ++ flat (fun j => if j = i then (F j).set k v else F j) 256 := by
  rw [List.set_append_right _ _ (by omega), hh, show 3 + i * 4 + k - 3 = i * 4 + k by omega, flat_set hF 256 i k v hi hk]
def setLand (p : PoolF) (i : Nat) (l : Land) : PoolF := { p with lands := p.lands.set i l }
theorem poolV_setLand (hl : p.lands.length = 256) {i : Nat} (hi : i < 256) (l : Land) (ad : Option Addr) (cap : Nat) :
    poolV (setLand p i l) ads cs adt ct (upd A i ad) (upd C i cap) = [.int .i64 (p.size : Int), .slice ads p.bytes.length cs, .slice adt p.taken.length ct] ++ flat (fun j => if j = i then landV l ad cap else landV (landAt p j) (A j) (C j)) 256 := by
  unfold poolV
  congr 1
  refine flat_congr _ fun j hj => ?_
  have ha : landAt (setLand p i l) j = if i = j then l else landAt p j := landAt_set p i j l (by omega)
  rw [ha]
  by_cases e : j = i
  · subst e
    rw [if_pos rfl, if_pos rfl, upd_same, upd_same]
  · rw [if_neg (fun x => e x.symm), if_neg e, upd_other _ _ e, upd_other _ _ e]
theorem landV_if_len (i : Nat) (l : Land) (ad : Option Addr) (cap : Nat) : ∀ j, (if j = i then landV l ad cap else landV (landAt p j) (A j) (C j)).length = 4 := fun j => by split <;> rfl
theorem poolV_set4 (hl : p.lands.length = 256) {i : Nat} (hi : i < 256) (l : Land) (ad : Option Addr) (cap : Nat) :
    ((((poolV p ads cs adt ct A C).set (3 + i * 4) (.bool l.there)).set (3 + i * 4 + 1) (.int .i64 (l.gen : Int))).set (3 + i * 4 + 2) (.slice ad l.slabs.length cap)).set (3 + i * 4 + 3) (.int .i64 (l.fill : Int)) =
      poolV (setLand p i l) ads cs adt ct (upd A i ad) (upd C i cap) := by
  rw [poolV_setLand hl hi]
  unfold poolV
  have hF : ∀ j, ((fun i => landV (landAt p i) (A i) (C i)) j).length = 4 := fun j => rfl
  have e0 := head_set (hd := [.int .i64 (p.size : Int), .slice ads p.bytes.length cs, .slice adt p.taken.length ct]) rfl hF hi (k := 0) (by decide) (.bool l.there)
  rw [Nat.add_zero] at e0
  rw [e0, head_set rfl (fun j => by split <;> rfl) hi (by decide), head_set rfl (fun j => by repeat (first | rfl | split)) hi (by decide), head_set rfl (fun j => by repeat (first | rfl | split)) hi (by decide)]
  congr 1
  refine flat_congr _ fun j hj => ?_
  by_cases e : j = i
  · subst e; simp only [if_true]; rfl
  · simp only [e, if_false]
/-- one region's cells are others: with slabs of its own, or none -/
theorem PX.put_land (h : PX w S g p ads cs adt ct A C bd) (hl : p.lands.length = 256) {i : Nat} (hi : i < 256) (l : Land) (ad : Option Addr) (cap : Nat)
    (hb : Blk w' g 72 (poolV (setLand p i l) ads cs adt ct (upd A i ad) (upd C i cap))) (k : ∀ j, S j → j ≠ g → w'.heap[j]? = w.heap[j]?) (hs : w.heap.size ≤ w'.heap.size)
    (ho : Owns w' 0 3 1 ad cap l.slabs.length (iv l.slabs)) (had : ad = none ∨ ad = A i) : PX w' S g (setLand p i l) ads cs adt ct (upd A i ad) (upd C i cap) bd := by
  have hg1 := h.blk.owns_ne h.row (by decide)
  have hg2 := h.blk.owns_ne h.tak (by decide)
  have hg3 : ∀ j, j < 256 → ∀ x, A j = some x → x.block ≠ g := fun j hj => h.blk.owns_ne (h.land j hj) (by decide)
  have ha : ∀ j, landAt (setLand p i l) j = if i = j then l else landAt p j := fun j => landAt_set p i j l (by omega)
  have hA : ∀ j x, j < 256 → upd A i ad j = some x → A j = some x := fun j x hj hx => by
    by_cases e : j = i
    · subst e; rw [upd_same] at hx; rcases had with h1 | h1
      · rw [h1] at hx; cases hx
      · rw [← h1]; exact hx
    · rw [upd_other _ _ e] at hx; exact hx
  refine ⟨hb, h.row.kept (fun x hx => k x (h.srow _ hx) (hg1 _ hx)), h.tak.kept (fun x hx => k x (h.stak _ hx) (hg2 _ hx)), fun j hj => (k _ (h.sslab j hj) ((h.slab j hj).ne h.blk (by decide))).trans (h.slab j hj), fun j hj => ?_, h.inj,
    fun a b x y ha hb hx hy => h.sep a b x y ha hb (hA a x ha hx) (hA b y hb hy), h.sg, h.srow, h.stak, h.sslab, fun a x ha hx => h.sland a x ha (hA a x ha hx), fun j hj => Nat.lt_of_lt_of_le (h.lt j hj) hs⟩
  rw [ha]
  by_cases e : j = i
  · subst e; rw [if_pos rfl, upd_same, upd_same]; exact ho
  · rw [if_neg (fun x => e x.symm), upd_other _ _ e, upd_other _ _ e]
    exact (h.land j hj).kept (fun x hx => k x (h.sland j _ hj hx) (hg3 j hj _ hx))
end
/-- a pool turned to p' by a call -/
structure Moved (S : Nat → Prop) (g : Nat) (p' : PoolF) (w w' : World) (S' : Nat → Prop) : Prop where
  chg : Chg S w w'
  sub : ∀ j, S' j → S j ∨ w.heap.size ≤ j
  pool : PoolAt w' S' g p'
/-- a region's four cells are written: it has no slabs then -/
theorem PX.put4 {w : World} {S : Nat → Prop} {g : Nat} {p : PoolF} {ads adt : Option Addr} {cs ct : Nat} {A : Nat → Option Addr} {C bd : Nat → Nat} (h : PX w S g p ads cs adt ct A C bd) (hl : p.lands.length = 256) {i : Nat} (hi : i < 256) (t : Bool) (n : Nat) :
    Moved S g (setLand p i ⟨t, n, [], 0⟩) w ((((w.setCell ⟨g, 3 + i * 4, none⟩ (.bool t)).setCell ⟨g, 3 + i * 4 + 1, none⟩ (.int .i64 (n : Int))).setCell ⟨g, 3 + i * 4 + 2, none⟩ (.slice none 0 0)).setCell ⟨g, 3 + i * 4 + 3, none⟩ (.int .i64 0)) S := by
  have hk := grown_trans (grown_trans (grown_trans (grown_set w g (3 + i * 4) (.bool t)) (grown_set _ g (3 + i * 4 + 1) (.int .i64 (n : Int)))) (grown_set _ g (3 + i * 4 + 2) (.slice none 0 0))) (grown_set _ g (3 + i * 4 + 3) (.int .i64 0))
  have hb := (((h.blk.set_ (3 + i * 4) (.bool t)).set_ (3 + i * 4 + 1) (.int .i64 (n : Int))).set_ (3 + i * 4 + 2) (.slice none 0 0)).set_ (3 + i * 4 + 3) (.int .i64 0)
  have e := poolV_set4 (ads := ads) (cs := cs) (adt := adt) (ct := ct) (A := A) (C := C) hl hi ⟨t, n, [], 0⟩ none 0
  refine ⟨Chg.grown hk h.sg, fun j hj => .inl hj, ads, cs, adt, ct, _, _, bd, h.put_land hl hi ⟨t, n, [], 0⟩ none 0 (e ▸ hb) (fun j hj hne => hk.block j (h.lt j hj) (fun e => hne (Option.some.inj e))) hk.size (Owns.empty _ _ _ _) (.inl rfl)⟩
theorem Moved.after {S S' : Nat → Prop} {g : Nat} {p' : PoolF} {w v w' : World} (h : Chg S w v) (k : Moved S g p' v w' S') : Moved S g p' w w' S' :=
  ⟨h.trans k.chg (fun j hj => .inl hj), fun j hj => by
    rcases k.sub j hj with h1 | h1
    · exact .inl h1
    · exact .inr (Nat.le_trans h.size h1), k.pool⟩
theorem Moved.then {S S' S2 : Nat → Prop} {g : Nat} {p' p2 : PoolF} {w v w' : World} (h : Moved S g p' w v S') (k : Moved S' g p2 v w' S2) : Moved S g p2 w w' S2 :=
  ⟨h.chg.trans k.chg h.sub, fun j hj => by
    rcases k.sub j hj with h1 | h1
    · exact h.sub j h1
    · exact .inr (Nat.le_trans h.chg.size h1), k.pool⟩
theorem Moved.gr {S S' : Nat → Prop} {g : Nat} {p' : PoolF} {w v w' : World} (h : Moved S g p' w v S') (k : Gr v w') : Moved S g p' w w' S' :=
  ⟨h.chg.trans (S' := S) k.chg (fun j hj => .inl hj), h.sub, h.pool.gr k⟩
theorem Moved.refl {S : Nat → Prop} {g : Nat} {p : PoolF} {w : World} (h : PoolAt w S g p) : Moved S g p w w S := ⟨Chg.refl _, fun j hj => .inl hj, h⟩
end Go.Proofs.Ytnafhjgfkofkbaa
/- Layer 1 (region): how a piece is aligned, in bits. No program is in sight here. -/
namespace Go.Proofs.Ytnafhjgfkofkbaa
set_option linter.unusedVariables false
set_option linter.unusedSimpArgs false
open Go.RowKit
theorem i64_align (x k : Nat) (hk : k ≤ 6) (hx : x < 9223372036854775808) : bits .andNot .i64 (x : Int) ((2 ^ k - 1 : Nat) : Int) = ((x / 2 ^ k * 2 ^ k : Nat) : Int) := by
  show IntKind.i64.wrap ((BitVec.ofInt 64 (x : Int) &&& ~~~BitVec.ofInt 64 ((2 ^ k - 1 : Nat) : Int)).toNat : Int) = _
  rw [BitVec.ofInt_natCast, BitVec.ofInt_natCast]
  have e : (BitVec.ofNat 64 x &&& ~~~BitVec.ofNat 64 (2 ^ k - 1)) = BitVec.ofNat 64 (x / 2 ^ k * 2 ^ k) := by
    apply BitVec.eq_of_getLsbD_eq
    intro i hi
    simp only [BitVec.getLsbD_and, BitVec.getLsbD_not, BitVec.getLsbD_ofNat, hi, decide_true, Bool.true_and, Nat.testBit_two_pow_sub_one, Nat.testBit_mul_two_pow, Nat.testBit_div_two_pow]
    by_cases h : i < k
    · have : ¬ k ≤ i := by omega
      simp [h, this]
    · have h2 : k ≤ i := by omega
      simp [h, h2]
  rw [e, BitVec.toNat_ofNat]
  have hle : x / 2 ^ k * 2 ^ k ≤ x := Nat.div_mul_le_self _ _
  rw [Nat.mod_eq_of_lt (by omega), IntKind.wrap_i64]
  omega
theorem pow_check : ∀ a : Fin 65, 1 ≤ a.val → (decide (bits .and .i64 (a.val : Int) ((a.val : Int) - 1) = 0) = alignOk (a.val : Int)) := by decide +kernel
theorem align_check {a : Int} (h1 : 1 ≤ a) (h2 : a ≤ 64) : (bits .and .i64 a (a - 1) = 0 ∧ alignOk a = true) ∨ (bits .and .i64 a (a - 1) ≠ 0 ∧ alignOk a = false) := by
  have := pow_check ⟨a.toNat, by omega⟩ (by simp only; omega)
  simp only [show (a.toNat : Int) = a by omega] at this
  cases hk : alignOk a with
  | true => rw [hk] at this; exact .inl ⟨by simpa using this, rfl⟩
  | false => rw [hk] at this; exact .inr ⟨by simpa using this, rfl⟩
theorem alignOk_pow {a : Int} (h : alignOk a = true) : ∃ k : Nat, k ≤ 6 ∧ a = ((2 ^ k : Nat) : Int) := by
  unfold alignOk at h
  simp only [Bool.or_eq_true, beq_iff_eq] at h
  rcases h with (((((h | h) | h) | h) | h) | h) | h
  · exact ⟨0, by decide, h⟩
  · exact ⟨1, by decide, h⟩
  · exact ⟨2, by decide, h⟩
  · exact ⟨3, by decide, h⟩
  · exact ⟨4, by decide, h⟩
  · exact ⟨5, by decide, h⟩
  · exact ⟨6, by decide, h⟩
theorem alignOk_range {a : Int} (h : alignOk a = true) : 1 ≤ a ∧ a ≤ 64 := by
  unfold alignOk at h
  simp only [Bool.or_eq_true, beq_iff_eq] at h
  omega
/-- 'in' aligned -/
theorem align_up {x : Nat} {a : Int} (h : alignOk a = true) (hx : x ≤ 1000000000) : bits .andNot .i64 ((x : Int) + a - 1) (a - 1) = ((upTo x a.toNat : Nat) : Int) := by
  obtain ⟨k, hk, rfl⟩ := alignOk_pow h
  have hp : 0 < 2 ^ k := Nat.two_pow_pos k
  have hr := alignOk_range h
  have e1 : (x : Int) + ((2 ^ k : Nat) : Int) - 1 = ((x + 2 ^ k - 1 : Nat) : Int) := by omega
  have e2 : ((2 ^ k : Nat) : Int) - 1 = ((2 ^ k - 1 : Nat) : Int) := by omega
  rw [e1, e2, i64_align _ k hk (by omega)]
  unfold upTo
  rw [Int.toNat_natCast]
theorem upTo_bounds {x a : Nat} (h : 1 ≤ a) : x ≤ upTo x a ∧ upTo x a < x + a := by
  unfold upTo
  have h1 := Nat.div_add_mod (x + a - 1) a
  have h2 := Nat.mod_lt (x + a - 1) (show 0 < a by omega)
  have h3 : (x + a - 1) / a * a = a * ((x + a - 1) / a) := Nat.mul_comm _ _
  omega
end Go.Proofs.Ytnafhjgfkofkbaa
/- Layer 1 (region): the pool's small calls walked: land, Size, Make, Idle. -/
namespace Go.Proofs.Ytnafhjgfkofkbaa
set_option linter.unusedVariables false
set_option linter.unusedSimpArgs false
open Go.RowKit
set_option maxRecDepth 100000 in
theorem land_any (w : World) (S : Nat → Prop) (g : Nat) (p : PoolF) (r : Int) (h : PoolAt w S g p) :
    Calls Try.prog 66 #[.pointer (some ⟨g, 0, none⟩), .int .i64 r] w fun e w' => e = .returned (.pointer ((landF p r).map fun i => ⟨g, 3 + i * 4, none⟩)) ∧ w = w' := by
  obtain ⟨ads, cs, adt, ct, A, C, bd, hx⟩ := h
  by_cases h0 : r < 0
  · have hn : landF p r = none := by unfold landF; rw [if_neg (by omega)]
    rw [hn]
    clear hx hn
    go_enter Try.func66, Try.ntmps66
    go_wp2
    go_ret
    exact ⟨rfl, rfl⟩
  · by_cases h1 : 256 ≤ r
    · have hn : landF p r = none := by unfold landF; rw [if_neg (by omega)]
      rw [hn]
      clear hx hn
      go_enter Try.func66, Try.ntmps66
      go_wp2
      go_ret
      exact ⟨rfl, rfl⟩
    · obtain ⟨i, rfl⟩ : ∃ i : Nat, r = (i : Int) := ⟨r.toNat, by omega⟩
      have hi : i < 256 := by omega
      obtain ⟨c0, _, _, _⟩ := hx.lcell hi
      clear hx
      cases ht : (landAt p i).there with
      | false =>
        have hn : landF p (i : Int) = none := by unfold landF; rw [if_neg (by simp [ht])]
        rw [ht] at c0
        rw [hn]
        clear hn ht
        go_enter Try.func66, Try.ntmps66
        go_wp2
        go_ret
        exact ⟨rfl, rfl⟩
      | true =>
        rw [landF_of hi ht]
        rw [ht] at c0
        clear ht
        go_enter Try.func66, Try.ntmps66
        go_wp2
        go_ret
        exact ⟨rfl, rfl⟩
set_option maxRecDepth 100000 in
theorem Size_any (w : World) (S : Nat → Prop) (g : Nat) (p : PoolF) (h : PoolAt w S g p) :
    Calls Try.prog 38 #[.pointer (some ⟨g, 0, none⟩)] w fun e w' => e = .returned (.int .i64 (p.size : Int)) ∧ w = w' := by
  obtain ⟨ads, cs, adt, ct, A, C, bd, hx⟩ := h
  obtain ⟨c0, _, _⟩ := hx.head
  clear hx
  go_enter Try.func38, Try.ntmps38
  go_wp2
  go_ret
  exact ⟨rfl, rfl⟩
def makeR (p : PoolF) : Nat × Nat × PoolF := match makeF p with | some i => (i, 0, makeAt p i) | none => (0, 5, p)
set_option maxRecDepth 100000 in
theorem Make_any (w : World) (S : Nat → Prop) (g : Nat) (p : PoolF) (h : PoolAt w S g p) (hp : PoolOk p) (hgen : ∀ i, i < 256 → (landAt p i).gen ≤ 1000000000) :
    Calls Try.prog 39 #[.pointer (some ⟨g, 0, none⟩)] w fun e w' => e = .returned (.tuple #[.int .i64 ((makeR p).1 : Int), .int .i64 ((makeR p).2.1 : Int)]) ∧ Moved S g (makeR p).2.2 w w' S := by
  have HP := Lib.hid h
  obtain ⟨ads, cs, adt, ct, A, C, bd, hx⟩ := h
  have HX := Lib.hid hx
  have HL := Lib.hid hp.ln
  clear hx hp
  go_enter Try.func39, Try.ntmps39
  go_wp2
  go_loopw [8] (fun v wr => ∃ i : Nat, i ≤ 256 ∧ v = .int .i64 (i : Int) ∧ wr = w ∧ ∀ j, j < i → (landAt p j).there = true) (fun v _ => 256 - (intOf v).toNat)
  case atStart => exact ⟨0, by omega, rfl, by first | rfl | trivial, fun j hj => by omega⟩
  case round =>
    obtain ⟨i, hi, rfl, rfl, hall⟩ := hrel
    by_cases hib : i < 256
    · obtain ⟨c0, c1, c2, c3⟩ := HX.out.lcell hib
      have hg := hgen i hib
      cases ht : (landAt p i).there with
      | true =>
        rw [ht] at c0
        have HA := Lib.hid (show ∀ j, j < i + 1 → (landAt p j).there = true from fun j hj => by
          by_cases e : j = i
          · subst e; exact ht
          · exact hall j (by omega))
        clear hall ht
        go_wp2
        go_roundw
        case rel => exact ⟨i + 1, hib, by go_num, by first | rfl | trivial, HA.out⟩
        case measure => simp [intOf]; omega
      | false =>
        rw [ht] at c0
        have HM := Lib.hid (makeF_is hib ht hall)
        have f0 := HX.out.blk.frozen (3 + i * 4)
        have f1 := HX.out.blk.frozen (3 + i * 4 + 1)
        have f2 := HX.out.blk.frozen (3 + i * 4 + 2)
        have f3 := HX.out.blk.frozen (3 + i * 4 + 3)
        clear hall ht hgen
        go_wp2
        go_ret2
        unfold makeR
        rw [HM.out]
        exact ⟨rfl, HX.out.put4 HL.out hib true ((landAt p i).gen + 1)⟩
    · obtain rfl : i = 256 := by omega
      have HM := Lib.hid (makeF_isnone hall)
      clear hall
      go_wp2
      go_ret2
      unfold makeR
      rw [HM.out]
      exact ⟨rfl, Chg.refl _, fun j hj => .inl hj, HP.out⟩
theorem taken_get (l : List Bool) (i : Nat) (hi : i < l.length) : (l.map Value.bool)[i]? = some (.bool (l.getD i false)) := by
  simp [hi]
theorem filter_take_succ {l : List Bool} {i : Nat} (hi : i < l.length) : ((l.take (i + 1)).filter (!·)).length = ((l.take i).filter (!·)).length + (if l.getD i false then 0 else 1) := by
  rw [List.take_add_one, List.getElem?_eq_getElem hi, List.filter_append, List.length_append, List.getD_eq_getElem?_getD, List.getElem?_eq_getElem hi]
  cases l[i] <;> rfl
set_option maxRecDepth 100000 in
theorem Idle_any (w : World) (S : Nat → Prop) (g : Nat) (p : PoolF) (h : PoolAt w S g p) (hp : PoolOk p) :
    Calls Try.prog 21 #[.pointer (some ⟨g, 0, none⟩)] w fun e w' => e = .returned (.int .i64 (countF p : Int)) ∧ w = w' := by
  obtain ⟨ads, cs, adt, ct, A, C, bd, hx⟩ := h
  obtain ⟨_, _, c2⟩ := hx.head
  have HT := Lib.hid hx.tak.row
  have hn : p.taken.length ≤ 4096 := by rw [hp.tk]; exact hp.n2
  clear hx hp
  have hc : countF p = ((p.taken.take p.taken.length).filter (!·)).length := by rw [List.take_length]; rfl
  rw [hc]
  clear hc
  go_enter Try.func21, Try.ntmps21
  go_wp2
  go_loopw [3, 13] (fun v u wr => ∃ i : Nat, i ≤ p.taken.length ∧ u = .int .i64 (i : Int) ∧ v = .int .i64 ((((p.taken.take i).filter (!·)).length : Nat) : Int) ∧ wr = w) (fun _ u _ => p.taken.length - (intOf u).toNat)
  case atStart => exact ⟨0, Nat.zero_le _, rfl, rfl, by first | rfl | trivial⟩
  case round =>
    obtain ⟨i, hi, rfl, rfl, rfl⟩ := hrel
    by_cases hib : i < p.taken.length
    · obtain ⟨b, off, rfl, c⟩ := HT.out i _ (taken_get _ i hib)
      have HS := Lib.hid (filter_take_succ hib)
      have hcl : ((p.taken.take i).filter (!·)).length ≤ 4096 := by
        refine Nat.le_trans (List.length_filter_le _ _) ?_
        rw [List.length_take]; omega
      cases ht : p.taken.getD i false with
      | true =>
        rw [ht] at HS c
        clear ht
        go_wp2
        go_roundw
        case rel => exact ⟨i + 1, hib, by go_num, by rw [HS.out]; rfl, by first | rfl | trivial⟩
        case measure => simp [intOf]; omega
      | false =>
        rw [ht] at HS c
        clear ht
        go_wp2
        go_roundw
        case rel => exact ⟨i + 1, hib, by go_num, by rw [HS.out]; go_num, by first | rfl | trivial⟩
        case measure => simp [intOf]; omega
    · obtain rfl : i = p.taken.length := by omega
      go_wp2
      go_ret
      exact ⟨rfl, rfl⟩
def idleI (p : PoolF) : Int := match idleF p with | some s => (s : Int) | none => -1
theorem idleF_is {p : PoolF} {i : Nat} (hi : i < p.taken.length) (h0 : p.taken.getD i false = false) (h1 : ∀ j, j < i → p.taken.getD j false = true) : idleF p = some i := by
  unfold idleF
  rw [List.find?_range_eq_some]
  exact ⟨by rw [h0]; rfl, by simpa using hi, fun j hj => by rw [h1 j hj]; rfl⟩
theorem idleF_isnone {p : PoolF} (h1 : ∀ j, j < p.taken.length → p.taken.getD j false = true) : idleF p = none := by
  unfold idleF
  rw [List.find?_eq_none]
  intro j hj
  rw [h1 j (by simpa using hj)]; decide
set_option maxRecDepth 100000 in
theorem Index_any (w : World) (p : PoolF) (adt : Option Addr) (ct : Nat) (hr : Row w adt (p.taken.map Value.bool)) (hn : p.taken.length ≤ 4096) :
    Calls Try.prog 74 #[.slice adt p.taken.length ct, .bool false] w fun e w' => e = .returned (.int .i64 (idleI p)) ∧ w = w' := by
  have HT := Lib.hid hr
  clear hr
  go_enter Try.func74, Try.ntmps74
  go_wp2
  go_loopw [8] (fun v wr => ∃ i : Nat, i ≤ p.taken.length ∧ v = .int .i64 (i : Int) ∧ wr = w ∧ ∀ j, j < i → p.taken.getD j false = true) (fun v _ => p.taken.length - (intOf v).toNat)
  case atStart => exact ⟨0, Nat.zero_le _, rfl, by first | rfl | trivial, fun j hj => by omega⟩
  case round =>
    obtain ⟨i, hi, rfl, rfl, hall⟩ := hrel
    by_cases hib : i < p.taken.length
    · obtain ⟨b, off, rfl, c⟩ := HT.out i _ (taken_get _ i hib)
      cases ht : p.taken.getD i false with
      | true =>
        have HA := Lib.hid (show ∀ j, j < i + 1 → p.taken.getD j false = true from fun j hj => by
          by_cases e : j = i
          · subst e; exact ht
          · exact hall j (by omega))
        rw [ht] at c
        clear ht hall
        go_wp2
        go_roundw
        case rel => exact ⟨i + 1, hib, by go_num, by first | rfl | trivial, HA.out⟩
        case measure => simp [intOf]; omega
      | false =>
        have HM := Lib.hid (idleF_is hib ht hall)
        rw [ht] at c
        clear ht hall
        go_wp2
        go_ret
        unfold idleI
        rw [HM.out]
        exact ⟨rfl, rfl⟩
    · obtain rfl : i = p.taken.length := by omega
      have HM := Lib.hid (idleF_isnone hall)
      clear hall
      go_wp2
      go_ret
      unfold idleI
      rw [HM.out]
      exact ⟨rfl, rfl⟩
end Go.Proofs.Ytnafhjgfkofkbaa
/- Layer 1 (region): what a step does to a pool in memory; clear, copy and make of whole blocks. -/
namespace Go.Proofs.Ytnafhjgfkofkbaa
set_option linter.unusedVariables false
set_option linter.unusedSimpArgs false
open Go.RowKit
theorem elemB : Elem Try.prog 73 5 (.int .u8 0) 1 1 := ⟨by kernel_rfl, by kernel_rfl, rfl, by decide⟩
theorem elemI : Elem Try.prog 50 3 (.int .i64 0) 1 8 := ⟨by kernel_rfl, by kernel_rfl, rfl, by decide⟩
theorem elemBool : Elem Try.prog 53 4 (.bool false) 1 1 := ⟨by kernel_rfl, by kernel_rfl, rfl, by decide⟩
theorem elemRow : Elem Try.prog 67 73 (.slice none 0 0) 1 24 := ⟨by kernel_rfl, by kernel_rfl, rfl, by decide⟩
section
variable {P : Program}
theorem Blk.setRow {w : World} {b : Nat} {e : TypeId} {cs : List Value} (h : Blk w b e cs) (ds : List Value) : Blk (w.setRow b ds.toArray) b e ds := setRow_heap w b cs.toArray ds.toArray e (0, 0) h
theorem grown_setRow (w : World) (b : Nat) (cs : Array Value) : w.grownBy (w.setRow b cs) (some b) := ⟨rfl, rfl, rfl, by simp, fun k _ hk => setRow_other w b k cs (fun e => hk (by rw [e]))⟩
theorem run_clear_blk {t e ty : TypeId} {z : Value} {bytes : Nat} (E : Elem P t e z 1 bytes) (hz : z.cells = #[z]) (h1 : z.oneCell' = true) (w : World) (b : Nat) (cs : List Value) (hb : Blk w b e cs) (c : Nat) (hn : 0 < cs.length) :
    (Builtin.clear_ #[t] ty #[.slice (some ⟨b, 0, none⟩) cs.length c]).run P w = .ok (.tuple #[]) (w.setRow b (List.replicate cs.length z).toArray) := by
  obtain ⟨ht, hinfo, _, _⟩ := E
  obtain ⟨i, hi, hz0, hsize, hby⟩ := info_parts hinfo
  have hv : ∀ w, (zeroValue e).run P w = .ok z w := fun w => by simp [zeroValue, typeInfo, hi, hz0]
  have hzc : (Builtin.zeroCells z.cells cs.length).toList = List.replicate cs.length z := by
    rw [hz]
    simp [Builtin.zeroCells]
    apply List.ext_getElem
    · simp
    · intro i h1 h2
      simp [Nat.mod_one]
  have hst := run_storeCells_un (P := P) b 0 e (0, 0) (List.replicate cs.length z) 0 cs.toArray w hb (by simp) (by simp) (fun v hv' => by rw [List.eq_of_mem_replicate hv']; exact h1)
  simp only [Nat.add_zero, Nat.zero_add, List.take_zero, List.nil_append, List.length_replicate, List.drop_length, List.append_nil] at hst
  obtain ⟨m, hm⟩ : ∃ m, cs.length = m + 1 := ⟨cs.length - 1, by omega⟩
  rw [hm] at hst hzc ⊢
  simp only [Builtin.clear_]
  simp [run_underlying ht, hv, hzc, hst]
theorem wp_clear {t e : TypeId} {z : Value} {bytes : Nat} (E : Elem P t e z 1 bytes) (hz : z.cells = #[z]) (h1 : z.oneCell' = true) {w : World} {ops : Array Oper} {rest : List Oper} {o : Oper} {a : Act} {Q : Exit → Act → World → Prop} (hgd : o.guard = none) (x : Operand)
    (ho : o.op = .call { callee := .builtin .clear, args := #[x], argTypes := #[t] }) {b c n : Nat} {cs : List Value} (hx : a.eval x = .slice (some ⟨b, 0, none⟩) n c) (hb : Blk w b e cs) (hn : cs.length = n) (h0 : 0 < n)
    (h : ∀ w', Blk w' b e (List.replicate n z) → w.grownBy w' (some b) → wpList P ops Q rest (a.put o.dst (.tuple #[])) w') : wpList P ops Q (o :: rest) a w := by
  subst hn
  refine wpList_plain hgd fun K hK => ?_
  have hr := run_clear_blk (ty := o.type) E hz h1 w b cs hb c h0
  unfold Oper.wp execOp
  simp only [ho, resolve, invoke, builtin, Sem.run_bind, Sem.run_pure, Result.andThen_ok, List.map_toArray, List.map_cons, List.map_nil, hx, hr]
  exact hK _ _ (h _ (hb.setRow _) (grown_setRow _ _ _))
theorem wp_copy {dT sT e : TypeId} {z : Value} {bytes : Nat} (E : Elem P dT e z 1 bytes) {w : World} {ops : Array Oper} {rest : List Oper} {o : Oper} {a : Act} {Q : Exit → Act → World → Prop} (hgd : o.guard = none) (x y : Operand)
    (ho : o.op = .call { callee := .builtin .copy, args := #[x, y], argTypes := #[dT, sT] }) {b off dl dc sl sc : Nat} {sa xa : Option Addr} {cur src : List Value} (hx : a.eval x = .slice xa dl dc) (hxa : 0 < sl → xa = some ⟨b, off, none⟩) (hy : a.eval y = .slice sa sl sc)
    (hb : Blk w b e cur) (hs : Row w sa src) (hsl : src.length = sl) (hle : sl ≤ dl) (hfit : off + sl ≤ cur.length) (h1 : ∀ v ∈ src, v.oneCell' = true)
    (h : ∀ w', Blk w' b e (cur.take off ++ src ++ cur.drop (off + sl)) → w.grownBy w' (some b) → wpList P ops Q rest (a.put o.dst (goInt sl)) w') : wpList P ops Q (o :: rest) a w := by
  subst hsl
  refine wpList_plain hgd fun K hK => ?_
  obtain ⟨ht, hinfo, _, _⟩ := E
  obtain ⟨i, hi, _, hsize, _⟩ := info_parts hinfo
  have hsz : (P.info? e).map (·.size) = some 1 := by rw [hi]; simp [hsize]
  unfold Oper.wp execOp
  by_cases h0 : src.length = 0
  · have hr := run_copy_none (P := P) w dT sT o.type e xa sa dl dc src.length sc ht hsz (by rw [h0]; exact Nat.zero_min _)
    simp only [ho, resolve, invoke, builtin, Sem.run_bind, Sem.run_pure, Result.andThen_ok, List.map_toArray, List.map_cons, List.map_nil, hx, hy, hr]
    have := h w (by
      have : src = [] := List.eq_nil_of_length_eq_zero h0
      subst this
      simpa using hb) ((Gr.refl w).far)
    rw [h0] at this
    exact hK _ _ this
  · obtain rfl := hxa (by omega)
    cases sa with
    | none =>
      exfalso
      cases src with
      | nil => exact h0 rfl
      | cons v r => obtain ⟨_, _, hh, _⟩ := hs 0 v rfl; cases hh
    | some ad =>
      have hr := run_copy_row (P := P) w dT sT o.type e b off dl dc ad src.length sc cur.toArray e src ht hsz hb (by exact (Nat.min_eq_left hle).symm) (fun j v hj => by
        obtain ⟨bb, oo, hh, hc⟩ := hs j v hj
        cases hh
        have hadd : (⟨bb, oo, none⟩ : Addr).add j = ⟨bb, oo + j, none⟩ := by unfold Addr.add; split <;> simp_all
        rw [hadd]; exact hc) (by simpa using hfit) h1
      simp only [ho, resolve, invoke, builtin, Sem.run_bind, Sem.run_pure, Result.andThen_ok, List.map_toArray, List.map_cons, List.map_nil, hx, hy, hr]
      exact hK _ _ (h _ (hb.setRow _) (grown_setRow _ _ _))
end
section
variable {w w' : World} {S : Nat → Prop} {g : Nat} {p : PoolF} {ads adt : Option Addr} {cs ct : Nat} {A : Nat → Option Addr} {C bd : Nat → Nat}
def setTaken (p : PoolF) (s : Nat) (b : Bool) : PoolF := { p with taken := p.taken.set s b }
def setBytes (p : PoolF) (s : Nat) (b : List UInt8) : PoolF := { p with bytes := p.bytes.set s b }
theorem map_set_bool (l : List Bool) (s : Nat) (b : Bool) : (l.set s b).map Value.bool = (l.map Value.bool).set s (.bool b) := by rw [List.map_set]
theorem bytesAt_set (p : PoolF) (s i : Nat) (b : List UInt8) (hs : s < p.bytes.length) : bytesAt (setBytes p s b) i = if s = i then b else bytesAt p i := by
  unfold bytesAt setBytes
  simp only [List.getD_eq_getElem?_getD, List.getElem?_set]
  by_cases h : s = i
  · subst h; simp [hs]
  · simp [h]
/-- a slab is taken, or let go -/
theorem PX.put_taken (h : PX w S g p ads cs adt ct A C bd) {bt s : Nat} (ht : adt = some ⟨bt, 0, none⟩) (hs : s < p.taken.length) (b : Bool) :
    PX (w.setCell ⟨bt, s, none⟩ (.bool b)) S g (setTaken p s b) ads cs adt ct A C bd := by
  have k := grown_set w bt s (.bool b)
  have hne := h.blk.owns_ne h.tak (by decide) _ ht
  simp only at hne
  refine ⟨?_, h.row.grown k (fun x hx e => (h.row.ne h.tak (by decide)) x _ hx ht (Option.some.inj e)), ?_, fun i hi => (h.slab i hi).grown k (fun e => (h.slab i hi).owns_ne h.tak (by decide) _ ht (Option.some.inj e).symm), fun i hi => (h.land i hi).grown k (fun x hx e => (h.land i hi).ne h.tak (by decide) x _ hx ht (Option.some.inj e)),
    h.inj, h.sep, h.sg, h.srow, h.stak, h.sslab, h.sland, fun j hj => Nat.lt_of_lt_of_le (h.lt j hj) k.size⟩
  · have e : poolV (setTaken p s b) ads cs adt ct A C = poolV p ads cs adt ct A C := by
      unfold poolV setTaken
      simp only [List.length_set]
      rfl
    rw [e]
    exact h.blk.grown k (fun e => hne (Option.some.inj e).symm)
  · have := h.tak.store ht hs (.bool b)
    rw [← map_set_bool] at this
    show Owns _ 0 _ 1 adt ct (p.taken.set s b).length ((p.taken.set s b).map .bool)
    rw [List.length_set]
    exact this
/-- a slab's bytes are others -/
theorem PX.put_bytes (h : PX w S g p ads cs adt ct A C bd) {s : Nat} (hs : s < p.bytes.length) (l : List UInt8) (hb : Blk w' (bd s) 5 (bv l)) (k : w.grownBy w' (some (bd s))) :
    PX w' S g (setBytes p s l) ads cs adt ct A C bd := by
  have e : poolV (setBytes p s l) ads cs adt ct A C = poolV p ads cs adt ct A C := by
    unfold poolV setBytes
    simp only [List.length_set]
    rfl
  have hl : (setBytes p s l).bytes.length = p.bytes.length := List.length_set
  refine ⟨?_, ?_, h.tak.grown k (fun x hx e => (h.slab s hs).owns_ne h.tak (by decide) x hx (Option.some.inj e)), fun i hi => ?_, fun i hi => (h.land i hi).grown k (fun x hx e => (h.slab s hs).owns_ne (h.land i hi) (by decide) x hx (Option.some.inj e)),
    fun i j hi hj => h.inj i j (by omega) (by omega), h.sep, h.sg, h.srow, h.stak, fun i hi => h.sslab i (by omega), h.sland, fun j hj => Nat.lt_of_lt_of_le (h.lt j hj) k.size⟩
  · rw [e]
    exact h.blk.grown k (fun e => (h.slab s hs).ne h.blk (by decide) (Option.some.inj e).symm)
  · rw [hl]
    exact h.row.grown k (fun x hx e => (h.slab s hs).owns_ne h.row (by decide) x hx (Option.some.inj e))
  · rw [hl] at hi
    rw [bytesAt_set p s i l hs]
    by_cases e : s = i
    · subst e; rw [if_pos rfl]; exact hb
    · rw [if_neg e]
      exact (h.slab i hi).grown k (fun x => e (h.inj i s hi hs (Option.some.inj x)).symm)
theorem poolV_set1 (hl : p.lands.length = 256) {i k : Nat} (hi : i < 256) (hk : k < 4) (v : Value) (l : Land) (ad : Option Addr) (cap : Nat) (hv : (landV (landAt p i) (A i) (C i)).set k v = landV l ad cap) :
    (poolV p ads cs adt ct A C).set (3 + i * 4 + k) v = poolV (setLand p i l) ads cs adt ct (upd A i ad) (upd C i cap) := by
  rw [poolV_setLand hl hi]
  unfold poolV
  rw [head_set rfl (fun j => rfl) hi hk]
  congr 1
  refine flat_congr _ fun j hj => ?_
  by_cases e : j = i
  · subst e; rw [if_pos rfl, if_pos rfl]; exact hv
  · rw [if_neg e, if_neg e]
theorem upd_id {α : Type} (A : Nat → α) (i : Nat) : upd A i (A i) = A := by
  funext j
  by_cases h : j = i
  · subst h; rw [upd_same]
  · rw [upd_other _ _ h]
/-- how far a region is handed out -/
theorem PX.put_fill (h : PX w S g p ads cs adt ct A C bd) (hl : p.lands.length = 256) {i : Nat} (hi : i < 256) (f : Nat) :
    PX (w.setCell ⟨g, 3 + i * 4 + 3, none⟩ (.int .i64 (f : Int))) S g (fillAt p i f) ads cs adt ct A C bd := by
  have k := grown_set w g (3 + i * 4 + 3) (.int .i64 (f : Int))
  have hb := h.blk.set_ (3 + i * 4 + 3) (.int .i64 (f : Int))
  have e := poolV_set1 (ads := ads) (cs := cs) (adt := adt) (ct := ct) (A := A) (C := C) hl hi (k := 3) (by decide) (.int .i64 (f : Int)) ⟨(landAt p i).there, (landAt p i).gen, (landAt p i).slabs, f⟩ (A i) (C i) rfl
  have := h.put_land hl hi ⟨(landAt p i).there, (landAt p i).gen, (landAt p i).slabs, f⟩ (A i) (C i) (e ▸ hb) (fun j hj hne => k.block j (h.lt j hj) (fun e => hne (Option.some.inj e))) k.size
    ((h.land i hi).grown k (fun x hx e => h.blk.owns_ne (h.land i hi) (by decide) x hx (Option.some.inj e))) (.inr rfl)
  rw [upd_id, upd_id] at this
  exact this
/-- a region has a slab more -/
theorem PX.put_slab (h : PX w S g p ads cs adt ct A C bd) (hl : p.lands.length = 256) {i s : Nat} (hi : i < 256) {w4 : World} {ad : Option Addr} {cap : Nat} (k : w.grownBy w4 ((A i).map (·.block)))
    (o : Owns w4 0 3 1 ad cap ((landAt p i).slabs.length + 1) (iv ((landAt p i).slabs ++ [s]))) (f : ∀ a, ad = some a → A i = some a ∨ w.heap.size ≤ a.block) :
    ∃ S', Moved S g (setLand p i ⟨(landAt p i).there, (landAt p i).gen, (landAt p i).slabs ++ [s], (landAt p i).fill⟩) w (w4.setCell ⟨g, 3 + i * 4 + 2, none⟩ (.slice ad ((landAt p i).slabs.length + 1) cap)) S' := by
  have hAg : ∀ x, A i = some x → x.block ≠ g := h.blk.owns_ne (h.land i hi) (by decide)
  have hgl := h.lt g h.sg
  have hne : ∀ x, ad = some x → x.block ≠ g := fun x hx e => by
    rcases f x hx with h1 | h1
    · exact hAg x h1 e
    · omega
  have hk4 : ∀ j, j < w.heap.size → (∀ x, A i = some x → x.block ≠ j) → w4.heap[j]? = w.heap[j]? := fun j hj hx => k.block j hj (fun e => by
    cases hA : A i with
    | none => rw [hA] at e; cases e
    | some x => rw [hA] at e; exact hx x hA (Option.some.inj e).symm)
  have hb4 : Blk w4 g 72 (poolV p ads cs adt ct A C) := (hk4 g hgl hAg).trans h.blk
  have k5 := grown_set w4 g (3 + i * 4 + 2) (.slice ad ((landAt p i).slabs.length + 1) cap)
  have hb5 := hb4.set_ (3 + i * 4 + 2) (.slice ad ((landAt p i).slabs.length + 1) cap)
  have hlen : (landAt p i).slabs.length + 1 = ((landAt p i).slabs ++ [s]).length := by simp
  rw [poolV_set1 (ads := ads) (cs := cs) (adt := adt) (ct := ct) (A := A) (C := C) hl hi (k := 2) (by decide) (.slice ad ((landAt p i).slabs.length + 1) cap) ⟨(landAt p i).there, (landAt p i).gen, (landAt p i).slabs ++ [s], (landAt p i).fill⟩ ad cap (by rw [hlen]; rfl)] at hb5
  have hall : ∀ j, j < w.heap.size → j ≠ g → (∀ x, A i = some x → x.block ≠ j) → (w4.setCell ⟨g, 3 + i * 4 + 2, none⟩ (.slice ad ((landAt p i).slabs.length + 1) cap)).heap[j]? = w.heap[j]? := fun j hj hjg hx => (k5.block j (Nat.lt_of_lt_of_le hj k.size) (fun e => hjg (Option.some.inj e))).trans (hk4 j hj hx)
  have ha : ∀ j, landAt (setLand p i ⟨(landAt p i).there, (landAt p i).gen, (landAt p i).slabs ++ [s], (landAt p i).fill⟩) j = if i = j then ⟨(landAt p i).there, (landAt p i).gen, (landAt p i).slabs ++ [s], (landAt p i).fill⟩ else landAt p j := fun j => landAt_set p i j _ (by omega)
  refine ⟨fun j => S j ∨ (w.heap.size ≤ j ∧ j < w4.heap.size), ⟨?_, ?_, ?_⟩⟩
  · refine ⟨k5.os.trans k.os, k5.tape.trans k.tape, k5.output.trans k.output, Nat.le_trans k.size k5.size, fun j hj hn => hall j hj (fun e => hn (e ▸ h.sg)) (fun x hx e => hn (e ▸ h.sland i x hi hx))⟩
  · intro j hj
    rcases hj with h1 | h1
    · exact .inl h1
    · exact .inr h1.1
  refine ⟨ads, cs, adt, ct, upd A i ad, upd C i cap, bd, hb5, h.row.kept (fun b hb => hall b (h.lt _ (h.srow _ hb)) (h.blk.owns_ne h.row (by decide) _ hb) (fun x hx => (h.land i hi).ne h.row (by decide) x _ hx hb)), h.tak.kept (fun b hb => hall b (h.lt _ (h.stak _ hb)) (h.blk.owns_ne h.tak (by decide) _ hb) (fun x hx => (h.land i hi).ne h.tak (by decide) x _ hx hb)),
    fun j hj => (hall _ (h.lt _ (h.sslab j hj)) ((h.slab j hj).ne h.blk (by decide)) (fun x hx => (h.slab j hj).owns_ne (h.land i hi) (by decide) x hx)).trans (h.slab j hj), fun j hj => ?_, h.inj, fun a b x y ha3 hb3 hx hy hxy => ?_, .inl h.sg, fun x hx => .inl (h.srow x hx), fun x hx => .inl (h.stak x hx), fun j hj => .inl (h.sslab j hj), fun j x hj hx => ?_, fun j hj => ?_⟩
  · rw [ha]
    by_cases e : j = i
    · subst e
      rw [if_pos rfl, upd_same, upd_same]
      have := o.grown k5 (fun x hx e => hne x hx (Option.some.inj e))
      rw [hlen] at this
      simpa using this
    · rw [if_neg (fun x => e x.symm), upd_other _ _ e, upd_other _ _ e]
      exact (h.land j hj).kept (fun b hb => hall b (h.lt _ (h.sland j _ hj hb)) (h.blk.owns_ne (h.land j hj) (by decide) _ hb) (fun x hx e2 => e (h.sep i j x _ hi hj hx hb e2).symm))
  · by_cases ea : a = i
    · by_cases eb : b = i
      · omega
      · subst ea
        rw [upd_same] at hx
        rw [upd_other _ _ eb] at hy
        rcases f x hx with h1 | h1
        · exact h.sep a b x y ha3 hb3 h1 hy hxy
        · have := h.lt _ (h.sland b y hb3 hy); omega
    · rw [upd_other _ _ ea] at hx
      by_cases eb : b = i
      · subst eb
        rw [upd_same] at hy
        rcases f y hy with h1 | h1
        · exact h.sep a b x y ha3 hb3 hx h1 hxy
        · have := h.lt _ (h.sland a x ha3 hx); omega
      · rw [upd_other _ _ eb] at hy
        exact h.sep a b x y ha3 hb3 hx hy hxy
  · by_cases e : j = i
    · subst e
      rw [upd_same] at hx
      rcases f x hx with h1 | h1
      · exact .inl (h.sland j x hj h1)
      · exact .inr ⟨h1, (o.lt x hx).2⟩
    · rw [upd_other _ _ e] at hx
      exact .inl (h.sland j x hj hx)
  · rcases hj with h1 | h1
    · exact Nat.lt_of_lt_of_le (h.lt j h1) (Nat.le_trans k.size k5.size)
    · exact Nat.lt_of_lt_of_le h1.2 k5.size
end
/-- a slice of one new element of one cell -/
theorem src_cell {P : Program} {u e' : TypeId} (w : World) (v : Value) (e : TypeId) (hv : v.oneCell' = true) (hu : P.underlying u = some (.slice e')) (gb : Nat) (hgb : gb = w.heap.size) : Src P u (w.alloc (.cells #[v] e)) 1 (.slice (some ⟨gb, 0, none⟩) 1 1) 1 [v] := by
  subst hgb
  refine ⟨rfl, fun x hx => by rw [List.mem_singleton] at hx; rw [hx]; exact hv, .inl ⟨_, _, e', rfl, ?_, hu⟩⟩
  exact Row.alloc w #[v] e (0, 0) [v] rfl
theorem Moved.finish {w W3 W5 : World} {S S2 : Nat → Prop} {g : Nat} {p2 : PoolF} {ads adt : Option Addr} {cs ct : Nat} {A : Nat → Option Addr} {C bd : Nat → Nat} (h : Moved S g p2 w W3 S2) (hx : PX W3 S2 g p2 ads cs adt ct A C bd) (hl : p2.lands.length = 256) {i : Nat} (hi : i < 256) (f : Nat)
    {gh : Nat} (hg : ¬ S2 gh) (hw : w.heap.size ≤ gh) (k : (W3.setCell ⟨g, 3 + i * 4 + 3, none⟩ (.int .i64 (f : Int))).grownBy W5 (some gh)) : Moved S g (fillAt p2 i f) w W5 S2 := by
  have k1 := grown_set W3 g (3 + i * 4 + 3) (.int .i64 (f : Int))
  have hc := h.chg.trans (Chg.grown k1 hx.sg) h.sub
  have hp := hx.put_fill hl hi f
  refine ⟨⟨k.os.trans hc.os, k.tape.trans hc.tape, k.output.trans hc.output, Nat.le_trans hc.size k.size, fun j hj hn => (k.block j (Nat.lt_of_lt_of_le hj hc.size) (fun e => by have := Option.some.inj e; omega)).trans (hc.block j hj hn)⟩, h.sub, ads, cs, adt, ct, A, C, bd, hp.same (fun j hj => k.block j (hp.lt j hj) (fun e => hg ((Option.some.inj e) ▸ hj))) k.size⟩
def hdv (h : Hd) : Value := .agg #[.int .i64 h.region, .int .i64 h.gen, .int .i64 h.off, .int .i64 h.len]
theorem Blk.four {w : World} {g : Nat} {t : TypeId} {a b c d : Value} (h : Blk w g t [a, b, c, d]) : w.cell? ⟨g, 0, none⟩ = some a ∧ w.cell? ⟨g, 1, none⟩ = some b ∧ w.cell? ⟨g, 2, none⟩ = some c ∧ w.cell? ⟨g, 3, none⟩ = some d ∧ w.frozen? ⟨g, 0, none⟩ = false ∧ w.frozen? ⟨g, 1, none⟩ = false ∧ w.frozen? ⟨g, 2, none⟩ = false ∧ w.frozen? ⟨g, 3, none⟩ = false :=
  ⟨h.cell rfl, h.cell rfl, h.cell rfl, h.cell rfl, h.frozen _, h.frozen _, h.frozen _, h.frozen _⟩
theorem iv_get (l : List Nat) (i s : Nat) (h : l[i]? = some s) : (iv l)[i]? = some (.int .i64 (s : Int)) := by simp [iv, h]
theorem slabV_get {bd : Nat → Nat} {size n i : Nat} (h : i < n) : (slabV bd size n)[i]? = some (.slice (some ⟨bd i, 0, none⟩) size size) := by simp [slabV, h]
end Go.Proofs.Ytnafhjgfkofkbaa
/- Layer 1 (region): grow walked. -/
namespace Go.Proofs.Ytnafhjgfkofkbaa
set_option linter.unusedVariables false
set_option linter.unusedSimpArgs false
open Go.RowKit
set_option maxRecDepth 100000 in
theorem grow_any (w : World) (S : Nat → Prop) (g : Nat) (p : PoolF) (i : Nat) (hi : i < 256) (h : PoolAt w S g p) (hp : PoolOk p) :
    Calls Try.prog 67 #[.pointer (some ⟨g, 0, none⟩), .pointer (some ⟨g, 3 + i * 4, none⟩)] w fun e w' =>
      match idleF p with
      | none => e = .returned (.bool false) ∧ w = w'
      | some s => e = .returned (.bool true) ∧ ∃ S', Moved S g (growAt p i s) w w' S' := by
  obtain ⟨ads, cs, adt, ct, A, C, bd, hx⟩ := h
  obtain ⟨c0, c1, c2⟩ := hx.head
  have hln := hp.ln
  have HIX := Lib.hid (Index_any w p adt ct hx.tak.row (by rw [hp.tk]; exact hp.n2))
  cases hs : idleF p with
  | none =>
    have e : idleI p = -1 := by unfold idleI; rw [hs]
    rw [e] at HIX
    clear hx hs e hp hln
    go_enter Try.func67, Try.ntmps67
    go_wp2_with (first
      | (go_at_call 74; refine HIX.out.mono ?_; rintro e w1 ⟨rfl, rfl⟩)
      | fail)
    go_ret
    exact ⟨rfl, rfl⟩
  | some s =>
    have e : idleI p = (s : Int) := by unfold idleI; rw [hs]
    rw [e] at HIX
    obtain ⟨hst, _, _⟩ := idleF_some hs
    have hsb : s < p.bytes.length := by rw [← hp.tk]; exact hst
    have hbl : (bytesAt p s).length = p.size := by
      unfold bytesAt
      rw [List.getD_eq_getElem?_getD, List.getElem?_eq_getElem hsb]
      exact hp.bl _ (List.getElem_mem hsb)
    have hsz := hp.s1
    have hcap := (hp.ld i hi).cap hp
    have hlen := Nat.le_trans (hp.ld i hi).len hp.n2
    have hsz2 := hp.s2
    obtain ⟨bt, rfl, _, hc1⟩ := hx.tak.at (taken_get _ s hst)
    have hf1 := hx.tak.unfrozen rfl (show s < p.taken.length * 1 by omega)
    have hx1 := hx.put_taken rfl hst true
    obtain ⟨d0, d1, d2⟩ := hx1.head
    have hrow : (slabV bd (setTaken p s true).size (setTaken p s true).bytes.length)[s]? = some (.slice (some ⟨bd s, 0, none⟩) p.size p.size) := by show (slabV bd p.size p.bytes.length)[s]? = _; simp [slabV, hsb]
    obtain ⟨b2, rfl, _, hc2⟩ := hx1.row.at hrow
    have HX1 := Lib.hid hx1
    have HP := Lib.hid hp
    clear hx hx1 hs e hp
    go_enter Try.func67, Try.ntmps67
    go_wp2_with (first
      | (go_at_call 74; refine HIX.out.mono ?_; rintro e w1 ⟨rfl, rfl⟩)
      | ((with_reducible show Go.wpList _ _ _ (Oper.mk _ (Op.call (Call.mk (Callee.builtin Builtin.clear) _ _)) _ _ _ _ :: _) _ _); go_must (refine wp_clear elemB rfl rfl rfl _ rfl rfl (HX1.out.slab s hsb) (by rw [bv_length]; exact hbl) (by omega) ?_); intro w2 q2 k2
         rw [bv_replicate] at q2
         have hx2 := HX1.out.put_bytes hsb (List.replicate p.size 0) q2 k2
         obtain ⟨e0, e1, e2⟩ := hx2.head
         obtain ⟨l0, l1, l2, l3⟩ := hx2.lcell hi
         have f3 := hx2.blk.frozen (3 + i * 4 + 3)
         have HX2 := Lib.hid hx2
         have HC2 := Lib.hid (Chg.trans (Chg.grown (grown_set w bt s (.bool true)) (HX1.out.stak _ rfl)) (Chg.grown k2 (HX1.out.sslab s hsb)) (fun j hj => .inl hj))
         clear hx2 q2 k2)
      | fail)
    have e0' : w2.cell? ⟨g, 0, none⟩ = some (.int .i64 (p.size : Int)) := e0
    have l2' : w2.cell? ⟨g, 3 + i * 4 + 2, none⟩ = some (.slice (A i) (landAt p i).slabs.length (C i)) := l2
    have l3' : w2.cell? ⟨g, 3 + i * 4 + 3, none⟩ = some (.int .i64 ((landAt p i).fill : Int)) := l3
    obtain ⟨m, hm⟩ : ∃ m, m = (landAt p i).slabs.length * p.size := ⟨_, rfl⟩
    have hmi : ((landAt p i).slabs.length : Int) * (p.size : Int) = (m : Int) := by rw [hm]; simp
    have hmm : m ≤ 268435456 := by rw [hm]; exact hcap
    have HM := Lib.hid hm
    have HHC := Lib.hid hcap
    clear e0 e1 e2 l0 l1 l2 l3 hm hcap c0 c1 c2 d0 d1 d2 hc1 hc2 hf1
    have hw : IntKind.i64.wrap (m : Int) = (m : Int) := by rw [IntKind.wrap_i64]; omega
    have hx3 : PX ((w2.setCell ⟨g, 3 + i * 4 + 3, none⟩ (.int .i64 (m : Int))).alloc (.cells #[.int .i64 (s : Int)] 3)).drew S g (fillAt (setBytes (setTaken p s true) s (List.replicate p.size 0)) i m) _ cs _ ct A C bd := ((HX2.out.put_fill hln hi m).gr (Gr.alloc _ _)).gr (Gr.drew _)
    have hA : landAt (fillAt (setBytes (setTaken p s true) s (List.replicate p.size 0)) i m) i = ⟨(landAt p i).there, (landAt p i).gen, (landAt p i).slabs, m⟩ := (landAt_set _ i i _ (by show i < p.lands.length; omega)).trans (if_pos rfl)
    have hlo := hx3.land i hi
    rw [hA] at hlo
    have HLO := Lib.hid hlo
    have HX3 := Lib.hid hx3
    have HA := Lib.hid hA
    have HC3 := Lib.hid (Chg.trans HC2.out (Chg.trans (Chg.grown (grown_set w2 g (3 + i * 4 + 3) (.int .i64 (m : Int))) HX2.out.sg) (((Gr.alloc _ (.cells #[.int .i64 (s : Int)] 3)).trans (Gr.drew _)).chg (S := S)) (fun j hj => .inl hj)) (fun j hj => .inl hj))
    clear hlo hx3 hA
    have hm1 : (landAt p i).slabs.length + 1 ≤ maxLen := by unfold maxLen; omega
    have hm2 : ((landAt p i).slabs.length + 1) * 8 ≤ 140737488355328 := by omega
    go_still_tail 13, (by kernel_rfl)
    clear hmi hw
    go_wp2_with (first
      | (at_builtin; go_must (refine wp_append elemI rfl _ _ rfl rfl HLO.out rfl ((src_cell _ (.int .i64 (s : Int)) _ rfl Try.underlying50 _ (by simp)).gr (Gr.drew _)) hm1 hm2 (Nat.zero_le _) ?_); intro ad5 c5 w5 o5 k5 f5
         have b5 : Blk w5 g 72 _ := HX3.out.blk.grown k5 (fun e => by
           cases hAi : A i with
           | none => rw [hAi] at e; cases e
           | some x => rw [hAi] at e; exact HX3.out.blk.owns_ne (HX3.out.land i hi) (by decide) x hAi (Option.some.inj e).symm)
         have z5 := b5.cell (poolV_land (k := 2) hi (by decide))
         have q5 := b5.frozen (3 + i * 4 + 2)
         have hmv := HX3.out.put_slab (s := s) (by show (p.lands.set i _).length = 256; rw [List.length_set]; exact hln) hi k5 (by rw [HA.out]; simpa [iv] using o5) f5
         rw [HA.out] at hmv
         have HMV := Lib.hid hmv
         clear b5 hmv o5 k5 f5)
      | fail)
    go_ret
    obtain ⟨S', hmv⟩ := HMV.out
    have e : setLand (fillAt (setBytes (setTaken p s true) s (List.replicate p.size 0)) i m) i ⟨(landAt p i).there, (landAt p i).gen, (landAt p i).slabs ++ [s], m⟩ = growAt p i s := by
      have := HM.out
      subst this
      unfold setLand fillAt setBytes setTaken growAt
      simp only [List.set_set]
    rw [e] at hmv
    exact ⟨rfl, S', hmv.after HC3.out⟩
end Go.Proofs.Ytnafhjgfkofkbaa
/- Layer 1 (region): Alloc walked, of what is in order. -/
namespace Go.Proofs.Ytnafhjgfkofkbaa
set_option linter.unusedVariables false
set_option linter.unusedSimpArgs false
open Go.RowKit
theorem Blk.set4 {w : World} {g : Nat} {t : TypeId} {a b c d : Value} (h : Blk w g t [a, b, c, d]) (a' b' c' d' : Value) :
    Blk ((((w.setCell ⟨g, 0, none⟩ a').setCell ⟨g, 1, none⟩ b').setCell ⟨g, 2, none⟩ c').setCell ⟨g, 3, none⟩ d') g t [a', b', c', d'] := (((h.set_ 0 a').set_ 1 b').set_ 2 c').set_ 3 d'
theorem grown_set4 (w : World) (g : Nat) (a b c d : Value) : w.grownBy ((((w.setCell ⟨g, 0, none⟩ a).setCell ⟨g, 1, none⟩ b).setCell ⟨g, 2, none⟩ c).setCell ⟨g, 3, none⟩ d) (some g) :=
  grown_trans (grown_trans (grown_trans (grown_set _ _ _ _) (grown_set _ _ _ _)) (grown_set _ _ _ _)) (grown_set _ _ _ _)
set_option maxRecDepth 100000 in
set_option maxHeartbeats 4000000 in
theorem Alloc_good (w : World) (S : Nat → Prop) (g : Nat) (p : PoolF) (i : Nat) (n a : Int) (h : PoolAt w S g p) (hp : PoolOk p) (hl : landF p (i : Int) = some i) (h1 : ¬ n < 1) (h2 : ¬ n > (p.size : Int)) (h3 : ¬ a < 1) (h4 : ¬ a > 64) (e5 : bits .and .i64 a (a - 1) = 0) (hk : alignOk a = true) :
    Calls Try.prog 47 #[.pointer (some ⟨g, 0, none⟩), .int .i64 (i : Int), .int .i64 n, .int .i64 a] w fun e w' => e = .returned (.tuple #[hdv (allocF p (i : Int) n a).1, .int .i64 ((allocF p (i : Int) n a).2.1 : Int)]) ∧ ∃ S', Moved S g (allocF p (i : Int) n a).2.2 w w' S' := by
  have HP := Lib.hid h
  have HLA := Lib.hid (fun w' (k : Gr w w') => land_any w' S g p (i : Int) (h.gr k))
  have HOK := Lib.hid hp
  rw [hl] at HLA
  obtain ⟨_, hi, hth⟩ := landF_some hl
  obtain ⟨ads, cs, adt, ct, A, C, bd, hx⟩ := h
  have hlk := hp.ld i hi
  have hsz1 := hp.s1
  have hsz2 := hp.s2
  have hcap := hlk.cap hp
  have hfl := hlk.fill_le
  have hlen := Nat.le_trans hlk.len hp.n2
  have hfil := hlk.fill
  have hx1 := hx.gr (Gr.alloc w (.cells #[.int .i64 0, .int .i64 0, .int .i64 0, .int .i64 0] 93))
  obtain ⟨c0, _, _⟩ := hx1.head
  obtain ⟨_, l1, l2, l3⟩ := hx1.lcell hi
  have HX := Lib.hid hx
  obtain ⟨nn, rfl⟩ : ∃ nn : Nat, n = (nn : Int) := ⟨n.toNat, by omega⟩
  obtain ⟨m, hm⟩ : ∃ m, m = (landAt p i).slabs.length * p.size := ⟨_, rfl⟩
  have hmi : ((landAt p i).slabs.length : Int) * (p.size : Int) = (m : Int) := by rw [hm]; simp
  have hw : IntKind.i64.wrap (m : Int) = (m : Int) := by rw [IntKind.wrap_i64]; omega
  obtain ⟨t, ht⟩ : ∃ t, t = p.size - (m - (landAt p i).fill) := ⟨_, rfl⟩
  have hmf : m ≤ (landAt p i).fill + p.size := by
    rcases hfil with ⟨q1, q2⟩ | ⟨q1, q2, q3⟩
    · rw [hm, q1]; simp
    · have hpos : 0 < (landAt p i).slabs.length := by
        cases hsl : (landAt p i).slabs with
        | nil => exact absurd hsl q1
        | cons _ _ => simp
      rw [hm]
      obtain ⟨k, hk⟩ : ∃ k, (landAt p i).slabs.length = k + 1 := ⟨(landAt p i).slabs.length - 1, by omega⟩
      rw [hk] at q2 ⊢
      rw [Nat.add_mul]
      simp only [Nat.add_sub_cancel] at q2
      omega
  have hti : (p.size : Int) - ((m : Int) - ((landAt p i).fill : Int)) = (t : Int) := by rw [ht]; rw [← hm] at hfl; omega
  have htl : t ≤ 65536 := by omega
  obtain ⟨u, hu⟩ : ∃ u, u = upTo t a.toNat := ⟨_, rfl⟩
  have hui : bits .andNot .i64 ((t : Int) + a - 1) (a - 1) = (u : Int) := by rw [hu]; exact align_up hk (by omega)
  have hub := upTo_bounds (x := t) (a := a.toNat) (by omega)
  rw [← hu] at hub
  have hul : u ≤ 65600 := by omega
  rw [← hm] at hfl hcap
  have HIN := Lib.hid (show inF p i = t by unfold inF; rw [ht, hm])
  have HU := Lib.hid (show upTo (inF p i) a.toNat = u by rw [HIN.out, hu])
  have HM := Lib.hid hm
  have hnb : ¬ ((nn : Int) < 1 ∨ (nn : Int) > (p.size : Int) ∨ alignOk a = false) := by rw [hk]; simp; omega
  have HE := Lib.hid (show allocF p (i : Int) (nn : Int) a = if (landAt p i).slabs = [] ∨ p.size < u + nn then (match idleF p with
      | none => (noHd, 5, p)
      | some s => (⟨(i : Int), ((landAt p i).gen : Int), (m : Int), (nn : Int)⟩, 0, fillAt (growAt p i s) i (m + nn)))
    else (⟨(i : Int), ((landAt p i).gen : Int), ((((landAt p i).slabs.length - 1) * p.size + u : Nat) : Int), (nn : Int)⟩, 0, fillAt p i (((landAt p i).slabs.length - 1) * p.size + u + nn)) by
    unfold allocF; rw [hl]; simp only; rw [if_neg hnb, HU.out, Int.toNat_natCast, ← hm] <;> rfl)
  have HFIL := Lib.hid hfil
  have HLK := Lib.hid hlk
  clear hm ht hu hub hnb hfil hlk hx hx1 hp hl hk hmf
  by_cases hgr : (landAt p i).slabs = [] ∨ p.size < u + nn
  · rw [if_pos hgr] at HE
    have hgr2 : (landAt p i).slabs.length = 0 ∨ p.size < u + nn := by
      rcases hgr with h5 | h5
      · exact .inl (by rw [h5]; rfl)
      · exact .inr h5
    clear hgr
    have HGR := Lib.hid (fun w' h' => grow_any w' S g p i hi h' HOK.out)
    cases hid : idleF p with
    | none =>
      rw [hid] at HGR HE
      clear hid
      rcases hgr2 with h6 | h6
      · go_enter Try.func47, Try.ntmps47
        go_wp2_with (first
          | (go_at_call 66; refine (HLA.out _ (Gr.alloc _ _)).mono ?_; rintro e w1 ⟨rfl, rfl⟩)
          | fail)
        go_quiet (fail)
        have gV : Gr (w.alloc (.cells #[.int .i64 0, .int .i64 0, .int .i64 0, .int .i64 0] 93)) ((w.alloc (.cells #[.int .i64 0, .int .i64 0, .int .i64 0, .int .i64 0] 93)).drewN nq) := Gr.drewN _ nq
        have c0a := gV.cell c0
        have l1a := gV.cell l1
        have l2a := gV.cell l2
        have l3a := gV.cell l3
        have bVa := (Blk.new w 93 #[.int .i64 0, .int .i64 0, .int .i64 0, .int .i64 0]).gr gV
        have gWa : Gr w ((w.alloc (.cells #[.int .i64 0, .int .i64 0, .int .i64 0, .int .i64 0] 93)).drewN nq) := (Gr.alloc w _).trans gV
        clear gV c0 l1 l2 l3
        generalize (w.alloc (.cells #[.int .i64 0, .int .i64 0, .int .i64 0, .int .i64 0] 93)).drewN nq = V at *
        go_wp2
        go_quiet (fail)
        have gV : Gr V (V.drewN nq) := Gr.drewN V nq
        have c0 := gV.cell c0a
        have l1 := gV.cell l1a
        have l2 := gV.cell l2a
        have l3 := gV.cell l3a
        have bV := bVa.gr gV
        have gW := gWa.trans gV
        clear gV c0a l1a l2a l3a bVa gWa
        generalize V.drewN nq = W at *
        clear hmi hw
        obtain ⟨d0, d1, d2, d3, f0, f1, f2, f3⟩ := Blk.four bV
        go_wp2_with (first
          | (go_at_call 67; refine (HGR.out _ (HP.out.gr gW)).mono ?_; rintro e w1 ⟨rfl, rfl⟩)
          | fail)
        obtain ⟨e0, e1, e2, e3, _⟩ := Blk.four (bV.set4 (.int .i64 0) (.int .i64 0) (.int .i64 0) (.int .i64 0))
        refine bodyPost_ret (v := .tuple #[.agg #[.int .i64 0, .int .i64 0, .int .i64 0, .int .i64 0], .int .i64 5]) (by simp [results, Try.results47, go_sem, e0, e1, e2, e3]) rfl ?_
        rw [HE.out]
        exact ⟨rfl, S, (Moved.refl HP.out).gr (Gr.of_far gW (grown_set4 _ _ _ _ _ _) (Nat.le_refl _))⟩
      · by_cases h7 : (landAt p i).slabs.length = 0
        · clear h6
          go_enter Try.func47, Try.ntmps47
          go_wp2_with (first
            | (go_at_call 66; refine (HLA.out _ (Gr.alloc _ _)).mono ?_; rintro e w1 ⟨rfl, rfl⟩)
            | fail)
          go_quiet (fail)
          have gV : Gr (w.alloc (.cells #[.int .i64 0, .int .i64 0, .int .i64 0, .int .i64 0] 93)) ((w.alloc (.cells #[.int .i64 0, .int .i64 0, .int .i64 0, .int .i64 0] 93)).drewN nq) := Gr.drewN _ nq
          have c0a := gV.cell c0
          have l1a := gV.cell l1
          have l2a := gV.cell l2
          have l3a := gV.cell l3
          have bVa := (Blk.new w 93 #[.int .i64 0, .int .i64 0, .int .i64 0, .int .i64 0]).gr gV
          have gWa : Gr w ((w.alloc (.cells #[.int .i64 0, .int .i64 0, .int .i64 0, .int .i64 0] 93)).drewN nq) := (Gr.alloc w _).trans gV
          clear gV c0 l1 l2 l3
          generalize (w.alloc (.cells #[.int .i64 0, .int .i64 0, .int .i64 0, .int .i64 0] 93)).drewN nq = V at *
          go_wp2
          go_quiet (fail)
          have gV : Gr V (V.drewN nq) := Gr.drewN V nq
          have c0 := gV.cell c0a
          have l1 := gV.cell l1a
          have l2 := gV.cell l2a
          have l3 := gV.cell l3a
          have bV := bVa.gr gV
          have gW := gWa.trans gV
          clear gV c0a l1a l2a l3a bVa gWa
          generalize V.drewN nq = W at *
          clear hmi hw
          obtain ⟨d0, d1, d2, d3, f0, f1, f2, f3⟩ := Blk.four bV
          go_wp2_with (first
            | (go_at_call 67; refine (HGR.out _ (HP.out.gr gW)).mono ?_; rintro e w1 ⟨rfl, rfl⟩)
            | fail)
          obtain ⟨e0, e1, e2, e3, _⟩ := Blk.four (bV.set4 (.int .i64 0) (.int .i64 0) (.int .i64 0) (.int .i64 0))
          refine bodyPost_ret (v := .tuple #[.agg #[.int .i64 0, .int .i64 0, .int .i64 0, .int .i64 0], .int .i64 5]) (by simp [results, Try.results47, go_sem, e0, e1, e2, e3]) rfl ?_
          rw [HE.out]
          exact ⟨rfl, S, (Moved.refl HP.out).gr (Gr.of_far gW (grown_set4 _ _ _ _ _ _) (Nat.le_refl _))⟩
        · go_enter Try.func47, Try.ntmps47
          go_wp2_with (first
            | (go_at_call 66; refine (HLA.out _ (Gr.alloc _ _)).mono ?_; rintro e w1 ⟨rfl, rfl⟩)
            | fail)
          go_quiet (fail)
          have gV : Gr (w.alloc (.cells #[.int .i64 0, .int .i64 0, .int .i64 0, .int .i64 0] 93)) ((w.alloc (.cells #[.int .i64 0, .int .i64 0, .int .i64 0, .int .i64 0] 93)).drewN nq) := Gr.drewN _ nq
          have c0a := gV.cell c0
          have l1a := gV.cell l1
          have l2a := gV.cell l2
          have l3a := gV.cell l3
          have bVa := (Blk.new w 93 #[.int .i64 0, .int .i64 0, .int .i64 0, .int .i64 0]).gr gV
          have gWa : Gr w ((w.alloc (.cells #[.int .i64 0, .int .i64 0, .int .i64 0, .int .i64 0] 93)).drewN nq) := (Gr.alloc w _).trans gV
          clear gV c0 l1 l2 l3
          generalize (w.alloc (.cells #[.int .i64 0, .int .i64 0, .int .i64 0, .int .i64 0] 93)).drewN nq = V at *
          go_wp2
          go_quiet (fail)
          have gV : Gr V (V.drewN nq) := Gr.drewN V nq
          have c0 := gV.cell c0a
          have l1 := gV.cell l1a
          have l2 := gV.cell l2a
          have l3 := gV.cell l3a
          have bV := bVa.gr gV
          have gW := gWa.trans gV
          clear gV c0a l1a l2a l3a bVa gWa
          generalize V.drewN nq = W at *
          clear hmi hw
          obtain ⟨d0, d1, d2, d3, f0, f1, f2, f3⟩ := Blk.four bV
          go_wp2_with (first
            | (go_at_call 67; refine (HGR.out _ (HP.out.gr gW)).mono ?_; rintro e w1 ⟨rfl, rfl⟩)
            | fail)
          obtain ⟨e0, e1, e2, e3, _⟩ := Blk.four (bV.set4 (.int .i64 0) (.int .i64 0) (.int .i64 0) (.int .i64 0))
          refine bodyPost_ret (v := .tuple #[.agg #[.int .i64 0, .int .i64 0, .int .i64 0, .int .i64 0], .int .i64 5]) (by simp [results, Try.results47, go_sem, e0, e1, e2, e3]) rfl ?_
          rw [HE.out]
          exact ⟨rfl, S, (Moved.refl HP.out).gr (Gr.of_far gW (grown_set4 _ _ _ _ _ _) (Nat.le_refl _))⟩
    | some s =>
      rw [hid] at HGR HE
      obtain ⟨hst, _, _⟩ := idleF_some hid
      clear hid
      have hA : landAt (growAt p i s) i = ⟨(landAt p i).there, (landAt p i).gen, (landAt p i).slabs ++ [s], m⟩ := (landAt_set { p with bytes := p.bytes.set s (List.replicate p.size 0), taken := p.taken.set s true } i i _ (by show i < p.lands.length; rw [HOK.out.ln]; exact hi)).trans (by rw [if_pos rfl, HM.out])
      have hln2 : (growAt p i s).lands.length = 256 := by show (p.lands.set i _).length = 256; rw [List.length_set]; exact HOK.out.ln
      have HA := Lib.hid hA
      have HLN := Lib.hid hln2
      clear hA hln2
      obtain ⟨of, hof⟩ : ∃ of, of = m := ⟨_, rfl⟩
      rw [← hof] at HE
      rcases hgr2 with h6 | h6
      · go_enter Try.func47, Try.ntmps47
        go_wp2_with (first
          | (go_at_call 66; refine (HLA.out _ (Gr.alloc _ _)).mono ?_; rintro e w1 ⟨rfl, rfl⟩)
          | fail)
        go_quiet (fail)
        have gV : Gr (w.alloc (.cells #[.int .i64 0, .int .i64 0, .int .i64 0, .int .i64 0] 93)) ((w.alloc (.cells #[.int .i64 0, .int .i64 0, .int .i64 0, .int .i64 0] 93)).drewN nq) := Gr.drewN _ nq
        have c0a := gV.cell c0
        have l1a := gV.cell l1
        have l2a := gV.cell l2
        have l3a := gV.cell l3
        have bVa := (Blk.new w 93 #[.int .i64 0, .int .i64 0, .int .i64 0, .int .i64 0]).gr gV
        have gWa : Gr w ((w.alloc (.cells #[.int .i64 0, .int .i64 0, .int .i64 0, .int .i64 0] 93)).drewN nq) := (Gr.alloc w _).trans gV
        clear gV c0 l1 l2 l3
        generalize (w.alloc (.cells #[.int .i64 0, .int .i64 0, .int .i64 0, .int .i64 0] 93)).drewN nq = V at *
        go_wp2
        go_quiet (fail)
        have gV : Gr V (V.drewN nq) := Gr.drewN V nq
        have c0 := gV.cell c0a
        have l1 := gV.cell l1a
        have l2 := gV.cell l2a
        have l3 := gV.cell l3a
        have bV := bVa.gr gV
        have gW := gWa.trans gV
        clear gV c0a l1a l2a l3a bVa gWa
        generalize V.drewN nq = W at *
        clear hmi hw
        obtain ⟨d0, d1, d2, d3, f0, f1, f2, f3⟩ := Blk.four bV
        go_wp2_with (first
          | (go_at_call 67; refine (HGR.out _ (HP.out.gr gW)).mono ?_; rintro e w2 ⟨rfl, S2, hmv⟩)
          | fail)
        have hmvA := hmv.after (gW.chg (S := S))
        have hghS : ¬ S w.heap.size := fun e => Nat.lt_irrefl _ (HP.out.lt _ e)
        have hgh2 : ¬ S2 w.heap.size := fun e => by
          rcases hmv.sub _ e with h8 | h8
          · exact hghS h8
          · have := bV.lt; omega
        have b2 := hmv.chg.blk bV hghS
        obtain ⟨ads2, cs2, adt2, ct2, A2, C2, bd2, hx2⟩ := hmv.pool
        have z2 := hx2.lcell hi
        rw [HA.out] at z2
        obtain ⟨_, z1, z2, z3⟩ := z2
        have z0 : w2.cell? ⟨g, 0, none⟩ = some (.int .i64 (p.size : Int)) := hx2.head.1
        obtain ⟨L2, hL2⟩ : ∃ L2, L2 = ((landAt p i).slabs ++ [s]).length := ⟨_, rfl⟩
        have hL3 : L2 = (landAt p i).slabs.length + 1 := by rw [hL2]; simp
        have hL4 : L2 ≤ 4097 := by omega
        have hL5 : 1 ≤ L2 := by omega
        have hqi : ((L2 : Int) - 1) * (p.size : Int) = (of : Int) := by
          rw [hL3, hof, HM.out]; simp
        have hqw : IntKind.i64.wrap (of : Int) = (of : Int) := by rw [IntKind.wrap_i64]; omega
        have hol : of ≤ 268435456 := by omega
        simp only at z1 z2 z3
        rw [← hL2] at z2
        have HX2 := Lib.hid hx2
        have HMV := Lib.hid hmvA
        have hgg : w.heap.size ≠ g := fun e => hghS (e ▸ HX.out.sg)
        clear hx2 hmv hmvA hL2 hL3 hof bV gW d0 d1 d2 d3 f0 f1 f2 f3
        go_quiet (fail)
        have gV : Gr w2 (w2.drewN nq) := Gr.drewN w2 nq
        have y0 := gV.cell z0
        have y1 := gV.cell z1
        have y2 := gV.cell z2
        have y3 := gV.cell z3
        have b3 := b2.gr gV
        have HX3 := Lib.hid (HX2.out.gr gV)
        have HMV3 := Lib.hid (HMV.out.gr gV)
        have fg := HX3.out.blk.frozen (3 + i * 4 + 3)
        clear gV z0 z1 z2 z3 b2 hqi hqw
        generalize w2.drewN nq = W3 at *
        obtain ⟨d0, d1, d2, d3, f0, f1, f2, f3⟩ := Blk.four b3
        go_wp2
        have b5 : Blk (W3.setCell ⟨g, 3 + i * 4 + 3, none⟩ (.int .i64 ((of : Int) + (nn : Int)))) w.heap.size 93 _ := b3.far (p := ⟨g, 3 + i * 4 + 3, none⟩) hgg (.int .i64 ((of : Int) + (nn : Int)))
        obtain ⟨e0, e1, e2, e3, _⟩ := Blk.four (b5.set4 (.int .i64 (i : Int)) (.int .i64 ((landAt p i).gen : Int)) (.int .i64 (of : Int)) (.int .i64 (nn : Int)))
        refine bodyPost_ret (v := .tuple #[.agg #[.int .i64 (i : Int), .int .i64 ((landAt p i).gen : Int), .int .i64 (of : Int), .int .i64 (nn : Int)], .int .i64 0]) (by simp [results, Try.results47, go_sem, e0, e1, e2, e3]) rfl ?_
        rw [HE.out]
        exact ⟨rfl, S2, Moved.finish HMV3.out HX3.out HLN.out hi (of + nn) hgh2 (Nat.le_refl _) (grown_set4 _ _ _ _ _ _)⟩
      · by_cases h7 : (landAt p i).slabs.length = 0
        · clear h6
          go_enter Try.func47, Try.ntmps47
          go_wp2_with (first
            | (go_at_call 66; refine (HLA.out _ (Gr.alloc _ _)).mono ?_; rintro e w1 ⟨rfl, rfl⟩)
            | fail)
          go_quiet (fail)
          have gV : Gr (w.alloc (.cells #[.int .i64 0, .int .i64 0, .int .i64 0, .int .i64 0] 93)) ((w.alloc (.cells #[.int .i64 0, .int .i64 0, .int .i64 0, .int .i64 0] 93)).drewN nq) := Gr.drewN _ nq
          have c0a := gV.cell c0
          have l1a := gV.cell l1
          have l2a := gV.cell l2
          have l3a := gV.cell l3
          have bVa := (Blk.new w 93 #[.int .i64 0, .int .i64 0, .int .i64 0, .int .i64 0]).gr gV
          have gWa : Gr w ((w.alloc (.cells #[.int .i64 0, .int .i64 0, .int .i64 0, .int .i64 0] 93)).drewN nq) := (Gr.alloc w _).trans gV
          clear gV c0 l1 l2 l3
          generalize (w.alloc (.cells #[.int .i64 0, .int .i64 0, .int .i64 0, .int .i64 0] 93)).drewN nq = V at *
          go_wp2
          go_quiet (fail)
          have gV : Gr V (V.drewN nq) := Gr.drewN V nq
          have c0 := gV.cell c0a
          have l1 := gV.cell l1a
          have l2 := gV.cell l2a
          have l3 := gV.cell l3a
          have bV := bVa.gr gV
          have gW := gWa.trans gV
          clear gV c0a l1a l2a l3a bVa gWa
          generalize V.drewN nq = W at *
          clear hmi hw
          obtain ⟨d0, d1, d2, d3, f0, f1, f2, f3⟩ := Blk.four bV
          go_wp2_with (first
            | (go_at_call 67; refine (HGR.out _ (HP.out.gr gW)).mono ?_; rintro e w2 ⟨rfl, S2, hmv⟩)
            | fail)
          have hmvA := hmv.after (gW.chg (S := S))
          have hghS : ¬ S w.heap.size := fun e => Nat.lt_irrefl _ (HP.out.lt _ e)
          have hgh2 : ¬ S2 w.heap.size := fun e => by
            rcases hmv.sub _ e with h8 | h8
            · exact hghS h8
            · have := bV.lt; omega
          have b2 := hmv.chg.blk bV hghS
          obtain ⟨ads2, cs2, adt2, ct2, A2, C2, bd2, hx2⟩ := hmv.pool
          have z2 := hx2.lcell hi
          rw [HA.out] at z2
          obtain ⟨_, z1, z2, z3⟩ := z2
          have z0 : w2.cell? ⟨g, 0, none⟩ = some (.int .i64 (p.size : Int)) := hx2.head.1
          obtain ⟨L2, hL2⟩ : ∃ L2, L2 = ((landAt p i).slabs ++ [s]).length := ⟨_, rfl⟩
          have hL3 : L2 = (landAt p i).slabs.length + 1 := by rw [hL2]; simp
          have hL4 : L2 ≤ 4097 := by omega
          have hL5 : 1 ≤ L2 := by omega
          have hqi : ((L2 : Int) - 1) * (p.size : Int) = (of : Int) := by
            rw [hL3, hof, HM.out]; simp
          have hqw : IntKind.i64.wrap (of : Int) = (of : Int) := by rw [IntKind.wrap_i64]; omega
          have hol : of ≤ 268435456 := by omega
          simp only at z1 z2 z3
          rw [← hL2] at z2
          have HX2 := Lib.hid hx2
          have HMV := Lib.hid hmvA
          have hgg : w.heap.size ≠ g := fun e => hghS (e ▸ HX.out.sg)
          clear hx2 hmv hmvA hL2 hL3 hof bV gW d0 d1 d2 d3 f0 f1 f2 f3
          go_quiet (fail)
          have gV : Gr w2 (w2.drewN nq) := Gr.drewN w2 nq
          have y0 := gV.cell z0
          have y1 := gV.cell z1
          have y2 := gV.cell z2
          have y3 := gV.cell z3
          have b3 := b2.gr gV
          have HX3 := Lib.hid (HX2.out.gr gV)
          have HMV3 := Lib.hid (HMV.out.gr gV)
          have fg := HX3.out.blk.frozen (3 + i * 4 + 3)
          clear gV z0 z1 z2 z3 b2 hqi hqw
          generalize w2.drewN nq = W3 at *
          obtain ⟨d0, d1, d2, d3, f0, f1, f2, f3⟩ := Blk.four b3
          go_wp2
          have b5 : Blk (W3.setCell ⟨g, 3 + i * 4 + 3, none⟩ (.int .i64 ((of : Int) + (nn : Int)))) w.heap.size 93 _ := b3.far (p := ⟨g, 3 + i * 4 + 3, none⟩) hgg (.int .i64 ((of : Int) + (nn : Int)))
          obtain ⟨e0, e1, e2, e3, _⟩ := Blk.four (b5.set4 (.int .i64 (i : Int)) (.int .i64 ((landAt p i).gen : Int)) (.int .i64 (of : Int)) (.int .i64 (nn : Int)))
          refine bodyPost_ret (v := .tuple #[.agg #[.int .i64 (i : Int), .int .i64 ((landAt p i).gen : Int), .int .i64 (of : Int), .int .i64 (nn : Int)], .int .i64 0]) (by simp [results, Try.results47, go_sem, e0, e1, e2, e3]) rfl ?_
          rw [HE.out]
          exact ⟨rfl, S2, Moved.finish HMV3.out HX3.out HLN.out hi (of + nn) hgh2 (Nat.le_refl _) (grown_set4 _ _ _ _ _ _)⟩
        · go_enter Try.func47, Try.ntmps47
          go_wp2_with (first
            | (go_at_call 66; refine (HLA.out _ (Gr.alloc _ _)).mono ?_; rintro e w1 ⟨rfl, rfl⟩)
            | fail)
          go_quiet (fail)
          have gV : Gr (w.alloc (.cells #[.int .i64 0, .int .i64 0, .int .i64 0, .int .i64 0] 93)) ((w.alloc (.cells #[.int .i64 0, .int .i64 0, .int .i64 0, .int .i64 0] 93)).drewN nq) := Gr.drewN _ nq
          have c0a := gV.cell c0
          have l1a := gV.cell l1
          have l2a := gV.cell l2
          have l3a := gV.cell l3
          have bVa := (Blk.new w 93 #[.int .i64 0, .int .i64 0, .int .i64 0, .int .i64 0]).gr gV
          have gWa : Gr w ((w.alloc (.cells #[.int .i64 0, .int .i64 0, .int .i64 0, .int .i64 0] 93)).drewN nq) := (Gr.alloc w _).trans gV
          clear gV c0 l1 l2 l3
          generalize (w.alloc (.cells #[.int .i64 0, .int .i64 0, .int .i64 0, .int .i64 0] 93)).drewN nq = V at *
          go_wp2
          go_quiet (fail)
          have gV : Gr V (V.drewN nq) := Gr.drewN V nq
          have c0 := gV.cell c0a
          have l1 := gV.cell l1a
          have l2 := gV.cell l2a
          have l3 := gV.cell l3a
          have bV := bVa.gr gV
          have gW := gWa.trans gV
          clear gV c0a l1a l2a l3a bVa gWa
          generalize V.drewN nq = W at *
          clear hmi hw
          obtain ⟨d0, d1, d2, d3, f0, f1, f2, f3⟩ := Blk.four bV
          go_wp2_with (first
            | (go_at_call 67; refine (HGR.out _ (HP.out.gr gW)).mono ?_; rintro e w2 ⟨rfl, S2, hmv⟩)
            | fail)
          have hmvA := hmv.after (gW.chg (S := S))
          have hghS : ¬ S w.heap.size := fun e => Nat.lt_irrefl _ (HP.out.lt _ e)
          have hgh2 : ¬ S2 w.heap.size := fun e => by
            rcases hmv.sub _ e with h8 | h8
            · exact hghS h8
            · have := bV.lt; omega
          have b2 := hmv.chg.blk bV hghS
          obtain ⟨ads2, cs2, adt2, ct2, A2, C2, bd2, hx2⟩ := hmv.pool
          have z2 := hx2.lcell hi
          rw [HA.out] at z2
          obtain ⟨_, z1, z2, z3⟩ := z2
          have z0 : w2.cell? ⟨g, 0, none⟩ = some (.int .i64 (p.size : Int)) := hx2.head.1
          obtain ⟨L2, hL2⟩ : ∃ L2, L2 = ((landAt p i).slabs ++ [s]).length := ⟨_, rfl⟩
          have hL3 : L2 = (landAt p i).slabs.length + 1 := by rw [hL2]; simp
          have hL4 : L2 ≤ 4097 := by omega
          have hL5 : 1 ≤ L2 := by omega
          have hqi : ((L2 : Int) - 1) * (p.size : Int) = (of : Int) := by
            rw [hL3, hof, HM.out]; simp
          have hqw : IntKind.i64.wrap (of : Int) = (of : Int) := by rw [IntKind.wrap_i64]; omega
          have hol : of ≤ 268435456 := by omega
          simp only at z1 z2 z3
          rw [← hL2] at z2
          have HX2 := Lib.hid hx2
          have HMV := Lib.hid hmvA
          have hgg : w.heap.size ≠ g := fun e => hghS (e ▸ HX.out.sg)
          clear hx2 hmv hmvA hL2 hL3 hof bV gW d0 d1 d2 d3 f0 f1 f2 f3
          go_quiet (fail)
          have gV : Gr w2 (w2.drewN nq) := Gr.drewN w2 nq
          have y0 := gV.cell z0
          have y1 := gV.cell z1
          have y2 := gV.cell z2
          have y3 := gV.cell z3
          have b3 := b2.gr gV
          have HX3 := Lib.hid (HX2.out.gr gV)
          have HMV3 := Lib.hid (HMV.out.gr gV)
          have fg := HX3.out.blk.frozen (3 + i * 4 + 3)
          clear gV z0 z1 z2 z3 b2 hqi hqw
          generalize w2.drewN nq = W3 at *
          obtain ⟨d0, d1, d2, d3, f0, f1, f2, f3⟩ := Blk.four b3
          go_wp2
          have b5 : Blk (W3.setCell ⟨g, 3 + i * 4 + 3, none⟩ (.int .i64 ((of : Int) + (nn : Int)))) w.heap.size 93 _ := b3.far (p := ⟨g, 3 + i * 4 + 3, none⟩) hgg (.int .i64 ((of : Int) + (nn : Int)))
          obtain ⟨e0, e1, e2, e3, _⟩ := Blk.four (b5.set4 (.int .i64 (i : Int)) (.int .i64 ((landAt p i).gen : Int)) (.int .i64 (of : Int)) (.int .i64 (nn : Int)))
          refine bodyPost_ret (v := .tuple #[.agg #[.int .i64 (i : Int), .int .i64 ((landAt p i).gen : Int), .int .i64 (of : Int), .int .i64 (nn : Int)], .int .i64 0]) (by simp [results, Try.results47, go_sem, e0, e1, e2, e3]) rfl ?_
          rw [HE.out]
          exact ⟨rfl, S2, Moved.finish HMV3.out HX3.out HLN.out hi (of + nn) hgh2 (Nat.le_refl _) (grown_set4 _ _ _ _ _ _)⟩
  · rw [if_neg hgr] at HE
    have hpos : 0 < (landAt p i).slabs.length := by
      cases hsl : (landAt p i).slabs with
      | nil => exact absurd (.inl hsl) hgr
      | cons _ _ => simp
    have hfit : u + nn ≤ p.size := by
      have : ¬ p.size < u + nn := fun e => hgr (.inr e)
      omega
    clear hgr
    have hX := HX.out
    obtain ⟨of, hof⟩ : ∃ of, of = ((landAt p i).slabs.length - 1) * p.size + u := ⟨_, rfl⟩
    rw [← hof] at HE
    obtain ⟨q, hq⟩ : ∃ q, q = ((landAt p i).slabs.length - 1) * p.size := ⟨_, rfl⟩
    rw [← hq] at hof
    have hql : q ≤ 268435456 := by
      rw [hq]
      refine Nat.le_trans (Nat.mul_le_mul_right _ (Nat.sub_le _ 1)) ?_
      rw [← HM.out]; exact hcap
    have hqi : (((landAt p i).slabs.length : Int) - 1) * (p.size : Int) = (q : Int) := by
      rw [hq]
      obtain ⟨k, hk⟩ : ∃ k, (landAt p i).slabs.length = k + 1 := ⟨(landAt p i).slabs.length - 1, by omega⟩
      rw [hk]; simp
    have hol : of ≤ 268600000 := by omega
    have hqs : (q : Int) + (u : Int) = (of : Int) := by omega
    have hqw : IntKind.i64.wrap (q : Int) = (q : Int) := by rw [IntKind.wrap_i64]; omega
    have hb0 : (((landAt p i).slabs.length : Int) == 0) = false := beq_eq_false_iff_ne.2 (by omega)
    have HQ := Lib.hid (And.intro hqi (And.intro hqw hqs))
    have HLN := Lib.hid HOK.out.ln
    clear hqi hqw hqs hof hq
    go_enter Try.func47, Try.ntmps47
    go_wp2_with (first
      | (go_at_call 66; refine (HLA.out _ (Gr.alloc _ _)).mono ?_; rintro e w1 ⟨rfl, rfl⟩)
      | fail)
    go_quiet (fail)
    have gV : Gr (w.alloc (.cells #[.int .i64 0, .int .i64 0, .int .i64 0, .int .i64 0] 93)) ((w.alloc (.cells #[.int .i64 0, .int .i64 0, .int .i64 0, .int .i64 0] 93)).drewN nq) := Gr.drewN _ nq
    have c0a := gV.cell c0
    have l1a := gV.cell l1
    have l2a := gV.cell l2
    have l3a := gV.cell l3
    have bVa := (Blk.new w 93 #[.int .i64 0, .int .i64 0, .int .i64 0, .int .i64 0]).gr gV
    have gWa : Gr w ((w.alloc (.cells #[.int .i64 0, .int .i64 0, .int .i64 0, .int .i64 0] 93)).drewN nq) := (Gr.alloc w _).trans gV
    clear gV c0 l1 l2 l3
    generalize (w.alloc (.cells #[.int .i64 0, .int .i64 0, .int .i64 0, .int .i64 0] 93)).drewN nq = V at *
    go_wp2
    go_quiet (fail)
    have gV : Gr V (V.drewN nq) := Gr.drewN V nq
    have c0 := gV.cell c0a
    have l1 := gV.cell l1a
    have l2 := gV.cell l2a
    have l3 := gV.cell l3a
    have bV := bVa.gr gV
    have gW := gWa.trans gV
    clear gV c0a l1a l2a l3a bVa gWa
    generalize V.drewN nq = W at *
    clear hmi hw
    obtain ⟨d0, d1, d2, d3, f0, f1, f2, f3⟩ := Blk.four bV
    have hghS : ¬ S w.heap.size := fun e => Nat.lt_irrefl _ (HP.out.lt _ e)
    have HX2 := Lib.hid (HX.out.gr gW)
    have HMV := Lib.hid (show Moved S g p w W S from (Moved.refl HP.out).gr gW)
    have hgg : w.heap.size ≠ g := fun e => hghS (e ▸ HX.out.sg)
    clear gW d0 d1 d2 d3 f0 f1 f2 f3 hX
    go_wp2
    obtain ⟨hqi, hqw, hqs⟩ := HQ.out
    go_quiet (fail)
    have gV : Gr W (W.drewN nq) := Gr.drewN W nq
    have y0 := gV.cell c0
    have y1 := gV.cell l1
    have y2 := gV.cell l2
    have y3 := gV.cell l3
    have b3 := bV.gr gV
    have HX3 := Lib.hid (HX2.out.gr gV)
    have HMV3 := Lib.hid (HMV.out.gr gV)
    have fg := HX3.out.blk.frozen (3 + i * 4 + 3)
    clear gV c0 l1 l2 l3 bV hqi hqw hqs
    generalize W.drewN nq = W3 at *
    obtain ⟨d0, d1, d2, d3, f0, f1, f2, f3⟩ := Blk.four b3
    go_wp2
    have b5 : Blk (W3.setCell ⟨g, 3 + i * 4 + 3, none⟩ (.int .i64 ((of : Int) + (nn : Int)))) w.heap.size 93 _ := b3.far (p := ⟨g, 3 + i * 4 + 3, none⟩) hgg (.int .i64 ((of : Int) + (nn : Int)))
    obtain ⟨e0, e1, e2, e3, _⟩ := Blk.four (b5.set4 (.int .i64 (i : Int)) (.int .i64 ((landAt p i).gen : Int)) (.int .i64 (of : Int)) (.int .i64 (nn : Int)))
    refine bodyPost_ret (v := .tuple #[.agg #[.int .i64 (i : Int), .int .i64 ((landAt p i).gen : Int), .int .i64 (of : Int), .int .i64 (nn : Int)], .int .i64 0]) (by simp [results, Try.results47, go_sem, e0, e1, e2, e3]) rfl ?_
    rw [HE.out]
    exact ⟨rfl, S, Moved.finish HMV3.out HX3.out HLN.out hi (of + nn) hghS (Nat.le_refl _) (grown_set4 _ _ _ _ _ _)⟩
end Go.Proofs.Ytnafhjgfkofkbaa
namespace Go.Proofs.Ytnafhjgfkofkbaa
set_option linter.unusedVariables false
set_option linter.unusedSimpArgs false
open Go.RowKit
set_option maxRecDepth 100000 in
set_option maxHeartbeats 4000000 in
theorem Alloc_any (w : World) (S : Nat → Prop) (g : Nat) (p : PoolF) (r n a : Int) (h : PoolAt w S g p) (hp : PoolOk p) :
    Calls Try.prog 47 #[.pointer (some ⟨g, 0, none⟩), .int .i64 r, .int .i64 n, .int .i64 a] w fun e w' => e = .returned (.tuple #[hdv (allocF p r n a).1, .int .i64 ((allocF p r n a).2.1 : Int)]) ∧ ∃ S', Moved S g (allocF p r n a).2.2 w w' S' := by
  have HP := Lib.hid h
  have HLA := Lib.hid (fun w' (k : Gr w w') => land_any w' S g p r (h.gr k))
  have HOK := Lib.hid hp
  cases hl : landF p r with
  | none =>
    rw [hl] at HLA
    have HE := Lib.hid (show allocF p r n a = (noHd, 7, p) by unfold allocF; rw [hl])
    clear h hp hl
    go_enter Try.func47, Try.ntmps47
    go_wp2_with (first
      | (go_at_call 66; refine (HLA.out _ (Gr.alloc _ _)).mono ?_; rintro e w1 ⟨rfl, rfl⟩)
      | fail)
    obtain ⟨d0, d1, d2, d3, _⟩ := Blk.four (Blk.new w 93 #[.int .i64 0, .int .i64 0, .int .i64 0, .int .i64 0])
    refine bodyPost_ret (v := .tuple #[.agg #[.int .i64 0, .int .i64 0, .int .i64 0, .int .i64 0], .int .i64 7]) (by simp [results, Try.results47, go_sem, d0, d1, d2, d3]) rfl ?_
    rw [HE.out]
    exact ⟨rfl, S, (Moved.refl HP.out).gr (Gr.alloc _ _)⟩
  | some i =>
    rw [hl] at HLA
    obtain ⟨rfl, hi, hth⟩ := landF_some hl
    obtain ⟨ads, cs, adt, ct, A, C, bd, hx⟩ := h
    have hlk := hp.ld i hi
    have hsz1 := hp.s1
    have hsz2 := hp.s2
    have hcap := hlk.cap hp
    have hfl := hlk.fill_le
    have hlen := Nat.le_trans hlk.len hp.n2
    have hfil := hlk.fill
    have hx1 := hx.gr (Gr.alloc w (.cells #[.int .i64 0, .int .i64 0, .int .i64 0, .int .i64 0] 93))
    obtain ⟨c0, _, _⟩ := hx1.head
    obtain ⟨_, l1, l2, l3⟩ := hx1.lcell hi
    have HX := Lib.hid hx
    by_cases h1 : n < 1
    · have hbad : n < 1 ∨ n > (p.size : Int) ∨ alignOk a = false := .inl h1
      have HE := Lib.hid (show allocF p (i : Int) n a = (noHd, 1, p) by unfold allocF; rw [hl]; simp only; rw [if_pos hbad])
      clear hp hl hx hx1 hlk hfil hbad
      go_enter Try.func47, Try.ntmps47
      go_wp2_with (first
        | (go_at_call 66; refine (HLA.out _ (Gr.alloc _ _)).mono ?_; rintro e w1 ⟨rfl, rfl⟩)
        | fail)
      obtain ⟨d0, d1, d2, d3, _⟩ := Blk.four (Blk.new w 93 #[.int .i64 0, .int .i64 0, .int .i64 0, .int .i64 0])
      refine bodyPost_ret (v := .tuple #[.agg #[.int .i64 0, .int .i64 0, .int .i64 0, .int .i64 0], .int .i64 1]) (by simp [results, Try.results47, go_sem, d0, d1, d2, d3]) rfl ?_
      rw [HE.out]
      exact ⟨rfl, S, (Moved.refl HP.out).gr (Gr.alloc _ _)⟩
    · by_cases h2 : n > (p.size : Int)
      · have hbad : n < 1 ∨ n > (p.size : Int) ∨ alignOk a = false := .inr (.inl h2)
        have HE := Lib.hid (show allocF p (i : Int) n a = (noHd, 1, p) by unfold allocF; rw [hl]; simp only; rw [if_pos hbad])
        clear hp hl hx hx1 hlk hfil hbad
        go_enter Try.func47, Try.ntmps47
        go_wp2_with (first
          | (go_at_call 66; refine (HLA.out _ (Gr.alloc _ _)).mono ?_; rintro e w1 ⟨rfl, rfl⟩)
          | fail)
        obtain ⟨d0, d1, d2, d3, _⟩ := Blk.four (Blk.new w 93 #[.int .i64 0, .int .i64 0, .int .i64 0, .int .i64 0])
        refine bodyPost_ret (v := .tuple #[.agg #[.int .i64 0, .int .i64 0, .int .i64 0, .int .i64 0], .int .i64 1]) (by simp [results, Try.results47, go_sem, d0, d1, d2, d3]) rfl ?_
        rw [HE.out]
        exact ⟨rfl, S, (Moved.refl HP.out).gr (Gr.alloc _ _)⟩
      · by_cases h3 : a < 1
        · have hbad : n < 1 ∨ n > (p.size : Int) ∨ alignOk a = false := .inr (.inr (by cases hk : alignOk a with | false => rfl | true => have := alignOk_range hk; omega))
          have HE := Lib.hid (show allocF p (i : Int) n a = (noHd, 1, p) by unfold allocF; rw [hl]; simp only; rw [if_pos hbad])
          clear hp hl hx hx1 hlk hfil hbad
          go_enter Try.func47, Try.ntmps47
          go_wp2_with (first
            | (go_at_call 66; refine (HLA.out _ (Gr.alloc _ _)).mono ?_; rintro e w1 ⟨rfl, rfl⟩)
            | fail)
          obtain ⟨d0, d1, d2, d3, _⟩ := Blk.four (Blk.new w 93 #[.int .i64 0, .int .i64 0, .int .i64 0, .int .i64 0])
          refine bodyPost_ret (v := .tuple #[.agg #[.int .i64 0, .int .i64 0, .int .i64 0, .int .i64 0], .int .i64 1]) (by simp [results, Try.results47, go_sem, d0, d1, d2, d3]) rfl ?_
          rw [HE.out]
          exact ⟨rfl, S, (Moved.refl HP.out).gr (Gr.alloc _ _)⟩
        · by_cases h4 : a > 64
          · have hbad : n < 1 ∨ n > (p.size : Int) ∨ alignOk a = false := .inr (.inr (by cases hk : alignOk a with | false => rfl | true => have := alignOk_range hk; omega))
            have HE := Lib.hid (show allocF p (i : Int) n a = (noHd, 1, p) by unfold allocF; rw [hl]; simp only; rw [if_pos hbad])
            clear hp hl hx hx1 hlk hfil hbad
            go_enter Try.func47, Try.ntmps47
            go_wp2_with (first
              | (go_at_call 66; refine (HLA.out _ (Gr.alloc _ _)).mono ?_; rintro e w1 ⟨rfl, rfl⟩)
              | fail)
            obtain ⟨d0, d1, d2, d3, _⟩ := Blk.four (Blk.new w 93 #[.int .i64 0, .int .i64 0, .int .i64 0, .int .i64 0])
            refine bodyPost_ret (v := .tuple #[.agg #[.int .i64 0, .int .i64 0, .int .i64 0, .int .i64 0], .int .i64 1]) (by simp [results, Try.results47, go_sem, d0, d1, d2, d3]) rfl ?_
            rw [HE.out]
            exact ⟨rfl, S, (Moved.refl HP.out).gr (Gr.alloc _ _)⟩
          · rcases align_check (a := a) (by omega) (by omega) with ⟨e5, hk⟩ | ⟨e5, hk⟩
            · exact Alloc_good w S g p i n a HP.out hp hl h1 h2 h3 h4 e5 hk
            · have hbad : n < 1 ∨ n > (p.size : Int) ∨ alignOk a = false := .inr (.inr hk)
              obtain ⟨xx, hxx⟩ : ∃ xx, bits .and .i64 a (a - 1) = xx := ⟨_, rfl⟩
              rw [hxx] at e5
              have e6 : (xx != 0) = true := by simpa using e5
              clear e5
              clear hk
              have HE := Lib.hid (show allocF p (i : Int) n a = (noHd, 1, p) by unfold allocF; rw [hl]; simp only; rw [if_pos hbad])
              clear hp hl hx hx1 hlk hfil hbad
              go_enter Try.func47, Try.ntmps47
              go_wp2_with (first
                | (go_at_call 66; refine (HLA.out _ (Gr.alloc _ _)).mono ?_; rintro e w1 ⟨rfl, rfl⟩)
                | fail)
              obtain ⟨d0, d1, d2, d3, _⟩ := Blk.four (Blk.new w 93 #[.int .i64 0, .int .i64 0, .int .i64 0, .int .i64 0])
              refine bodyPost_ret (v := .tuple #[.agg #[.int .i64 0, .int .i64 0, .int .i64 0, .int .i64 0], .int .i64 1]) (by simp [results, Try.results47, go_sem, d0, d1, d2, d3]) rfl ?_
              rw [HE.out]
              exact ⟨rfl, S, (Moved.refl HP.out).gr (Gr.alloc _ _)⟩
end Go.Proofs.Ytnafhjgfkofkbaa
