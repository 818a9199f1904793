/- Layer 1 (region): Store and Free leave the pool in order; what is seen of it behind. -/
import Derived.Test.YtpaogoehgkoaeaaBunSt0
import Derived.Test.YtpaogoehgkoaeaaRows
import Derived.Lib.SliceRun
/- Layer 1 (region): a pool in plain words. No program is in sight here. -/
namespace Go.Proofs.Ytpaogoehgkoaeaa
set_option linter.unusedVariables false
set_option linter.unusedSimpArgs false
open Go.RowKit
/-- a region: is it there, its generation, its slabs, how far it is handed out -/
structure Land where
  there : Bool
  gen : Nat
  slabs : List Nat
  fill : Nat
def noLand : Land := ⟨false, 0, [], 0⟩
/-- a pool: how many bytes a slab has, the slabs' bytes, which are taken, the regions -/
structure PoolF where
  size : Nat
  bytes : List (List UInt8)
  taken : List Bool
  lands : List Land
def landAt (p : PoolF) (i : Nat) : Land := p.lands.getD i noLand
/-- a region that is in order -/
structure LandOk (p : PoolF) (l : Land) : Prop where
  nodup : l.slabs.Nodup
  lt : ∀ s ∈ l.slabs, s < p.bytes.length
  fill : (l.slabs = [] ∧ l.fill = 0) ∨ (l.slabs ≠ [] ∧ (l.slabs.length - 1) * p.size < l.fill ∧ l.fill ≤ l.slabs.length * p.size)
  away : l.there = false → l.slabs = []
/-- a pool that is in order -/
structure PoolOk (p : PoolF) : Prop where
  s1 : 64 ≤ p.size
  s2 : p.size ≤ 65536
  s3 : p.size % 8 = 0
  n1 : 1 ≤ p.bytes.length
  n2 : p.bytes.length ≤ 4096
  bl : ∀ b ∈ p.bytes, b.length = p.size
  tk : p.taken.length = p.bytes.length
  ln : p.lands.length = 256
  ld : ∀ i, i < 256 → LandOk p (landAt p i)
  has : ∀ s, s < p.bytes.length → (p.taken.getD s false = true ↔ ∃ i, i < 256 ∧ s ∈ (landAt p i).slabs)
  apart : ∀ i j s, i < 256 → j < 256 → s ∈ (landAt p i).slabs → s ∈ (landAt p j).slabs → i = j
theorem nodup_len : ∀ (n : Nat) (l : List Nat), l.Nodup → (∀ s ∈ l, s < n) → l.length ≤ n
  | 0, l, _, h => by
    cases l with
    | nil => simp
    | cons a t => have := h a (by simp); omega
  | n + 1, l, hd, h => by
    have h1 := nodup_len n (l.filter (· != n)) (hd.filter _) (fun s hs => by
      rw [List.mem_filter] at hs
      have := h s hs.1
      have h2 : s ≠ n := by simpa using hs.2
      omega)
    have h2 : l.length ≤ (l.filter (· != n)).length + 1 := by
      clear h1 h
      induction l with
      | nil => simp
      | cons a t ih =>
        rw [List.nodup_cons] at hd
        by_cases ha : a = n
        · subst ha
          have : t.filter (· != a) = t := List.filter_eq_self.2 (fun x hx => by
            have : x ≠ a := fun e => hd.1 (e ▸ hx)
            simpa using this)
          rw [List.filter_cons, if_neg (by simp), this]
          simp
        · rw [List.filter_cons, if_pos (by simpa using ha)]
          have := ih hd.2
          simp only [List.length_cons]
          omega
    omega
theorem LandOk.len {p : PoolF} {l : Land} (h : LandOk p l) : l.slabs.length ≤ p.bytes.length := nodup_len _ _ h.nodup h.lt
theorem LandOk.cap {p : PoolF} {l : Land} (h : LandOk p l) (hp : PoolOk p) : l.slabs.length * p.size ≤ 268435456 :=
  Nat.le_trans (Nat.mul_le_mul (Nat.le_trans h.len hp.n2) hp.s2) (by decide)
theorem LandOk.fill_le {p : PoolF} {l : Land} (h : LandOk p l) : l.fill ≤ l.slabs.length * p.size := by
  rcases h.fill with ⟨h1, h2⟩ | ⟨_, _, h3⟩
  · omega
  · exact h3
theorem landAt_set (p : PoolF) (i j : Nat) (l : Land) (hi : i < p.lands.length) : landAt { p with lands := p.lands.set i l } j = if i = j then l else landAt p j := by
  unfold landAt
  simp only [List.getD_eq_getElem?_getD, List.getElem?_set]
  by_cases h : i = j
  · subst h; simp [hi]
  · simp [h]
/-- the region of a number -/
def landF (p : PoolF) (r : Int) : Option Nat := if 0 ≤ r ∧ r < 256 ∧ (landAt p r.toNat).there = true then some r.toNat else none
theorem landF_some {p : PoolF} {r : Int} {i : Nat} (h : landF p r = some i) : r = (i : Int) ∧ i < 256 ∧ (landAt p i).there = true := by
  unfold landF at h
  split at h
  · rename_i hc
    cases h
    refine ⟨by omega, by omega, hc.2.2⟩
  · cases h
theorem landF_of {p : PoolF} {i : Nat} (hi : i < 256) (h : (landAt p i).there = true) : landF p (i : Int) = some i := by
  unfold landF
  rw [if_pos ⟨by omega, by omega, by simpa using h⟩]
  simp
/-- Make -/
def makeAt (p : PoolF) (i : Nat) : PoolF := { p with lands := p.lands.set i ⟨true, (landAt p i).gen + 1, [], 0⟩ }
def makeF (p : PoolF) : Option Nat := (List.range 256).find? fun i => !(landAt p i).there
theorem makeF_some {p : PoolF} {i : Nat} (h : makeF p = some i) : i < 256 ∧ (landAt p i).there = false ∧ ∀ j, j < i → (landAt p j).there = true := by
  unfold makeF at h
  rw [List.find?_range_eq_some] at h
  obtain ⟨h1, h2, h3⟩ := h
  refine ⟨by simpa using h2, by simpa using h1, fun j hj => ?_⟩
  have := h3 j hj
  simpa using this
theorem makeF_none {p : PoolF} (h : makeF p = none) : ∀ j, j < 256 → (landAt p j).there = true := by
  unfold makeF at h
  rw [List.find?_eq_none] at h
  intro j hj
  have := h j (by simpa using hj)
  simpa using this
theorem makeF_is {p : PoolF} {i : Nat} (hi : i < 256) (h0 : (landAt p i).there = false) (h1 : ∀ j, j < i → (landAt p j).there = true) : makeF p = some i := by
  unfold makeF
  rw [List.find?_range_eq_some]
  exact ⟨by simpa using h0, by simpa using hi, fun j hj => by simpa using h1 j hj⟩
theorem makeF_isnone {p : PoolF} (h1 : ∀ j, j < 256 → (landAt p j).there = true) : makeF p = none := by
  unfold makeF
  rw [List.find?_eq_none]
  intro j hj
  have := h1 j (by simpa using hj)
  simpa using this
/-- the least idle slab -/
def idleF (p : PoolF) : Option Nat := (List.range p.taken.length).find? fun s => !(p.taken.getD s false)
theorem idleF_some {p : PoolF} {s : Nat} (h : idleF p = some s) : s < p.taken.length ∧ p.taken.getD s false = false ∧ ∀ j, j < s → p.taken.getD j false = true := by
  unfold idleF at h
  rw [List.find?_range_eq_some] at h
  obtain ⟨h1, h2, h3⟩ := h
  refine ⟨by simpa using h2, by simpa using h1, fun j hj => ?_⟩
  have := h3 j hj
  simpa using this
theorem idleF_none {p : PoolF} (h : idleF p = none) : ∀ j, j < p.taken.length → p.taken.getD j false = true := by
  unfold idleF at h
  rw [List.find?_eq_none] at h
  intro j hj
  have := h j (by simpa using hj)
  simpa using this
/-- a region has one slab more -/
def growAt (p : PoolF) (i s : Nat) : PoolF :=
  { p with bytes := p.bytes.set s (List.replicate p.size 0), taken := p.taken.set s true, lands := p.lands.set i ⟨(landAt p i).there, (landAt p i).gen, (landAt p i).slabs ++ [s], (landAt p i).slabs.length * p.size⟩ }
def fillAt (p : PoolF) (i f : Nat) : PoolF := { p with lands := p.lands.set i ⟨(landAt p i).there, (landAt p i).gen, (landAt p i).slabs, f⟩ }
/-- a piece -/
structure Hd where
  region : Int
  gen : Int
  off : Int
  len : Int
def noHd : Hd := ⟨0, 0, 0, 0⟩
def alignOk (a : Int) : Bool := a == 1 || a == 2 || a == 4 || a == 8 || a == 16 || a == 32 || a == 64
def upTo (n a : Nat) : Nat := (n + a - 1) / a * a
/-- how much of the last slab is handed out -/
def inF (p : PoolF) (i : Nat) : Nat := p.size - ((landAt p i).slabs.length * p.size - (landAt p i).fill)
/-- Alloc: the piece, the error, the pool behind it -/
def allocF (p : PoolF) (r n a : Int) : Hd × Nat × PoolF :=
  match landF p r with
  | none => (noHd, 7, p)
  | some i =>
    if n < 1 ∨ n > (p.size : Int) ∨ alignOk a = false then (noHd, 1, p)
    else
      let at_ := upTo (inF p i) a.toNat
      if (landAt p i).slabs = [] ∨ p.size < at_ + n.toNat then
        match idleF p with
        | none => (noHd, 5, p)
        | some s => (⟨(i : Int), ((landAt p i).gen : Int), (((landAt p i).slabs.length * p.size : Nat) : Int), n⟩, 0, fillAt (growAt p i s) i ((landAt p i).slabs.length * p.size + n.toNat))
      else (⟨(i : Int), ((landAt p i).gen : Int), ((((landAt p i).slabs.length - 1) * p.size + at_ : Nat) : Int), n⟩, 0, fillAt p i (((landAt p i).slabs.length - 1) * p.size + at_ + n.toNat))
/-- a piece's slab and where it begins there; or the error -/
def pieceF (p : PoolF) (h : Hd) : (Nat × Nat) × Nat :=
  match landF p h.region with
  | none => ((0, 0), 3)
  | some i =>
    if ((landAt p i).gen : Int) ≠ h.gen then ((0, 0), 3)
    else if h.len < 1 ∨ h.off < 0 ∨ h.off > ((landAt p i).fill : Int) ∨ h.len > ((landAt p i).fill : Int) - h.off then ((0, 0), 1)
    else if h.off.toNat % p.size + h.len.toNat > p.size then ((0, 0), 1)
    else (((landAt p i).slabs.getD (h.off.toNat / p.size) 0, h.off.toNat % p.size), 0)
def bytesAt (p : PoolF) (s : Nat) : List UInt8 := p.bytes.getD s []
/-- Load -/
def loadF (p : PoolF) (h : Hd) : List UInt8 × Nat :=
  match pieceF p h with
  | ((s, k), 0) => (((bytesAt p s).drop k).take h.len.toNat, 0)
  | (_, e) => ([], e)
/-- Store -/
def storeF (p : PoolF) (h : Hd) (at_ : Int) (b : List UInt8) : Nat × PoolF :=
  match pieceF p h with
  | ((s, k), 0) =>
    if at_ < 0 ∨ at_ > h.len ∨ (b.length : Int) > h.len - at_ then (1, p)
    else (0, { p with bytes := p.bytes.set s (((bytesAt p s).take (k + at_.toNat)) ++ b ++ ((bytesAt p s).drop (k + at_.toNat + b.length))) })
  | (_, e) => (e, p)
/-- Free -/
def freeSlabs (p : PoolF) (l : List Nat) : PoolF := { p with bytes := l.foldl (fun bs s => bs.set s (List.replicate p.size 0xDD)) p.bytes, taken := l.foldl (fun t s => t.set s false) p.taken }
def freeF (p : PoolF) (r : Int) : Nat × PoolF :=
  match landF p r with
  | none => (7, p)
  | some i => (0, { freeSlabs p (landAt p i).slabs with lands := p.lands.set i ⟨false, (landAt p i).gen, [], 0⟩ })
def slabsF (p : PoolF) (r : Int) : List Nat × Nat :=
  match landF p r with
  | none => ([], 7)
  | some i => ((landAt p i).slabs, 0)
def rawF (p : PoolF) (s : Int) : List UInt8 × Nat := if s < 0 ∨ s ≥ (p.bytes.length : Int) then ([], 1) else (bytesAt p s.toNat, 0)
def countF (p : PoolF) : Nat := (p.taken.filter (!·)).length
/-- New -/
def newF (size slabs : Nat) : PoolF := ⟨size, List.replicate slabs (List.replicate size 0), List.replicate slabs false, List.replicate 256 noLand⟩
def newOk (size slabs : Int) : Bool := decide (64 ≤ size) && decide (size ≤ 65536) && decide (size % 8 = 0) && decide (1 ≤ slabs) && decide (slabs ≤ 4096) && decide (size * slabs ≤ 4194304)
theorem landAt_new (size slabs i : Nat) : landAt (newF size slabs) i = noLand := by
  unfold landAt newF
  simp only [List.getD_eq_getElem?_getD, List.getElem?_replicate]
  split <;> rfl
theorem new_ok {size slabs : Nat} (h1 : 64 ≤ size) (h2 : size ≤ 65536) (h3 : size % 8 = 0) (h4 : 1 ≤ slabs) (h5 : slabs ≤ 4096) : PoolOk (newF size slabs) := by
  have hb : (newF size slabs).bytes.length = slabs := List.length_replicate
  have ht : (newF size slabs).taken.length = slabs := List.length_replicate
  refine ⟨h1, h2, h3, by rw [hb]; exact h4, by rw [hb]; exact h5, fun b hb => ?_, by rw [hb, ht], List.length_replicate, fun i _ => ?_, fun s hs => ?_, fun i j s _ _ hs => ?_⟩
  · rw [List.eq_of_mem_replicate hb]; exact List.length_replicate
  · rw [landAt_new]; exact ⟨by simp [noLand], by simp [noLand], .inl ⟨rfl, rfl⟩, fun _ => rfl⟩
  · simp only [landAt_new, noLand, List.not_mem_nil, and_false, exists_false, iff_false]
    show ¬ (List.replicate slabs false).getD s false = true
    rw [List.getD_eq_getElem?_getD, List.getElem?_replicate]
    split <;> simp
  · rw [landAt_new] at hs; simp [noLand] at hs
/-- a region turned: what stays -/
theorem make_ok {p : PoolF} (h : PoolOk p) {i : Nat} (hi : i < 256) (h0 : (landAt p i).there = false) : PoolOk (makeAt p i) := by
  have hs : (landAt p i).slabs = [] := (h.ld i hi).away h0
  have hl : i < p.lands.length := by rw [h.ln]; exact hi
  have ha : ∀ j, landAt (makeAt p i) j = if i = j then ⟨true, (landAt p i).gen + 1, [], 0⟩ else landAt p j := fun j => landAt_set p i j _ hl
  have hsl : ∀ j, (landAt (makeAt p i) j).slabs = (landAt p j).slabs := fun j => by
    rw [ha]; split
    · rename_i e; subst e; exact hs.symm
    · rfl
  refine ⟨h.s1, h.s2, h.s3, h.n1, h.n2, h.bl, h.tk, by simpa [makeAt] using h.ln, fun j hj => ?_, fun s hs => ?_, fun j k s hj hk h1 h2 => ?_⟩
  · rw [ha]; split
    · exact ⟨by simp, by simp, .inl ⟨rfl, rfl⟩, fun _ => rfl⟩
    · have := h.ld j hj
      exact ⟨this.nodup, this.lt, this.fill, this.away⟩
  · simp only [hsl]; exact h.has s hs
  · rw [hsl] at h1 h2; exact h.apart j k s hj hk h1 h2
end Go.Proofs.Ytpaogoehgkoaeaa
/- Layer 1 (region): how a piece is aligned, in bits. No program is in sight here. -/
namespace Go.Proofs.Ytpaogoehgkoaeaa
set_option linter.unusedVariables false
set_option linter.unusedSimpArgs false
open Go.RowKit
theorem i64_align (x k : Nat) (hk : k ≤ 6) (hx : x < 9223372036854775808) : bits .andNot .i64 (x : Int) ((2 ^ k - 1 : Nat) : Int) = ((x / 2 ^ k * 2 ^ k : Nat) : Int) := by
  show IntKind.i64.wrap ((BitVec.ofInt 64 (x : Int) &&& ~~~BitVec.ofInt 64 ((2 ^ k - 1 : Nat) : Int)).toNat : Int) = _
  rw [BitVec.ofInt_natCast, BitVec.ofInt_natCast]
  have e : (BitVec.ofNat 64 x &&& ~~~BitVec.ofNat 64 (2 ^ k - 1)) = BitVec.ofNat 64 (x / 2 ^ k * 2 ^ k) := by
    apply BitVec.eq_of_getLsbD_eq
    intro i hi
    simp only [BitVec.getLsbD_and, BitVec.getLsbD_not, BitVec.getLsbD_ofNat, hi, decide_true, Bool.true_and, Nat.testBit_two_pow_sub_one, Nat.testBit_mul_two_pow, Nat.testBit_div_two_pow]
    by_cases h : i < k
    · have : ¬ k ≤ i := by omega
      simp [h, this]
    · have h2 : k ≤ i := by omega
      simp [h, h2]
  rw [e, BitVec.toNat_ofNat]
  have hle : x / 2 ^ k * 2 ^ k ≤ x := Nat.div_mul_le_self _ _
  rw [Nat.mod_eq_of_lt (by omega), IntKind.wrap_i64]
  omega
theorem pow_check : ∀ a : Fin 65, 1 ≤ a.val → (decide (bits .and .i64 (a.val : Int) ((a.val : Int) - 1) = 0) = alignOk (a.val : Int)) := by decide +kernel
theorem align_check {a : Int} (h1 : 1 ≤ a) (h2 : a ≤ 64) : (bits .and .i64 a (a - 1) = 0 ∧ alignOk a = true) ∨ (bits .and .i64 a (a - 1) ≠ 0 ∧ alignOk a = false) := by
  have := pow_check ⟨a.toNat, by omega⟩ (by simp only; omega)
  simp only [show (a.toNat : Int) = a by omega] at this
  cases hk : alignOk a with
  | true => rw [hk] at this; exact .inl ⟨by simpa using this, rfl⟩
  | false => rw [hk] at this; exact .inr ⟨by simpa using this, rfl⟩
theorem alignOk_pow {a : Int} (h : alignOk a = true) : ∃ k : Nat, k ≤ 6 ∧ a = ((2 ^ k : Nat) : Int) := by
  unfold alignOk at h
  simp only [Bool.or_eq_true, beq_iff_eq] at h
  rcases h with (((((h | h) | h) | h) | h) | h) | h
  · exact ⟨0, by decide, h⟩
  · exact ⟨1, by decide, h⟩
  · exact ⟨2, by decide, h⟩
  · exact ⟨3, by decide, h⟩
  · exact ⟨4, by decide, h⟩
  · exact ⟨5, by decide, h⟩
  · exact ⟨6, by decide, h⟩
theorem alignOk_range {a : Int} (h : alignOk a = true) : 1 ≤ a ∧ a ≤ 64 := by
  unfold alignOk at h
  simp only [Bool.or_eq_true, beq_iff_eq] at h
  omega
/-- 'in' aligned -/
theorem align_up {x : Nat} {a : Int} (h : alignOk a = true) (hx : x ≤ 1000000000) : bits .andNot .i64 ((x : Int) + a - 1) (a - 1) = ((upTo x a.toNat : Nat) : Int) := by
  obtain ⟨k, hk, rfl⟩ := alignOk_pow h
  have hp : 0 < 2 ^ k := Nat.two_pow_pos k
  have hr := alignOk_range h
  have e1 : (x : Int) + ((2 ^ k : Nat) : Int) - 1 = ((x + 2 ^ k - 1 : Nat) : Int) := by omega
  have e2 : ((2 ^ k : Nat) : Int) - 1 = ((2 ^ k - 1 : Nat) : Int) := by omega
  rw [e1, e2, i64_align _ k hk (by omega)]
  unfold upTo
  rw [Int.toNat_natCast]
theorem upTo_bounds {x a : Nat} (h : 1 ≤ a) : x ≤ upTo x a ∧ upTo x a < x + a := by
  unfold upTo
  have h1 := Nat.div_add_mod (x + a - 1) a
  have h2 := Nat.mod_lt (x + a - 1) (show 0 < a by omega)
  have h3 : (x + a - 1) / a * a = a * ((x + a - 1) / a) := Nat.mul_comm _ _
  omega
end Go.Proofs.Ytpaogoehgkoaeaa
/- Layer 1 (region): every call leaves the pool in order. No program is in sight here. -/
namespace Go.Proofs.Ytpaogoehgkoaeaa
set_option linter.unusedVariables false
set_option linter.unusedSimpArgs false
open Go.RowKit
theorem Land.eta (l : Land) : (⟨l.there, l.gen, l.slabs, l.fill⟩ : Land) = l := rfl
theorem getD_set_bool (l : List Bool) (s j : Nat) (b : Bool) (hs : s < l.length) : (l.set s b).getD j false = if s = j then b else l.getD j false := by
  simp only [List.getD_eq_getElem?_getD, List.getElem?_set]
  by_cases h : s = j
  · subst h; simp [hs]
  · simp [h]
theorem landAt_grow {p : PoolF} (h : PoolOk p) {i : Nat} (hi : i < 256) (s j : Nat) : landAt (growAt p i s) j = if i = j then ⟨(landAt p i).there, (landAt p i).gen, (landAt p i).slabs ++ [s], (landAt p i).slabs.length * p.size⟩ else landAt p j :=
  landAt_set { p with bytes := p.bytes.set s (List.replicate p.size 0), taken := p.taken.set s true } i j _ (by show i < p.lands.length; rw [h.ln]; exact hi)
theorem landAt_fill {p : PoolF} (h : p.lands.length = 256) {i : Nat} (hi : i < 256) (f j : Nat) : landAt (fillAt p i f) j = if i = j then ⟨(landAt p i).there, (landAt p i).gen, (landAt p i).slabs, f⟩ else landAt p j :=
  landAt_set p i j _ (by rw [h]; exact hi)
theorem grow_lands {p : PoolF} (h : PoolOk p) (i s : Nat) : (growAt p i s).lands.length = 256 := by show (p.lands.set i _).length = 256; rw [List.length_set]; exact h.ln
theorem mem_bytes_set {α : Type} {l : List α} {s : Nat} {x y : α} (h : y ∈ l.set s x) : y ∈ l ∨ y = x := List.mem_or_eq_of_mem_set h
/-- a region has a slab more, and is handed out so far -/
theorem growfill_ok {p : PoolF} (h : PoolOk p) {i s f : Nat} (hi : i < 256) (hth : (landAt p i).there = true) (hs : s < p.taken.length) (h0 : p.taken.getD s false = false) (f1 : (landAt p i).slabs.length * p.size < f) (f2 : f ≤ ((landAt p i).slabs.length + 1) * p.size) :
    PoolOk (fillAt (growAt p i s) i f) := by
  have hA : ∀ j, landAt (fillAt (growAt p i s) i f) j = if i = j then ⟨(landAt p i).there, (landAt p i).gen, (landAt p i).slabs ++ [s], f⟩ else landAt p j := fun j => by
    rw [landAt_fill (grow_lands h i s) hi, landAt_grow h hi, landAt_grow h hi, if_pos rfl]
    split <;> rfl
  have hsb : s < p.bytes.length := by rw [← h.tk]; exact hs
  have hbl : (fillAt (growAt p i s) i f).bytes.length = p.bytes.length := List.length_set
  have hnot : ∀ j, j < 256 → s ∉ (landAt p j).slabs := fun j hj hm => by
    have := (h.has s hsb).2 ⟨j, hj, hm⟩
    rw [h0] at this; cases this
  have hsl : ∀ j, (landAt (fillAt (growAt p i s) i f) j).slabs = if i = j then (landAt p i).slabs ++ [s] else (landAt p j).slabs := fun j => by rw [hA]; split <;> rfl
  refine ⟨h.s1, h.s2, h.s3, by rw [hbl]; exact h.n1, by rw [hbl]; exact h.n2, fun b hb => ?_, ?_, ?_, fun j hj => ?_, fun t ht => ?_, fun j k t hj hk m1 m2 => ?_⟩
  · rcases mem_bytes_set hb with h1 | h1
    · exact h.bl b h1
    · rw [h1]; exact List.length_replicate
  · rw [hbl]; show (p.taken.set s true).length = _; rw [List.length_set]; exact h.tk
  · show ((growAt p i s).lands.set i _).length = 256; rw [List.length_set]; exact grow_lands h i s
  · rw [hA]
    by_cases e : i = j
    · subst e
      rw [if_pos rfl]
      have hl := h.ld i hi
      refine ⟨?_, fun t ht => ?_, .inr ⟨by simp, ?_, ?_⟩, fun hf => ?_⟩
      · refine List.nodup_append.2 ⟨hl.nodup, by simp, fun a ha b hb e => ?_⟩
        rw [List.mem_singleton] at hb
        exact hnot i hi (by rw [← hb, ← e]; exact ha)
      · rw [hbl]
        rcases List.mem_append.1 ht with h1 | h1
        · exact hl.lt t h1
        · rw [List.mem_singleton] at h1; rw [h1]; exact hsb
      · show (((landAt p i).slabs ++ [s]).length - 1) * p.size < f
        simpa using f1
      · show f ≤ ((landAt p i).slabs ++ [s]).length * p.size
        simpa using f2
      · exact absurd (hth.symm.trans hf) (by simp)
    · rw [if_neg e]
      have hl := h.ld j hj
      exact ⟨hl.nodup, fun t ht => by rw [hbl]; exact hl.lt t ht, hl.fill, hl.away⟩
  · rw [hbl] at ht
    have hg : (fillAt (growAt p i s) i f).taken.getD t false = if s = t then true else p.taken.getD t false := getD_set_bool p.taken s t true hs
    rw [hg]
    by_cases e : s = t
    · subst e
      rw [if_pos rfl]
      exact ⟨fun _ => ⟨i, hi, by rw [hsl, if_pos rfl]; simp⟩, fun _ => rfl⟩
    · rw [if_neg e, h.has t ht]
      constructor
      · rintro ⟨j, hj, hm⟩
        refine ⟨j, hj, ?_⟩
        rw [hsl]
        split
        · rename_i e2; subst e2; exact List.mem_append_left _ hm
        · exact hm
      · rintro ⟨j, hj, hm⟩
        refine ⟨j, hj, ?_⟩
        rw [hsl] at hm
        split at hm
        · rename_i e2; subst e2
          rcases List.mem_append.1 hm with h1 | h1
          · exact h1
          · rw [List.mem_singleton] at h1; exact absurd h1.symm e
        · exact hm
  · rw [hsl] at m1 m2
    by_cases ej : i = j
    · subst ej
      by_cases ek : i = k
      · exact ek
      · rw [if_pos rfl] at m1
        rw [if_neg ek] at m2
        rcases List.mem_append.1 m1 with h1 | h1
        · exact h.apart i k t hi hk h1 m2
        · rw [List.mem_singleton] at h1; rw [h1] at m2; exact absurd m2 (hnot k hk)
    · rw [if_neg ej] at m1
      by_cases ek : i = k
      · subst ek
        rw [if_pos rfl] at m2
        rcases List.mem_append.1 m2 with h1 | h1
        · exact h.apart j i t hj hi m1 h1
        · rw [List.mem_singleton] at h1; rw [h1] at m1; exact absurd m1 (hnot j hj)
      · rw [if_neg ek] at m2
        exact h.apart j k t hj hk m1 m2
/-- a region is handed out further within its last slab -/
theorem fill_ok {p : PoolF} (h : PoolOk p) {i f : Nat} (hi : i < 256) (hne : (landAt p i).slabs ≠ []) (f1 : ((landAt p i).slabs.length - 1) * p.size < f) (f2 : f ≤ (landAt p i).slabs.length * p.size) : PoolOk (fillAt p i f) := by
  have hA := fun j => landAt_fill (p := p) h.ln hi f j
  have hsl : ∀ j, (landAt (fillAt p i f) j).slabs = (landAt p j).slabs := fun j => by
    rw [hA]; split
    · rename_i e; subst e; rfl
    · rfl
  refine ⟨h.s1, h.s2, h.s3, h.n1, h.n2, h.bl, h.tk, ?_, fun j hj => ?_, fun t ht => ?_, fun j k t hj hk m1 m2 => ?_⟩
  · show (p.lands.set i _).length = 256; rw [List.length_set]; exact h.ln
  · have hl := h.ld j hj
    rw [hA]
    by_cases e : i = j
    · subst e; rw [if_pos rfl]
      exact ⟨hl.nodup, hl.lt, .inr ⟨hne, f1, f2⟩, hl.away⟩
    · rw [if_neg e]; exact ⟨hl.nodup, hl.lt, hl.fill, hl.away⟩
  · simp only [hsl]; exact h.has t ht
  · rw [hsl] at m1 m2; exact h.apart j k t hj hk m1 m2
theorem inF_bounds {p : PoolF} (h : PoolOk p) {i : Nat} (hi : i < 256) : inF p i ≤ p.size ∧ ((landAt p i).slabs ≠ [] → (landAt p i).fill = ((landAt p i).slabs.length - 1) * p.size + inF p i ∧ 1 ≤ inF p i) := by
  have hl := h.ld i hi
  unfold inF
  refine ⟨Nat.sub_le _ _, fun hne => ?_⟩
  rcases hl.fill with ⟨h1, _⟩ | ⟨_, h2, h3⟩
  · exact absurd h1 hne
  · obtain ⟨k, hk⟩ : ∃ k, (landAt p i).slabs.length = k + 1 := ⟨(landAt p i).slabs.length - 1, by
      cases hsl : (landAt p i).slabs with
      | nil => exact absurd hsl hne
      | cons _ _ => simp⟩
    rw [hk] at h2 h3 ⊢
    simp only [Nat.add_sub_cancel] at h2 ⊢
    rw [Nat.add_mul] at h3 ⊢
    omega
theorem alloc_ok {p : PoolF} (h : PoolOk p) (r n a : Int) : PoolOk (allocF p r n a).2.2 := by
  unfold allocF
  cases hl : landF p r with
  | none => exact h
  | some i =>
    obtain ⟨_, hi, hth⟩ := landF_some hl
    simp only
    split
    · exact h
    · rename_i hb
      have hn1 : 1 ≤ n.toNat := by omega
      have hn2 : n.toNat ≤ p.size := by omega
      split
      · cases hid : idleF p with
        | none => exact h
        | some s =>
          obtain ⟨h1, h2, _⟩ := idleF_some hid
          simp only
          exact growfill_ok h hi hth h1 h2 (by omega) (by rw [Nat.add_mul]; omega)
      · rename_i hg
        have hne : (landAt p i).slabs ≠ [] := fun e => hg (.inl e)
        have hfit : ¬ p.size < upTo (inF p i) a.toNat + n.toNat := fun e => hg (.inr e)
        simp only
        refine fill_ok h hi hne (by omega) ?_
        obtain ⟨k, hk⟩ : ∃ k, (landAt p i).slabs.length = k + 1 := ⟨(landAt p i).slabs.length - 1, by
          cases hsl : (landAt p i).slabs with
          | nil => exact absurd hsl hne
          | cons _ _ => simp⟩
        rw [hk, Nat.add_sub_cancel, Nat.add_mul]
        omega
theorem setB_ok {p : PoolF} (h : PoolOk p) (s : Nat) (b : List UInt8) (hb : s < p.bytes.length → b.length = p.size) : PoolOk { p with bytes := p.bytes.set s b } := by
  have hl : ∀ j, landAt { p with bytes := p.bytes.set s b } j = landAt p j := fun _ => rfl
  have hbl : ({ p with bytes := p.bytes.set s b } : PoolF).bytes.length = p.bytes.length := List.length_set
  refine ⟨h.s1, h.s2, h.s3, by rw [hbl]; exact h.n1, by rw [hbl]; exact h.n2, fun y hy => ?_, by rw [hbl]; exact h.tk, h.ln, fun j hj => ?_, fun t ht => h.has t (by rw [hbl] at ht; exact ht), h.apart⟩
  · by_cases hs : s < p.bytes.length
    · rcases mem_bytes_set hy with h1 | h1
      · exact h.bl y h1
      · rw [h1]; exact hb hs
    · rw [List.set_eq_of_length_le (by omega)] at hy
      exact h.bl y hy
  · have := h.ld j hj
    exact ⟨this.nodup, fun t ht => by rw [hbl]; exact this.lt t ht, this.fill, this.away⟩
end Go.Proofs.Ytpaogoehgkoaeaa
/- An append to a slice that the call owns, within a region that draws its order: whatever is done beside. No program is in sight here. -/
namespace Go.Proofs.Ytpaogoehgkoaeaa
set_option linter.unusedVariables false
set_option linter.unusedSimpArgs false
open Go.RowKit
section
variable {P : Program}
/-- what append leaves of a block that has room -/
def appRow (n : Nat) (news : List Value) : Option Obj → Option Obj
  | some (.cells cur e fr) => some (.cells (cur.toList.take n ++ news ++ cur.toList.drop (n + news.length)).toArray e fr)
  | o => o
theorem appRow_idem (n : Nat) (news : List Value) (cur : Array Value) (e : TypeId) (fr : Nat × Nat) (h : n + news.length ≤ cur.size) :
    appRow n news (appRow n news (some (.cells cur e fr))) = appRow n news (some (.cells cur e fr)) := by
  simp only [appRow]
  have hn : (cur.toList.take n).length = n := by simp; omega
  have e1 : (cur.toList.take n ++ news ++ cur.toList.drop (n + news.length)).take n = cur.toList.take n := by
    rw [List.append_assoc]
    have := List.take_left (l₁ := cur.toList.take n) (l₂ := news ++ cur.toList.drop (n + news.length))
    rwa [hn] at this
  have e2 : (cur.toList.take n ++ news ++ cur.toList.drop (n + news.length)).drop (n + news.length) = cur.toList.drop (n + news.length) := by
    have := List.drop_left (l₁ := cur.toList.take n ++ news) (l₂ := cur.toList.drop (n + news.length))
    rwa [show (cur.toList.take n ++ news).length = n + news.length by rw [List.length_append, hn]] at this
  rw [e1, e2]
/-- a block may become another one, just once -/
def Once (row : Option Nat) (A B : Option Obj) (w w' : World) : Prop := w.grownBy w' row ∧ ∀ g, row = some g → w'.heap[g]? = w.heap[g]? ∨ (w.heap[g]? = A ∧ w'.heap[g]? = B)
section
variable {row : Option Nat} {A B : Option Obj}
theorem Once.refl (w : World) : Once row A B w w := ⟨(Gr.refl w).far, fun _ _ => .inl rfl⟩
theorem Once.trans {a b c : World} (h : Once row A B a b) (k : Once row A B b c) : Once row A B a c :=
  ⟨grown_trans h.1 k.1, fun g hg => by
    rcases h.2 g hg with h1 | ⟨h1, h2⟩ <;> rcases k.2 g hg with k1 | ⟨k1, k2⟩
    · exact .inl (k1.trans h1)
    · exact .inr ⟨h1 ▸ k1, k2⟩
    · exact .inr ⟨h1, k1.trans h2⟩
    · exact .inr ⟨h1, k2⟩⟩
theorem Once.drew (w : World) : Once row A B w w.drew := ⟨grown_drew w row, fun _ _ => .inl rfl⟩
theorem Gr.once {w w' : World} (h : Gr w w') (hr : ∀ g, row = some g → g < w.heap.size) : Once row A B w w' := ⟨h.far, fun g hg => .inl (h.block g (hr g hg))⟩
theorem Once.size {w w' : World} (h : Once row A B w w') : w.heap.size ≤ w'.heap.size := h.1.size
theorem Once.cell {w w' : World} (h : Once row A B w w') {p : Addr} {v : Value} (hp : w.cell? p = some v) (hne : some p.block ≠ row) : w'.cell? p = some v := by
  have := h.1.block p.block (World.block_lt_of_cell? w p hp) hne
  unfold World.cell? at hp ⊢
  rw [this]; exact hp
theorem Once.owns {w w' : World} (h : Once row A B w w') {base : Nat} {e : TypeId} {size : Nat} {ad : Option Addr} {cap n : Nat} {xs : List Value} (ho : Owns w base e size ad cap n xs)
    (hne : ∀ a, ad = some a → some a.block ≠ row) : Owns w' base e size ad cap n xs := ho.grown h.1 hne
theorem Once.bytes {w w' : World} (h : Once row A B w w') {ad : Option Addr} {l : List UInt8} (hb : Bytes w ad l) (hne : ∀ a, ad = some a → some a.block ≠ row) : Bytes w' ad l := fun i hi => by
  obtain ⟨b, off, e, hc⟩ := hb i hi
  exact ⟨b, off, e, h.cell hc (show some b ≠ row from hne ⟨b, off, none⟩ e)⟩
@[go_sem] theorem once_refl (w : World) : Once row A B w w ↔ True := ⟨fun _ => trivial, fun _ => Once.refl w⟩
theorem region_tail_once {id : Nat} {Q : Exit → Act → World → Prop} {a0 : Act} {w : World} {l : List Oper} (row : Option Nat) (A B : Option Obj) (n0 n : Nat) (Rs : List (Value → World → Prop))
    (hm : P.follows .mixedOrders = true) (hB : anyB (l.take n0) n = true) (hT : tailB l n0 = true) (hd : (l.take n0).all (·.dst.isSome) = true) (hlen : Rs.length = (l.take n0).length) (hn : a0.tmps.size = n) (hst : AllStable (Once row A B) Rs)
    (hs : AllShown P (Once row A B) (l.take n0) Rs a0 w (l.take n0) 0) (hfin : ∀ w1 val, Once row A B w w1 → Holds val w1 Rs 0 → wpList P l.toArray Q (l.drop n0) (putAll val (l.take n0) 0 a0) w1) : (Code.region id l.toArray true).wp P Q a0 w :=
  region_any_tail Once.refl (fun _ _ _ => Once.trans) Once.drew n0 n (nth Rs) hm hB hT hn (fun i v w1 w2 => hst.get i v w1 w2) (fun i o hi => by simpa using hs.get i o hi)
    (fun w1 val hg h => hfin w1 val hg (Holds.of fun i hi => by
      have hi' : i < (l.take n0).length := by omega
      rw [Nat.zero_add]
      exact h i (l.take n0)[i] (by rw [List.getElem?_eq_getElem hi']) (List.all_eq_true.1 hd _ (List.getElem_mem hi'))))
/-- bytes that were made since -/
def MadeB (base : Nat) (e : TypeId) (l : List UInt8) : Value → World → Prop := fun v w => ∃ ad cap, v = .slice ad l.length cap ∧ Owns w base e 1 ad cap l.length (bv l)
theorem MadeB.stable {base : Nat} {e : TypeId} {l : List UInt8} (h : ∀ g, row = some g → g < base) : Stable (Once row A B) (MadeB base e l) := by
  rintro v w1 w2 ⟨ad, cap, rfl, ho⟩ k
  exact ⟨ad, cap, rfl, k.owns ho fun a ha hr => by have := (ho.lt a ha).1; have := h _ hr.symm; omega⟩
/-- what the slice of the append is known to be -/
def Apd (row : Option Nat) (B : Option Obj) (base : Nat) (e : TypeId) (size n : Nat) (xs : List Value) : Value → World → Prop := fun v w =>
  ∃ ad cap, v = .slice ad n cap ∧ Owns w base e size ad cap n xs ∧ ∀ a, ad = some a → some a.block = row → w.heap[a.block]? = B
theorem Apd.stable (base : Nat) (e : TypeId) (size n : Nat) (xs : List Value) : Stable (Once row A B) (Apd row B base e size n xs) := by
  rintro v w1 w2 ⟨ad, cap, rfl, ho, hb⟩ h
  have key : ∀ g, ad = some ⟨g, 0, .none⟩ → w2.heap[g]? = w1.heap[g]? := by
    intro g hg
    by_cases hr : some g = row
    · have h1 := hb _ hg hr
      rcases h.2 g hr.symm with h2 | ⟨_, h2⟩
      · exact h2
      · rw [h2]; exact h1.symm
    · exact h.1.block g (ho.lt _ hg).2 hr
  refine ⟨ad, cap, rfl, ho.kept key, fun a ha hr => ?_⟩
  obtain ⟨_, _, _, ⟨e1, _⟩ | ⟨g, cur, fr, e1, _⟩⟩ := ho
  · rw [e1] at ha; cases ha
  · rw [e1] at ha; cases ha
    rw [key g e1]; exact hb _ e1 hr
/-- the same, and where it lies: in the row, or in a block that was made since -/
def Apn (row : Option Nat) (B : Option Obj) (base : Nat) (e : TypeId) (size n : Nat) (xs : List Value) (N : Nat) : Value → World → Prop := fun v w =>
  ∃ ad cap, v = .slice ad n cap ∧ Owns w base e size ad cap n xs ∧ (∀ a, ad = some a → some a.block = row → w.heap[a.block]? = B) ∧ ∀ a, ad = some a → some a.block = row ∨ N ≤ a.block
theorem Apn.stable (base : Nat) (e : TypeId) (size n : Nat) (xs : List Value) (N : Nat) : Stable (Once row A B) (Apn row B base e size n xs N) := by
  rintro v w1 w2 ⟨ad, cap, rfl, ho, hb, hn⟩ h
  obtain ⟨ad', cap', he, ho', hb'⟩ := Apd.stable (A := A) base e size n xs (.slice ad n cap) w1 w2 ⟨ad, cap, rfl, ho, hb⟩ h
  cases he
  exact ⟨ad, cap, rfl, ho', hb', hn⟩
end
/-- append, and what it does to the block itself -/
theorem run_append_at {t u ty e : TypeId} {z : Value} {size bytes : Nat} (E : Elem P t e z size bytes) {w : World} {base : Nat} {ad : Option Addr} {cap n : Nat} {xs : List Value}
    (hown : Owns w base e size ad cap n xs) {x : Value} {m : Nat} {news : List Value} (hx : Src P u w size x m news)
    (h63 : n + m ≤ maxLen) (hbytes : (n + m) * bytes ≤ 140737488355328) (hbase : base ≤ w.heap.size) :
    ∃ ad' cap' w', (Builtin.append_ #[t, u] ty #[.slice ad n cap, x]).run P w = .ok (.slice ad' (n + m) cap') w' ∧ Owns w' base e size ad' cap' (n + m) (xs ++ news) ∧
      w.grownBy w' (ad.map (·.block)) ∧ (∀ a, ad' = some a → ad = some a ∨ w.heap.size ≤ a.block) ∧
      (∀ g, ad = some ⟨g, 0, .none⟩ → (n + m ≤ cap ∧ w'.heap[g]? = appRow (n * size) news w.heap[g]?) ∨ (w'.heap[g]? = w.heap[g]? ∧ ∀ a, ad' = some a → a.block ≠ g)) := by
  obtain ⟨ad', cap', w', h1, h2, h3, h4⟩ := run_append (ty := ty) E hown hx h63 hbytes hbase
  refine ⟨ad', cap', w', h1, h2, h3, h4, fun g hg => ?_⟩
  have hglt := (hown.lt _ hg).2
  obtain ⟨ht, hinfo, hzs, hpos⟩ := E
  obtain ⟨i, hi, hz, hsize, hby⟩ := info_parts hinfo
  subst hsize
  subst hby
  obtain ⟨d, hd, hdd⟩ : ∃ d, P.underlying u = some d ∧ (d = .string ∨ ∃ e', d = .slice e') := by
    obtain ⟨_, _, ⟨_, _, e', _, _, hu⟩ | ⟨_, _, _, _, _, hu⟩⟩ := hx
    · exact ⟨_, hu, .inr ⟨e', rfl⟩⟩
    · exact ⟨_, hu, .inl rfl⟩
  have hlen := hx.lenOf (P := P) w
  have hfirst := hx.first
  have hxl := hx.1
  have h1c := hx.2.1
  obtain ⟨hl, hnc, hcm, hcase⟩ := hown
  subst hg
  by_cases hroom : n + m ≤ cap
  · left
    refine ⟨hroom, ?_⟩
    rcases hcase with ⟨h, _⟩ | ⟨g', cur, fr, e1, hbg, hg, hfr, hcs, htake⟩
    · cases h
    · cases e1
      have hfit : n * i.size + 0 + news.length ≤ cur.size := by rw [hxl, hcs, Nat.add_zero, ← Nat.add_mul]; exact Nat.mul_le_mul_right _ hroom
      have hst := run_storeCells_un (P := P) g (n * i.size) e fr news 0 cur w hg hfr hfit h1c
      simp only [Nat.add_zero] at hst
      have hr : (Builtin.append_ #[t, u] ty #[.slice (some ⟨g, 0, .none⟩) n cap, x]).run P w = .ok (.slice (some ⟨g, 0, .none⟩) (n + m) cap) (w.setRow g (cur.toList.take (n * i.size) ++ news ++ cur.toList.drop (n * i.size + news.length)).toArray) := by
        rcases hdd with rfl | ⟨e', rfl⟩ <;> simp [Builtin.append_, run_underlying ht, run_underlying hd, sizeOf, typeInfo, hi, hlen, hroom, hfirst, Addr.add_lit, hst]
      rw [hr] at h1
      cases h1
      rw [hg, setRow_heap w g cur _ e fr hg]
      rfl
  · right
    rcases hcase with ⟨h, _⟩ | ⟨g', cur, fr, e1, hbg, hg, hfr, hcs, htake⟩
    · cases h
    · cases e1
      have hold : (Builtin.firstCells i.size n (.slice (some ⟨g, 0, .none⟩) n cap)).run P w.drew = .ok xs.toArray w.drew := by
        have hrow : Row w (some ⟨g, 0, .none⟩) xs := Owns.row (base := base) (e := e) (size := i.size) (cap := cap) (n := n) ⟨hl, hnc, hcm, .inr ⟨g, cur, fr, rfl, hbg, hg, hfr, hcs, htake⟩⟩
        refine run_firstCells_some (P := P) w.drew i.size n _ n cap xs hl ?_
        intro j v hj
        obtain ⟨b, off, hh, hc⟩ := hrow j v hj
        cases hh
        have hadd : (⟨g, 0, none⟩ : Addr).add j = ⟨g, 0 + j, none⟩ := by unfold Addr.add; split <;> simp_all
        rw [hadd]; exact hc
      have hfirst' := (hx.gr (Gr.drew w)).first
      have hnr : ¬ (n + m ≤ cap) := hroom
      have h63' : ¬ (9223372036854775807 < ((n : Int) + (m : Int))) := by unfold maxLen at h63; omega
      have hfit := growslice_fits (need := n + m) (old := cap) (bytes := i.bytes) (by omega) hbytes
      have h48' : ¬ (281474976710656 < Builtin.nextslicecap (n + m) cap * i.bytes) := by omega
      have hr : ∃ o, (Builtin.append_ #[t, u] ty #[.slice (some ⟨g, 0, .none⟩) n cap, x]).run P w = .ok (.slice (some ⟨w.heap.size, 0, .none⟩) (n + m) (grownCap w (n + m) cap e)) (w.drew.alloc o) := by
        refine ⟨.cells (xs.toArray ++ news.toArray ++ Builtin.zeroCells z.cells (grownCap w (n + m) cap e - (n + m))) e, ?_⟩
        rcases hdd with rfl | ⟨e', rfl⟩ <;> simp [Builtin.append_, run_underlying ht, run_underlying hd, sizeOf, typeInfo, zeroValue, hi, hz, hlen, hnr, h63', h48', Question.forced, hfirst', hold, newRow, grownCap]
        all_goals (congr 2; apply Array.ext'; simp [List.append_assoc])
      obtain ⟨o, hr⟩ := hr
      rw [hr] at h1
      cases h1
      exact ⟨Below.heap_alloc w.drew _ g hglt, fun a ha => by cases ha; exact Nat.ne_of_gt hglt⟩
/-- THE STEP of such an append: whatever is done beside it -/
theorem append_once2 {t u e : TypeId} {z : Value} {size bytes : Nat} (E : Elem P t e z size bytes) {w0 w : World} {base : Nat} {ad : Option Addr} {cap n : Nat} {xs : List Value}
    (hown : Owns w0 base e size ad cap n xs) {x : Value} {m : Nat} {news : List Value} {row : Option Nat} (hrow : row = ad.map (·.block))
    {A B : Option Obj} (hA : ∀ g, row = some g → A = w0.heap[g]?) (hB : B = if n + m ≤ cap then appRow (n * size) news A else A)
    (hle : Once row A B w0 w) (hx : Src P u w size x m news)
    (h63 : n + m ≤ maxLen) (hbytes : (n + m) * bytes ≤ 140737488355328) (hbase : base ≤ w0.heap.size) {ty : TypeId} :
    ∃ v w', (Builtin.append_ #[t, u] ty #[.slice ad n cap, x]).run P w = .ok v w' ∧ Once row A B w w' ∧ Apn row B base e size (n + m) (xs ++ news) w0.heap.size v w' := by
  have hwOwn : Owns w base e size ad cap n xs ∧ ∀ g, row = some g → n + m ≤ cap → appRow (n * size) news w.heap[g]? = B := by
    obtain ⟨h1, h2, h3, ⟨e1, e2, e3⟩ | ⟨g, cur, fr, e1, e2, hg, hfr, hs, ht⟩⟩ := hown
    · subst e1
      exact ⟨⟨h1, h2, h3, .inl ⟨rfl, e2, e3⟩⟩, fun g hg => by rw [hrow] at hg; cases hg⟩
    · subst e1
      have hr : row = some g := hrow
      have hAg := hA g hr
      rw [hg] at hAg
      rcases hle.2 g hr with h | ⟨_, h⟩
      · rw [hg] at h
        refine ⟨⟨h1, h2, h3, .inr ⟨g, cur, fr, rfl, e2, h, hfr, hs, ht⟩⟩, fun g' hg' hrm => ?_⟩
        rw [hr] at hg'; cases hg'
        rw [h, hB, if_pos hrm, hAg]
      · have hnc : n * size ≤ cur.size := by rw [hs]; exact Nat.mul_le_mul_right _ h2
        have hlen : (cur.toList.take (n * size)).length = n * size := by simp; omega
        have htk : (cur.toList.take (n * size) ++ news ++ cur.toList.drop (n * size + news.length)).take (n * size) = xs := by
          rw [List.append_assoc]
          have := List.take_left (l₁ := cur.toList.take (n * size)) (l₂ := news ++ cur.toList.drop (n * size + news.length))
          rw [hlen] at this
          rw [this, ht]
        by_cases hroom : n + m ≤ cap
        · rw [hB, if_pos hroom, hAg] at h
          have hfit : n * size + news.length ≤ cur.size := by rw [hx.1, hs, ← Nat.add_mul]; exact Nat.mul_le_mul_right _ hroom
          have hsz : (cur.toList.take (n * size) ++ news ++ cur.toList.drop (n * size + news.length)).toArray.size = cur.size := by simp; omega
          refine ⟨⟨h1, h2, h3, .inr ⟨g, _, fr, rfl, e2, h, by rw [hsz]; exact hfr, by rw [hsz]; exact hs, htk⟩⟩, fun g' hg' _ => ?_⟩
          rw [hr] at hg'; cases hg'
          rw [h, hB, if_pos hroom, hAg]
          exact appRow_idem _ _ _ _ _ hfit
        · rw [hB, if_neg hroom, hAg] at h
          exact ⟨⟨h1, h2, h3, .inr ⟨g, cur, fr, rfl, e2, h, hfr, hs, ht⟩⟩, fun g' hg' hrm => absurd hrm hroom⟩
  obtain ⟨ho, hBw⟩ := hwOwn
  obtain ⟨ad', cap', w', r1, r2, r3, r4, r5⟩ := run_append_at (u := u) (ty := ty) E ho hx h63 hbytes (Nat.le_trans hbase hle.size)
  refine ⟨_, w', r1, ⟨hrow ▸ r3, ?_⟩, ad', cap', rfl, r2, ?_, fun a ha => ?_⟩
  · intro g hg
    have had : ad = some ⟨g, 0, .none⟩ := by
      rw [hrow] at hg
      obtain ⟨_, _, _, ⟨e1, _⟩ | ⟨g', cur, fr, e1, _⟩⟩ := ho
      · rw [e1] at hg; cases hg
      · rw [e1] at hg ⊢; cases hg; rfl
    rcases r5 g had with ⟨hrm, h⟩ | ⟨h, _⟩
    · rw [hBw g hg hrm] at h
      rcases hle.2 g hg with h2 | ⟨_, h2⟩
      · exact .inr ⟨h2.trans (hA g hg).symm, h⟩
      · exact .inl (h.trans h2.symm)
    · exact .inl h
  · intro a ha hg
    have had : ad = some ⟨a.block, 0, .none⟩ := by
      rw [hrow] at hg
      obtain ⟨_, _, _, ⟨e1, _⟩ | ⟨g', cur, fr, e1, _⟩⟩ := ho
      · rw [e1] at hg; cases hg
      · rw [e1] at hg ⊢; cases hg; rfl
    rcases r5 a.block had with ⟨hrm, h⟩ | ⟨_, h⟩
    · rw [h]; exact hBw _ hg.symm hrm
    · exact absurd rfl (h a ha)
  · rcases r4 a ha with h | h
    · exact .inl (by rw [hrow, h]; rfl)
    · exact .inr (Nat.le_trans hle.size h)
theorem append_once {t u e : TypeId} {z : Value} {size bytes : Nat} (E : Elem P t e z size bytes) {w0 w : World} {base : Nat} {ad : Option Addr} {cap n : Nat} {xs : List Value}
    (hown : Owns w0 base e size ad cap n xs) {x : Value} {m : Nat} {news : List Value} {row : Option Nat} (hrow : row = ad.map (·.block))
    {A B : Option Obj} (hA : ∀ g, row = some g → A = w0.heap[g]?) (hB : B = if n + m ≤ cap then appRow (n * size) news A else A)
    (hle : Once row A B w0 w) (hx : Src P u w size x m news)
    (h63 : n + m ≤ maxLen) (hbytes : (n + m) * bytes ≤ 140737488355328) (hbase : base ≤ w0.heap.size) {ty : TypeId} :
    ∃ v w', (Builtin.append_ #[t, u] ty #[.slice ad n cap, x]).run P w = .ok v w' ∧ Once row A B w w' ∧ Apd row B base e size (n + m) (xs ++ news) v w' := by
  obtain ⟨v, w', h1, h2, ad', cap', h3, h4, h5, _⟩ := append_once2 (ty := ty) E hown hrow hA hB hle hx h63 hbytes hbase
  exact ⟨v, w', h1, h2, ad', cap', h3, h4, h5⟩
end
end Go.Proofs.Ytpaogoehgkoaeaa
/- Layer 1 (region): a pool in memory. -/
namespace Go.Proofs.Ytpaogoehgkoaeaa
set_option linter.unusedVariables false
set_option linter.unusedSimpArgs false
open Go.RowKit
/-- only blocks of S have changed -/
structure Chg (S : Nat → Prop) (w w' : World) : Prop where
  os : w'.os = w.os
  tape : w'.tape = w.tape
  output : w'.output = w.output
  size : w.heap.size ≤ w'.heap.size
  block : ∀ j, j < w.heap.size → ¬ S j → w'.heap[j]? = w.heap[j]?
section
variable {S S' : Nat → Prop} {a w w' w2 : World}
theorem Chg.refl (w : World) : Chg S w w := ⟨rfl, rfl, rfl, Nat.le_refl _, fun _ _ _ => rfl⟩
theorem Chg.trans (h : Chg S w w') (k : Chg S' w' w2) (hs : ∀ j, S' j → S j ∨ w.heap.size ≤ j) : Chg S w w2 :=
  ⟨k.os.trans h.os, k.tape.trans h.tape, k.output.trans h.output, Nat.le_trans h.size k.size, fun j hj hn => (k.block j (Nat.lt_of_lt_of_le hj h.size) (fun hs' => by
    rcases hs j hs' with h1 | h1
    · exact hn h1
    · omega)).trans (h.block j hj hn)⟩
theorem Gr.chg (h : Gr w w') : Chg S w w' := ⟨h.os, h.tape, h.output, h.size, fun j hj _ => h.block j hj⟩
theorem Chg.grown {b : Nat} (h : w.grownBy w' (some b)) (hb : S b) : Chg S w w' := ⟨h.os, h.tape, h.output, h.size, fun j hj hn => h.block j hj (fun e => hn ((Option.some.inj e) ▸ hb))⟩
theorem Chg.grownO {o : Option Nat} (h : w.grownBy w' o) (hb : ∀ b, o = some b → S b) : Chg S w w' := ⟨h.os, h.tape, h.output, h.size, fun j hj hn => h.block j hj (fun e => hn (hb j e.symm))⟩
theorem Chg.gr (h : Chg S w w') (k : Gr a w) (hs : ∀ j, S j → a.heap.size ≤ j) : Gr a w' :=
  ⟨h.os.trans k.os, h.tape.trans k.tape, h.output.trans k.output, Nat.le_trans k.size h.size, fun j hj => (h.block j (Nat.lt_of_lt_of_le hj k.size) (fun e => by have := hs j e; omega)).trans (k.block j hj)⟩
theorem Chg.heap (h : Chg S w w') {j : Nat} {o : Obj} (hj : w.heap[j]? = some o) (hn : ¬ S j) : w'.heap[j]? = some o := (h.block j (Array.getElem?_eq_some_iff.1 hj).1 hn).trans hj
theorem Chg.blk (h : Chg S w w') {g : Nat} {t : TypeId} {cs : List Value} (hb : Blk w g t cs) (hn : ¬ S g) : Blk w' g t cs := h.heap hb hn
theorem Chg.owns (h : Chg S w w') {base : Nat} {e : TypeId} {size : Nat} {ad : Option Addr} {cap n : Nat} {xs : List Value} (ho : Owns w base e size ad cap n xs) (hn : ∀ x, ad = some x → ¬ S x.block) : Owns w' base e size ad cap n xs :=
  ho.kept fun k hk => h.block k (ho.lt _ hk).2 (hn _ hk)
theorem Chg.row (h : Chg S w w') {ad : Option Addr} {vs : List Value} (hr : Row w ad vs) (hn : ∀ x, ad = some x → ¬ S x.block) : Row w' ad vs := fun i u hi => by
  obtain ⟨b, off, e, hc⟩ := hr i u hi
  refine ⟨b, off, e, ?_⟩
  have := h.block b (World.block_lt_of_cell? w _ hc) (hn _ e)
  unfold World.cell? at hc ⊢
  simp only at hc ⊢
  rw [this]; exact hc
end
theorem Blk.ne {w : World} {g g' : Nat} {t t' : TypeId} {cs cs' : List Value} (h : Blk w g t cs) (h' : Blk w g' t' cs') (ht : t ≠ t') : g ≠ g' := fun e => by
  subst e
  unfold Blk at h h'
  rw [h] at h'
  cases h'
  exact ht rfl
theorem Blk.owns_ne {w : World} {g : Nat} {t e : TypeId} {cs : List Value} (h : Blk w g t cs) {base size cap n : Nat} {ad : Option Addr} {xs : List Value} (ho : Owns w base e size ad cap n xs) (ht : t ≠ e) : ∀ x, ad = some x → x.block ≠ g := fun x hx ex => by
  obtain ⟨_, _, _, ⟨e1, _⟩ | ⟨g', cur, fr, e1, e2, hg, _⟩⟩ := ho
  · rw [e1] at hx; cases hx
  · rw [e1] at hx; cases hx
    simp only at ex
    subst ex
    unfold Blk at h
    rw [h] at hg
    cases hg
    exact ht rfl
theorem Owns.ne {w : World} {e e' : TypeId} {base base' size size' cap cap' n n' : Nat} {ad ad' : Option Addr} {xs xs' : List Value} (h : Owns w base e size ad cap n xs) (h' : Owns w base' e' size' ad' cap' n' xs') (ht : e ≠ e') : ∀ x y, ad = some x → ad' = some y → x.block ≠ y.block := fun x y hx hy ex => by
  obtain ⟨_, _, _, ⟨e1, _⟩ | ⟨g, cur, fr, e1, _, hg, _⟩⟩ := h
  · rw [e1] at hx; cases hx
  · obtain ⟨_, _, _, ⟨e2, _⟩ | ⟨g', cur', fr', e2, _, hg', _⟩⟩ := h'
    · rw [e2] at hy; cases hy
    · rw [e1] at hx; rw [e2] at hy; cases hx; cases hy
      simp only at ex
      subst ex
      rw [hg] at hg'
      cases hg'
      exact ht rfl
/-- rows of four cells each -/
def flat (F : Nat → List Value) (n : Nat) : List Value := (List.range n).flatMap F
theorem flat_succ (F : Nat → List Value) (n : Nat) : flat F (n + 1) = flat F n ++ F n := by simp [flat, List.range_succ]
theorem flat_congr {F G : Nat → List Value} : ∀ n, (∀ i, i < n → F i = G i) → flat F n = flat G n
  | 0, _ => rfl
  | n + 1, h => by rw [flat_succ, flat_succ, flat_congr n (fun i hi => h i (by omega)), h n (by omega)]
theorem flat_len {F : Nat → List Value} (hF : ∀ i, (F i).length = 4) : ∀ n, (flat F n).length = 4 * n
  | 0 => rfl
  | n + 1 => by rw [flat_succ, List.length_append, flat_len hF n, hF]; omega
theorem flat_get {F : Nat → List Value} (hF : ∀ i, (F i).length = 4) : ∀ n i k, i < n → k < 4 → (flat F n)[i * 4 + k]? = (F i)[k]?
  | 0, _, _, h, _ => by omega
  | n + 1, i, k, h, hk => by
    rw [flat_succ]
    have hl := flat_len hF n
    by_cases hi : i < n
    · rw [List.getElem?_append_left (by omega)]
      exact flat_get hF n i k hi hk
    · obtain rfl : i = n := by omega
      rw [List.getElem?_append_right (by omega), hl]
      congr 1; omega
theorem flat_set {F : Nat → List Value} (hF : ∀ i, (F i).length = 4) : ∀ n i k v, i < n → k < 4 → (flat F n).set (i * 4 + k) v = flat (fun j => if j = i then (F j).set k v else F j) n
  | 0, _, _, _, h, _ => by omega
  | n + 1, i, k, v, h, hk => by
    rw [flat_succ, flat_succ]
    have hl := flat_len hF n
    by_cases hi : i < n
    · rw [List.set_append_left _ _ (by omega), flat_set hF n i k v hi hk, if_neg (by omega)]
    · obtain rfl : i = n := by omega
      rw [List.set_append_right _ _ (by omega), hl, if_pos rfl, show i * 4 + k - 4 * i = k by omega]
      congr 1
      exact flat_congr _ (fun j hj => by rw [if_neg (by omega)])
/-- a region's cells -/
def landV (l : Land) (ad : Option Addr) (cap : Nat) : List Value := [.bool l.there, .int .i64 (l.gen : Int), .slice ad l.slabs.length cap, .int .i64 (l.fill : Int)]
def poolV (p : PoolF) (ads : Option Addr) (cs : Nat) (adt : Option Addr) (ct : Nat) (A : Nat → Option Addr) (C : Nat → Nat) : List Value :=
  [.int .i64 (p.size : Int), .slice ads p.bytes.length cs, .slice adt p.taken.length ct] ++ flat (fun i => landV (landAt p i) (A i) (C i)) 256
def iv (l : List Nat) : List Value := l.map fun (n : Nat) => .int .i64 (n : Int)
def slabV (bd : Nat → Nat) (size n : Nat) : List Value := (List.range n).map fun i => .slice (some ⟨bd i, 0, none⟩) size size
/-- a pool in block g; all that it has lies in S -/
structure PX (w : World) (S : Nat → Prop) (g : Nat) (p : PoolF) (ads : Option Addr) (cs : Nat) (adt : Option Addr) (ct : Nat) (A : Nat → Option Addr) (C : Nat → Nat) (bd : Nat → Nat) : Prop where
  blk : Blk w g 58 (poolV p ads cs adt ct A C)
  row : Owns w 0 45 1 ads cs p.bytes.length (slabV bd p.size p.bytes.length)
  tak : Owns w 0 4 1 adt ct p.taken.length (p.taken.map .bool)
  slab : ∀ i, i < p.bytes.length → Blk w (bd i) 5 (bv (bytesAt p i))
  land : ∀ i, i < 256 → Owns w 0 3 1 (A i) (C i) (landAt p i).slabs.length (iv (landAt p i).slabs)
  inj : ∀ i j, i < p.bytes.length → j < p.bytes.length → bd i = bd j → i = j
  sep : ∀ i j x y, i < 256 → j < 256 → A i = some x → A j = some y → x.block = y.block → i = j
  sg : S g
  srow : ∀ x, ads = some x → S x.block
  stak : ∀ x, adt = some x → S x.block
  sslab : ∀ i, i < p.bytes.length → S (bd i)
  sland : ∀ i x, i < 256 → A i = some x → S x.block
  lt : ∀ j, S j → j < w.heap.size
def PoolAt (w : World) (S : Nat → Prop) (g : Nat) (p : PoolF) : Prop := ∃ ads cs adt ct A C bd, PX w S g p ads cs adt ct A C bd
section
variable {w w' : World} {S S' : Nat → Prop} {g : Nat} {p : PoolF} {ads adt : Option Addr} {cs ct : Nat} {A : Nat → Option Addr} {C bd : Nat → Nat}
theorem landV_len (l : Land) (ad : Option Addr) (cap : Nat) : (landV l ad cap).length = 4 := rfl
theorem poolV_land {i k : Nat} (hi : i < 256) (hk : k < 4) : (poolV p ads cs adt ct A C)[3 + i * 4 + k]? = (landV (landAt p i) (A i) (C i))[k]? := by
  unfold poolV
  rw [List.getElem?_append_right (by simp; omega), show 3 + i * 4 + k - [Value.int .i64 (p.size : Int), .slice ads p.bytes.length cs, .slice adt p.taken.length ct].length = i * 4 + k by simp; omega]
  exact flat_get (fun i => landV_len _ _ _) 256 i k hi hk
theorem PX.head (h : PX w S g p ads cs adt ct A C bd) : w.cell? ⟨g, 0, none⟩ = some (.int .i64 (p.size : Int)) ∧ w.cell? ⟨g, 1, none⟩ = some (.slice ads p.bytes.length cs) ∧ w.cell? ⟨g, 2, none⟩ = some (.slice adt p.taken.length ct) :=
  ⟨h.blk.cell rfl, h.blk.cell rfl, h.blk.cell rfl⟩
theorem PX.lcell (h : PX w S g p ads cs adt ct A C bd) {i : Nat} (hi : i < 256) :
    w.cell? ⟨g, 3 + i * 4, none⟩ = some (.bool (landAt p i).there) ∧ w.cell? ⟨g, 3 + i * 4 + 1, none⟩ = some (.int .i64 ((landAt p i).gen : Int)) ∧ w.cell? ⟨g, 3 + i * 4 + 2, none⟩ = some (.slice (A i) (landAt p i).slabs.length (C i)) ∧ w.cell? ⟨g, 3 + i * 4 + 3, none⟩ = some (.int .i64 ((landAt p i).fill : Int)) :=
  ⟨h.blk.cell (poolV_land (k := 0) hi (by decide)), h.blk.cell (poolV_land (k := 1) hi (by decide)), h.blk.cell (poolV_land (k := 2) hi (by decide)), h.blk.cell (poolV_land (k := 3) hi (by decide))⟩
/-- blocks of S as they were -/
theorem PX.same (h : PX w S g p ads cs adt ct A C bd) (k : ∀ j, S j → w'.heap[j]? = w.heap[j]?) (hs : w.heap.size ≤ w'.heap.size) : PX w' S g p ads cs adt ct A C bd :=
  ⟨(k g h.sg).trans h.blk, h.row.kept (fun x hx => k x (h.srow _ hx)), h.tak.kept (fun x hx => k x (h.stak _ hx)), fun i hi => (k _ (h.sslab i hi)).trans (h.slab i hi), fun i hi => (h.land i hi).kept (fun x hx => k x (h.sland i _ hi hx)),
   h.inj, h.sep, h.sg, h.srow, h.stak, h.sslab, h.sland, fun j hj => Nat.lt_of_lt_of_le (h.lt j hj) hs⟩
theorem PX.gr (h : PX w S g p ads cs adt ct A C bd) (k : Gr w w') : PX w' S g p ads cs adt ct A C bd := h.same (fun j hj => k.block j (h.lt j hj)) k.size
theorem PoolAt.gr (h : PoolAt w S g p) (k : Gr w w') : PoolAt w' S g p := by
  obtain ⟨ads, cs, adt, ct, A, C, bd, h⟩ := h
  exact ⟨ads, cs, adt, ct, A, C, bd, h.gr k⟩
theorem PoolAt.lt (h : PoolAt w S g p) : ∀ j, S j → j < w.heap.size := by
  obtain ⟨ads, cs, adt, ct, A, C, bd, h⟩ := h
  exact h.lt
theorem PoolAt.chg {T : Nat → Prop} (h : PoolAt w S g p) (k : Chg T w w') (hd : ∀ j, S j → ¬ T j) : PoolAt w' S g p := by
  obtain ⟨ads, cs, adt, ct, A, C, bd, h⟩ := h
  exact ⟨ads, cs, adt, ct, A, C, bd, h.same (fun j hj => k.block j (h.lt j hj) (hd j hj)) k.size⟩
end
def upd {α : Type} (A : Nat → α) (i : Nat) (a : α) : Nat → α := fun j => if j = i then a else A j
theorem upd_same {α : Type} (A : Nat → α) (i : Nat) (a : α) : upd A i a i = a := by simp [upd]
theorem upd_other {α : Type} (A : Nat → α) {i j : Nat} (a : α) (h : j ≠ i) : upd A i a j = A j := by simp [upd, h]
section
variable {w w' : World} {S : Nat → Prop} {g : Nat} {p : PoolF} {ads adt : Option Addr} {cs ct : Nat} {A : Nat → Option Addr} {C bd : Nat → Nat}
theorem head_set {hd : List Value} (hh : hd.length = 3) {F : Nat → List Value} (hF : ∀ i, (F i).length = 4) {i k : Nat} (hi : i < 256) (hk : k < 4) (v : Value) :
    (hd ++ flat F 256).set (3 + i * 4 + k) v = hd ++ flat (fun j => if j = i then (F j).set k v else F j) 256 := by
  rw [List.set_append_right _ _ (by omega), hh, show 3 + i * 4 + k - 3 = i * 4 + k by omega, flat_set hF 256 i k v hi hk]
def setLand (p : PoolF) (i : Nat) (l : Land) : PoolF := { p with lands := p.lands.set i l }
theorem poolV_setLand (hl : p.lands.length = 256) {i : Nat} (hi : i < 256) (l : Land) (ad : Option Addr) (cap : Nat) :
    poolV (setLand p i l) ads cs adt ct (upd A i ad) (upd C i cap) = [.int .i64 (p.size : Int), .slice ads p.bytes.length cs, .slice adt p.taken.length ct] ++ flat (fun j => if j = i then landV l ad cap else landV (landAt p j) (A j) (C j)) 256 := by
  unfold poolV
  congr 1
  refine flat_congr _ fun j hj => ?_
  have ha : landAt (setLand p i l) j = if i = j then l else landAt p j := landAt_set p i j l (by omega)
  rw [ha]
  by_cases e : j = i
  · subst e
    rw [if_pos rfl, if_pos rfl, upd_same, upd_same]
  · rw [if_neg (fun x => e x.symm), if_neg e, upd_other _ _ e, upd_other _ _ e]
theorem landV_if_len (i : Nat) (l : Land) (ad : Option Addr) (cap : Nat) : ∀ j, (if j = i then landV l ad cap else landV (landAt p j) (A j) (C j)).length = 4 := fun j => by split <;> rfl
theorem poolV_set4 (hl : p.lands.length = 256) {i : Nat} (hi : i < 256) (l : Land) (ad : Option Addr) (cap : Nat) :
    ((((poolV p ads cs adt ct A C).set (3 + i * 4) (.bool l.there)).set (3 + i * 4 + 1) (.int .i64 (l.gen : Int))).set (3 + i * 4 + 2) (.slice ad l.slabs.length cap)).set (3 + i * 4 + 3) (.int .i64 (l.fill : Int)) =
      poolV (setLand p i l) ads cs adt ct (upd A i ad) (upd C i cap) := by
  rw [poolV_setLand hl hi]
  unfold poolV
  have hF : ∀ j, ((fun i => landV (landAt p i) (A i) (C i)) j).length = 4 := fun j => rfl
  have e0 := head_set (hd := [.int .i64 (p.size : Int), .slice ads p.bytes.length cs, .slice adt p.taken.length ct]) rfl hF hi (k := 0) (by decide) (.bool l.there)
  rw [Nat.add_zero] at e0
  rw [e0, head_set rfl (fun j => by split <;> rfl) hi (by decide), head_set rfl (fun j => by repeat (first | rfl | split)) hi (by decide), head_set rfl (fun j => by repeat (first | rfl | split)) hi (by decide)]
  congr 1
  refine flat_congr _ fun j hj => ?_
  by_cases e : j = i
  · subst e; simp only [if_true]; rfl
  · simp only [e, if_false]
/-- one region's cells are others: with slabs of its own, or none -/
theorem PX.put_land (h : PX w S g p ads cs adt ct A C bd) (hl : p.lands.length = 256) {i : Nat} (hi : i < 256) (l : Land) (ad : Option Addr) (cap : Nat)
    (hb : Blk w' g 58 (poolV (setLand p i l) ads cs adt ct (upd A i ad) (upd C i cap))) (k : ∀ j, S j → j ≠ g → w'.heap[j]? = w.heap[j]?) (hs : w.heap.size ≤ w'.heap.size)
    (ho : Owns w' 0 3 1 ad cap l.slabs.length (iv l.slabs)) (had : ad = none ∨ ad = A i) : PX w' S g (setLand p i l) ads cs adt ct (upd A i ad) (upd C i cap) bd := by
  have hg1 := h.blk.owns_ne h.row (by decide)
  have hg2 := h.blk.owns_ne h.tak (by decide)
  have hg3 : ∀ j, j < 256 → ∀ x, A j = some x → x.block ≠ g := fun j hj => h.blk.owns_ne (h.land j hj) (by decide)
  have ha : ∀ j, landAt (setLand p i l) j = if i = j then l else landAt p j := fun j => landAt_set p i j l (by omega)
  have hA : ∀ j x, j < 256 → upd A i ad j = some x → A j = some x := fun j x hj hx => by
    by_cases e : j = i
    · subst e; rw [upd_same] at hx; rcases had with h1 | h1
      · rw [h1] at hx; cases hx
      · rw [← h1]; exact hx
    · rw [upd_other _ _ e] at hx; exact hx
  refine ⟨hb, h.row.kept (fun x hx => k x (h.srow _ hx) (hg1 _ hx)), h.tak.kept (fun x hx => k x (h.stak _ hx) (hg2 _ hx)), fun j hj => (k _ (h.sslab j hj) ((h.slab j hj).ne h.blk (by decide))).trans (h.slab j hj), fun j hj => ?_, h.inj,
    fun a b x y ha hb hx hy => h.sep a b x y ha hb (hA a x ha hx) (hA b y hb hy), h.sg, h.srow, h.stak, h.sslab, fun a x ha hx => h.sland a x ha (hA a x ha hx), fun j hj => Nat.lt_of_lt_of_le (h.lt j hj) hs⟩
  rw [ha]
  by_cases e : j = i
  · subst e; rw [if_pos rfl, upd_same, upd_same]; exact ho
  · rw [if_neg (fun x => e x.symm), upd_other _ _ e, upd_other _ _ e]
    exact (h.land j hj).kept (fun x hx => k x (h.sland j _ hj hx) (hg3 j hj _ hx))
end
/-- a pool turned to p' by a call -/
structure Moved (S : Nat → Prop) (g : Nat) (p' : PoolF) (w w' : World) (S' : Nat → Prop) : Prop where
  chg : Chg S w w'
  sub : ∀ j, S' j → S j ∨ w.heap.size ≤ j
  pool : PoolAt w' S' g p'
/-- a region's four cells are written: it has no slabs then -/
theorem PX.put4 {w : World} {S : Nat → Prop} {g : Nat} {p : PoolF} {ads adt : Option Addr} {cs ct : Nat} {A : Nat → Option Addr} {C bd : Nat → Nat} (h : PX w S g p ads cs adt ct A C bd) (hl : p.lands.length = 256) {i : Nat} (hi : i < 256) (t : Bool) (n : Nat) :
    Moved S g (setLand p i ⟨t, n, [], 0⟩) w ((((w.setCell ⟨g, 3 + i * 4, none⟩ (.bool t)).setCell ⟨g, 3 + i * 4 + 1, none⟩ (.int .i64 (n : Int))).setCell ⟨g, 3 + i * 4 + 2, none⟩ (.slice none 0 0)).setCell ⟨g, 3 + i * 4 + 3, none⟩ (.int .i64 0)) S := by
  have hk := grown_trans (grown_trans (grown_trans (grown_set w g (3 + i * 4) (.bool t)) (grown_set _ g (3 + i * 4 + 1) (.int .i64 (n : Int)))) (grown_set _ g (3 + i * 4 + 2) (.slice none 0 0))) (grown_set _ g (3 + i * 4 + 3) (.int .i64 0))
  have hb := (((h.blk.set_ (3 + i * 4) (.bool t)).set_ (3 + i * 4 + 1) (.int .i64 (n : Int))).set_ (3 + i * 4 + 2) (.slice none 0 0)).set_ (3 + i * 4 + 3) (.int .i64 0)
  have e := poolV_set4 (ads := ads) (cs := cs) (adt := adt) (ct := ct) (A := A) (C := C) hl hi ⟨t, n, [], 0⟩ none 0
  refine ⟨Chg.grown hk h.sg, fun j hj => .inl hj, ads, cs, adt, ct, _, _, bd, h.put_land hl hi ⟨t, n, [], 0⟩ none 0 (e ▸ hb) (fun j hj hne => hk.block j (h.lt j hj) (fun e => hne (Option.some.inj e))) hk.size (Owns.empty _ _ _ _) (.inl rfl)⟩
theorem Moved.after {S S' : Nat → Prop} {g : Nat} {p' : PoolF} {w v w' : World} (h : Chg S w v) (k : Moved S g p' v w' S') : Moved S g p' w w' S' :=
  ⟨h.trans k.chg (fun j hj => .inl hj), fun j hj => by
    rcases k.sub j hj with h1 | h1
    · exact .inl h1
    · exact .inr (Nat.le_trans h.size h1), k.pool⟩
theorem Moved.then {S S' S2 : Nat → Prop} {g : Nat} {p' p2 : PoolF} {w v w' : World} (h : Moved S g p' w v S') (k : Moved S' g p2 v w' S2) : Moved S g p2 w w' S2 :=
  ⟨h.chg.trans k.chg h.sub, fun j hj => by
    rcases k.sub j hj with h1 | h1
    · exact h.sub j h1
    · exact .inr (Nat.le_trans h.chg.size h1), k.pool⟩
theorem Moved.gr {S S' : Nat → Prop} {g : Nat} {p' : PoolF} {w v w' : World} (h : Moved S g p' w v S') (k : Gr v w') : Moved S g p' w w' S' :=
  ⟨h.chg.trans (S' := S) k.chg (fun j hj => .inl hj), h.sub, h.pool.gr k⟩
theorem Moved.refl {S : Nat → Prop} {g : Nat} {p : PoolF} {w : World} (h : PoolAt w S g p) : Moved S g p w w S := ⟨Chg.refl _, fun j hj => .inl hj, h⟩
end Go.Proofs.Ytpaogoehgkoaeaa
/- Layer 1 (region): the pool's small calls walked: land, Size, Make, Idle. -/
namespace Go.Proofs.Ytpaogoehgkoaeaa
set_option linter.unusedVariables false
set_option linter.unusedSimpArgs false
open Go.RowKit
set_option maxRecDepth 100000 in
theorem land_any (w : World) (S : Nat → Prop) (g : Nat) (p : PoolF) (r : Int) (h : PoolAt w S g p) :
    Calls Try.prog 43 #[.pointer (some ⟨g, 0, none⟩), .int .i64 r] w fun e w' => e = .returned (.pointer ((landF p r).map fun i => ⟨g, 3 + i * 4, none⟩)) ∧ w = w' := by
  obtain ⟨ads, cs, adt, ct, A, C, bd, hx⟩ := h
  by_cases h0 : r < 0
  · have hn : landF p r = none := by unfold landF; rw [if_neg (by omega)]
    rw [hn]
    clear hx hn
    go_enter Try.func43, Try.ntmps43
    go_wp2
    go_ret
    exact ⟨rfl, rfl⟩
  · by_cases h1 : 256 ≤ r
    · have hn : landF p r = none := by unfold landF; rw [if_neg (by omega)]
      rw [hn]
      clear hx hn
      go_enter Try.func43, Try.ntmps43
      go_wp2
      go_ret
      exact ⟨rfl, rfl⟩
    · obtain ⟨i, rfl⟩ : ∃ i : Nat, r = (i : Int) := ⟨r.toNat, by omega⟩
      have hi : i < 256 := by omega
      obtain ⟨c0, _, _, _⟩ := hx.lcell hi
      clear hx
      cases ht : (landAt p i).there with
      | false =>
        have hn : landF p (i : Int) = none := by unfold landF; rw [if_neg (by simp [ht])]
        rw [ht] at c0
        rw [hn]
        clear hn ht
        go_enter Try.func43, Try.ntmps43
        go_wp2
        go_ret
        exact ⟨rfl, rfl⟩
      | true =>
        rw [landF_of hi ht]
        rw [ht] at c0
        clear ht
        go_enter Try.func43, Try.ntmps43
        go_wp2
        go_ret
        exact ⟨rfl, rfl⟩
set_option maxRecDepth 100000 in
theorem Size_any (w : World) (S : Nat → Prop) (g : Nat) (p : PoolF) (h : PoolAt w S g p) :
    Calls Try.prog 20 #[.pointer (some ⟨g, 0, none⟩)] w fun e w' => e = .returned (.int .i64 (p.size : Int)) ∧ w = w' := by
  obtain ⟨ads, cs, adt, ct, A, C, bd, hx⟩ := h
  obtain ⟨c0, _, _⟩ := hx.head
  clear hx
  go_enter Try.func20, Try.ntmps20
  go_wp2
  go_ret
  exact ⟨rfl, rfl⟩
def makeR (p : PoolF) : Nat × Nat × PoolF := match makeF p with | some i => (i, 0, makeAt p i) | none => (0, 5, p)
set_option maxRecDepth 100000 in
theorem Make_any (w : World) (S : Nat → Prop) (g : Nat) (p : PoolF) (h : PoolAt w S g p) (hp : PoolOk p) (hgen : ∀ i, i < 256 → (landAt p i).gen ≤ 1000000000) :
    Calls Try.prog 21 #[.pointer (some ⟨g, 0, none⟩)] w fun e w' => e = .returned (.tuple #[.int .i64 ((makeR p).1 : Int), .int .i64 ((makeR p).2.1 : Int)]) ∧ Moved S g (makeR p).2.2 w w' S := by
  have HP := Lib.hid h
  obtain ⟨ads, cs, adt, ct, A, C, bd, hx⟩ := h
  have HX := Lib.hid hx
  have HL := Lib.hid hp.ln
  clear hx hp
  go_enter Try.func21, Try.ntmps21
  go_wp2
  go_loopw [8] (fun v wr => ∃ i : Nat, i ≤ 256 ∧ v = .int .i64 (i : Int) ∧ wr = w ∧ ∀ j, j < i → (landAt p j).there = true) (fun v _ => 256 - (intOf v).toNat)
  case atStart => exact ⟨0, by omega, rfl, by first | rfl | trivial, fun j hj => by omega⟩
  case round =>
    obtain ⟨i, hi, rfl, rfl, hall⟩ := hrel
    by_cases hib : i < 256
    · obtain ⟨c0, c1, c2, c3⟩ := HX.out.lcell hib
      have hg := hgen i hib
      cases ht : (landAt p i).there with
      | true =>
        rw [ht] at c0
        have HA := Lib.hid (show ∀ j, j < i + 1 → (landAt p j).there = true from fun j hj => by
          by_cases e : j = i
          · subst e; exact ht
          · exact hall j (by omega))
        clear hall ht
        go_wp2
        go_roundw
        case rel => exact ⟨i + 1, hib, by go_num, by first | rfl | trivial, HA.out⟩
        case measure => simp [intOf]; omega
      | false =>
        rw [ht] at c0
        have HM := Lib.hid (makeF_is hib ht hall)
        have f0 := HX.out.blk.frozen (3 + i * 4)
        have f1 := HX.out.blk.frozen (3 + i * 4 + 1)
        have f2 := HX.out.blk.frozen (3 + i * 4 + 2)
        have f3 := HX.out.blk.frozen (3 + i * 4 + 3)
        clear hall ht hgen
        go_wp2
        go_ret2
        unfold makeR
        rw [HM.out]
        exact ⟨rfl, HX.out.put4 HL.out hib true ((landAt p i).gen + 1)⟩
    · obtain rfl : i = 256 := by omega
      have HM := Lib.hid (makeF_isnone hall)
      clear hall
      go_wp2
      go_ret2
      unfold makeR
      rw [HM.out]
      exact ⟨rfl, Chg.refl _, fun j hj => .inl hj, HP.out⟩
theorem taken_get (l : List Bool) (i : Nat) (hi : i < l.length) : (l.map Value.bool)[i]? = some (.bool (l.getD i false)) := by
  simp [hi]
theorem filter_take_succ {l : List Bool} {i : Nat} (hi : i < l.length) : ((l.take (i + 1)).filter (!·)).length = ((l.take i).filter (!·)).length + (if l.getD i false then 0 else 1) := by
  rw [List.take_add_one, List.getElem?_eq_getElem hi, List.filter_append, List.length_append, List.getD_eq_getElem?_getD, List.getElem?_eq_getElem hi]
  cases l[i] <;> rfl
set_option maxRecDepth 100000 in
theorem Idle_any (w : World) (S : Nat → Prop) (g : Nat) (p : PoolF) (h : PoolAt w S g p) (hp : PoolOk p) :
    Calls Try.prog 12 #[.pointer (some ⟨g, 0, none⟩)] w fun e w' => e = .returned (.int .i64 (countF p : Int)) ∧ w = w' := by
  obtain ⟨ads, cs, adt, ct, A, C, bd, hx⟩ := h
  obtain ⟨_, _, c2⟩ := hx.head
  have HT := Lib.hid hx.tak.row
  have hn : p.taken.length ≤ 4096 := by rw [hp.tk]; exact hp.n2
  clear hx hp
  have hc : countF p = ((p.taken.take p.taken.length).filter (!·)).length := by rw [List.take_length]; rfl
  rw [hc]
  clear hc
  go_enter Try.func12, Try.ntmps12
  go_wp2
  go_loopw [3, 13] (fun v u wr => ∃ i : Nat, i ≤ p.taken.length ∧ u = .int .i64 (i : Int) ∧ v = .int .i64 ((((p.taken.take i).filter (!·)).length : Nat) : Int) ∧ wr = w) (fun _ u _ => p.taken.length - (intOf u).toNat)
  case atStart => exact ⟨0, Nat.zero_le _, rfl, rfl, by first | rfl | trivial⟩
  case round =>
    obtain ⟨i, hi, rfl, rfl, rfl⟩ := hrel
    by_cases hib : i < p.taken.length
    · obtain ⟨b, off, rfl, c⟩ := HT.out i _ (taken_get _ i hib)
      have HS := Lib.hid (filter_take_succ hib)
      have hcl : ((p.taken.take i).filter (!·)).length ≤ 4096 := by
        refine Nat.le_trans (List.length_filter_le _ _) ?_
        rw [List.length_take]; omega
      cases ht : p.taken.getD i false with
      | true =>
        rw [ht] at HS c
        clear ht
        go_wp2
        go_roundw
        case rel => exact ⟨i + 1, hib, by go_num, by rw [HS.out]; rfl, by first | rfl | trivial⟩
        case measure => simp [intOf]; omega
      | false =>
        rw [ht] at HS c
        clear ht
        go_wp2
        go_roundw
        case rel => exact ⟨i + 1, hib, by go_num, by rw [HS.out]; go_num, by first | rfl | trivial⟩
        case measure => simp [intOf]; omega
    · obtain rfl : i = p.taken.length := by omega
      go_wp2
      go_ret
      exact ⟨rfl, rfl⟩
def idleI (p : PoolF) : Int := match idleF p with | some s => (s : Int) | none => -1
theorem idleF_is {p : PoolF} {i : Nat} (hi : i < p.taken.length) (h0 : p.taken.getD i false = false) (h1 : ∀ j, j < i → p.taken.getD j false = true) : idleF p = some i := by
  unfold idleF
  rw [List.find?_range_eq_some]
  exact ⟨by rw [h0]; rfl, by simpa using hi, fun j hj => by rw [h1 j hj]; rfl⟩
theorem idleF_isnone {p : PoolF} (h1 : ∀ j, j < p.taken.length → p.taken.getD j false = true) : idleF p = none := by
  unfold idleF
  rw [List.find?_eq_none]
  intro j hj
  rw [h1 j (by simpa using hj)]; decide
set_option maxRecDepth 100000 in
theorem Index_any (w : World) (p : PoolF) (adt : Option Addr) (ct : Nat) (hr : Row w adt (p.taken.map Value.bool)) (hn : p.taken.length ≤ 4096) :
    Calls Try.prog 51 #[.slice adt p.taken.length ct, .bool false] w fun e w' => e = .returned (.int .i64 (idleI p)) ∧ w = w' := by
  have HT := Lib.hid hr
  clear hr
  go_enter Try.func51, Try.ntmps51
  go_wp2
  go_loopw [8] (fun v wr => ∃ i : Nat, i ≤ p.taken.length ∧ v = .int .i64 (i : Int) ∧ wr = w ∧ ∀ j, j < i → p.taken.getD j false = true) (fun v _ => p.taken.length - (intOf v).toNat)
  case atStart => exact ⟨0, Nat.zero_le _, rfl, by first | rfl | trivial, fun j hj => by omega⟩
  case round =>
    obtain ⟨i, hi, rfl, rfl, hall⟩ := hrel
    by_cases hib : i < p.taken.length
    · obtain ⟨b, off, rfl, c⟩ := HT.out i _ (taken_get _ i hib)
      cases ht : p.taken.getD i false with
      | true =>
        have HA := Lib.hid (show ∀ j, j < i + 1 → p.taken.getD j false = true from fun j hj => by
          by_cases e : j = i
          · subst e; exact ht
          · exact hall j (by omega))
        rw [ht] at c
        clear ht hall
        go_wp2
        go_roundw
        case rel => exact ⟨i + 1, hib, by go_num, by first | rfl | trivial, HA.out⟩
        case measure => simp [intOf]; omega
      | false =>
        have HM := Lib.hid (idleF_is hib ht hall)
        rw [ht] at c
        clear ht hall
        go_wp2
        go_ret
        unfold idleI
        rw [HM.out]
        exact ⟨rfl, rfl⟩
    · obtain rfl : i = p.taken.length := by omega
      have HM := Lib.hid (idleF_isnone hall)
      clear hall
      go_wp2
      go_ret
      unfold idleI
      rw [HM.out]
      exact ⟨rfl, rfl⟩
end Go.Proofs.Ytpaogoehgkoaeaa
/- Layer 1 (region): what a step does to a pool in memory; clear, copy and make of whole blocks. -/
namespace Go.Proofs.Ytpaogoehgkoaeaa
set_option linter.unusedVariables false
set_option linter.unusedSimpArgs false
open Go.RowKit
theorem elemI : Elem Try.prog 53 3 (.int .i64 0) 1 8 := ⟨by kernel_rfl, by kernel_rfl, rfl, by decide⟩
theorem elemBool : Elem Try.prog 51 4 (.bool false) 1 1 := ⟨by kernel_rfl, by kernel_rfl, rfl, by decide⟩
theorem elemRow : Elem Try.prog 52 45 (.slice none 0 0) 1 24 := ⟨by kernel_rfl, by kernel_rfl, rfl, by decide⟩
section
variable {P : Program}
theorem Blk.setRow {w : World} {b : Nat} {e : TypeId} {cs : List Value} (h : Blk w b e cs) (ds : List Value) : Blk (w.setRow b ds.toArray) b e ds := setRow_heap w b cs.toArray ds.toArray e (0, 0) h
theorem grown_setRow (w : World) (b : Nat) (cs : Array Value) : w.grownBy (w.setRow b cs) (some b) := ⟨rfl, rfl, rfl, by simp, fun k _ hk => setRow_other w b k cs (fun e => hk (by rw [e]))⟩
theorem run_clear_blk {t e ty : TypeId} {z : Value} {bytes : Nat} (E : Elem P t e z 1 bytes) (hz : z.cells = #[z]) (h1 : z.oneCell' = true) (w : World) (b : Nat) (cs : List Value) (hb : Blk w b e cs) (c : Nat) (hn : 0 < cs.length) :
    (Builtin.clear_ #[t] ty #[.slice (some ⟨b, 0, none⟩) cs.length c]).run P w = .ok (.tuple #[]) (w.setRow b (List.replicate cs.length z).toArray) := by
  obtain ⟨ht, hinfo, _, _⟩ := E
  obtain ⟨i, hi, hz0, hsize, hby⟩ := info_parts hinfo
  have hv : ∀ w, (zeroValue e).run P w = .ok z w := fun w => by simp [zeroValue, typeInfo, hi, hz0]
  have hzc : (Builtin.zeroCells z.cells cs.length).toList = List.replicate cs.length z := by
    rw [hz]
    simp [Builtin.zeroCells]
    apply List.ext_getElem
    · simp
    · intro i h1 h2
      simp [Nat.mod_one]
  have hst := run_storeCells_un (P := P) b 0 e (0, 0) (List.replicate cs.length z) 0 cs.toArray w hb (by simp) (by simp) (fun v hv' => by rw [List.eq_of_mem_replicate hv']; exact h1)
  simp only [Nat.add_zero, Nat.zero_add, List.take_zero, List.nil_append, List.length_replicate, List.drop_length, List.append_nil] at hst
  obtain ⟨m, hm⟩ : ∃ m, cs.length = m + 1 := ⟨cs.length - 1, by omega⟩
  rw [hm] at hst hzc ⊢
  simp only [Builtin.clear_]
  simp [run_underlying ht, hv, hzc, hst]
theorem wp_clear {t e : TypeId} {z : Value} {bytes : Nat} (E : Elem P t e z 1 bytes) (hz : z.cells = #[z]) (h1 : z.oneCell' = true) {w : World} {ops : Array Oper} {rest : List Oper} {o : Oper} {a : Act} {Q : Exit → Act → World → Prop} (hgd : o.guard = none) (x : Operand)
    (ho : o.op = .call { callee := .builtin .clear, args := #[x], argTypes := #[t] }) {b c n : Nat} {cs : List Value} (hx : a.eval x = .slice (some ⟨b, 0, none⟩) n c) (hb : Blk w b e cs) (hn : cs.length = n) (h0 : 0 < n)
    (h : ∀ w', Blk w' b e (List.replicate n z) → w.grownBy w' (some b) → wpList P ops Q rest (a.put o.dst (.tuple #[])) w') : wpList P ops Q (o :: rest) a w := by
  subst hn
  refine wpList_plain hgd fun K hK => ?_
  have hr := run_clear_blk (ty := o.type) E hz h1 w b cs hb c h0
  unfold Oper.wp execOp
  simp only [ho, resolve, invoke, builtin, Sem.run_bind, Sem.run_pure, Result.andThen_ok, List.map_toArray, List.map_cons, List.map_nil, hx, hr]
  exact hK _ _ (h _ (hb.setRow _) (grown_setRow _ _ _))
theorem wp_copy {dT sT e : TypeId} {z : Value} {bytes : Nat} (E : Elem P dT e z 1 bytes) {w : World} {ops : Array Oper} {rest : List Oper} {o : Oper} {a : Act} {Q : Exit → Act → World → Prop} (hgd : o.guard = none) (x y : Operand)
    (ho : o.op = .call { callee := .builtin .copy, args := #[x, y], argTypes := #[dT, sT] }) {b off dl dc sl sc : Nat} {sa xa : Option Addr} {cur src : List Value} (hx : a.eval x = .slice xa dl dc) (hxa : 0 < sl → xa = some ⟨b, off, none⟩) (hy : a.eval y = .slice sa sl sc)
    (hb : Blk w b e cur) (hs : Row w sa src) (hsl : src.length = sl) (hle : sl ≤ dl) (hfit : off + sl ≤ cur.length) (h1 : ∀ v ∈ src, v.oneCell' = true)
    (h : ∀ w', Blk w' b e (cur.take off ++ src ++ cur.drop (off + sl)) → w.grownBy w' (some b) → wpList P ops Q rest (a.put o.dst (goInt sl)) w') : wpList P ops Q (o :: rest) a w := by
  subst hsl
  refine wpList_plain hgd fun K hK => ?_
  obtain ⟨ht, hinfo, _, _⟩ := E
  obtain ⟨i, hi, _, hsize, _⟩ := info_parts hinfo
  have hsz : (P.info? e).map (·.size) = some 1 := by rw [hi]; simp [hsize]
  unfold Oper.wp execOp
  by_cases h0 : src.length = 0
  · have hr := run_copy_none (P := P) w dT sT o.type e xa sa dl dc src.length sc ht hsz (by rw [h0]; exact Nat.zero_min _)
    simp only [ho, resolve, invoke, builtin, Sem.run_bind, Sem.run_pure, Result.andThen_ok, List.map_toArray, List.map_cons, List.map_nil, hx, hy, hr]
    have := h w (by
      have : src = [] := List.eq_nil_of_length_eq_zero h0
      subst this
      simpa using hb) ((Gr.refl w).far)
    rw [h0] at this
    exact hK _ _ this
  · obtain rfl := hxa (by omega)
    cases sa with
    | none =>
      exfalso
      cases src with
      | nil => exact h0 rfl
      | cons v r => obtain ⟨_, _, hh, _⟩ := hs 0 v rfl; cases hh
    | some ad =>
      have hr := run_copy_row (P := P) w dT sT o.type e b off dl dc ad src.length sc cur.toArray e src ht hsz hb (by exact (Nat.min_eq_left hle).symm) (fun j v hj => by
        obtain ⟨bb, oo, hh, hc⟩ := hs j v hj
        cases hh
        have hadd : (⟨bb, oo, none⟩ : Addr).add j = ⟨bb, oo + j, none⟩ := by unfold Addr.add; split <;> simp_all
        rw [hadd]; exact hc) (by simpa using hfit) h1
      simp only [ho, resolve, invoke, builtin, Sem.run_bind, Sem.run_pure, Result.andThen_ok, List.map_toArray, List.map_cons, List.map_nil, hx, hy, hr]
      exact hK _ _ (h _ (hb.setRow _) (grown_setRow _ _ _))
end
section
variable {w w' : World} {S : Nat → Prop} {g : Nat} {p : PoolF} {ads adt : Option Addr} {cs ct : Nat} {A : Nat → Option Addr} {C bd : Nat → Nat}
def setTaken (p : PoolF) (s : Nat) (b : Bool) : PoolF := { p with taken := p.taken.set s b }
def setBytes (p : PoolF) (s : Nat) (b : List UInt8) : PoolF := { p with bytes := p.bytes.set s b }
theorem map_set_bool (l : List Bool) (s : Nat) (b : Bool) : (l.set s b).map Value.bool = (l.map Value.bool).set s (.bool b) := by rw [List.map_set]
theorem bytesAt_set (p : PoolF) (s i : Nat) (b : List UInt8) (hs : s < p.bytes.length) : bytesAt (setBytes p s b) i = if s = i then b else bytesAt p i := by
  unfold bytesAt setBytes
  simp only [List.getD_eq_getElem?_getD, List.getElem?_set]
  by_cases h : s = i
  · subst h; simp [hs]
  · simp [h]
/-- a slab is taken, or let go -/
theorem PX.put_taken (h : PX w S g p ads cs adt ct A C bd) {bt s : Nat} (ht : adt = some ⟨bt, 0, none⟩) (hs : s < p.taken.length) (b : Bool) :
    PX (w.setCell ⟨bt, s, none⟩ (.bool b)) S g (setTaken p s b) ads cs adt ct A C bd := by
  have k := grown_set w bt s (.bool b)
  have hne := h.blk.owns_ne h.tak (by decide) _ ht
  simp only at hne
  refine ⟨?_, h.row.grown k (fun x hx e => (h.row.ne h.tak (by decide)) x _ hx ht (Option.some.inj e)), ?_, fun i hi => (h.slab i hi).grown k (fun e => (h.slab i hi).owns_ne h.tak (by decide) _ ht (Option.some.inj e).symm), fun i hi => (h.land i hi).grown k (fun x hx e => (h.land i hi).ne h.tak (by decide) x _ hx ht (Option.some.inj e)),
    h.inj, h.sep, h.sg, h.srow, h.stak, h.sslab, h.sland, fun j hj => Nat.lt_of_lt_of_le (h.lt j hj) k.size⟩
  · have e : poolV (setTaken p s b) ads cs adt ct A C = poolV p ads cs adt ct A C := by
      unfold poolV setTaken
      simp only [List.length_set]
      rfl
    rw [e]
    exact h.blk.grown k (fun e => hne (Option.some.inj e).symm)
  · have := h.tak.store ht hs (.bool b)
    rw [← map_set_bool] at this
    show Owns _ 0 _ 1 adt ct (p.taken.set s b).length ((p.taken.set s b).map .bool)
    rw [List.length_set]
    exact this
/-- a slab's bytes are others -/
theorem PX.put_bytes (h : PX w S g p ads cs adt ct A C bd) {s : Nat} (hs : s < p.bytes.length) (l : List UInt8) (hb : Blk w' (bd s) 5 (bv l)) (k : w.grownBy w' (some (bd s))) :
    PX w' S g (setBytes p s l) ads cs adt ct A C bd := by
  have e : poolV (setBytes p s l) ads cs adt ct A C = poolV p ads cs adt ct A C := by
    unfold poolV setBytes
    simp only [List.length_set]
    rfl
  have hl : (setBytes p s l).bytes.length = p.bytes.length := List.length_set
  refine ⟨?_, ?_, h.tak.grown k (fun x hx e => (h.slab s hs).owns_ne h.tak (by decide) x hx (Option.some.inj e)), fun i hi => ?_, fun i hi => (h.land i hi).grown k (fun x hx e => (h.slab s hs).owns_ne (h.land i hi) (by decide) x hx (Option.some.inj e)),
    fun i j hi hj => h.inj i j (by omega) (by omega), h.sep, h.sg, h.srow, h.stak, fun i hi => h.sslab i (by omega), h.sland, fun j hj => Nat.lt_of_lt_of_le (h.lt j hj) k.size⟩
  · rw [e]
    exact h.blk.grown k (fun e => (h.slab s hs).ne h.blk (by decide) (Option.some.inj e).symm)
  · rw [hl]
    exact h.row.grown k (fun x hx e => (h.slab s hs).owns_ne h.row (by decide) x hx (Option.some.inj e))
  · rw [hl] at hi
    rw [bytesAt_set p s i l hs]
    by_cases e : s = i
    · subst e; rw [if_pos rfl]; exact hb
    · rw [if_neg e]
      exact (h.slab i hi).grown k (fun x => e (h.inj i s hi hs (Option.some.inj x)).symm)
theorem poolV_set1 (hl : p.lands.length = 256) {i k : Nat} (hi : i < 256) (hk : k < 4) (v : Value) (l : Land) (ad : Option Addr) (cap : Nat) (hv : (landV (landAt p i) (A i) (C i)).set k v = landV l ad cap) :
    (poolV p ads cs adt ct A C).set (3 + i * 4 + k) v = poolV (setLand p i l) ads cs adt ct (upd A i ad) (upd C i cap) := by
  rw [poolV_setLand hl hi]
  unfold poolV
  rw [head_set rfl (fun j => rfl) hi hk]
  congr 1
  refine flat_congr _ fun j hj => ?_
  by_cases e : j = i
  · subst e; rw [if_pos rfl, if_pos rfl]; exact hv
  · rw [if_neg e, if_neg e]
theorem upd_id {α : Type} (A : Nat → α) (i : Nat) : upd A i (A i) = A := by
  funext j
  by_cases h : j = i
  · subst h; rw [upd_same]
  · rw [upd_other _ _ h]
/-- how far a region is handed out -/
theorem PX.put_fill (h : PX w S g p ads cs adt ct A C bd) (hl : p.lands.length = 256) {i : Nat} (hi : i < 256) (f : Nat) :
    PX (w.setCell ⟨g, 3 + i * 4 + 3, none⟩ (.int .i64 (f : Int))) S g (fillAt p i f) ads cs adt ct A C bd := by
  have k := grown_set w g (3 + i * 4 + 3) (.int .i64 (f : Int))
  have hb := h.blk.set_ (3 + i * 4 + 3) (.int .i64 (f : Int))
  have e := poolV_set1 (ads := ads) (cs := cs) (adt := adt) (ct := ct) (A := A) (C := C) hl hi (k := 3) (by decide) (.int .i64 (f : Int)) ⟨(landAt p i).there, (landAt p i).gen, (landAt p i).slabs, f⟩ (A i) (C i) rfl
  have := h.put_land hl hi ⟨(landAt p i).there, (landAt p i).gen, (landAt p i).slabs, f⟩ (A i) (C i) (e ▸ hb) (fun j hj hne => k.block j (h.lt j hj) (fun e => hne (Option.some.inj e))) k.size
    ((h.land i hi).grown k (fun x hx e => h.blk.owns_ne (h.land i hi) (by decide) x hx (Option.some.inj e))) (.inr rfl)
  rw [upd_id, upd_id] at this
  exact this
/-- a region has a slab more -/
theorem PX.put_slab (h : PX w S g p ads cs adt ct A C bd) (hl : p.lands.length = 256) {i s : Nat} (hi : i < 256) {w4 : World} {ad : Option Addr} {cap : Nat} (k : w.grownBy w4 ((A i).map (·.block)))
    (o : Owns w4 0 3 1 ad cap ((landAt p i).slabs.length + 1) (iv ((landAt p i).slabs ++ [s]))) (f : ∀ a, ad = some a → A i = some a ∨ w.heap.size ≤ a.block) :
    ∃ S', Moved S g (setLand p i ⟨(landAt p i).there, (landAt p i).gen, (landAt p i).slabs ++ [s], (landAt p i).fill⟩) w (w4.setCell ⟨g, 3 + i * 4 + 2, none⟩ (.slice ad ((landAt p i).slabs.length + 1) cap)) S' := by
  have hAg : ∀ x, A i = some x → x.block ≠ g := h.blk.owns_ne (h.land i hi) (by decide)
  have hgl := h.lt g h.sg
  have hne : ∀ x, ad = some x → x.block ≠ g := fun x hx e => by
    rcases f x hx with h1 | h1
    · exact hAg x h1 e
    · omega
  have hk4 : ∀ j, j < w.heap.size → (∀ x, A i = some x → x.block ≠ j) → w4.heap[j]? = w.heap[j]? := fun j hj hx => k.block j hj (fun e => by
    cases hA : A i with
    | none => rw [hA] at e; cases e
    | some x => rw [hA] at e; exact hx x hA (Option.some.inj e).symm)
  have hb4 : Blk w4 g 58 (poolV p ads cs adt ct A C) := (hk4 g hgl hAg).trans h.blk
  have k5 := grown_set w4 g (3 + i * 4 + 2) (.slice ad ((landAt p i).slabs.length + 1) cap)
  have hb5 := hb4.set_ (3 + i * 4 + 2) (.slice ad ((landAt p i).slabs.length + 1) cap)
  have hlen : (landAt p i).slabs.length + 1 = ((landAt p i).slabs ++ [s]).length := by simp
  rw [poolV_set1 (ads := ads) (cs := cs) (adt := adt) (ct := ct) (A := A) (C := C) hl hi (k := 2) (by decide) (.slice ad ((landAt p i).slabs.length + 1) cap) ⟨(landAt p i).there, (landAt p i).gen, (landAt p i).slabs ++ [s], (landAt p i).fill⟩ ad cap (by rw [hlen]; rfl)] at hb5
  have hall : ∀ j, j < w.heap.size → j ≠ g → (∀ x, A i = some x → x.block ≠ j) → (w4.setCell ⟨g, 3 + i * 4 + 2, none⟩ (.slice ad ((landAt p i).slabs.length + 1) cap)).heap[j]? = w.heap[j]? := fun j hj hjg hx => (k5.block j (Nat.lt_of_lt_of_le hj k.size) (fun e => hjg (Option.some.inj e))).trans (hk4 j hj hx)
  have ha : ∀ j, landAt (setLand p i ⟨(landAt p i).there, (landAt p i).gen, (landAt p i).slabs ++ [s], (landAt p i).fill⟩) j = if i = j then ⟨(landAt p i).there, (landAt p i).gen, (landAt p i).slabs ++ [s], (landAt p i).fill⟩ else landAt p j := fun j => landAt_set p i j _ (by omega)
  refine ⟨fun j => S j ∨ (w.heap.size ≤ j ∧ j < w4.heap.size), ⟨?_, ?_, ?_⟩⟩
  · refine ⟨k5.os.trans k.os, k5.tape.trans k.tape, k5.output.trans k.output, Nat.le_trans k.size k5.size, fun j hj hn => hall j hj (fun e => hn (e ▸ h.sg)) (fun x hx e => hn (e ▸ h.sland i x hi hx))⟩
  · intro j hj
    rcases hj with h1 | h1
    · exact .inl h1
    · exact .inr h1.1
  refine ⟨ads, cs, adt, ct, upd A i ad, upd C i cap, bd, hb5, h.row.kept (fun b hb => hall b (h.lt _ (h.srow _ hb)) (h.blk.owns_ne h.row (by decide) _ hb) (fun x hx => (h.land i hi).ne h.row (by decide) x _ hx hb)), h.tak.kept (fun b hb => hall b (h.lt _ (h.stak _ hb)) (h.blk.owns_ne h.tak (by decide) _ hb) (fun x hx => (h.land i hi).ne h.tak (by decide) x _ hx hb)),
    fun j hj => (hall _ (h.lt _ (h.sslab j hj)) ((h.slab j hj).ne h.blk (by decide)) (fun x hx => (h.slab j hj).owns_ne (h.land i hi) (by decide) x hx)).trans (h.slab j hj), fun j hj => ?_, h.inj, fun a b x y ha3 hb3 hx hy hxy => ?_, .inl h.sg, fun x hx => .inl (h.srow x hx), fun x hx => .inl (h.stak x hx), fun j hj => .inl (h.sslab j hj), fun j x hj hx => ?_, fun j hj => ?_⟩
  · rw [ha]
    by_cases e : j = i
    · subst e
      rw [if_pos rfl, upd_same, upd_same]
      have := o.grown k5 (fun x hx e => hne x hx (Option.some.inj e))
      rw [hlen] at this
      simpa using this
    · rw [if_neg (fun x => e x.symm), upd_other _ _ e, upd_other _ _ e]
      exact (h.land j hj).kept (fun b hb => hall b (h.lt _ (h.sland j _ hj hb)) (h.blk.owns_ne (h.land j hj) (by decide) _ hb) (fun x hx e2 => e (h.sep i j x _ hi hj hx hb e2).symm))
  · by_cases ea : a = i
    · by_cases eb : b = i
      · omega
      · subst ea
        rw [upd_same] at hx
        rw [upd_other _ _ eb] at hy
        rcases f x hx with h1 | h1
        · exact h.sep a b x y ha3 hb3 h1 hy hxy
        · have := h.lt _ (h.sland b y hb3 hy); omega
    · rw [upd_other _ _ ea] at hx
      by_cases eb : b = i
      · subst eb
        rw [upd_same] at hy
        rcases f y hy with h1 | h1
        · exact h.sep a b x y ha3 hb3 hx h1 hxy
        · have := h.lt _ (h.sland a x ha3 hx); omega
      · rw [upd_other _ _ eb] at hy
        exact h.sep a b x y ha3 hb3 hx hy hxy
  · by_cases e : j = i
    · subst e
      rw [upd_same] at hx
      rcases f x hx with h1 | h1
      · exact .inl (h.sland j x hj h1)
      · exact .inr ⟨h1, (o.lt x hx).2⟩
    · rw [upd_other _ _ e] at hx
      exact .inl (h.sland j x hj hx)
  · rcases hj with h1 | h1
    · exact Nat.lt_of_lt_of_le (h.lt j h1) (Nat.le_trans k.size k5.size)
    · exact Nat.lt_of_lt_of_le h1.2 k5.size
end
/-- a slice of one new element of one cell -/
theorem src_cell {P : Program} {u e' : TypeId} (w : World) (v : Value) (e : TypeId) (hv : v.oneCell' = true) (hu : P.underlying u = some (.slice e')) (gb : Nat) (hgb : gb = w.heap.size) : Src P u (w.alloc (.cells #[v] e)) 1 (.slice (some ⟨gb, 0, none⟩) 1 1) 1 [v] := by
  subst hgb
  refine ⟨rfl, fun x hx => by rw [List.mem_singleton] at hx; rw [hx]; exact hv, .inl ⟨_, _, e', rfl, ?_, hu⟩⟩
  exact Row.alloc w #[v] e (0, 0) [v] rfl
theorem Moved.finish {w W3 W5 : World} {S S2 : Nat → Prop} {g : Nat} {p2 : PoolF} {ads adt : Option Addr} {cs ct : Nat} {A : Nat → Option Addr} {C bd : Nat → Nat} (h : Moved S g p2 w W3 S2) (hx : PX W3 S2 g p2 ads cs adt ct A C bd) (hl : p2.lands.length = 256) {i : Nat} (hi : i < 256) (f : Nat)
    {gh : Nat} (hg : ¬ S2 gh) (hw : w.heap.size ≤ gh) (k : (W3.setCell ⟨g, 3 + i * 4 + 3, none⟩ (.int .i64 (f : Int))).grownBy W5 (some gh)) : Moved S g (fillAt p2 i f) w W5 S2 := by
  have k1 := grown_set W3 g (3 + i * 4 + 3) (.int .i64 (f : Int))
  have hc := h.chg.trans (Chg.grown k1 hx.sg) h.sub
  have hp := hx.put_fill hl hi f
  refine ⟨⟨k.os.trans hc.os, k.tape.trans hc.tape, k.output.trans hc.output, Nat.le_trans hc.size k.size, fun j hj hn => (k.block j (Nat.lt_of_lt_of_le hj hc.size) (fun e => by have := Option.some.inj e; omega)).trans (hc.block j hj hn)⟩, h.sub, ads, cs, adt, ct, A, C, bd, hp.same (fun j hj => k.block j (hp.lt j hj) (fun e => hg ((Option.some.inj e) ▸ hj))) k.size⟩
def hdv (h : Hd) : Value := .agg #[.int .i64 h.region, .int .i64 h.gen, .int .i64 h.off, .int .i64 h.len]
theorem Blk.four {w : World} {g : Nat} {t : TypeId} {a b c d : Value} (h : Blk w g t [a, b, c, d]) : w.cell? ⟨g, 0, none⟩ = some a ∧ w.cell? ⟨g, 1, none⟩ = some b ∧ w.cell? ⟨g, 2, none⟩ = some c ∧ w.cell? ⟨g, 3, none⟩ = some d ∧ w.frozen? ⟨g, 0, none⟩ = false ∧ w.frozen? ⟨g, 1, none⟩ = false ∧ w.frozen? ⟨g, 2, none⟩ = false ∧ w.frozen? ⟨g, 3, none⟩ = false :=
  ⟨h.cell rfl, h.cell rfl, h.cell rfl, h.cell rfl, h.frozen _, h.frozen _, h.frozen _, h.frozen _⟩
theorem iv_get (l : List Nat) (i s : Nat) (h : l[i]? = some s) : (iv l)[i]? = some (.int .i64 (s : Int)) := by simp [iv, h]
theorem slabV_get {bd : Nat → Nat} {size n i : Nat} (h : i < n) : (slabV bd size n)[i]? = some (.slice (some ⟨bd i, 0, none⟩) size size) := by simp [slabV, h]
end Go.Proofs.Ytpaogoehgkoaeaa
/- Layer 1 (region): Free walked. -/
namespace Go.Proofs.Ytpaogoehgkoaeaa
set_option linter.unusedVariables false
set_option linter.unusedSimpArgs false
open Go.RowKit
theorem foldl_set_len {α β : Type} (l : List Nat) (x : β) : ∀ (b : List β), (l.foldl (fun bs s => bs.set s x) b).length = b.length := by
  induction l with
  | nil => intro b; rfl
  | cons s t ih => intro b; rw [List.foldl_cons, ih, List.length_set]
theorem freeSlabs_len (p : PoolF) (l : List Nat) : (freeSlabs p l).bytes.length = p.bytes.length ∧ (freeSlabs p l).taken.length = p.taken.length := ⟨foldl_set_len (α := Nat) l _ _, foldl_set_len (α := Nat) l _ _⟩
theorem freeSlabs_snoc (p : PoolF) (l : List Nat) (s : Nat) : freeSlabs p (l ++ [s]) = setTaken (setBytes (freeSlabs p l) s (List.replicate p.size 0xDD)) s false := by
  unfold freeSlabs setTaken setBytes
  simp only [List.foldl_append, List.foldl_cons, List.foldl_nil]
theorem setBytes_twice (p : PoolF) (s : Nat) (a b : List UInt8) : setBytes (setBytes p s a) s b = setBytes p s b := by unfold setBytes; simp only [List.set_set]
theorem poison_step (x : UInt8) (l : List UInt8) (j : Nat) (hj : j < l.length) : (List.replicate j x ++ l.drop j).set j x = List.replicate (j + 1) x ++ l.drop (j + 1) := by
  rw [List.set_append_right _ _ (by simp), List.length_replicate, Nat.sub_self, List.replicate_succ', List.append_assoc]
  congr 1
  rw [List.drop_eq_getElem_cons hj, List.set_cons_zero]
  rfl
theorem bytesAt_foldl_len (sz : Nat) (x : List UInt8) (hx : x.length = sz) : ∀ (l : List Nat) (b : List (List UInt8)), (∀ y ∈ b, y.length = sz) → ∀ y ∈ l.foldl (fun bs s => bs.set s x) b, y.length = sz
  | [], _, h => h
  | s :: t, b, h => by
    rw [List.foldl_cons]
    refine bytesAt_foldl_len sz x hx t _ fun y hy => ?_
    rcases List.mem_or_eq_of_mem_set hy with h1 | h1
    · exact h y h1
    · rw [h1]; exact hx
set_option maxRecDepth 100000 in
set_option maxHeartbeats 4000000 in
theorem Free_any (w : World) (S : Nat → Prop) (g : Nat) (p : PoolF) (r : Int) (h : PoolAt w S g p) (hp : PoolOk p) :
    Calls Try.prog 34 #[.pointer (some ⟨g, 0, none⟩), .int .i64 r] w fun e w' => e = .returned (.int .i64 ((freeF p r).1 : Int)) ∧ Moved S g (freeF p r).2 w w' S := by
  have HLA := Lib.hid (land_any w S g p r h)
  have HPO := Lib.hid h
  cases hl : landF p r with
  | none =>
    rw [hl] at HLA
    have he : freeF p r = (7, p) := by unfold freeF; rw [hl]
    rw [he]
    clear h hp he hl
    go_enter Try.func34, Try.ntmps34
    go_wp2_with (first
      | (go_at_call 43; refine HLA.out.mono ?_; rintro e w1 ⟨rfl, rfl⟩)
      | fail)
    go_ret
    exact ⟨rfl, Moved.refl HPO.out⟩
  | some i =>
    rw [hl] at HLA
    obtain ⟨rfl, hi, _⟩ := landF_some hl
    obtain ⟨ads, cs, adt, ct, A, C, bd, hx⟩ := h
    obtain ⟨L, hL⟩ : ∃ L, L = (landAt p i).slabs := ⟨_, rfl⟩
    have he : freeF p (i : Int) = (0, setLand (freeSlabs p L) i ⟨false, (landAt p i).gen, [], 0⟩) := by unfold freeF; rw [hl, hL]; rfl
    rw [he]
    obtain ⟨_, l1, l2, _⟩ := hx.lcell hi
    have hlt : ∀ s ∈ L, s < p.bytes.length := by rw [hL]; exact (hp.ld i hi).lt
    have hLl : L.length ≤ 4096 := by rw [hL]; exact Nat.le_trans (hp.ld i hi).len hp.n2
    have hs1 := hp.s1
    have hs2 := hp.s2
    have hn2 := hp.n2
    have htk := hp.tk
    have HBL := Lib.hid hp.bl
    have hln := hp.ln
    have H0 := Lib.hid (show PX w S g (freeSlabs p (L.take 0)) ads cs adt ct A C bd from hx)
    rw [← hL] at l2
    have HL := Lib.hid hL
    clear hx hp he hl hL
    go_enter Try.func34, Try.ntmps34
    go_wp2_with (first
      | (go_at_call 43; refine HLA.out.mono ?_; rintro e w1 ⟨rfl, rfl⟩)
      | fail)
    clear l1 l2
    go_loopw [21] (fun v wr => ∃ k : Nat, k ≤ L.length ∧ v = .int .i64 (k : Int) ∧ PX wr S g (freeSlabs p (L.take k)) ads cs adt ct A C bd ∧ Chg S w wr) (fun v _ => L.length - (intOf v).toNat)
    case atStart => exact ⟨0, Nat.zero_le _, rfl, H0.out, Chg.refl _⟩
    case round =>
      obtain ⟨k, hk, rfl, hx, hc⟩ := hrel
      by_cases hkl : k < L.length
      · obtain ⟨s, hs⟩ : ∃ s, L[k]? = some s := ⟨_, List.getElem?_eq_getElem hkl⟩
        have hsb : s < p.bytes.length := hlt s (List.mem_of_getElem? hs)
        have hst : s < p.taken.length := by omega
        obtain ⟨hfb, hft⟩ := freeSlabs_len p (L.take k)
        have htake : L.take (k + 1) = L.take k ++ [s] := by rw [List.take_add_one, hs]; rfl
        have HT := Lib.hid (show freeSlabs p (L.take (k + 1)) = setTaken (setBytes (freeSlabs p (L.take k)) s (List.replicate p.size 0xDD)) s false by rw [htake, freeSlabs_snoc])
        have hbs : (bytesAt (freeSlabs p (L.take k)) s).length = p.size := by
          unfold bytesAt
          rw [List.getD_eq_getElem?_getD, List.getElem?_eq_getElem (by rw [hfb]; exact hsb)]
          exact bytesAt_foldl_len p.size _ (by simp) _ _ HBL.out _ (List.getElem_mem _)
        have hlo := hx.land i hi
        have hla : (landAt (freeSlabs p (L.take k)) i).slabs = L := HL.out.symm
        rw [hla] at hlo
        obtain ⟨ba, hba, _, za⟩ := hlo.at (iv_get L k s hs)
        obtain ⟨br, hbr, _, zr⟩ := hx.row.at (slabV_get (bd := bd) (size := p.size) (by rw [hfb]; exact hsb))
        obtain ⟨_, c1, _⟩ := hx.head
        rw [hfb, hbr] at c1
        have HX := Lib.hid hx
        have HC := Lib.hid hc
        have HFB := Lib.hid hfb
        have HFT := Lib.hid hft
        have HBS := Lib.hid hbs
        clear hx hc hlo hla hs htake hfb hft hbs
        have HSZ := Lib.hid (show (freeSlabs p (L.take k)).size = p.size from rfl)
        generalize freeSlabs p (L.take k) = P at *
        go_wp2
        obtain ⟨wA, hwA⟩ : ∃ wA, wA = wr := ⟨_, rfl⟩
        have HD := Lib.hid (show bytesAt P s = List.replicate 0 0xDD ++ (bytesAt P s).drop 0 by simp)
        subst hwA
        go_loopw [33] (fun v wr => ∃ j : Nat, j ≤ p.size ∧ v = .int .i64 (j : Int) ∧ PX wr S g (setBytes P s (List.replicate j 0xDD ++ (bytesAt P s).drop j)) ads cs adt ct A C bd ∧ Chg S w wr) (fun v _ => p.size - (intOf v).toNat)
        case atStart =>
          refine ⟨0, Nat.zero_le _, rfl, ?_, HC.out⟩
          have e : setBytes P s (List.replicate 0 0xDD ++ (bytesAt P s).drop 0) = P := by
            rw [← HD.out]
            have hb : P.bytes.set s (bytesAt P s) = P.bytes := by
              unfold bytesAt
              rw [List.getD_eq_getElem?_getD, List.getElem?_eq_getElem (by rw [HFB.out]; exact hsb)]
              simp
            unfold setBytes
            rw [hb]
          rw [e]
          exact HX.out
        case round =>
          obtain ⟨j, hj, rfl, hx2, hc2⟩ := hrel
          have hlb : (setBytes P s (List.replicate j 0xDD ++ (bytesAt P s).drop j)).bytes.length = p.bytes.length := by show (P.bytes.set s _).length = _; rw [List.length_set]; exact HFB.out
          obtain ⟨_, d1, d2⟩ := hx2.head
          have hrow2 := hx2.row
          rw [show (setBytes P s (List.replicate j 0xDD ++ (bytesAt P s).drop j)).size = p.size from HSZ.out, hlb] at hrow2
          obtain ⟨br2, hbr2, _, zr2⟩ := hrow2.at (slabV_get (bd := bd) (size := p.size) hsb)
          rw [hlb, hbr2] at d1
          by_cases hjl : j < p.size
          · have hpl : (List.replicate j 0xDD ++ (bytesAt P s).drop j).length = p.size := by
              have := HBS.out
              simp; omega
            have hbl := hx2.slab s (by rw [hlb]; exact hsb)
            rw [bytesAt_set _ _ _ _ (by rw [HFB.out]; exact hsb), if_pos rfl] at hbl
            obtain ⟨xv, hcell⟩ : ∃ xv : UInt8, wr.cell? ⟨bd s, j, none⟩ = some (.int .u8 (xv.toNat : Int)) := ⟨_, hbl.cell (bv_get _ j (by rw [hpl]; exact hjl))⟩
            have hfz := hbl.frozen j
            have HPS := Lib.hid (show PX (wr.setCell ⟨bd s, j, none⟩ (.int .u8 221)) S g (setBytes P s (List.replicate (j + 1) 0xDD ++ (bytesAt P s).drop (j + 1))) ads cs adt ct A C bd by
              have h1 := hbl.set_ j (.int .u8 221)
              have h2 := hx2.put_bytes (s := s) (by rw [hlb]; exact hsb) (List.replicate (j + 1) 0xDD ++ (bytesAt P s).drop (j + 1)) (w' := wr.setCell ⟨bd s, j, none⟩ (.int .u8 221)) (by
                rw [← poison_step 0xDD _ j (by rw [HBS.out]; exact hjl), ← bv_set]; exact h1) (grown_set _ _ _ _)
              rw [setBytes_twice] at h2
              exact h2)
            have HC2 := Lib.hid (Chg.trans hc2 (Chg.grown (grown_set wr (bd s) j (.int .u8 221)) (hx2.sslab s (by rw [hlb]; exact hsb))) (fun j hj => .inl hj))
            clear hx2 hc2 hlb hpl hbl d2 hrow2
            go_wp2
            go_roundw
            case rel => exact ⟨j + 1, hjl, by go_num, HPS.out, HC2.out⟩
            case measure => simp [intOf]; omega
          · obtain rfl : j = p.size := by omega
            have hbb : List.replicate p.size 0xDD ++ (bytesAt P s).drop p.size = List.replicate p.size 0xDD := by rw [List.drop_of_length_le (by rw [HBS.out]; exact Nat.le_refl _), List.append_nil]
            rw [hbb] at hx2
            have hlt2 : (setBytes P s (List.replicate p.size 0xDD)).taken.length = p.taken.length := HFT.out
            rw [show (setBytes P s (List.replicate p.size 0xDD ++ (bytesAt P s).drop p.size)).taken.length = p.taken.length from HFT.out] at d2
            obtain ⟨bt, hbt, _, zt⟩ := hx2.tak.at (taken_get _ s (by rw [hlt2]; exact hst))
            have hfz := hx2.tak.unfrozen hbt (show s < (setBytes P s (List.replicate p.size 0xDD)).taken.length * 1 by rw [hlt2]; omega)
            rw [hbt] at d2
            have HPT := Lib.hid (hx2.put_taken hbt (show s < (setBytes P s (List.replicate p.size 0xDD)).taken.length by rw [hlt2]; exact hst) false)
            have HC2 := Lib.hid (Chg.trans hc2 (Chg.grown (grown_set wr bt s (.bool false)) (hx2.stak _ hbt)) (fun j hj => .inl hj))
            clear hx2 hc2 hlb hbb hlt2 hrow2
            go_wp2
            go_roundw
            case rel => exact ⟨k + 1, hkl, by go_num, by rw [HT.out]; exact HPT.out, HC2.out⟩
            case measure => simp [intOf]; omega
      · obtain rfl : k = L.length := by omega
        rw [List.take_length] at hx
        obtain ⟨_, l1, l2, l3⟩ := hx.lcell hi
        have f0 := hx.blk.frozen (3 + i * 4)
        have f1 := hx.blk.frozen (3 + i * 4 + 1)
        have f2 := hx.blk.frozen (3 + i * 4 + 2)
        have f3 := hx.blk.frozen (3 + i * 4 + 3)
        have l1' : wr.cell? ⟨g, 3 + i * 4 + 1, none⟩ = some (.int .i64 ((landAt p i).gen : Int)) := l1
        have HPF := Lib.hid (hx.put4 (show (freeSlabs p L).lands.length = 256 from hln) hi false (landAt p i).gen)
        have HC := Lib.hid hc
        clear hx hc l1
        go_wp2
        go_ret
        exact ⟨rfl, HPF.out.after HC.out⟩
end Go.Proofs.Ytpaogoehgkoaeaa
/- Layer 1 (region): a piece of a region, walked. -/
namespace Go.Proofs.Ytpaogoehgkoaeaa
set_option linter.unusedVariables false
set_option linter.unusedSimpArgs false
open Go.RowKit
theorem pieceF_ok {p : PoolF} {h : Hd} {s k : Nat} (hp : PoolOk p) (e : pieceF p h = ((s, k), 0)) : ∃ i o l : Nat, landF p h.region = some i ∧ i < 256 ∧ h.off = (o : Int) ∧ h.len = (l : Int) ∧ h.region = (i : Int) ∧ h.gen = ((landAt p i).gen : Int) ∧ 1 ≤ l ∧ o + l ≤ (landAt p i).fill ∧
    o / p.size < (landAt p i).slabs.length ∧ (landAt p i).slabs[o / p.size]? = some s ∧ k = o % p.size ∧ k + l ≤ p.size ∧ s < p.bytes.length := by
  unfold pieceF at e
  cases hl : landF p h.region with
  | none => rw [hl] at e; simp at e
  | some i =>
    obtain ⟨e0, hi, hth⟩ := landF_some hl
    have hlk := hp.ld i hi
    have hfl := hlk.fill_le
    have hs1 := hp.s1
    rw [hl] at e
    simp only at e
    split at e
    · simp at e
    · rename_i hg
      split at e
      · simp at e
      · rename_i hb
        split at e
        · simp at e
        · rename_i hf
          simp only [Prod.mk.injEq, and_true] at e
          have ho : h.off = ((h.off.toNat : Nat) : Int) := by omega
          have hln : h.len = ((h.len.toNat : Nat) : Int) := by omega
          have hlt : h.off.toNat / p.size < (landAt p i).slabs.length := by
            rw [Nat.div_lt_iff_lt_mul (by omega)]; omega
          have hsl : (landAt p i).slabs[h.off.toNat / p.size]? = some s := by
            rw [List.getElem?_eq_getElem hlt, ← e.1, List.getD_eq_getElem?_getD, List.getElem?_eq_getElem hlt]; rfl
          refine ⟨i, h.off.toNat, h.len.toNat, rfl, hi, ho, hln, e0, by omega, by omega, by omega, hlt, hsl, e.2.symm, by omega, ?_⟩
          exact hlk.lt s (List.mem_of_getElem? hsl)
set_option maxRecDepth 100000 in
set_option maxHeartbeats 4000000 in
theorem piece_e1 (w : World) (S : Nat → Prop) (g : Nat) (p : PoolF) (ads adt : Option Addr) (cs ct : Nat) (A : Nat → Option Addr) (C bd : Nat → Nat) (i : Nat) (hx : PX w S g p ads cs adt ct A C bd) (hl : landF p (i : Int) = some i) (hi : i < 256) (hs1 : 64 ≤ p.size) (hs2 : p.size ≤ 65536) (hfm : (landAt p i).fill ≤ 268435456) (of ln : Int) (hb : ln < 1) :
    Calls Try.prog 45 #[.pointer (some ⟨g, 0, none⟩), .agg #[.int .i64 (i : Int), .int .i64 ((landAt p i).gen : Int), .int .i64 of, .int .i64 ln]] w fun e w' => e = .returned (.tuple #[.slice none 0 0, .int .i64 1]) ∧ Gr w w' := by
  have HLA := Lib.hid (fun w' (k : Gr w w') => land_any w' S g p (i : Int) ⟨ads, cs, adt, ct, A, C, bd, hx.gr k⟩)
  rw [hl] at HLA
  have hx1 := hx.gr (Gr.alloc w (.cells #[.int .i64 (i : Int), .int .i64 ((landAt p i).gen : Int), .int .i64 of, .int .i64 ln] 78))
  obtain ⟨c0, c1, _⟩ := hx1.head
  obtain ⟨_, l1, l2, l3⟩ := hx1.lcell hi
  obtain ⟨h0, h1, h2, h3, _⟩ := Blk.four (Blk.new w 78 #[.int .i64 (i : Int), .int .i64 ((landAt p i).gen : Int), .int .i64 of, .int .i64 ln])
  clear hx1
  clear hx hl
  go_enter Try.func45, Try.ntmps45
  go_wp2_with (first
    | (go_at_call 43; refine (HLA.out _ (Gr.alloc _ _)).mono ?_; rintro e w1 ⟨rfl, rfl⟩)
    | fail)
  go_quiet (fail)
  have gV : Gr (w.alloc (.cells #[.int .i64 (i : Int), .int .i64 ((landAt p i).gen : Int), .int .i64 of, .int .i64 ln] 78)) ((w.alloc (.cells #[.int .i64 (i : Int), .int .i64 ((landAt p i).gen : Int), .int .i64 of, .int .i64 ln] 78)).drewN nq) := Gr.drewN _ nq
  have c0a := gV.cell c0
  have c1a := gV.cell c1
  have l1a := gV.cell l1
  have l2a := gV.cell l2
  have l3a := gV.cell l3
  have h1a := gV.cell h1
  have h2a := gV.cell h2
  have h3a := gV.cell h3

  have GW : Gr w ((w.alloc (.cells #[.int .i64 (i : Int), .int .i64 ((landAt p i).gen : Int), .int .i64 of, .int .i64 ln] 78)).drewN nq) := (Gr.alloc w _).trans gV
  clear gV c0 c1 l1 l2 l3 h0 h1 h2 h3
  generalize (w.alloc (.cells #[.int .i64 (i : Int), .int .i64 ((landAt p i).gen : Int), .int .i64 of, .int .i64 ln] 78)).drewN nq = V at *
  go_wp2
  clear c0a c1a l1a l2a
  go_quiet (fail)
  go_wp2
  go_ret2
  exact ⟨rfl, GW.trans (Gr.drewN _ _)⟩

set_option maxRecDepth 100000 in
set_option maxHeartbeats 4000000 in
theorem piece_e2 (w : World) (S : Nat → Prop) (g : Nat) (p : PoolF) (ads adt : Option Addr) (cs ct : Nat) (A : Nat → Option Addr) (C bd : Nat → Nat) (i : Nat) (hx : PX w S g p ads cs adt ct A C bd) (hl : landF p (i : Int) = some i) (hi : i < 256) (hs1 : 64 ≤ p.size) (hs2 : p.size ≤ 65536) (hfm : (landAt p i).fill ≤ 268435456) (of ln : Int) (hb0 : ¬ ln < 1) (hb : of < 0) :
    Calls Try.prog 45 #[.pointer (some ⟨g, 0, none⟩), .agg #[.int .i64 (i : Int), .int .i64 ((landAt p i).gen : Int), .int .i64 of, .int .i64 ln]] w fun e w' => e = .returned (.tuple #[.slice none 0 0, .int .i64 1]) ∧ Gr w w' := by
  have HLA := Lib.hid (fun w' (k : Gr w w') => land_any w' S g p (i : Int) ⟨ads, cs, adt, ct, A, C, bd, hx.gr k⟩)
  rw [hl] at HLA
  have hx1 := hx.gr (Gr.alloc w (.cells #[.int .i64 (i : Int), .int .i64 ((landAt p i).gen : Int), .int .i64 of, .int .i64 ln] 78))
  obtain ⟨c0, c1, _⟩ := hx1.head
  obtain ⟨_, l1, l2, l3⟩ := hx1.lcell hi
  obtain ⟨h0, h1, h2, h3, _⟩ := Blk.four (Blk.new w 78 #[.int .i64 (i : Int), .int .i64 ((landAt p i).gen : Int), .int .i64 of, .int .i64 ln])
  have k1 : decide (ln < 1) = false := decide_eq_false hb0
  have k2 : decide (of < 0) = true := decide_eq_true hb
  clear hb0 hb
  clear hx1
  clear hx hl
  go_enter Try.func45, Try.ntmps45
  go_wp2_with (first
    | (go_at_call 43; refine (HLA.out _ (Gr.alloc _ _)).mono ?_; rintro e w1 ⟨rfl, rfl⟩)
    | fail)
  go_quiet (fail)
  have gV : Gr (w.alloc (.cells #[.int .i64 (i : Int), .int .i64 ((landAt p i).gen : Int), .int .i64 of, .int .i64 ln] 78)) ((w.alloc (.cells #[.int .i64 (i : Int), .int .i64 ((landAt p i).gen : Int), .int .i64 of, .int .i64 ln] 78)).drewN nq) := Gr.drewN _ nq
  have c0a := gV.cell c0
  have c1a := gV.cell c1
  have l1a := gV.cell l1
  have l2a := gV.cell l2
  have l3a := gV.cell l3
  have h1a := gV.cell h1
  have h2a := gV.cell h2
  have h3a := gV.cell h3

  have GW : Gr w ((w.alloc (.cells #[.int .i64 (i : Int), .int .i64 ((landAt p i).gen : Int), .int .i64 of, .int .i64 ln] 78)).drewN nq) := (Gr.alloc w _).trans gV
  clear gV c0 c1 l1 l2 l3 h0 h1 h2 h3
  generalize (w.alloc (.cells #[.int .i64 (i : Int), .int .i64 ((landAt p i).gen : Int), .int .i64 of, .int .i64 ln] 78)).drewN nq = V at *
  go_wp2
  clear c0a c1a l1a l2a
  go_quiet (fail)
  go_wp2
  go_ret2
  exact ⟨rfl, GW.trans (Gr.drewN _ _)⟩

set_option maxRecDepth 100000 in
set_option maxHeartbeats 4000000 in
theorem piece_e3 (w : World) (S : Nat → Prop) (g : Nat) (p : PoolF) (ads adt : Option Addr) (cs ct : Nat) (A : Nat → Option Addr) (C bd : Nat → Nat) (i : Nat) (hx : PX w S g p ads cs adt ct A C bd) (hl : landF p (i : Int) = some i) (hi : i < 256) (hs1 : 64 ≤ p.size) (hs2 : p.size ≤ 65536) (hfm : (landAt p i).fill ≤ 268435456) (o l : Nat) (hb0 : 1 ≤ l) (hb : o > (landAt p i).fill) :
    Calls Try.prog 45 #[.pointer (some ⟨g, 0, none⟩), .agg #[.int .i64 (i : Int), .int .i64 ((landAt p i).gen : Int), .int .i64 (o : Int), .int .i64 (l : Int)]] w fun e w' => e = .returned (.tuple #[.slice none 0 0, .int .i64 1]) ∧ Gr w w' := by
  have HLA := Lib.hid (fun w' (k : Gr w w') => land_any w' S g p (i : Int) ⟨ads, cs, adt, ct, A, C, bd, hx.gr k⟩)
  rw [hl] at HLA
  have hx1 := hx.gr (Gr.alloc w (.cells #[.int .i64 (i : Int), .int .i64 ((landAt p i).gen : Int), .int .i64 (o : Int), .int .i64 (l : Int)] 78))
  obtain ⟨c0, c1, _⟩ := hx1.head
  obtain ⟨_, l1, l2, l3⟩ := hx1.lcell hi
  obtain ⟨h0, h1, h2, h3, _⟩ := Blk.four (Blk.new w 78 #[.int .i64 (i : Int), .int .i64 ((landAt p i).gen : Int), .int .i64 (o : Int), .int .i64 (l : Int)])
  have k1 : decide ((l : Int) < 1) = false := decide_eq_false (by omega)
  have k2 : decide ((o : Int) < 0) = false := decide_eq_false (by omega)
  have k3 : decide (((landAt p i).fill : Int) < (o : Int)) = true := decide_eq_true (by omega)
  have k4 : decide ((landAt p i).fill < o) = true := decide_eq_true (by omega)
  clear hx1
  clear hx hl
  go_enter Try.func45, Try.ntmps45
  go_wp2_with (first
    | (go_at_call 43; refine (HLA.out _ (Gr.alloc _ _)).mono ?_; rintro e w1 ⟨rfl, rfl⟩)
    | fail)
  go_quiet (fail)
  have gV : Gr (w.alloc (.cells #[.int .i64 (i : Int), .int .i64 ((landAt p i).gen : Int), .int .i64 (o : Int), .int .i64 (l : Int)] 78)) ((w.alloc (.cells #[.int .i64 (i : Int), .int .i64 ((landAt p i).gen : Int), .int .i64 (o : Int), .int .i64 (l : Int)] 78)).drewN nq) := Gr.drewN _ nq
  have c0a := gV.cell c0
  have c1a := gV.cell c1
  have l1a := gV.cell l1
  have l2a := gV.cell l2
  have l3a := gV.cell l3
  have h1a := gV.cell h1
  have h2a := gV.cell h2
  have h3a := gV.cell h3

  have GW : Gr w ((w.alloc (.cells #[.int .i64 (i : Int), .int .i64 ((landAt p i).gen : Int), .int .i64 (o : Int), .int .i64 (l : Int)] 78)).drewN nq) := (Gr.alloc w _).trans gV
  clear gV c0 c1 l1 l2 l3 h0 h1 h2 h3
  generalize (w.alloc (.cells #[.int .i64 (i : Int), .int .i64 ((landAt p i).gen : Int), .int .i64 (o : Int), .int .i64 (l : Int)] 78)).drewN nq = V at *
  go_wp2
  clear c0a c1a l1a l2a
  go_quiet (fail)
  go_wp2
  go_ret2
  exact ⟨rfl, GW.trans (Gr.drewN _ _)⟩

set_option maxRecDepth 100000 in
set_option maxHeartbeats 4000000 in
theorem piece_e4 (w : World) (S : Nat → Prop) (g : Nat) (p : PoolF) (ads adt : Option Addr) (cs ct : Nat) (A : Nat → Option Addr) (C bd : Nat → Nat) (i : Nat) (hx : PX w S g p ads cs adt ct A C bd) (hl : landF p (i : Int) = some i) (hi : i < 256) (hs1 : 64 ≤ p.size) (hs2 : p.size ≤ 65536) (hfm : (landAt p i).fill ≤ 268435456) (o l : Nat) (hb0 : 1 ≤ l) (hb1 : o ≤ (landAt p i).fill) (hb : l > (landAt p i).fill - o) :
    Calls Try.prog 45 #[.pointer (some ⟨g, 0, none⟩), .agg #[.int .i64 (i : Int), .int .i64 ((landAt p i).gen : Int), .int .i64 (o : Int), .int .i64 (l : Int)]] w fun e w' => e = .returned (.tuple #[.slice none 0 0, .int .i64 1]) ∧ Gr w w' := by
  have HLA := Lib.hid (fun w' (k : Gr w w') => land_any w' S g p (i : Int) ⟨ads, cs, adt, ct, A, C, bd, hx.gr k⟩)
  rw [hl] at HLA
  have hx1 := hx.gr (Gr.alloc w (.cells #[.int .i64 (i : Int), .int .i64 ((landAt p i).gen : Int), .int .i64 (o : Int), .int .i64 (l : Int)] 78))
  obtain ⟨c0, c1, _⟩ := hx1.head
  obtain ⟨_, l1, l2, l3⟩ := hx1.lcell hi
  obtain ⟨h0, h1, h2, h3, _⟩ := Blk.four (Blk.new w 78 #[.int .i64 (i : Int), .int .i64 ((landAt p i).gen : Int), .int .i64 (o : Int), .int .i64 (l : Int)])
  have k1 : decide ((l : Int) < 1) = false := decide_eq_false (by omega)
  have k2 : decide ((o : Int) < 0) = false := decide_eq_false (by omega)
  have k3 : decide (((landAt p i).fill : Int) < (o : Int)) = false := decide_eq_false (by omega)
  have k4 : decide ((landAt p i).fill < o) = false := decide_eq_false (by omega)
  obtain ⟨q, hq⟩ : ∃ q, q = (landAt p i).fill - o := ⟨_, rfl⟩
  have hqi : ((landAt p i).fill : Int) - (o : Int) = (q : Int) := by omega
  have k5 : decide ((q : Int) < (l : Int)) = true := decide_eq_true (by omega)
  have k6 : decide (q < l) = true := decide_eq_true (by omega)
  clear hq
  clear hx1
  clear hx hl
  go_enter Try.func45, Try.ntmps45
  go_wp2_with (first
    | (go_at_call 43; refine (HLA.out _ (Gr.alloc _ _)).mono ?_; rintro e w1 ⟨rfl, rfl⟩)
    | fail)
  go_quiet (fail)
  have gV : Gr (w.alloc (.cells #[.int .i64 (i : Int), .int .i64 ((landAt p i).gen : Int), .int .i64 (o : Int), .int .i64 (l : Int)] 78)) ((w.alloc (.cells #[.int .i64 (i : Int), .int .i64 ((landAt p i).gen : Int), .int .i64 (o : Int), .int .i64 (l : Int)] 78)).drewN nq) := Gr.drewN _ nq
  have c0a := gV.cell c0
  have c1a := gV.cell c1
  have l1a := gV.cell l1
  have l2a := gV.cell l2
  have l3a := gV.cell l3
  have h1a := gV.cell h1
  have h2a := gV.cell h2
  have h3a := gV.cell h3

  have GW : Gr w ((w.alloc (.cells #[.int .i64 (i : Int), .int .i64 ((landAt p i).gen : Int), .int .i64 (o : Int), .int .i64 (l : Int)] 78)).drewN nq) := (Gr.alloc w _).trans gV
  clear gV c0 c1 l1 l2 l3 h0 h1 h2 h3
  generalize (w.alloc (.cells #[.int .i64 (i : Int), .int .i64 ((landAt p i).gen : Int), .int .i64 (o : Int), .int .i64 (l : Int)] 78)).drewN nq = V at *
  go_wp2
  clear c0a c1a l1a l2a
  go_quiet (fail)
  go_wp2
  go_ret2
  exact ⟨rfl, GW.trans (Gr.drewN _ _)⟩

end Go.Proofs.Ytpaogoehgkoaeaa
/- Layer 1 (region): a piece of a region, walked: the other cases. -/
namespace Go.Proofs.Ytpaogoehgkoaeaa
set_option linter.unusedVariables false
set_option linter.unusedSimpArgs false
open Go.RowKit
set_option maxRecDepth 100000 in
set_option maxHeartbeats 4000000 in
theorem piece_e5 (w : World) (S : Nat → Prop) (g : Nat) (p : PoolF) (ads adt : Option Addr) (cs ct : Nat) (A : Nat → Option Addr) (C bd : Nat → Nat) (i : Nat) (hx : PX w S g p ads cs adt ct A C bd) (hl : landF p (i : Int) = some i) (hi : i < 256) (hs1 : 64 ≤ p.size) (hs2 : p.size ≤ 65536) (hfm : (landAt p i).fill ≤ 268435456) (o l : Nat) (hb0 : 1 ≤ l) (hb1 : o ≤ (landAt p i).fill) (hb : l ≤ (landAt p i).fill - o) (hk2 : o % p.size + l > p.size) :
    Calls Try.prog 45 #[.pointer (some ⟨g, 0, none⟩), .agg #[.int .i64 (i : Int), .int .i64 ((landAt p i).gen : Int), .int .i64 (o : Int), .int .i64 (l : Int)]] w fun e w' => e = .returned (.tuple #[.slice none 0 0, .int .i64 1]) ∧ Gr w w' := by
  have HLA := Lib.hid (fun w' (k : Gr w w') => land_any w' S g p (i : Int) ⟨ads, cs, adt, ct, A, C, bd, hx.gr k⟩)
  rw [hl] at HLA
  have hx1 := hx.gr (Gr.alloc w (.cells #[.int .i64 (i : Int), .int .i64 ((landAt p i).gen : Int), .int .i64 (o : Int), .int .i64 (l : Int)] 78))
  obtain ⟨c0, c1, _⟩ := hx1.head
  obtain ⟨_, l1, l2, l3⟩ := hx1.lcell hi
  obtain ⟨h0, h1, h2, h3, _⟩ := Blk.four (Blk.new w 78 #[.int .i64 (i : Int), .int .i64 ((landAt p i).gen : Int), .int .i64 (o : Int), .int .i64 (l : Int)])
  have k1 : decide ((l : Int) < 1) = false := decide_eq_false (by omega)
  have k2 : decide ((o : Int) < 0) = false := decide_eq_false (by omega)
  have k3 : decide (((landAt p i).fill : Int) < (o : Int)) = false := decide_eq_false (by omega)
  have k4 : decide ((landAt p i).fill < o) = false := decide_eq_false (by omega)
  obtain ⟨q, hq⟩ : ∃ q, q = (landAt p i).fill - o := ⟨_, rfl⟩
  have hqi : ((landAt p i).fill : Int) - (o : Int) = (q : Int) := by omega
  have k5 : decide ((q : Int) < (l : Int)) = false := decide_eq_false (by omega)
  have k6 : decide (q < l) = false := decide_eq_false (by omega)
  obtain ⟨k, hk⟩ : ∃ k, k = o % p.size := ⟨_, rfl⟩
  have hkt : (o : Int).tmod (p.size : Int) = (k : Int) := by rw [hk]; rfl
  have hkl : k < p.size := by rw [hk]; exact Nat.mod_lt _ (by omega)
  rw [← hk] at hk2
  have hz : ((p.size : Int) == 0) = false := beq_eq_false_iff_ne.2 (by omega)
  clear hk
  clear hq
  clear hx1
  clear hx hl
  go_enter Try.func45, Try.ntmps45
  go_wp2_with (first
    | (go_at_call 43; refine (HLA.out _ (Gr.alloc _ _)).mono ?_; rintro e w1 ⟨rfl, rfl⟩)
    | fail)
  go_quiet (fail)
  have gV : Gr (w.alloc (.cells #[.int .i64 (i : Int), .int .i64 ((landAt p i).gen : Int), .int .i64 (o : Int), .int .i64 (l : Int)] 78)) ((w.alloc (.cells #[.int .i64 (i : Int), .int .i64 ((landAt p i).gen : Int), .int .i64 (o : Int), .int .i64 (l : Int)] 78)).drewN nq) := Gr.drewN _ nq
  have c0a := gV.cell c0
  have c1a := gV.cell c1
  have l1a := gV.cell l1
  have l2a := gV.cell l2
  have l3a := gV.cell l3
  have h1a := gV.cell h1
  have h2a := gV.cell h2
  have h3a := gV.cell h3

  have GW : Gr w ((w.alloc (.cells #[.int .i64 (i : Int), .int .i64 ((landAt p i).gen : Int), .int .i64 (o : Int), .int .i64 (l : Int)] 78)).drewN nq) := (Gr.alloc w _).trans gV
  clear gV c0 c1 l1 l2 l3 h0 h1 h2 h3
  generalize (w.alloc (.cells #[.int .i64 (i : Int), .int .i64 ((landAt p i).gen : Int), .int .i64 (o : Int), .int .i64 (l : Int)] 78)).drewN nq = V at *
  go_wp2
  clear c1a l1a l2a
  go_quiet (fail)
  go_wp2
  go_quiet (fail)
  go_wp2
  go_quiet (fail)
  go_wp2
  go_ret2
  exact ⟨rfl, ((GW.trans (Gr.drewN _ _)).trans (Gr.drewN _ _)).trans (Gr.drewN _ _)⟩

set_option maxRecDepth 100000 in
set_option maxHeartbeats 4000000 in
theorem piece_ok (w : World) (S : Nat → Prop) (g : Nat) (p : PoolF) (ads adt : Option Addr) (cs ct : Nat) (A : Nat → Option Addr) (C bd : Nat → Nat) (i : Nat) (hx : PX w S g p ads cs adt ct A C bd) (hl : landF p (i : Int) = some i) (hi : i < 256) (hs1 : 64 ≤ p.size) (hs2 : p.size ≤ 65536) (hfm : (landAt p i).fill ≤ 268435456) (o l : Nat) (hb0 : 1 ≤ l) (hb1 : o ≤ (landAt p i).fill) (hb : l ≤ (landAt p i).fill - o) (hk2 : ¬ o % p.size + l > p.size) (s : Nat) (hdl : o / p.size < (landAt p i).slabs.length) (hs : (landAt p i).slabs[o / p.size]? = some s) (hsb : s < p.bytes.length) (hnl : p.bytes.length ≤ 4096) (hln : (landAt p i).slabs.length ≤ 4096) :
    Calls Try.prog 45 #[.pointer (some ⟨g, 0, none⟩), .agg #[.int .i64 (i : Int), .int .i64 ((landAt p i).gen : Int), .int .i64 (o : Int), .int .i64 (l : Int)]] w fun e w' => e = .returned (.tuple #[.slice (some ⟨bd s, o % p.size, none⟩) l (p.size - o % p.size), .int .i64 0]) ∧ Gr w w' := by
  have HLA := Lib.hid (fun w' (k : Gr w w') => land_any w' S g p (i : Int) ⟨ads, cs, adt, ct, A, C, bd, hx.gr k⟩)
  rw [hl] at HLA
  have hx1 := hx.gr (Gr.alloc w (.cells #[.int .i64 (i : Int), .int .i64 ((landAt p i).gen : Int), .int .i64 (o : Int), .int .i64 (l : Int)] 78))
  obtain ⟨c0, c1, _⟩ := hx1.head
  obtain ⟨_, l1, l2, l3⟩ := hx1.lcell hi
  obtain ⟨h0, h1, h2, h3, _⟩ := Blk.four (Blk.new w 78 #[.int .i64 (i : Int), .int .i64 ((landAt p i).gen : Int), .int .i64 (o : Int), .int .i64 (l : Int)])
  have k1 : decide ((l : Int) < 1) = false := decide_eq_false (by omega)
  have k2 : decide ((o : Int) < 0) = false := decide_eq_false (by omega)
  have k3 : decide (((landAt p i).fill : Int) < (o : Int)) = false := decide_eq_false (by omega)
  have k4 : decide ((landAt p i).fill < o) = false := decide_eq_false (by omega)
  obtain ⟨q, hq⟩ : ∃ q, q = (landAt p i).fill - o := ⟨_, rfl⟩
  have hqi : ((landAt p i).fill : Int) - (o : Int) = (q : Int) := by omega
  have k5 : decide ((q : Int) < (l : Int)) = false := decide_eq_false (by omega)
  have k6 : decide (q < l) = false := decide_eq_false (by omega)
  obtain ⟨k, hk⟩ : ∃ k, k = o % p.size := ⟨_, rfl⟩
  have hkt : (o : Int).tmod (p.size : Int) = (k : Int) := by rw [hk]; rfl
  have hkl : k < p.size := by rw [hk]; exact Nat.mod_lt _ (by omega)
  obtain ⟨d, hd⟩ : ∃ d, d = o / p.size := ⟨_, rfl⟩
  have hdt : (o : Int).tdiv (p.size : Int) = (d : Int) := by rw [hd]; rfl
  rw [← hk] at hk2 ⊢
  rw [← hd] at hdl hs
  have hz : ((p.size : Int) == 0) = false := beq_eq_false_iff_ne.2 (by omega)
  obtain ⟨ba, hba, _, za⟩ := (hx1.land i hi).at (iv_get _ d s hs)
  obtain ⟨br, hbr, _, zr⟩ := hx1.row.at (slabV_get (bd := bd) (size := p.size) hsb)
  rw [hba] at l2
  rw [hbr] at c1
  have hk3 : k + l ≤ p.size := by omega
  clear hk hd hs hk2
  clear hq
  clear hx1
  clear hx hl
  go_enter Try.func45, Try.ntmps45
  go_wp2_with (first
    | (go_at_call 43; refine (HLA.out _ (Gr.alloc _ _)).mono ?_; rintro e w1 ⟨rfl, rfl⟩)
    | fail)
  go_quiet (fail)
  have gV : Gr (w.alloc (.cells #[.int .i64 (i : Int), .int .i64 ((landAt p i).gen : Int), .int .i64 (o : Int), .int .i64 (l : Int)] 78)) ((w.alloc (.cells #[.int .i64 (i : Int), .int .i64 ((landAt p i).gen : Int), .int .i64 (o : Int), .int .i64 (l : Int)] 78)).drewN nq) := Gr.drewN _ nq
  have c0a := gV.cell c0
  have c1a := gV.cell c1
  have l1a := gV.cell l1
  have l2a := gV.cell l2
  have l3a := gV.cell l3
  have h1a := gV.cell h1
  have h2a := gV.cell h2
  have h3a := gV.cell h3

  have zaa := gV.cell za
  have zra := gV.cell zr
  have GW : Gr w ((w.alloc (.cells #[.int .i64 (i : Int), .int .i64 ((landAt p i).gen : Int), .int .i64 (o : Int), .int .i64 (l : Int)] 78)).drewN nq) := (Gr.alloc w _).trans gV
  clear gV za zr c0 c1 l1 l2 l3 h0 h1 h2 h3
  generalize (w.alloc (.cells #[.int .i64 (i : Int), .int .i64 ((landAt p i).gen : Int), .int .i64 (o : Int), .int .i64 (l : Int)] 78)).drewN nq = V at *
  go_wp2
  clear l1a
  go_quiet (fail)
  go_wp2
  go_quiet (fail)
  go_wp2
  go_quiet (fail)
  go_wp2
  go_quiet (fail)
  go_wp2
  go_ret2
  refine ⟨?_, (((GW.trans (Gr.drewN _ _)).trans (Gr.drewN _ _)).trans (Gr.drewN _ _)).trans (Gr.drewN _ _)⟩
  show Ending.returned (.tuple #[.slice (some ⟨bd s, k, none⟩) (k + l - k) (p.size - k), .int .i64 0]) = _
  rw [Nat.add_sub_cancel_left]

def pieceV (bd : Nat → Nat) (p : PoolF) (h : Hd) : Value := match pieceF p h with
  | ((s, k), 0) => .tuple #[.slice (some ⟨bd s, k, none⟩) h.len.toNat (p.size - k), .int .i64 0]
  | (_, e) => .tuple #[.slice none 0 0, .int .i64 (e : Int)]
set_option maxRecDepth 100000 in
set_option maxHeartbeats 4000000 in
theorem piece_n (w : World) (S : Nat → Prop) (g : Nat) (p : PoolF) (r gn of ln : Int) (h : PoolAt w S g p) (hl : landF p r = none) :
    Calls Try.prog 45 #[.pointer (some ⟨g, 0, none⟩), .agg #[.int .i64 r, .int .i64 gn, .int .i64 of, .int .i64 ln]] w fun e w' => e = .returned (.tuple #[.slice none 0 0, .int .i64 3]) ∧ Gr w w' := by
  have HLA := Lib.hid (fun w' (k : Gr w w') => land_any w' S g p r (h.gr k))
  rw [hl] at HLA
  clear h hl
  go_enter Try.func45, Try.ntmps45
  go_wp2_with (first
    | (go_at_call 43; refine (HLA.out _ (Gr.alloc _ _)).mono ?_; rintro e w1 ⟨rfl, rfl⟩)
    | fail)
  go_quiet (fail)
  go_wp2
  go_ret2
  exact ⟨rfl, (Gr.alloc _ _).trans (Gr.drewN _ _)⟩
set_option maxRecDepth 100000 in
set_option maxHeartbeats 4000000 in
theorem piece_g (w : World) (S : Nat → Prop) (g : Nat) (p : PoolF) (i : Nat) (gn of ln : Int) (h : PoolAt w S g p) (hl : landF p (i : Int) = some i) (hi : i < 256) (hg : ((landAt p i).gen : Int) ≠ gn) :
    Calls Try.prog 45 #[.pointer (some ⟨g, 0, none⟩), .agg #[.int .i64 (i : Int), .int .i64 gn, .int .i64 of, .int .i64 ln]] w fun e w' => e = .returned (.tuple #[.slice none 0 0, .int .i64 3]) ∧ Gr w w' := by
  have HLA := Lib.hid (fun w' (k : Gr w w') => land_any w' S g p (i : Int) (h.gr k))
  rw [hl] at HLA
  obtain ⟨ads, cs, adt, ct, A, C, bd, hx⟩ := h
  have hx1 := hx.gr (Gr.alloc w (.cells #[.int .i64 (i : Int), .int .i64 gn, .int .i64 of, .int .i64 ln] 78))
  obtain ⟨_, l1, _, _⟩ := hx1.lcell hi
  have hz : (((landAt p i).gen : Int) != gn) = true := by simpa using hg
  clear hx hx1 hl hg
  go_enter Try.func45, Try.ntmps45
  go_wp2_with (first
    | (go_at_call 43; refine (HLA.out _ (Gr.alloc _ _)).mono ?_; rintro e w1 ⟨rfl, rfl⟩)
    | fail)
  go_quiet (fail)
  go_wp2
  go_ret2
  exact ⟨rfl, (Gr.alloc _ _).trans (Gr.drewN _ _)⟩
theorem pieceV_err {bd : Nat → Nat} {p : PoolF} {h : Hd} {x : Nat × Nat} {e : Nat} (hp : pieceF p h = (x, e + 1)) : pieceV bd p h = .tuple #[.slice none 0 0, .int .i64 ((e + 1 : Nat) : Int)] := by unfold pieceV; rw [hp]; rfl
theorem pieceV_ok {bd : Nat → Nat} {p : PoolF} {h : Hd} {s k : Nat} (hp : pieceF p h = ((s, k), 0)) : pieceV bd p h = .tuple #[.slice (some ⟨bd s, k, none⟩) h.len.toNat (p.size - k), .int .i64 0] := by unfold pieceV; rw [hp]; rfl
theorem piece_any (w : World) (S : Nat → Prop) (g : Nat) (p : PoolF) (ads adt : Option Addr) (cs ct : Nat) (A : Nat → Option Addr) (C bd : Nat → Nat) (hd : Hd) (hx : PX w S g p ads cs adt ct A C bd) (hp : PoolOk p) :
    Calls Try.prog 45 #[.pointer (some ⟨g, 0, none⟩), hdv hd] w fun e w' => e = .returned (pieceV bd p hd) ∧ Gr w w' := by
  obtain ⟨r, gn, of, ln⟩ := hd
  have hpa : PoolAt w S g p := ⟨ads, cs, adt, ct, A, C, bd, hx⟩
  have hs1 := hp.s1
  have hs2 := hp.s2
  show Calls Try.prog 45 #[.pointer (some ⟨g, 0, none⟩), .agg #[.int .i64 r, .int .i64 gn, .int .i64 of, .int .i64 ln]] w _
  cases hl : landF p r with
  | none =>
    have he : pieceF p ⟨r, gn, of, ln⟩ = ((0, 0), 2 + 1) := by unfold pieceF; rw [hl]
    rw [pieceV_err he]
    exact piece_n w S g p r gn of ln hpa hl
  | some i =>
    obtain ⟨rfl, hi, hth⟩ := landF_some hl
    by_cases hgn : ((landAt p i).gen : Int) = gn
    · subst hgn
      have hlk := hp.ld i hi
      have hfm : (landAt p i).fill ≤ 268435456 := Nat.le_trans hlk.fill_le (hlk.cap hp)
      have hfl := hlk.fill_le
      have h0 : pieceF p ⟨(i : Int), ((landAt p i).gen : Int), of, ln⟩ = if ln < 1 ∨ of < 0 ∨ of > ((landAt p i).fill : Int) ∨ ln > ((landAt p i).fill : Int) - of then ((0, 0), 0 + 1)
          else if of.toNat % p.size + ln.toNat > p.size then ((0, 0), 0 + 1) else (((landAt p i).slabs.getD (of.toNat / p.size) 0, of.toNat % p.size), 0) := by
        unfold pieceF; rw [hl]; simp only; rw [if_neg (by simp)]
      by_cases b1 : ln < 1
      · rw [if_pos (.inl b1)] at h0
        rw [pieceV_err h0]
        exact piece_e1 w S g p ads adt cs ct A C bd i hx hl hi hs1 hs2 hfm of ln b1
      · by_cases b2 : of < 0
        · rw [if_pos (.inr (.inl b2))] at h0
          rw [pieceV_err h0]
          exact piece_e2 w S g p ads adt cs ct A C bd i hx hl hi hs1 hs2 hfm of ln b1 b2
        · obtain ⟨o, rfl⟩ : ∃ o : Nat, of = (o : Int) := ⟨of.toNat, by omega⟩
          obtain ⟨l, rfl⟩ : ∃ l : Nat, ln = (l : Int) := ⟨ln.toNat, by omega⟩
          by_cases b3 : o > (landAt p i).fill
          · rw [if_pos (.inr (.inr (.inl (by omega))))] at h0
            rw [pieceV_err h0]
            exact piece_e3 w S g p ads adt cs ct A C bd i hx hl hi hs1 hs2 hfm o l (by omega) b3
          · by_cases b4 : l > (landAt p i).fill - o
            · rw [if_pos (.inr (.inr (.inr (by omega))))] at h0
              rw [pieceV_err h0]
              exact piece_e4 w S g p ads adt cs ct A C bd i hx hl hi hs1 hs2 hfm o l (by omega) (by omega) b4
            · rw [if_neg (by omega), Int.toNat_natCast, Int.toNat_natCast] at h0
              by_cases b5 : o % p.size + l > p.size
              · rw [if_pos b5] at h0
                rw [pieceV_err h0]
                exact piece_e5 w S g p ads adt cs ct A C bd i hx hl hi hs1 hs2 hfm o l (by omega) (by omega) (by omega) b5
              · rw [if_neg b5] at h0
                have hdl : o / p.size < (landAt p i).slabs.length := by
                  rw [Nat.div_lt_iff_lt_mul (by omega)]; omega
                have hs : (landAt p i).slabs[o / p.size]? = some ((landAt p i).slabs.getD (o / p.size) 0) := by
                  rw [List.getD_eq_getElem?_getD, List.getElem?_eq_getElem hdl]; rfl
                rw [pieceV_ok h0]
                exact piece_ok w S g p ads adt cs ct A C bd i hx hl hi hs1 hs2 hfm o l (by omega) (by omega) (by omega) b5 _ hdl hs (hlk.lt _ (List.mem_of_getElem? hs)) hp.n2 (Nat.le_trans hlk.len hp.n2)
    · have he : pieceF p ⟨(i : Int), gn, of, ln⟩ = ((0, 0), 2 + 1) := by unfold pieceF; rw [hl]; simp only; rw [if_pos hgn]
      rw [pieceV_err he]
      exact piece_g w S g p i gn of ln hpa hl hi hgn
end Go.Proofs.Ytpaogoehgkoaeaa
/- Appends to slices that a region which draws its order makes itself. No program is in sight here. -/
namespace Go.Proofs.Ytpaogoehgkoaeaa
set_option linter.unusedVariables false
set_option linter.unusedSimpArgs false
open Go.RowKit
section
variable {P : Program}
def Roomy (k : Nat) : Option Obj → Prop
  | some (.cells cur _ _) => k ≤ cur.size
  | _ => False
/-- the blocks below N are what they were; a later one may have had its cells from n on overwritten by these, once -/
def Fresh (N n : Nat) (news : List Value) (w w' : World) : Prop := Below N w w' ∧ ∀ g, g < w.heap.size → w'.heap[g]? = w.heap[g]? ∨ (Roomy (n + news.length) w.heap[g]? ∧ w'.heap[g]? = appRow n news w.heap[g]?)
theorem Fresh.refl {N n : Nat} {news : List Value} (w : World) : Fresh N n news w w := ⟨Below.refl _ _, fun _ _ => .inl rfl⟩
theorem Fresh.size {N n : Nat} {news : List Value} {w w' : World} (h : Fresh N n news w w') : w.heap.size ≤ w'.heap.size := h.1.size
theorem Fresh.trans {N n : Nat} {news : List Value} {a b c : World} (h : Fresh N n news a b) (k : Fresh N n news b c) : Fresh N n news a c := by
  refine ⟨h.1.trans k.1, fun g hg => ?_⟩
  rcases h.2 g hg with h1 | ⟨hr, h1⟩ <;> rcases k.2 g (Nat.lt_of_lt_of_le hg h.size) with k1 | ⟨kr, k1⟩
  · exact .inl (k1.trans h1)
  · rw [h1] at kr k1; exact .inr ⟨kr, k1⟩
  · exact .inr ⟨hr, k1.trans h1⟩
  · rw [h1] at k1
    refine .inr ⟨hr, k1.trans ?_⟩
    generalize a.heap[g]? = o at hr ⊢
    match o, hr with
    | some (.cells cur e fr), hr => exact appRow_idem n news cur e fr hr
theorem Fresh.drew {N n : Nat} {news : List Value} (w : World) : Fresh N n news w w.drew := ⟨(Below.refl _ _).drew, fun _ _ => .inl rfl⟩
theorem Gr.fresh {N n : Nat} {news : List Value} {w w' : World} (h : Gr w w') (hN : N ≤ w.heap.size) : Fresh N n news w w' := ⟨Below.mono h hN, fun g hg => .inl (h.block g hg)⟩
theorem Fresh.gr {N n : Nat} {news : List Value} {w w' w0 : World} (h : Fresh N n news w w') (h0 : Gr w0 w) (hN : w0.heap.size ≤ N) : Gr w0 w' := Below.trans h0 (Below.mono h.1 hN)
theorem appRow_take {n : Nat} {news : List Value} {cur : Array Value} (hr : n + news.length ≤ cur.size) :
    (cur.toList.take n ++ news ++ cur.toList.drop (n + news.length)).toArray.size = cur.size ∧
    (∀ m, m ≤ n → (cur.toList.take n ++ news ++ cur.toList.drop (n + news.length)).toArray.toList.take m = cur.toList.take m) ∧
    (cur.toList.take n ++ news ++ cur.toList.drop (n + news.length)).toArray.toList.take (n + news.length) = cur.toList.take n ++ news := by
  have hn : (cur.toList.take n).length = n := by simp; omega
  refine ⟨by simp; omega, fun m hm => ?_, ?_⟩
  · show (cur.toList.take n ++ news ++ cur.toList.drop (n + news.length)).take m = _
    rw [List.append_assoc, List.take_append_of_le_length (by omega), List.take_take, Nat.min_eq_left hm]
  · show (cur.toList.take n ++ news ++ cur.toList.drop (n + news.length)).take (n + news.length) = _
    have := List.take_left (l₁ := cur.toList.take n ++ news) (l₂ := cur.toList.drop (n + news.length))
    rwa [show (cur.toList.take n ++ news).length = n + news.length by rw [List.length_append, hn]] at this
theorem Fresh.owns {N n : Nat} {news : List Value} {w w' : World} (h : Fresh N n news w w') {base : Nat} {e : TypeId} {size : Nat} {ad : Option Addr} {cap m : Nat} {xs : List Value} (ho : Owns w base e size ad cap m xs)
    (hx : xs.length ≤ n ∨ ∃ ys, xs = ys ++ news ∧ ys.length = n) : Owns w' base e size ad cap m xs := by
  obtain ⟨h1, h2, h3, h4 | ⟨g, cur, fr, e1, e2, hg, hfr, hs, ht⟩⟩ := ho
  · exact ⟨h1, h2, h3, .inl h4⟩
  · have hlt : g < w.heap.size := (Array.getElem?_eq_some_iff.1 hg).1
    rcases h.2 g hlt with hk | ⟨hr, hk⟩
    · exact ⟨h1, h2, h3, .inr ⟨g, cur, fr, e1, e2, hk.trans hg, hfr, hs, ht⟩⟩
    · rw [hg] at hk hr
      obtain ⟨t1, t2, t3⟩ := appRow_take hr
      refine ⟨h1, h2, h3, .inr ⟨g, _, fr, e1, e2, hk, by rw [t1]; exact hfr, by rw [t1]; exact hs, ?_⟩⟩
      rcases hx with hx | ⟨ys, rfl, hy⟩
      · rw [t2 _ (by omega)]; exact ht
      · have hm : m * size = n + news.length := by rw [← h1, List.length_append, hy]
        rw [hm] at ht ⊢
        rw [t3]
        have : cur.toList.take n = ys := by
          have h5 : (cur.toList.take (n + news.length)).take n = (ys ++ news).take n := by rw [ht]
          rw [List.take_take, Nat.min_eq_left (by omega), ← hy, List.take_left] at h5
          rw [← hy]; exact h5
        rw [this]
theorem Fresh.cell {N n : Nat} {news : List Value} {w w' : World} (h : Fresh N n news w w') {p : Addr} {v : Value} (hp : w.cell? p = some v) (hb : p.block < N) : w'.cell? p = some v := by
  have := h.1.block p.block hb
  unfold World.cell? at hp ⊢
  rw [this]; exact hp
theorem Fresh.row {N n : Nat} {news : List Value} {w w' : World} (h : Fresh N n news w w') {ad : Option Addr} {vs : List Value} (hr : Row w ad vs) (hN : w.heap.size ≤ N) : Row w' ad vs := fun i u hi => by
  obtain ⟨b, off, e, hc⟩ := hr i u hi
  exact ⟨b, off, e, h.cell hc (Nat.lt_of_lt_of_le (World.block_lt_of_cell? w _ hc) hN)⟩
theorem Owns.void (w : World) (B : Nat) (e : TypeId) (size : Nat) (hB : B ≤ w.heap.size) : Owns (w.alloc (.cells #[] e)) B e size (some ⟨w.heap.size, 0, none⟩) 0 0 [] :=
  Owns.made w B #[] e (0, 0) size 0 0 [] hB (Nat.zero_le _) (Nat.le_refl _) (by simp) (by simp) (by simp)
/-- a slice that was made since, of so many elements -/
def Made (N : Nat) (e : TypeId) (size m : Nat) (xs : List Value) : Value → World → Prop := fun v w => ∃ ad cap, v = .slice ad m cap ∧ Owns w N e size ad cap m xs
/-- an empty one -/
def Mt (N : Nat) (e : TypeId) (size : Nat) : Value → World → Prop := fun v w => ∃ ad, v = .slice ad 0 0 ∧ Owns w N e size ad 0 0 []
/-- one element, in a block of its own -/
def OneB (xs : List Value) : Value → World → Prop := fun v w => ∃ g e fr, v = .slice (some ⟨g, 0, none⟩) 1 1 ∧ w.heap[g]? = some (.cells xs.toArray e fr)
/-- a slice of what was there -/
def OldRow (N m : Nat) (xs : List Value) : Value → World → Prop := fun v w => ∃ ad cap, v = .slice ad m cap ∧ Row w ad xs ∧ ∀ a, ad = some a → a.block < N
variable {N n : Nat} {news : List Value}
theorem Made.stable (e : TypeId) (size m : Nat) (xs : List Value) (hx : xs.length ≤ n ∨ ∃ ys, xs = ys ++ news ∧ ys.length = n) : Stable (Fresh N n news) (Made N e size m xs) := by
  rintro v w1 w2 ⟨ad, cap, rfl, ho⟩ h
  exact ⟨ad, cap, rfl, h.owns ho hx⟩
theorem Mt.stable (e : TypeId) (size : Nat) : Stable (Fresh N n news) (Mt N e size) := by
  rintro v w1 w2 ⟨ad, rfl, ho⟩ h
  exact ⟨ad, rfl, h.owns ho (.inl (Nat.zero_le _))⟩
theorem OneB.stable : Stable (Fresh N n news) (OneB news) := by
  rintro v w1 w2 ⟨g, e, fr, rfl, hg⟩ h
  refine ⟨g, e, fr, rfl, ?_⟩
  rcases h.2 g (Array.getElem?_eq_some_iff.1 hg).1 with hk | ⟨hr, hk⟩
  · exact hk.trans hg
  · rw [hg] at hk hr
    have h0 : n + news.length ≤ news.length := by have h9 : n + news.length ≤ news.toArray.size := hr; simpa using h9
    obtain rfl : n = 0 := by omega
    rw [hk]
    simp [appRow]
theorem OneB.src {u e' : TypeId} {size : Nat} {xs : List Value} {v : Value} {w : World} (h : OneB xs v w) (hx : xs.length = size) (h1 : ∀ x ∈ xs, x.oneCell' = true) (hu : P.underlying u = some (.slice e')) : Src P u w size v 1 xs := by
  obtain ⟨g, e, fr, rfl, hg⟩ := h
  refine ⟨by omega, h1, .inl ⟨_, _, e', rfl, fun i y hi => ⟨g, 0, rfl, ?_⟩, hu⟩⟩
  unfold World.cell?
  simp only [Nat.zero_add, hg]
  simpa using hi
theorem OldRow.stable (m : Nat) (xs : List Value) : Stable (Fresh N n news) (OldRow N m xs) := by
  rintro v w1 w2 ⟨ad, cap, rfl, hr, hb⟩ h
  refine ⟨ad, cap, rfl, fun i u hi => ?_, hb⟩
  obtain ⟨b, off, e, hc⟩ := hr i u hi
  have := h.1.block b (hb _ e)
  refine ⟨b, off, e, ?_⟩
  unfold World.cell? at hc ⊢
  simp only at hc ⊢
  rw [this]; exact hc
theorem region_tail_fresh {id : Nat} {Q : Exit → Act → World → Prop} {a0 : Act} {w : World} {l : List Oper} (N n : Nat) (news : List Value) (n0 k : Nat) (Rs : List (Value → World → Prop))
    (hm : P.follows .mixedOrders = true) (hB : anyB (l.take n0) k = true) (hT : tailB l n0 = true) (hd : (l.take n0).all (·.dst.isSome) = true) (hlen : Rs.length = (l.take n0).length) (hn : a0.tmps.size = k) (hst : AllStable (Fresh N n news) Rs)
    (hs : AllShown P (Fresh N n news) (l.take n0) Rs a0 w (l.take n0) 0) (hfin : ∀ w1 val, Fresh N n news w w1 → Holds val w1 Rs 0 → wpList P l.toArray Q (l.drop n0) (putAll val (l.take n0) 0 a0) w1) : (Code.region id l.toArray true).wp P Q a0 w :=
  region_any_tail Fresh.refl (fun _ _ _ => Fresh.trans) Fresh.drew n0 k (nth Rs) hm hB hT hn (fun i v w1 w2 => hst.get i v w1 w2) (fun i o hi => by simpa using hs.get i o hi)
    (fun w1 val hg h => hfin w1 val hg (Holds.of fun i hi => by
      have hi' : i < (l.take n0).length := by omega
      rw [Nat.zero_add]
      exact h i (l.take n0)[i] (by rw [List.getElem?_eq_getElem hi']) (List.all_eq_true.1 hd _ (List.getElem_mem hi'))))
@[go_sem] theorem fresh_refl (w : World) : Fresh N n news w w ↔ True := ⟨fun _ => trivial, fun _ => Fresh.refl w⟩
/-- THE STEPS -/
theorem append_mt {t u e : TypeId} {z : Value} {size bytes : Nat} (E : Elem P t e z size bytes) {w : World} {ad : Option Addr} (ho : Owns w N e size ad 0 0 []) {x : Value} {m : Nat} {xs : List Value} (hx : Src P u w size x m xs)
    (h63 : m ≤ maxLen) (hbytes : m * bytes ≤ 140737488355328) (hN : N ≤ w.heap.size) {ty : TypeId} :
    ∃ v w', (Builtin.append_ #[t, u] ty #[.slice ad 0 0, x]).run P w = .ok v w' ∧ Fresh N n news w w' ∧ Made N e size m xs v w' := by
  obtain ⟨ad', cap', w', r1, r2, r3, r4, r5⟩ := run_append_at (u := u) (ty := ty) E ho hx (by omega) (by rw [Nat.zero_add]; exact hbytes) hN
  rw [Nat.zero_add, List.nil_append] at r2
  rw [Nat.zero_add] at r1
  have hbelow : Below N w w' := ⟨r3.os, r3.tape, r3.output, r3.size, fun g hg => by
    refine r3.block g (by omega) (fun hh => ?_)
    cases ad with
    | none => cases hh
    | some a => simp only [Option.map_some, Option.some.injEq] at hh; have := (ho.lt a rfl).1; omega⟩
  refine ⟨_, w', r1, ⟨hbelow, fun g hg => .inl ?_⟩, ad', cap', rfl, r2⟩
  by_cases hh : some g = ad.map (·.block)
  · have had : ad = some ⟨g, 0, .none⟩ := by
      obtain ⟨_, _, _, ⟨e1, _⟩ | ⟨g', cur, fr, e1, _⟩⟩ := ho
      · rw [e1] at hh; cases hh
      · rw [e1] at hh ⊢; cases hh; rfl
    rcases r5 g had with ⟨hm, h⟩ | ⟨h, _⟩
    · have hm0 : m = 0 := by omega
      subst hm0
      have hxs : xs = [] := List.eq_nil_of_length_eq_zero (by have := hx.1; omega)
      rw [h, hxs]
      cases hq : w.heap[g]? with
      | none => rfl
      | some o => cases o <;> simp [appRow]
    · exact h
  · exact r3.block g hg hh
theorem append_made {t u e : TypeId} {z : Value} {size bytes : Nat} (E : Elem P t e z size bytes) {w : World} {ad : Option Addr} {cap k m : Nat} {xs : List Value} (ho : Owns w N e size ad cap k xs) {x : Value} (hx : Src P u w size x m news) (hn : n = k * size)
    (h63 : k + m ≤ maxLen) (hbytes : (k + m) * bytes ≤ 140737488355328) (hN : N ≤ w.heap.size) {ty : TypeId} :
    ∃ v w', (Builtin.append_ #[t, u] ty #[.slice ad k cap, x]).run P w = .ok v w' ∧ Fresh N n news w w' ∧ Made N e size (k + m) (xs ++ news) v w' := by
  obtain ⟨ad', cap', w', r1, r2, r3, r4, r5⟩ := run_append_at (u := u) (ty := ty) E ho hx h63 hbytes hN
  have hbelow : Below N w w' := ⟨r3.os, r3.tape, r3.output, r3.size, fun g hg => by
    refine r3.block g (by omega) (fun hh => ?_)
    cases ad with
    | none => cases hh
    | some a => simp only [Option.map_some, Option.some.injEq] at hh; have := (ho.lt a rfl).1; omega⟩
  refine ⟨_, w', r1, ⟨hbelow, fun g hg => ?_⟩, ad', cap', rfl, r2⟩
  by_cases hh : some g = ad.map (·.block)
  · obtain ⟨_, _, _, ⟨e1, _⟩ | ⟨g', cur, fr, e1, _, hg', _, hs, _⟩⟩ := ho
    · rw [e1] at hh; cases hh
    · rw [e1] at hh; cases hh
      rcases r5 _ e1 with ⟨hm, h⟩ | ⟨h, _⟩
      · refine .inr ⟨?_, by rw [hn]; exact h⟩
        rw [hg']
        show n + news.length ≤ cur.size
        rw [hs, hn, hx.1, ← Nat.add_mul]; exact Nat.mul_le_mul_right _ hm
      · exact .inl h
  · exact .inl (r3.block g hg hh)
end
end Go.Proofs.Ytpaogoehgkoaeaa
/- Layer 1 (region): Load, Slabs, Raw, Store walked. -/
namespace Go.Proofs.Ytpaogoehgkoaeaa
set_option linter.unusedVariables false
set_option linter.unusedSimpArgs false
open Go.RowKit
set_option maxRecDepth 100000 in
theorem clone_any (ad : Option Addr) (n cap : Nat) (l : List UInt8) (w : World) (hn : n = l.length) (h1 : 1 ≤ l.length) (hl : l.length ≤ 1000000000) (hb : Bytes w ad l) :
    Calls Try.prog 52 #[.slice ad n cap] w fun e w' => ∃ ad' cap', e = .returned (.slice ad' n cap') ∧ Owns w' w.heap.size 5 1 ad' cap' n (bv l) ∧ Gr w w' := by
  subst hn
  obtain ⟨a, rfl⟩ : ∃ a, ad = some a := by
    obtain ⟨b, off, e, _⟩ := hb 0 (by omega)
    exact ⟨_, e⟩
  have HB := Lib.hid hb
  have HE := fun w' => Lib.run_eql_slice_nil (P := Try.prog) w' 45 5 (some a) l.length cap 0 0 Try.underlying45
  clear hb
  go_enter Try.func52, Try.ntmps52
  go_wp2_with (first
    | (at_builtin; refine wp_append elemB rfl _ _ rfl rfl (Owns.void w w.heap.size 5 1 (Nat.le_refl _)) rfl (Src.bytes (HB.out.gr (Gr.alloc _ _)) rfl Try.underlying45) (by unfold maxLen; omega) (by omega) (by simp) ?_; intro ad7 c7 w7 o7 k7 f7)
    | fail)
  go_ret
  refine ⟨ad7, c7, by simp, ?_, (Gr.alloc _ _).grown k7 (fun g h => by cases h; exact Nat.le_refl _)⟩
  simpa using o7
set_option maxRecDepth 100000 in
theorem clone_nil (w : World) : Calls Try.prog 52 #[.slice none 0 0] w fun e w' => e = .returned (.slice none 0 0) ∧ w = w' := by
  have HE := fun w' => Lib.run_eql_slice_nil (P := Try.prog) w' 45 5 none 0 0 0 0 Try.underlying45
  go_enter Try.func52, Try.ntmps52
  go_wp2
  go_ret
  exact ⟨rfl, rfl⟩
theorem iv_one (l : List Nat) : ∀ v ∈ iv l, v.oneCell' = true := by
  intro v hv
  simp only [iv, List.mem_map] at hv
  obtain ⟨x, _, rfl⟩ := hv
  rfl
theorem iv_length (l : List Nat) : (iv l).length = l.length := by simp [iv]
theorem bytes_part {w : World} {b k n : Nat} {l : List UInt8} (h : Blk w b 5 (bv l)) (hk : k + n ≤ l.length) : Bytes w (some ⟨b, k, none⟩) ((l.drop k).take n) := by
  have hb : Bytes w (some ⟨b, 0, none⟩) l := fun i hi => ⟨b, 0, rfl, by rw [Nat.zero_add]; exact h.cell (bv_get l i hi)⟩
  have := (hb.drop k).take n
  rw [Nat.zero_add] at this
  exact this
theorem bytesAt_len {p : PoolF} (hp : PoolOk p) {s : Nat} (hs : s < p.bytes.length) : (bytesAt p s).length = p.size := by
  unfold bytesAt
  rw [List.getD_eq_getElem?_getD, List.getElem?_eq_getElem hs]
  exact hp.bl _ (List.getElem_mem hs)
theorem loadF_ok {p : PoolF} {h : Hd} {s k : Nat} (e : pieceF p h = ((s, k), 0)) : loadF p h = (((bytesAt p s).drop k).take h.len.toNat, 0) := by unfold loadF; rw [e]; rfl
theorem loadF_err {p : PoolF} {h : Hd} {x : Nat × Nat} {n : Nat} (e : pieceF p h = (x, n + 1)) : loadF p h = ([], n + 1) := by unfold loadF; rw [e]; rfl
set_option maxRecDepth 100000 in
set_option maxHeartbeats 4000000 in
theorem Load_any (w : World) (S : Nat → Prop) (g : Nat) (p : PoolF) (hd : Hd) (h : PoolAt w S g p) (hp : PoolOk p) :
    Calls Try.prog 47 #[.pointer (some ⟨g, 0, none⟩), hdv hd] w fun e w' => ∃ ad cap, e = .returned (.tuple #[.slice ad (loadF p hd).1.length cap, .int .i64 ((loadF p hd).2 : Int)]) ∧ Owns w' w.heap.size 5 1 ad cap (loadF p hd).1.length (bv (loadF p hd).1) ∧ Gr w w' := by
  obtain ⟨ads, cs, adt, ct, A, C, bd, hx⟩ := h
  have HPC := Lib.hid (fun w' (k : Gr w w') => piece_any w' S g p ads adt cs ct A C bd hd (hx.gr k) hp)
  rcases hpf : pieceF p hd with ⟨⟨s, k⟩, e⟩
  cases e with
  | succ e =>
    rw [pieceV_err hpf] at HPC
    rw [loadF_err hpf]
    clear hx hpf hp
    obtain ⟨r, gn, of, ln⟩ := hd
    unfold hdv at *
    simp only at HPC ⊢
    go_enter Try.func47, Try.ntmps47
    go_wp2_with (first
      | (go_at_call 45; refine (HPC.out _ (Gr.alloc _ _)).mono ?_; rintro e w1 ⟨rfl, g1⟩)
      | (go_at_call 52; refine (clone_nil _).mono ?_; rintro e w2 ⟨rfl, rfl⟩)
      | fail)
    go_ret2
    exact ⟨none, 0, rfl, Owns.empty _ _ _ _, (Gr.alloc _ _).trans g1⟩
  | zero =>
    obtain ⟨i, o, l, -, hi, e2, e3, e4, e5, hl1, -, -, -, -, hkl, hs⟩ := pieceF_ok hp hpf
    have hbl := bytesAt_len hp hs
    have hs2 := hp.s2
    rw [pieceV_ok hpf] at HPC
    rw [loadF_ok hpf]
    have HX := Lib.hid hx
    have hlen : (((bytesAt p s).drop k).take hd.len.toNat).length = hd.len.toNat := by rw [e3, Int.toNat_natCast, List.length_take, List.length_drop]; omega
    have HB := Lib.hid (fun w' (kk : Gr w w') => bytes_part (n := hd.len.toNat) ((hx.gr kk).slab s hs) (by rw [e3, Int.toNat_natCast]; omega : k + hd.len.toNat ≤ (bytesAt p s).length))
    have h1 : 1 ≤ (((bytesAt p s).drop k).take hd.len.toNat).length := by rw [hlen, e3, Int.toNat_natCast]; exact hl1
    have h2 : (((bytesAt p s).drop k).take hd.len.toNat).length ≤ 1000000000 := by rw [hlen, e3, Int.toNat_natCast]; omega
    generalize ((bytesAt p s).drop k).take hd.len.toNat = B at *
    rw [← hlen] at HPC
    clear hx hpf hp hlen e2 e3 e4 e5 hbl
    obtain ⟨r, gn, of, ln⟩ := hd
    unfold hdv at *
    simp only at HPC ⊢
    go_enter Try.func47, Try.ntmps47
    go_wp2_with (first
      | (go_at_call 45; refine (HPC.out _ (Gr.alloc _ _)).mono ?_; rintro e w1 ⟨rfl, g1⟩; have hbb := HB.out _ ((Gr.alloc _ _).trans g1); have HC := Lib.hid (clone_any _ _ (p.size - k) B w1 rfl h1 h2 hbb))
      | (go_at_call 52; go_must (refine HC.out.mono ?_); rintro e w2 ⟨ad2, cp2, rfl, o2, g2⟩)
      | fail)
    go_ret2
    have hsz := ((Gr.alloc w (.cells #[.int .i64 r, .int .i64 gn, .int .i64 of, .int .i64 ln] 78)).trans g1).size
    exact ⟨ad2, cp2, rfl, o2.base hsz, ((Gr.alloc _ _).trans g1).trans g2⟩
theorem storeF_err {p : PoolF} {h : Hd} {x : Nat × Nat} {n : Nat} {a : Int} {b : List UInt8} (e : pieceF p h = (x, n + 1)) : storeF p h a b = (n + 1, p) := by unfold storeF; rw [e]; rfl
theorem storeF_bad {p : PoolF} {h : Hd} {s k : Nat} {a : Int} {b : List UInt8} (e : pieceF p h = ((s, k), 0)) (hb : a < 0 ∨ a > h.len ∨ (b.length : Int) > h.len - a) : storeF p h a b = (1, p) := by
  unfold storeF; rw [e]; simp only; rw [if_pos hb]
theorem storeF_ok {p : PoolF} {h : Hd} {s k : Nat} {a : Int} {b : List UInt8} (e : pieceF p h = ((s, k), 0)) (hb : ¬ (a < 0 ∨ a > h.len ∨ (b.length : Int) > h.len - a)) :
    storeF p h a b = (0, setBytes p s (((bytesAt p s).take (k + a.toNat)) ++ b ++ ((bytesAt p s).drop (k + a.toNat + b.length)))) := by
  unfold storeF; rw [e]; simp only; rw [if_neg hb]; rfl
theorem bv_take (l : List UInt8) (n : Nat) : (bv l).take n = bv (l.take n) := by simp [bv]
theorem bv_drop (l : List UInt8) (n : Nat) : (bv l).drop n = bv (l.drop n) := by simp [bv]
set_option maxRecDepth 100000 in
set_option maxHeartbeats 4000000 in
theorem Store_any (w : World) (S : Nat → Prop) (g : Nat) (p : PoolF) (hd : Hd) (a : Int) (ad : Option Addr) (n cap : Nat) (b : List UInt8) (h : PoolAt w S g p) (hp : PoolOk p) (hb : Bytes w ad b) (hn : b.length = n) (hnm : n ≤ 9223372036854775807) :
    Calls Try.prog 30 #[.pointer (some ⟨g, 0, none⟩), hdv hd, .int .i64 a, .slice ad n cap] w fun e w' => e = .returned (.int .i64 ((storeF p hd a b).1 : Int)) ∧ Moved S g (storeF p hd a b).2 w w' S := by
  have HPO := Lib.hid h
  obtain ⟨ads, cs, adt, ct, A, C, bd, hx⟩ := h
  have HPC := Lib.hid (fun w' (k : Gr w w') => piece_any w' S g p ads adt cs ct A C bd hd (hx.gr k) hp)
  rcases hpf : pieceF p hd with ⟨⟨s, k⟩, e⟩
  cases e with
  | succ e =>
    rw [pieceV_err hpf] at HPC
    rw [storeF_err hpf]
    have he : (((e + 1 : Nat) : Int) != 0) = true := by simp; omega
    obtain ⟨e2, he2⟩ : ∃ e2, e2 = e + 1 := ⟨_, rfl⟩
    rw [← he2] at HPC he ⊢
    clear hx hpf hp he2 hb
    obtain ⟨r, gn, of, ln⟩ := hd
    unfold hdv at *
    simp only at HPC ⊢
    go_enter Try.func30, Try.ntmps30
    go_wp2_with (first
      | (go_at_call 45; go_must (refine (HPC.out _ (Gr.alloc _ _)).mono ?_); rintro e w1 ⟨rfl, g1⟩)
      | fail)
    go_ret
    exact ⟨rfl, (Moved.refl HPO.out).gr ((Gr.alloc _ _).trans g1)⟩
  | zero =>
    obtain ⟨i, o, l, -, hi, e2, e3, e4, e5, hl1, -, -, -, -, hkl, hs⟩ := pieceF_ok hp hpf
    have hbl := bytesAt_len hp hs
    have hs2 := hp.s2
    rw [pieceV_ok hpf] at HPC
    have HX := Lib.hid hx
    obtain ⟨r, gn, of, ln⟩ := hd
    simp only at e2 e3 e4 e5
    subst e3
    have hbs : ¬ (a < 0 ∨ a > (l : Int) ∨ (b.length : Int) > (l : Int) - a) → _ := fun hh => storeF_ok (a := a) (b := b) hpf hh
    have hbb : (a < 0 ∨ a > (l : Int) ∨ (b.length : Int) > (l : Int) - a) → _ := fun hh => storeF_bad (a := a) (b := b) hpf hh
    simp only [Int.toNat_natCast] at HPC
    have HBS := Lib.hid hbs
    have HBB := Lib.hid hbb
    have HB := Lib.hid hb
    clear hx hpf hp hbs hbb e2 e4 e5 hb
    unfold hdv at *
    simp only at HPC ⊢
    by_cases b1 : a < 0
    · have hbad : a < 0 ∨ a > (l : Int) ∨ (b.length : Int) > (l : Int) - a := .inl b1
      rw [HBB.out hbad]
      clear hbad
      go_enter Try.func30, Try.ntmps30
      go_wp2_with (first
        | (go_at_call 45; go_must (refine (HPC.out _ (Gr.alloc _ _)).mono ?_); rintro e w1 ⟨rfl, g1⟩)
        | fail)
      go_ret
      exact ⟨rfl, (Moved.refl HPO.out).gr ((Gr.alloc _ _).trans g1)⟩
    · obtain ⟨t, rfl⟩ : ∃ t : Nat, a = (t : Int) := ⟨a.toNat, by omega⟩
      by_cases b2 : t > l
      · have hbad : (t : Int) < 0 ∨ (t : Int) > (l : Int) ∨ (b.length : Int) > (l : Int) - (t : Int) := .inr (.inl (by omega))
        rw [HBB.out hbad]
        clear hbad
        go_enter Try.func30, Try.ntmps30
        go_wp2_with (first
          | (go_at_call 45; go_must (refine (HPC.out _ (Gr.alloc _ _)).mono ?_); rintro e w1 ⟨rfl, g1⟩)
          | fail)
        go_ret
        exact ⟨rfl, (Moved.refl HPO.out).gr ((Gr.alloc _ _).trans g1)⟩
      · by_cases b3 : n > l - t
        · have hbad : (t : Int) < 0 ∨ (t : Int) > (l : Int) ∨ (b.length : Int) > (l : Int) - (t : Int) := .inr (.inr (by omega))
          clear hn
          rw [HBB.out hbad]
          clear hbad
          go_enter Try.func30, Try.ntmps30
          go_wp2_with (first
            | (go_at_call 45; go_must (refine (HPC.out _ (Gr.alloc _ _)).mono ?_); rintro e w1 ⟨rfl, g1⟩)
            | fail)
          go_ret
          exact ⟨rfl, (Moved.refl HPO.out).gr ((Gr.alloc _ _).trans g1)⟩
        · rw [HBS.out (by omega)]
          rw [Int.toNat_natCast]
          have HN := Lib.hid hn
          have hf : k + t + n ≤ p.size := by omega
          have hnl : n ≤ l - t := by omega
          have HBL := Lib.hid hbl
          clear hn hbl
          go_enter Try.func30, Try.ntmps30
          go_wp2_with (first
            | (go_at_call 45; go_must (refine (HPC.out _ (Gr.alloc _ _)).mono ?_); rintro e w1 ⟨rfl, g1⟩)
            | ((with_reducible show Go.wpList _ _ _ (Oper.mk _ (Op.call (Call.mk (Callee.builtin Builtin.copy) _ _)) _ _ _ _ :: _) _ _)
               go_must (refine wp_copy elemB rfl _ _ rfl rfl (fun h0 => by rw [if_neg (by omega)]) rfl ((HX.out.gr ((Gr.alloc _ _).trans g1)).slab s hs) (HB.out.gr ((Gr.alloc _ _).trans g1)).row (by rw [bv_length]; exact HN.out) (by omega) (by rw [bv_length, HBL.out]; exact hf) (bv_one _) ?_); intro w2 q2 k2)
            | fail)
          all_goals
            go_ret
            have hgr := (Gr.alloc w (.cells #[.int .i64 r, .int .i64 gn, .int .i64 of, .int .i64 (l : Int)] 78)).trans g1
            refine ⟨rfl, ?_⟩
            rw [bv_take, bv_drop, ← bv_append, ← bv_append] at q2
            have hm := (HX.out.gr hgr).put_bytes hs _ q2 k2
            have hn := HN.out
            refine ⟨Chg.trans (S' := S) (hgr.chg (S := S)) (Chg.grown k2 (HX.out.sslab s hs)) (fun j hj => .inl hj), fun j hj => .inl hj, ads, cs, adt, ct, A, C, bd, ?_⟩
            rw [hn]
            rw [List.append_assoc] at hm
            exact hm
end Go.Proofs.Ytpaogoehgkoaeaa
namespace Go.Proofs.Ytpaogoehgkoaeaa
set_option linter.unusedVariables false
set_option linter.unusedSimpArgs false
open Go.RowKit
theorem splice_len {l b : List UInt8} {k : Nat} (h : k + b.length ≤ l.length) : (l.take k ++ b ++ l.drop (k + b.length)).length = l.length := by
  simp only [List.length_append, List.length_take, List.length_drop]; omega
theorem store_ok {p : PoolF} (h : PoolOk p) (hd : Hd) (a : Int) (b : List UInt8) : PoolOk (storeF p hd a b).2 := by
  rcases hpf : pieceF p hd with ⟨⟨s, k⟩, e⟩
  cases e with
  | succ e => rw [storeF_err hpf]; exact h
  | zero =>
    obtain ⟨i, o, l, -, hi, e2, e3, e4, e5, hl1, -, -, -, -, hkl, hs⟩ := pieceF_ok h hpf
    by_cases hb : a < 0 ∨ a > hd.len ∨ (b.length : Int) > hd.len - a
    · rw [storeF_bad hpf hb]; exact h
    · rw [storeF_ok hpf hb]
      refine setB_ok h s _ (fun hs => ?_)
      have hbl := bytesAt_len h hs
      rw [splice_len (by omega), hbl]
theorem foldl_set_bool : ∀ (l : List Nat) (b : List Bool) (t : Nat), (l.foldl (fun t s => t.set s false) b).getD t false = if t ∈ l then false else b.getD t false
  | [], b, t => by simp
  | s :: r, b, t => by
    rw [List.foldl_cons, foldl_set_bool r]
    by_cases h1 : t ∈ r
    · rw [if_pos h1, if_pos (List.mem_cons_of_mem _ h1)]
    · rw [if_neg h1]
      by_cases h2 : t = s
      · subst h2
        rw [if_pos (by simp)]
        simp only [List.getD_eq_getElem?_getD, List.getElem?_set]
        by_cases hl : t < b.length
        · simp [hl]
        · simp [hl]
      · rw [if_neg (by simp [h1, h2])]
        simp only [List.getD_eq_getElem?_getD, List.getElem?_set]
        rw [if_neg (fun e => h2 e.symm)]
theorem foldl_set_get {β : Type} (x d : β) : ∀ (l : List Nat) (b : List β) (t : Nat), t < b.length → (l.foldl (fun t s => t.set s x) b).getD t d = if t ∈ l then x else b.getD t d
  | [], b, t, _ => by simp
  | s :: r, b, t, ht => by
    rw [List.foldl_cons, foldl_set_get x d r _ t (by rw [List.length_set]; exact ht)]
    by_cases h1 : t ∈ r
    · rw [if_pos h1, if_pos (List.mem_cons_of_mem _ h1)]
    · rw [if_neg h1]
      by_cases h2 : t = s
      · subst h2
        rw [if_pos (by simp)]
        simp [List.getD_eq_getElem?_getD, List.getElem?_set, ht]
      · rw [if_neg (by simp [h1, h2])]
        simp only [List.getD_eq_getElem?_getD, List.getElem?_set]
        rw [if_neg (fun e => h2 e.symm)]
theorem landAt_free {p : PoolF} (h : PoolOk p) {i : Nat} (hi : i < 256) (L : List Nat) (l : Land) (j : Nat) : landAt { freeSlabs p L with lands := p.lands.set i l } j = if i = j then l else landAt p j := by
  have := landAt_set p i j l (by rw [h.ln]; exact hi)
  exact this
theorem free_ok {p : PoolF} (h : PoolOk p) (r : Int) : PoolOk (freeF p r).2 := by
  unfold freeF
  cases hl : landF p r with
  | none => exact h
  | some i =>
    obtain ⟨_, hi, hth⟩ := landF_some hl
    simp only
    obtain ⟨L, hL⟩ : ∃ L, L = (landAt p i).slabs := ⟨_, rfl⟩
    rw [← hL]
    have hA := fun j => landAt_free h hi L ⟨false, (landAt p i).gen, [], 0⟩ j
    obtain ⟨q, hq⟩ : ∃ q : PoolF, q = { freeSlabs p L with lands := p.lands.set i ⟨false, (landAt p i).gen, [], 0⟩ } := ⟨_, rfl⟩
    rw [← hq] at hA ⊢
    have hbl : q.bytes.length = p.bytes.length := by rw [hq]; exact (freeSlabs_len p L).1
    have htl : q.taken.length = p.taken.length := by rw [hq]; exact (freeSlabs_len p L).2
    have hsz : q.size = p.size := by rw [hq]; rfl
    have htk : ∀ t, q.taken.getD t false = if t ∈ L then false else p.taken.getD t false := fun t => by rw [hq]; exact foldl_set_bool L p.taken t
    refine ⟨by rw [hsz]; exact h.s1, by rw [hsz]; exact h.s2, by rw [hsz]; exact h.s3, by rw [hbl]; exact h.n1, by rw [hbl]; exact h.n2, fun b hb => ?_, by rw [hbl, htl]; exact h.tk, ?_, fun j hj => ?_, fun t ht => ?_, fun j k t hj hk m1 m2 => ?_⟩
    · rw [hsz]
      rw [hq] at hb
      exact bytesAt_foldl_len p.size _ (by simp) L p.bytes h.bl b hb
    · rw [hq]; show (p.lands.set i _).length = 256; rw [List.length_set]; exact h.ln
    · rw [hA]
      split
      · exact ⟨by simp, by simp, .inl ⟨rfl, rfl⟩, fun _ => rfl⟩
      · have := h.ld j hj
        exact ⟨this.nodup, fun t ht => by rw [hbl]; exact this.lt t ht, by rw [hsz]; exact this.fill, this.away⟩
    · rw [hbl] at ht
      rw [htk]
      by_cases hm : t ∈ L
      · rw [if_pos hm]
        refine ⟨fun e => by simp at e, fun ⟨j, hj, hjm⟩ => ?_⟩
        rw [hA] at hjm
        split at hjm
        · simp at hjm
        · rename_i hne
          rw [hL] at hm
          exact absurd (h.apart i j t hi hj hm hjm) hne
      · rw [if_neg hm, h.has t ht]
        constructor
        · rintro ⟨j, hj, hjm⟩
          refine ⟨j, hj, ?_⟩
          rw [hA, if_neg (fun e => hm (by rw [hL, e]; exact hjm))]
          exact hjm
        · rintro ⟨j, hj, hjm⟩
          rw [hA] at hjm
          split at hjm
          · simp at hjm
          · exact ⟨j, hj, hjm⟩
    · rw [hA] at m1 m2
      split at m1
      · simp at m1
      · split at m2
        · simp at m2
        · exact h.apart j k t hj hk m1 m2
end Go.Proofs.Ytpaogoehgkoaeaa
