/- Layer 5 (ikey): the reference's DocEncode and DocDecode. -/
import Derived.WalkKit
import Derived.ProofKit
import Derived.OpenShut
import Derived.Lib.Hide
import Derived.Lib.MinMax
import Derived.WalkLawsBesides
import Derived.Deep.Draws
import Derived.Deep.QuietTactic
import Derived.BigQuiet
import Derived.StillTailTactics
import Derived.WalkSpells
import Derived.Test.YtpaogoehgkoaeaaGreatDoorRows
import Derived.Outline
/- Words that all texts share: Go's unsigned numbers as bit vectors, and how the walk reckons with them. No program is in sight here. -/
namespace Go.Proofs.YtpaogoehgkoaeaaGreatDoor
set_option linter.unusedVariables false
set_option linter.unusedSimpArgs false
open Go.RowKit

/-- a uint32 -/
def U (r : BitVec 32) : Int := (r.toNat : Int)
theorem U_lo (r : BitVec 32) : 0 ≤ U r := Int.natCast_nonneg _
theorem U_hi (r : BitVec 32) : U r < 4294967296 := by unfold U; have := r.isLt; omega
theorem U_ofNat (n : Nat) : U (BitVec.ofNat 32 n) = ((n % 4294967296 : Nat) : Int) := by simp [U]
theorem U_and (a b : BitVec 32) : bits .and .u32 (U a) (U b) = U (a &&& b) := by
  unfold U; rw [u32_and_nat _ _ a.isLt b.isLt, BitVec.toNat_and]
theorem U_or (a b : BitVec 32) : bits .or .u32 (U a) (U b) = U (a ||| b) := by
  unfold U; rw [u32_or_nat _ _ a.isLt b.isLt, BitVec.toNat_or]
theorem U_xor (a b : BitVec 32) : bits .xor .u32 (U a) (U b) = U (a ^^^ b) := by
  unfold U; rw [u32_xor_nat _ _ a.isLt b.isLt, BitVec.toNat_xor]
theorem U_lit {m : Int} (n : Nat) (hm : m = (n : Int)) (h : n < 4294967296) : m = U (BitVec.ofNat 32 n) := by
  rw [U_ofNat, Nat.mod_eq_of_lt h]; exact hm
theorem U_andc (a : BitVec 32) (m : Int) (n : Nat) (hm : m = (n : Int)) (h : n < 4294967296) : bits .and .u32 (U a) m = U (a &&& BitVec.ofNat 32 n) := by
  rw [U_lit n hm h, U_and]
theorem U_shr (a : BitVec 32) (m : Int) (n : Nat) (h : m = ((2 ^ n : Nat) : Int)) : U a / m = U (a >>> n) := by
  subst h; unfold U; rw [BitVec.toNat_ushiftRight, Nat.shiftRight_eq_div_pow]; rfl
theorem U_shl (a : BitVec 32) (m : Int) (n : Nat) (h : m = ((2 ^ n : Nat) : Int)) : U a * m % 4294967296 = U (a <<< n) := by
  subst h; unfold U; rw [BitVec.toNat_shiftLeft, Nat.shiftLeft_eq]; omega
theorem U_neg (a : BitVec 32) : (-(U a)) % 4294967296 = U (-a) := by
  unfold U; rw [BitVec.toNat_neg]; have := a.isLt; omega
theorem U_not (a : BitVec 32) : bits .xor .u32 IntKind.u32.max (U a) = U (~~~ a) := by
  have := U_xor (BitVec.allOnes 32) a
  rw [BitVec.allOnes_xor] at this
  exact this
theorem U_add (a b : BitVec 32) : (U a + U b) % 4294967296 = U (a + b) := by
  unfold U; rw [BitVec.toNat_add]; omega
theorem U_mul (a b : BitVec 32) : (U a * U b) % 4294967296 = U (a * b) := by
  unfold U; rw [BitVec.toNat_mul]; simp

theorem U_addc (a : BitVec 32) (m : Int) (n : Nat) (hm : m = (n : Int)) (h : n < 4294967296) : (U a + m) % 4294967296 = U (a + BitVec.ofNat 32 n) := by
  rw [U_lit n hm h, U_add]
theorem U_mulc (a : BitVec 32) (m : Int) (n : Nat) (hm : m = (n : Int)) (h : n < 4294967296) : (U a * m) % 4294967296 = U (a * BitVec.ofNat 32 n) := by
  rw [U_lit n hm h, U_mul]
theorem U_byte (x : UInt8) : (x.toNat : Int) = U (BitVec.ofNat 32 x.toNat) := by
  have hx := x.toNat_lt
  rw [U_ofNat]; omega
theorem U_xorB (a : BitVec 32) (x : UInt8) : bits .xor .u32 (U a) (x.toNat : Int) = U (a ^^^ BitVec.ofNat 32 x.toNat) := by
  rw [U_byte, U_xor]
theorem byte_hi (x : UInt8) : (x.toNat : Int) < 256 := by have := x.toNat_lt; omega
attribute [irreducible] U
theorem ret_int {k : IntKind} {a b : Int} (h : a = b) : Ending.returned (.int k a) = .returned (.int k b) := by rw [h]
theorem ret3_of {k1 k2 k3 : IntKind} {a b c : Int} {p : Nat × Nat × Nat} {x y z : Nat} (h : p = (x, y, z)) (ha : a = (x : Int)) (hb : b = (y : Int)) (hc : c = (z : Int)) :
    Ending.returned (.tuple #[.int k1 a, .int k2 b, .int k3 c]) = .returned (.tuple #[.int k1 (p.1 : Int), .int k2 (p.2.1 : Int), .int k3 (p.2.2 : Int)]) := by
  subst h ha hb hc; rfl
theorem or128 (x : Nat) (h : x < 256) : x ||| 128 = x % 128 + 128 := by
  have : ∀ y : Fin 256, y.val ||| 128 = y.val % 128 + 128 := by decide +kernel
  exact this ⟨x, h⟩
theorem b8_more (n : Nat) : bits .or .u8 ((n : Int) % 256) 128 = ((UInt8.ofNat (n % 128 + 128)).toNat : Int) := by
  have e : (n : Int) % 256 = ((n % 256 : Nat) : Int) := by omega
  have h := u8_or_nat (n % 256) 128 (by omega) (by decide)
  rw [or128 _ (by omega)] at h
  rw [e, UInt8.toNat_ofNat']
  refine h.trans ?_
  omega
theorem and127 (x : Nat) (h : x < 256) : x &&& (255 - 128) = x % 128 := by
  have : ∀ y : Fin 256, y.val &&& (255 - 128) = y.val % 128 := by decide +kernel
  exact this ⟨x, h⟩
theorem b8_less (x : UInt8) : bits .andNot .u8 (x.toNat : Int) 128 = ((x.toNat % 128 : Nat) : Int) := by
  have h := u8_andNot_nat x.toNat 128 x.toNat_lt (by decide)
  rw [and127 _ x.toNat_lt] at h
  exact h
theorem u64_join (a b i : Nat) (ha : a < 2 ^ i) (hb : b * 2 ^ i < 18446744073709551616) (hs : a < 18446744073709551616) : bits .or .u64 (a : Int) ((b * 2 ^ i : Nat) : Int) = ((a + b * 2 ^ i : Nat) : Int) := by
  rw [u64_or_nat _ _ hs hb, Nat.or_comm, nat_join i _ _ (Nat.mul_mod_left _ _) ha, Nat.add_comm]
theorem u64_wrap_nat (n : Nat) (h : n < 18446744073709551616) : IntKind.u64.wrap (n : Int) = (n : Int) := by
  rw [IntKind.wrap_u64]; omega
theorem u64_shl_or (a b i : Nat) (ha : a < 2 ^ i) (hb : b * 2 ^ i < 18446744073709551616) (hs : a < 18446744073709551616) : bits .or .u64 (a : Int) (IntKind.u64.wrap ((b : Int) * 2 ^ i)) = ((a + b * 2 ^ i : Nat) : Int) := by
  have e : ((b : Int) * 2 ^ i) = ((b * 2 ^ i : Nat) : Int) := by simp
  rw [e, u64_wrap_nat _ hb, u64_join a b i ha hb hs]
theorem u64_xor_ones (x : Nat) (h : x < 18446744073709551616) : bits .xor .u64 (x : Int) 18446744073709551615 = ((18446744073709551615 - x : Nat) : Int) := by
  show IntKind.u64.wrap ((BitVec.ofInt 64 (x : Int) ^^^ BitVec.ofInt 64 18446744073709551615).toNat : Int) = _
  have e : BitVec.ofInt 64 18446744073709551615 = BitVec.allOnes 64 := by decide
  rw [e, BitVec.xor_allOnes, BitVec.toNat_not, BitVec.ofInt_natCast, BitVec.toNat_ofNat, IntKind.wrap_u64]
  omega
theorem if_min (x y : Int) : (if y < x then y else x) = min x y := by omega
@[go_sem high] theorem run_min_ints4 {P : Program} (w : World) (ts : Array TypeId) (t : TypeId) (k1 k2 k3 k4 : IntKind) (x y z u : Int) :
    (Builtin.min_ ts t #[.int k1 x, .int k2 y, .int k3 z, .int k4 u]).run P w = .ok (.int k1 (min (min (min x y) z) u)) w := by
  simp [Builtin.min_, Builtin.min2, if_min]
@[go_sem high] theorem run_min_ints3 {P : Program} (w : World) (ts : Array TypeId) (t : TypeId) (k1 k2 k3 : IntKind) (x y z : Int) :
    (Builtin.min_ ts t #[.int k1 x, .int k2 y, .int k3 z]).run P w = .ok (.int k1 (min (min x y) z)) w := by
  simp [Builtin.min_, Builtin.min2, if_min]
/-- the cells that a slice's address begins -/
def Row (w : World) (ad : Option Addr) (vs : List Value) : Prop :=
  ∀ i u, vs[i]? = some u → ∃ b off, ad = some ⟨b, off, none⟩ ∧ w.cell? ⟨b, off + i, none⟩ = some u
/-- a slice of bytes that reads as l -/
def Bytes (w : World) (ad : Option Addr) (l : List UInt8) : Prop :=
  ∀ i (h : i < l.length), ∃ b off, ad = some ⟨b, off, none⟩ ∧ w.cell? ⟨b, off + i, none⟩ = some (.int .u8 (l[i].toNat : Int))

end Go.Proofs.YtpaogoehgkoaeaaGreatDoor
/- Memory that a call makes itself: slices that own the head of a row, whatever mark the row bears; what append, make, a store and a conversion do to them. No program is in sight here. -/
namespace Go.Proofs.YtpaogoehgkoaeaaGreatDoor
set_option linter.unusedVariables false
set_option linter.unusedSimpArgs false
open Go.RowKit

/-- old blocks are as they were -/
def Gr (w w' : World) : Prop := Below w.heap.size w w'
theorem Gr.refl (w : World) : Gr w w := Below.refl _ _
theorem Gr.size {w w' : World} (h : Gr w w') : w.heap.size ≤ w'.heap.size := Below.size h
theorem Gr.trans {a b c : World} (h : Gr a b) (k : Gr b c) : Gr a c := Below.trans h (Below.mono k h.size)
theorem Gr.alloc (w : World) (o : Obj) : Gr w (w.alloc o) := (Below.refl _ _).alloc (Nat.le_refl _) o
theorem Gr.drew (w : World) : Gr w w.drew := (Below.refl _ _).drew
theorem Gr.drewN (w : World) (n : Nat) : Gr w (w.drewN n) := ⟨rfl, rfl, rfl, Nat.le_refl _, fun _ _ => rfl⟩
theorem Gr.setCell {a w : World} (h : Gr a w) {p : Addr} (hp : a.heap.size ≤ p.block) (u : Value) : Gr a (w.setCell p u) := Below.setCell h hp u
theorem Gr.cell {w w' : World} (h : Gr w w') {p : Addr} {v : Value} (hp : w.cell? p = some v) : w'.cell? p = some v :=
  (Below.cell h (World.block_lt_of_cell? w p hp)).trans hp
theorem Gr.grown {a w w' : World} {row : Option Nat} (h : Gr a w) (hg : w.grownBy w' row) (hr : ∀ k, row = some k → a.heap.size ≤ k) : Gr a w' :=
  Below.grown h hg h.size hr
theorem Gr.heap {w w' : World} (h : Gr w w') {k : Nat} {o : Obj} (hk : w.heap[k]? = some o) : w'.heap[k]? = some o :=
  (h.block k (Array.getElem?_eq_some_iff.1 hk).1).trans hk

theorem Row.nil (w : World) (ad : Option Addr) : Row w ad [] := fun i u h => by simp at h
theorem Row.gr {w w' : World} {ad : Option Addr} {vs : List Value} (h : Row w ad vs) (g : Gr w w') : Row w' ad vs := fun i u hi => by
  obtain ⟨b, off, e, hc⟩ := h i u hi
  exact ⟨b, off, e, g.cell hc⟩
theorem Bytes.gr {w w' : World} {ad : Option Addr} {l : List UInt8} (h : Bytes w ad l) (g : Gr w w') : Bytes w' ad l := fun i hi => by
  obtain ⟨b, off, e, hc⟩ := h i hi
  exact ⟨b, off, e, g.cell hc⟩
/-- bytes as Go's values -/
def bv (l : List UInt8) : List Value := l.map fun x => .int .u8 (x.toNat : Int)
theorem bv_length (l : List UInt8) : (bv l).length = l.length := by simp [bv]
theorem bv_append (l m : List UInt8) : bv (l ++ m) = bv l ++ bv m := by simp [bv]
theorem bv_get (l : List UInt8) (i : Nat) (h : i < l.length) : (bv l)[i]? = some (.int .u8 (l[i].toNat : Int)) := by simp [bv, h]
theorem Bytes.row {w : World} {ad : Option Addr} {l : List UInt8} (h : Bytes w ad l) : Row w ad (bv l) := fun i u hi => by
  have hl : i < l.length := by rw [← bv_length l]; exact (List.getElem?_eq_some_iff.1 hi).1
  rw [bv_get l i hl] at hi
  obtain ⟨b, off, e, hc⟩ := h i hl
  exact ⟨b, off, e, hc.trans hi⟩
theorem Row.bytes {w : World} {ad : Option Addr} {l : List UInt8} (h : Row w ad (bv l)) : Bytes w ad l := fun i hi =>
  h i _ (bv_get l i hi)

/-- the slice (ad, n, cap) owns the head of a row among the blocks from 'base' on: n elements of 'size' cells, which are xs -/
def Owns (w : World) (base : Nat) (e : TypeId) (size : Nat) (ad : Option Addr) (cap n : Nat) (xs : List Value) : Prop :=
  xs.length = n * size ∧ n ≤ cap ∧ cap ≤ maxLen ∧
  ((ad = none ∧ n = 0 ∧ cap = 0) ∨
   ∃ g cur fr, ad = some ⟨g, 0, none⟩ ∧ base ≤ g ∧ w.heap[g]? = some (.cells cur e fr) ∧ cur.size ≤ fr.1 + (if fr = (0, 0) then cur.size else 0) ∧ cur.size = cap * size ∧ cur.toList.take (n * size) = xs)

theorem Owns.empty (w : World) (base : Nat) (e : TypeId) (size : Nat) : Owns w base e size none 0 0 [] := ⟨by simp, Nat.le_refl _, Nat.zero_le _, .inl ⟨rfl, rfl, rfl⟩⟩
theorem Owns.base {w : World} {base base' : Nat} {e : TypeId} {size : Nat} {ad : Option Addr} {cap n : Nat} {xs : List Value} (h : Owns w base e size ad cap n xs) (hb : base' ≤ base) : Owns w base' e size ad cap n xs := by
  obtain ⟨h1, h2, h3, h4 | ⟨g, cur, fr, e1, e2, rest⟩⟩ := h
  · exact ⟨h1, h2, h3, .inl h4⟩
  · exact ⟨h1, h2, h3, .inr ⟨g, cur, fr, e1, by omega, rest⟩⟩
theorem Owns.lt {w : World} {base : Nat} {e : TypeId} {size : Nat} {ad : Option Addr} {cap n : Nat} {xs : List Value} (h : Owns w base e size ad cap n xs) :
    ∀ a, ad = some a → base ≤ a.block ∧ a.block < w.heap.size := by
  intro a ha
  obtain ⟨_, _, _, ⟨e1, _⟩ | ⟨g, cur, fr, e1, e2, hg, _⟩⟩ := h
  · rw [e1] at ha; cases ha
  · rw [e1] at ha
    cases ha
    exact ⟨e2, (Array.getElem?_eq_some_iff.1 hg).1⟩
theorem Owns.kept {w w' : World} {base : Nat} {e : TypeId} {size : Nat} {ad : Option Addr} {cap n : Nat} {xs : List Value} (h : Owns w base e size ad cap n xs)
    (hk : ∀ g, ad = some ⟨g, 0, .none⟩ → w'.heap[g]? = w.heap[g]?) : Owns w' base e size ad cap n xs := by
  obtain ⟨h1, h2, h3, h4 | ⟨g, cur, fr, e1, e2, hg, rest⟩⟩ := h
  · exact ⟨h1, h2, h3, .inl h4⟩
  · exact ⟨h1, h2, h3, .inr ⟨g, cur, fr, e1, e2, (hk g e1).trans hg, rest⟩⟩
theorem Owns.gr {w w' : World} {base : Nat} {e : TypeId} {size : Nat} {ad : Option Addr} {cap n : Nat} {xs : List Value} (h : Owns w base e size ad cap n xs) (g : Gr w w') : Owns w' base e size ad cap n xs :=
  h.kept fun k hk => g.block k (h.lt _ hk).2
theorem Owns.grown {w w' : World} {base : Nat} {e : TypeId} {size : Nat} {ad : Option Addr} {cap n : Nat} {xs : List Value} {row : Option Nat} (h : Owns w base e size ad cap n xs) (g : w.grownBy w' row)
    (hne : ∀ a, ad = some a → some a.block ≠ row) : Owns w' base e size ad cap n xs :=
  h.kept fun k hk => g.block k (h.lt _ hk).2 (hne _ hk)
theorem Owns.row {w : World} {base : Nat} {e : TypeId} {size : Nat} {ad : Option Addr} {cap n : Nat} {xs : List Value} (h : Owns w base e size ad cap n xs) : Row w ad xs := by
  obtain ⟨h1, h2, h3, ⟨e1, e2, e3⟩ | ⟨g, cur, fr, e1, e2, hg, hfr, hs, ht⟩⟩ := h
  · subst e2
    have : xs = [] := List.eq_nil_of_length_eq_zero (by simpa using h1)
    subst this
    exact Row.nil _ _
  · intro i u hi
    refine ⟨g, 0, e1, ?_⟩
    rw [Nat.zero_add, cell_of_row w g i cur e fr hg]
    rw [← ht, List.getElem?_take] at hi
    split at hi
    · simpa using hi
    · cases hi
theorem Owns.nil_of {w : World} {base : Nat} {e : TypeId} {size : Nat} {cap n : Nat} {xs : List Value} (h : Owns w base e size .none cap n xs) : n = 0 ∧ cap = 0 ∧ xs = [] := by
  obtain ⟨h1, h2, h3, ⟨e1, e2, e3⟩ | ⟨g, cur, fr, e1, _⟩⟩ := h
  · subst e2; exact ⟨rfl, e3, List.eq_nil_of_length_eq_zero (by simpa using h1)⟩
  · cases e1

/-- no cell of the row is frozen -/
theorem free_of {fr : Nat × Nat} {s : Nat} (h : s ≤ fr.1 + (if fr = (0, 0) then s else 0)) (i : Nat) (hi : i < s) : (decide (fr.1 ≤ i) && decide (i < fr.2)) = false := by
  by_cases h0 : fr = (0, 0)
  · subst h0; simp
  · rw [if_neg h0] at h
    have : ¬ fr.1 ≤ i := by omega
    simp [this]
theorem frozen_of {w : World} {g : Nat} {cur : Array Value} {e : TypeId} {fr : Nat × Nat} (hg : w.heap[g]? = some (.cells cur e fr)) (hfr : cur.size ≤ fr.1 + (if fr = (0, 0) then cur.size else 0)) (i : Nat) (hi : i < cur.size) :
    w.frozen? ⟨g, i, none⟩ = false := by
  obtain ⟨f1, f2⟩ := fr
  simp only [World.frozen?, hg]
  exact free_of (fr := (f1, f2)) hfr i hi

theorem run_storeCells_un {P : Program} (g o : Nat) (t : TypeId) (fr : Nat × Nat) : ∀ (vs : List Value) (i : Nat) (cur : Array Value) (w : World), w.heap[g]? = some (.cells cur t fr) →
    cur.size ≤ fr.1 + (if fr = (0, 0) then cur.size else 0) → o + i + vs.length ≤ cur.size → (∀ v ∈ vs, v.oneCell' = true) →
    (storeCells ⟨g, o, none⟩ vs i).run P w = .ok () (w.setRow g (cur.toList.take (o + i) ++ vs ++ cur.toList.drop (o + i + vs.length)).toArray)
  | [], i, cur, w, hg, _, _, _ => by
    simp only [storeCells, List.append_nil, List.length_nil, Nat.add_zero, List.take_append_drop, Array.toArray_toList]
    rw [setRow_self w g cur t fr hg]
    rfl
  | v :: rest, i, cur, w, hg, hfr, hl, h1 => by
    have hi : o + i < cur.size := by simp at hl; omega
    have hadd : (⟨g, o, none⟩ : Addr).add i = ⟨g, o + i, none⟩ := by unfold Addr.add; split <;> simp_all
    have hcell : w.cell? ⟨g, o + i, none⟩ = some cur[o + i] := by simp [World.cell?, hg, hi]
    have hfro : w.frozen? ⟨g, o + i, none⟩ = false := frozen_of hg hfr _ hi
    have hst : (store ((⟨g, o, none⟩ : Addr).add i) v).run P w = .ok () (w.setRow g (cur.setIfInBounds (o + i) v)) := by
      rw [hadd, run_store P w _ v _ (h1 v (by simp)), hcell]
      simp [hfro, setCell_eq_setRow w g (o + i) cur t fr v hg]
    have ih := run_storeCells_un (P := P) g o t fr rest (i + 1) (cur.setIfInBounds (o + i) v) (w.setRow g (cur.setIfInBounds (o + i) v)) (setRow_heap w g cur _ t _ hg) (by simpa using hfr) (by simp at hl ⊢; omega) (fun x hx => h1 x (by simp [hx]))
    simp only [storeCells, Sem.run_bind, hst, Result.andThen_ok, ih, setRow_setRow]
    congr 3
    have e := list_seg_step cur.toList (o + i) v rest (by simp at hl ⊢; omega)
    simpa [Array.toList_setIfInBounds, Nat.add_assoc] using e

/-- what is known of a slice type and its elements -/
structure Elem (P : Program) (t e : TypeId) (z : Value) (size bytes : Nat) : Prop where
  ty : P.underlying t = some (.slice e)
  info : (P.info? e).map (fun i => (i.zero, i.size, i.bytes)) = some (some z, size, bytes)
  zs : z.cells.size = size
  pos : 0 < size

/-- what is appended, or copied: m elements, whose cells are news -/
def Src (P : Program) (u : TypeId) (w : World) (size : Nat) (x : Value) (m : Nat) (news : List Value) : Prop :=
  news.length = m * size ∧ (∀ v ∈ news, v.oneCell' = true) ∧
  ((∃ ad c e, x = .slice ad m c ∧ Row w ad news ∧ P.underlying u = some (.slice e)) ∨
   (∃ s : ByteArray, x = .string s ∧ m = s.size ∧ size = 1 ∧ news = bv s.data.toList ∧ P.underlying u = some .string))

theorem Src.gr {P : Program} {u : TypeId} {w w' : World} {size : Nat} {x : Value} {m : Nat} {news : List Value} (h : Src P u w size x m news) (g : Gr w w') : Src P u w' size x m news := by
  obtain ⟨h1, h2, ⟨ad, c, e, h3, h4, h5⟩ | h3⟩ := h
  · exact ⟨h1, h2, .inl ⟨ad, c, e, h3, h4.gr g, h5⟩⟩
  · exact ⟨h1, h2, .inr h3⟩
theorem bv_one (l : List UInt8) : ∀ v ∈ bv l, v.oneCell' = true := by
  intro v hv
  simp only [bv, List.mem_map] at hv
  obtain ⟨x, _, rfl⟩ := hv
  rfl
theorem Src.bytes {P : Program} {u e : TypeId} {w : World} {ad : Option Addr} {len c : Nat} {l : List UInt8} (h : Bytes w ad l) (hl : l.length = len) (hu : P.underlying u = some (.slice e)) : Src P u w 1 (.slice ad len c) len (bv l) :=
  ⟨by rw [bv_length]; omega, bv_one l, .inl ⟨ad, c, e, rfl, h.row, hu⟩⟩
theorem Src.str {P : Program} {u : TypeId} {w : World} (s : ByteArray) (hu : P.underlying u = some .string) : Src P u w 1 (.string s) s.size (bv s.data.toList) :=
  ⟨by rw [bv_length]; simp, bv_one _, .inr ⟨s, rfl, rfl, rfl, rfl, hu⟩⟩
theorem Src.own {P : Program} {u e e' : TypeId} {w : World} {base size : Nat} {ad : Option Addr} {cap n : Nat} {xs : List Value} (h : Owns w base e size ad cap n xs) (h1 : ∀ v ∈ xs, v.oneCell' = true) (hu : P.underlying u = some (.slice e')) : Src P u w size (.slice ad n cap) n xs :=
  ⟨h.1, h1, .inl ⟨ad, cap, e', rfl, h.row, hu⟩⟩

theorem Src.lenOf {P : Program} {u : TypeId} {w : World} {size : Nat} {x : Value} {m : Nat} {news : List Value} (h : Src P u w size x m news) (w' : World) : (Builtin.lenOf x).run P w' = .ok m w' := by
  obtain ⟨_, _, ⟨ad, c, e, rfl, _, _⟩ | ⟨s, rfl, rfl, _, _, _⟩⟩ := h
  · simp [Builtin.lenOf]
  · simp [Builtin.lenOf]
theorem Src.first {P : Program} {u : TypeId} {w : World} {size : Nat} {x : Value} {m : Nat} {news : List Value} (h : Src P u w size x m news) : (Builtin.firstCells size m x).run P w = .ok news.toArray w := by
  obtain ⟨h1, h2, ⟨ad, c, e, rfl, h4, _⟩ | ⟨s, rfl, rfl, h5, rfl, _⟩⟩ := h
  · cases ad with
    | none =>
      have : news = [] := by
        cases news with
        | nil => rfl
        | cons v r => obtain ⟨b, off, hh, _⟩ := h4 0 v rfl; cases hh
      subst this
      simp [Builtin.firstCells]
    | some a =>
      refine run_firstCells_some (P := P) w size m a m c news h1 ?_
      intro j v hj
      obtain ⟨b, off, hh, hc⟩ := h4 j v hj
      cases hh
      have hadd : (⟨b, off, none⟩ : Addr).add j = ⟨b, off + j, none⟩ := by unfold Addr.add; split <;> simp_all
      rw [hadd]; exact hc
  · have hx : (s.extract 0 s.size) = s := by simp
    simp [Builtin.firstCells, hx, bv]
    apply Array.ext'
    simp

theorem toList_take_append (cur : List Value) (k : Nat) (news : List Value) (h : k + news.length ≤ cur.length) :
    (cur.take k ++ news ++ cur.drop (k + news.length)).take (k + news.length) = cur.take k ++ news := by
  have : (cur.take k ++ news).length = k + news.length := by simp; omega
  rw [← this]; exact List.take_left

/-- WHAT append DOES to a slice that the call owns -/
theorem run_append {P : Program} {t u ty e : TypeId} {z : Value} {size bytes : Nat} (E : Elem P t e z size bytes) {w : World} {base : Nat} {ad : Option Addr} {cap n : Nat} {xs : List Value}
    (hown : Owns w base e size ad cap n xs) {x : Value} {m : Nat} {news : List Value} (hx : Src P u w size x m news)
    (h63 : n + m ≤ maxLen) (hbytes : (n + m) * bytes ≤ 140737488355328) (hbase : base ≤ w.heap.size) :
    ∃ ad' cap' w', (Builtin.append_ #[t, u] ty #[.slice ad n cap, x]).run P w = .ok (.slice ad' (n + m) cap') w' ∧ Owns w' base e size ad' cap' (n + m) (xs ++ news) ∧
      w.grownBy w' (ad.map (·.block)) ∧ (∀ a, ad' = some a → ad = some a ∨ w.heap.size ≤ a.block) := by
  obtain ⟨ht, hinfo, hzs, hpos⟩ := E
  obtain ⟨i, hi, hz, hsize, hby⟩ := info_parts hinfo
  subst hsize
  subst hby
  obtain ⟨d, hd, hdd⟩ : ∃ d, P.underlying u = some d ∧ (d = .string ∨ ∃ e', d = .slice e') := by
    obtain ⟨_, _, ⟨_, _, e', _, _, hu⟩ | ⟨_, _, _, _, _, hu⟩⟩ := hx
    · exact ⟨_, hu, .inr ⟨e', rfl⟩⟩
    · exact ⟨_, hu, .inl rfl⟩
  have hlen := hx.lenOf (P := P) w
  have hfirst := hx.first
  have hxl := hx.1
  have h1 := hx.2.1
  obtain ⟨hl, hnc, hcm, hcase⟩ := hown
  by_cases hroom : n + m ≤ cap
  · rcases hcase with ⟨rfl, rfl, rfl⟩ | ⟨g, cur, fr, rfl, hbg, hg, hfr, hcs, htake⟩
    · have hm : m = 0 := by omega
      subst hm
      have hn : news = [] := List.eq_nil_of_length_eq_zero (by simpa using hxl)
      have hxs : xs = [] := List.eq_nil_of_length_eq_zero (by simpa using hl)
      subst hn; subst hxs
      refine ⟨none, 0, w, ?_, Owns.empty _ _ _ _, ⟨rfl, rfl, rfl, Nat.le_refl _, fun _ _ _ => rfl⟩, fun a h => by cases h⟩
      rcases hdd with rfl | ⟨e', rfl⟩ <;> simp [Builtin.append_, run_underlying ht, run_underlying hd, sizeOf, typeInfo, hi, hlen, hfirst]
    · have hfit : n * i.size + 0 + news.length ≤ cur.size := by rw [hxl, hcs, Nat.add_zero, ← Nat.add_mul]; exact Nat.mul_le_mul_right _ hroom
      have hst := run_storeCells_un (P := P) g (n * i.size) e fr news 0 cur w hg hfr hfit h1
      simp only [Nat.add_zero] at hst hfit
      refine ⟨some ⟨g, 0, .none⟩, cap, w.setRow g (cur.toList.take (n * i.size) ++ news ++ cur.toList.drop (n * i.size + news.length)).toArray, ?_, ⟨by rw [List.length_append, hl, hxl, Nat.add_mul], hroom, hcm, .inr ⟨g, (cur.toList.take (n * i.size) ++ news ++ cur.toList.drop (n * i.size + news.length)).toArray, fr, rfl, hbg, setRow_heap w g cur _ e fr hg, ?_, ?_, ?_⟩⟩, ⟨rfl, rfl, rfl, by simp, fun k _ hk => setRow_other w g k _ (fun e => hk (by simp [e]))⟩, fun a h => .inl h⟩
      · rcases hdd with rfl | ⟨e', rfl⟩ <;> simp [Builtin.append_, run_underlying ht, run_underlying hd, sizeOf, typeInfo, hi, hlen, hroom, hfirst, Addr.add_lit, hst]
      · have : (cur.toList.take (n * i.size) ++ news ++ cur.toList.drop (n * i.size + news.length)).toArray.size = cur.size := by simp; omega
        rw [this]; exact hfr
      · simp only [List.size_toArray, List.length_append, List.length_take, List.length_drop, Array.length_toList]; omega
      · rw [Nat.add_mul, ← hxl, toList_take_append _ _ _ (by simpa using hfit), htake]
  · have hold : (Builtin.firstCells i.size n (.slice ad n cap)).run P w.drew = .ok xs.toArray w.drew := by
      cases ad with
      | none =>
        have : xs = [] := (Owns.nil_of (w := w) (base := base) (e := e) (size := i.size) (cap := cap) (n := n) ⟨hl, hnc, hcm, hcase⟩).2.2
        subst this
        simp [Builtin.firstCells]
      | some a =>
        have hrow : Row w (some a) xs := Owns.row (base := base) (e := e) (size := i.size) (cap := cap) (n := n) ⟨hl, hnc, hcm, hcase⟩
        refine run_firstCells_some (P := P) w.drew i.size n a n cap xs hl ?_
        intro j v hj
        obtain ⟨b, off, hh, hc⟩ := hrow j v hj
        cases hh
        have hadd : (⟨b, off, none⟩ : Addr).add j = ⟨b, off + j, none⟩ := by unfold Addr.add; split <;> simp_all
        rw [hadd]; exact hc
    have hfirst' := (hx.gr (Gr.drew w)).first
    have hnr : ¬ (n + m ≤ cap) := hroom
    have h63' : ¬ (9223372036854775807 < ((n : Int) + (m : Int))) := by unfold maxLen at h63; omega
    have hfit := growslice_fits (need := n + m) (old := cap) (bytes := i.bytes) (by omega) hbytes
    have h48' : ¬ (281474976710656 < Builtin.nextslicecap (n + m) cap * i.bytes) := by omega
    have hge := grownCap_ge w (n + m) cap e
    refine ⟨some ⟨w.heap.size, 0, .none⟩, grownCap w (n + m) cap e, w.drew.alloc (.cells (xs.toArray ++ news.toArray ++ Builtin.zeroCells z.cells (grownCap w (n + m) cap e - (n + m))) e), ?_,
      ⟨by rw [List.length_append, hl, hxl, Nat.add_mul], hge, grownCap_le_maxLen w (n + m) cap e h63, .inr ⟨w.heap.size, _, (0, 0), rfl, hbase, heap_alloc_new w.drew _, by simp, ?_, ?_⟩⟩, ⟨rfl, rfl, rfl, by simp, fun k hk _ => Below.heap_alloc w.drew _ k hk⟩, fun a h => by cases h; exact .inr (Nat.le_refl _)⟩
    · rcases hdd with rfl | ⟨e', rfl⟩ <;> simp [Builtin.append_, run_underlying ht, run_underlying hd, sizeOf, typeInfo, zeroValue, hi, hz, hlen, hnr, h63', h48', Question.forced, hfirst', hold, newRow, grownCap]
      all_goals (congr 2; apply Array.ext'; simp [List.append_assoc])
    · simp only [Array.size_append, List.size_toArray, size_zeroCells, hzs, hl, hxl, ← Nat.add_mul]
      congr 1
      omega
    · simp only [Array.toList_append]
      have : (xs ++ news).length = (n + m) * i.size := by rw [List.length_append, hl, hxl, Nat.add_mul]
      rw [← this]; exact List.take_left

theorem wp_append {P : Program} {t u e : TypeId} {z : Value} {size bytes : Nat} (E : Elem P t e z size bytes) {w : World} {ops : Array Oper} {rest : List Oper} {o : Oper} {a : Act} {Q : Exit → Act → World → Prop} (hgd : o.guard = none) (s x : Operand)
    (ho : o.op = .call { callee := .builtin .append, args := #[s, x], argTypes := #[t, u] })
    {base : Nat} {ad : Option Addr} {cap n : Nat} {xs : List Value} (hs : a.eval s = .slice ad n cap) (hown : Owns w base e size ad cap n xs)
    {xv : Value} {m : Nat} {news : List Value} (hxv : a.eval x = xv) (hx : Src P u w size xv m news)
    (h63 : n + m ≤ maxLen) (hbytes : (n + m) * bytes ≤ 140737488355328) (hbase : base ≤ w.heap.size)
    (h : ∀ ad' cap' w', Owns w' base e size ad' cap' (n + m) (xs ++ news) → w.grownBy w' (ad.map (·.block)) → (∀ a, ad' = some a → ad = some a ∨ w.heap.size ≤ a.block) → wpList P ops Q rest (a.put o.dst (.slice ad' (n + m) cap')) w') :
    wpList P ops Q (o :: rest) a w := by
  refine wpList_plain hgd fun K hK => ?_
  obtain ⟨ad', cap', w', hr, h2, h3, h4⟩ := run_append (u := u) (ty := o.type) E hown hx h63 hbytes hbase
  unfold Oper.wp execOp
  simp only [ho, resolve, invoke, builtin, Sem.run_bind, Sem.run_pure, Result.andThen_ok, List.map_toArray, List.map_cons, List.map_nil, hs, hxv, hr]
  exact hK _ _ (h ad' cap' w' h2 h3 h4)

theorem Row.alloc (w : World) (C : Array Value) (e : TypeId) (fr : Nat × Nat) (vs : List Value) (h : C.toList = vs) : Row (w.alloc (.cells C e fr)) (some ⟨w.heap.size, 0, none⟩) vs := by
  intro i u hi
  refine ⟨w.heap.size, 0, rfl, ?_⟩
  rw [Nat.zero_add, cell_of_row _ w.heap.size i C e fr (heap_alloc_new w _)]
  rw [← h] at hi
  simpa using hi
theorem Bytes.alloc (w : World) (C : Array Value) (e : TypeId) (fr : Nat × Nat) (l : List UInt8) (h : C.toList = bv l) : Bytes (w.alloc (.cells C e fr)) (some ⟨w.heap.size, 0, none⟩) l :=
  (Row.alloc w C e fr _ h).bytes
theorem Owns.made (w : World) (base : Nat) (C : Array Value) (e : TypeId) (fr : Nat × Nat) (size n cap : Nat) (xs : List Value) (hb : base ≤ w.heap.size) (hm : cap ≤ maxLen) (hn : n ≤ cap)
    (hs : C.size = cap * size) (hfr : C.size ≤ fr.1 + (if fr = (0, 0) then C.size else 0)) (hx : C.toList.take (n * size) = xs) : Owns (w.alloc (.cells C e fr)) base e size (some ⟨w.heap.size, 0, none⟩) cap n xs := by
  refine ⟨?_, hn, hm, .inr ⟨w.heap.size, C, fr, rfl, hb, heap_alloc_new w _, hfr, hs, hx⟩⟩
  rw [← hx, List.length_take, Array.length_toList, hs]
  exact Nat.min_eq_left (Nat.mul_le_mul_right _ hn)

/-- a class of worlds is not empty: what does not speak of the world holds -/
@[go_sem] theorem gr_const (w : World) (p : Prop) : (∀ w', Gr w w' → p) ↔ p := ⟨fun h => h w (Gr.refl w), fun h _ _ => h⟩
/-- a slice of bytes, as a string -/
def str (l : List UInt8) : ByteArray := ⟨l.toArray⟩
theorem str_list (l : List UInt8) : (str l).data.toList = l := by simp [str]
theorem str_size (l : List UInt8) : (str l).size = l.length := by simp [str, ByteArray.size]
theorem str_append (a b : List UInt8) : str a ++ str b = str (a ++ b) := by
  apply ByteArray.ext
  simp [str]
@[go_sem] theorem str_toList (l : List UInt8) : (str l).toList = l := by rw [Go.ByteArray.toList_eq, str_list]
theorem run_string {P : Program} {w : World} {src dst e : TypeId} (hs : P.underlying src = some (.slice e)) (he : P.underlying e = some (.int .u8)) (hd : P.underlying dst = some .string)
    {ad : Option Addr} {len cap : Nat} {l : List UInt8} (hl : l.length = len) (hb : Bytes w ad l) : (convert src dst (.slice ad len cap)).run P w = .ok (.string (str l)) w := by
  subst hl
  cases ad with
  | none =>
    have : l = [] := by
      cases l with
      | nil => rfl
      | cons x r => obtain ⟨b, off, hh, _⟩ := hb 0 (by simp); cases hh
    subst this
    rw [run_convert_bytes_string w src dst e .none _ cap hs he hd]
    rfl
  | some a =>
    refine run_convert_bytes_back w src dst e a cap l hs he hd ?_
    intro j hj
    obtain ⟨b, off, hh, hc⟩ := hb j hj
    cases hh
    have hadd : (⟨b, off, none⟩ : Addr).add j = ⟨b, off + j, none⟩ := by unfold Addr.add; split <;> simp_all
    rw [hadd]; exact hc

/-- make([]T, n, m), elements of one cell -/
theorem wp_make {P : Program} {t e : TypeId} {z : Value} {bytes : Nat} (E : Elem P t e z 1 bytes) (hz1 : z.cells = #[z]) {w : World} {ops : Array Oper} {rest : List Oper} {o : Oper} {a : Act} {Q : Exit → Act → World → Prop} (hgd : o.guard = none) (l c : Operand)
    (ho : o.op = .makeSlice t l c) {kl kc : IntKind} {L C : Int} (n m : Nat) (hl : a.eval l = .int kl L) (hc : a.eval c = .int kc C) (hL : L = (n : Int)) (hC : C = (m : Int)) (hnm : n ≤ m) (h63 : m ≤ maxLen) (hbytes : bytes * m ≤ 281474976710656)
    (h : ∀ w', Owns w' w.heap.size e 1 (some ⟨w.heap.size, 0, none⟩) m n (List.replicate n z) → Gr w w' → w'.heap.size = w.heap.size + 1 → wpList P ops Q rest (a.put o.dst (.slice (some ⟨w.heap.size, 0, none⟩) n m)) w') :
    wpList P ops Q (o :: rest) a w := by
  refine wpList_plain hgd fun K hK => ?_
  obtain ⟨ht, hinfo, hzs, hpos⟩ := E
  obtain ⟨i, hi, hz, hsize, hby⟩ := info_parts hinfo
  subst hL
  subst hC
  have h63' : (m : Int) ≤ 9223372036854775807 := by simp [maxLen] at h63; omega
  have hb' : (i.bytes : Int) * (m : Int) ≤ 281474976710656 := by
    have h : ((i.bytes * m : Nat) : Int) ≤ 281474976710656 := by rw [hby]; omega
    rwa [Int.natCast_mul] at h
  have hr := run_make (P := P) w t e i z ht hi hz kl kc n m (by omega) (by omega) hb' h63'
  simp only [Int.toNat_natCast] at hr
  unfold Oper.wp
  simp only [execOp, ho, hl, hc, Sem.run_bind, Sem.run_pure, hr, Result.andThen_ok]
  refine hK _ _ (h _ ?_ (Gr.alloc _ _) (by simp))
  refine Owns.made w _ _ e (0, 0) 1 n m _ (Nat.le_refl _) h63 hnm ?_ (by simp) ?_
  · rw [hsize, Nat.mul_one, hz1, ← Array.length_toList, toList_madeCells_one, List.length_replicate]
  · rw [hsize, Nat.mul_one, Nat.mul_one, hz1, toList_madeCells_one, List.take_replicate, Nat.min_eq_left hnm]
theorem bv_replicate (n : Nat) : List.replicate n (Value.int .u8 0) = bv (List.replicate n 0) := by simp [bv]
/-- a store into an owned row -/
theorem Owns.store {w : World} {base : Nat} {e : TypeId} {ad : Option Addr} {cap n : Nat} {xs : List Value} (h : Owns w base e 1 ad cap n xs) {g i : Nat} (had : ad = some ⟨g, 0, .none⟩) (hi : i < n) (u : Value) :
    Owns (w.setCell ⟨g, i, .none⟩ u) base e 1 ad cap n (xs.set i u) := by
  obtain ⟨h1, h2, h3, ⟨e1, _⟩ | ⟨g', cur, fr, e1, e2, hg, hfr, hs, ht⟩⟩ := h
  · rw [e1] at had; cases had
  · rw [e1] at had
    cases had
    rw [setCell_eq_setRow w g i cur e fr u hg]
    refine ⟨by simp [h1], h2, h3, .inr ⟨g, _, fr, e1, e2, setRow_heap w g cur _ e fr hg, by simpa using hfr, by simpa using hs, ?_⟩⟩
    rw [Array.toList_setIfInBounds, ← ht]
    apply List.ext_getElem?
    intro j
    simp only [List.getElem?_take, List.getElem?_set, List.length_take]
    by_cases h1 : j < n * 1
    · by_cases h2 : i = j
      · subst h2
        have h4 : i < min (n * 1) cur.toList.length := by rw [Nat.lt_min]; exact ⟨h1, by simp; omega⟩
        have h5 : i < cur.toList.length := by simp; omega
        simp only [h1, h4, h5, if_true]
      · simp only [h1, h2, if_true, if_false]
    · have h2 : ¬ i = j := by omega
      simp only [h1, h2, if_false]
theorem Owns.unfrozen {w : World} {base : Nat} {e : TypeId} {size : Nat} {ad : Option Addr} {cap n : Nat} {xs : List Value} (h : Owns w base e size ad cap n xs) {g i : Nat} (had : ad = some ⟨g, 0, .none⟩) (hi : i < n * size) : w.frozen? ⟨g, i, .none⟩ = false := by
  obtain ⟨h1, h2, h3, ⟨e1, _⟩ | ⟨g', cur, fr, e1, e2, hg, hfr, hs, ht⟩⟩ := h
  · rw [e1] at had; cases had
  · rw [e1] at had
    cases had
    exact frozen_of hg hfr i (by rw [hs]; exact Nat.lt_of_lt_of_le hi (Nat.mul_le_mul_right _ h2))
theorem Owns.at {w : World} {base : Nat} {e : TypeId} {size : Nat} {ad : Option Addr} {cap n : Nat} {xs : List Value} (h : Owns w base e size ad cap n xs) {i : Nat} {u : Value} (hi : xs[i]? = some u) :
    ∃ g, ad = some ⟨g, 0, .none⟩ ∧ base ≤ g ∧ w.cell? ⟨g, i, .none⟩ = some u := by
  obtain ⟨b, off, e1, hc⟩ := h.row i u hi
  obtain ⟨_, _, _, ⟨e2, _⟩ | ⟨g', cur, fr, e2, hb, _⟩⟩ := h
  · rw [e2] at e1; cases e1
  · rw [e2] at e1
    cases e1
    exact ⟨b, e2, hb, by rw [Nat.zero_add] at hc; exact hc⟩
theorem Owns.bytes {w : World} {base : Nat} {e : TypeId} {ad : Option Addr} {cap n : Nat} {l : List UInt8} (h : Owns w base e 1 ad cap n (bv l)) : Bytes w ad l := h.row.bytes
theorem Owns.len {w : World} {base : Nat} {e : TypeId} {ad : Option Addr} {cap n : Nat} {l : List UInt8} (h : Owns w base e 1 ad cap n (bv l)) : l.length = n := by
  have := h.1; rw [bv_length] at this; omega
theorem bv_set (l : List UInt8) (i : Nat) (x : UInt8) : (bv l).set i (.int .u8 (x.toNat : Int)) = bv (l.set i x) := by simp [bv, List.map_set]

theorem Bytes.take {w : World} {ad : Option Addr} {l : List UInt8} (h : Bytes w ad l) (n : Nat) : Bytes w ad (l.take n) := fun i hi => by
  have hl : i < l.length := by rw [List.length_take] at hi; omega
  obtain ⟨b, off, e, hc⟩ := h i hl
  exact ⟨b, off, e, by rw [hc, List.getElem_take]⟩
theorem Bytes.drop {w : World} {b off : Nat} {l : List UInt8} (h : Bytes w (some ⟨b, off, none⟩) l) (n : Nat) : Bytes w (some ⟨b, off + n, none⟩) (l.drop n) := fun i hi => by
  have hl : n + i < l.length := by rw [List.length_drop] at hi; omega
  obtain ⟨b', off', e, hc⟩ := h (n + i) hl
  cases e
  exact ⟨b, off + n, rfl, by rw [Nat.add_assoc, hc, List.getElem_drop]⟩

/-- what hands back bytes of its own -/
def RetB (e : TypeId) (w : World) (l : List UInt8) : Ending → World → Prop := fun x w' =>
  ∃ ad cap, x = .returned (.slice ad l.length cap) ∧ Owns w' w.heap.size e 1 ad cap l.length (bv l) ∧ Gr w w'

/-- one byte, laid in a block of its own -/
theorem Src.one {P : Program} {u e e' : TypeId} (w : World) (X : Int) (x : UInt8) (hX : X = (x.toNat : Int)) (hu : P.underlying u = some (.slice e')) :
    Src P u (w.alloc (.cells #[.int .u8 X] e)) 1 (.slice (some ⟨w.heap.size, 0, none⟩) 1 1) 1 (bv [x]) := by
  subst hX
  exact Src.bytes (Bytes.alloc w _ e (0, 0) [x] rfl) rfl hu
/-- what grew behind a new block, with writes to an owned row alone -/
theorem Gr.app {a w w' : World} {o : Obj} {ad : Option Addr} {base : Nat} {e : TypeId} {size cap n : Nat} {xs : List Value} (h : Gr a w) (ho : Owns w base e size ad cap n xs) (hb : a.heap.size ≤ base) (hg : (w.alloc o).grownBy w' (ad.map (·.block))) : Gr a w' :=
  (h.trans (Gr.alloc _ _)).grown hg (fun k hk => by
    cases ad with
    | none => cases hk
    | some x => cases hk; exact Nat.le_trans hb (ho.lt x rfl).1)

/-- a string, as bytes of its own -/
theorem bytes_str {P : Program} {src dst e : TypeId} (hs : P.underlying src = some .string) (hd : P.underlying dst = some (.slice e)) (he : P.underlying e = some (.int .u8)) (w : World) (l : List UInt8) (hl : l.length ≤ maxLen) :
    ∃ cap w', (convert src dst (.string (str l))).run P w = .ok (.slice (some ⟨w.heap.size, 0, none⟩) l.length cap) w' ∧ Owns w' w.heap.size e 1 (some ⟨w.heap.size, 0, none⟩) cap l.length (bv l) ∧ Gr w w' ∧ w'.heap.size = w.heap.size + 1 := by
  have h1 := run_bytes_of_string (P := P) w src dst e (str l) hs hd he
  rw [str_size] at h1
  have hge := grownCap_ge w l.length 0 e
  have hle := grownCap_le_maxLen w l.length 0 e hl
  have hsz : (bytesRow (str l) (grownCap w l.length 0 e)).size = grownCap w l.length 0 e := by
    have h2 : (str l).data.size = l.length := by simp [str]
    simp only [bytesRow, Array.size_append, Array.size_map, Array.size_replicate, h2, str_size]
    omega
  refine ⟨_, _, h1, ?_, ⟨rfl, rfl, rfl, by simp, fun k hk => Below.heap_alloc w.drew _ k hk⟩, by simp⟩
  refine ⟨by simp [bv], hge, hle, .inr ⟨w.heap.size, _, _, rfl, Nat.le_refl _, heap_alloc_new w.drew _, by simp, by rw [hsz, Nat.mul_one], ?_⟩⟩
  simp [bytesRow, str, bv]

end Go.Proofs.YtpaogoehgkoaeaaGreatDoor
/- A region that draws its order: what each operation's value is known to be, whatever the order. Each operation is shown once, from what is known of its operands, in whatever world that has grown so far. No program is in sight here. -/
namespace Go.Proofs.YtpaogoehgkoaeaaGreatDoor
set_option linter.unusedVariables false
set_option linter.unusedSimpArgs false
open Go.RowKit
section
variable {P : Program}

def growUpon (P : Program) (Le : World → World → Prop) (w : World) (R : Value → World → Prop) : Result Next → Prop
  | .ok (.value v) w' => Le w w' ∧ R v w'
  | .ok .skip w' => Le w w' ∧ R undef w'
  | .ok (.enter f args) w' => Le w w' ∧ Calls P f args w' fun e w'' => ∃ v, e = .returned v ∧ Le w' w'' ∧ R v w''
  | _ => False
def depsOf (o : Oper) : List Nat := o.after.toList.filterMap fun e => if Region.binds .any e then some e.on else none
def tmpOf : Operand → Option Tmp
  | .tmp t => some t
  | _ => none
def slotsOf (o : Oper) : List Tmp := o.op.operands.toList.filterMap tmpOf
def dstOf (ops : List Oper) (j : Nat) : Option Tmp := (ops[j]?).bind (·.dst)
def srcOf (ops : List Oper) (o : Oper) (t : Tmp) : Option Nat := (depsOf o).find? fun j => dstOf ops j == some t
/-- what an operand's reading goes by -/
def Ev (ρ : Operand → Value) : Prop := (∀ v, ρ (.const v) = v) ∧ (∀ f, ρ (.func f) = .func (.func f) #[] #[]) ∧ ∀ g, ρ (.global g) = .pointer (some ⟨g, 0, none⟩)
def boolOf : Value → Option Bool
  | .bool b => some b
  | _ => none
def wantedBy (ops : List Oper) (o : Oper) (ρ : Operand → Value) : Bool :=
  match o.guard with
  | none => true
  | some (j, b) => (match dstOf ops j with | some d => boolOf (ρ (.tmp d)) | none => none) == some b
def readsOf (ops : List Oper) (o : Oper) : List Tmp := slotsOf o ++ (match o.guard with | none => [] | some (j, _) => (dstOf ops j).toList)
def knownOf (ops : List Oper) (R : Nat → Value → World → Prop) (a0 : Act) (o : Oper) (t : Tmp) (v : Value) (w : World) : Prop :=
  match srcOf ops o t with
  | some j => R j v w
  | none => v = a0.tmps.getD t undef
/-- of a row of slots -/
def KnownAll (ops : List Oper) (R : Nat → Value → World → Prop) (a0 : Act) (o : Oper) (ρ : Operand → Value) (w : World) : List Tmp → Prop
  | [] => True
  | t :: r => knownOf ops R a0 o t (ρ (.tmp t)) w ∧ KnownAll ops R a0 o ρ w r
theorem KnownAll.of {ops : List Oper} {R : Nat → Value → World → Prop} {a0 : Act} {o : Oper} {ρ : Operand → Value} {w : World} : ∀ {l : List Tmp}, (∀ t ∈ l, knownOf ops R a0 o t (ρ (.tmp t)) w) → KnownAll ops R a0 o ρ w l
  | [], _ => trivial
  | t :: r, h => ⟨h t List.mem_cons_self, KnownAll.of fun x hx => h x (List.mem_cons_of_mem _ hx)⟩
/-- what is to be shown of an operation -/
def Shown (P : Program) (Le : World → World → Prop) (ops : List Oper) (R : Nat → Value → World → Prop) (a0 : Act) (w0 : World) (i : Nat) (o : Oper) : Prop :=
  ∀ ρ w, Ev ρ → Le w0 w → KnownAll ops R a0 o ρ w (readsOf ops o) →
    if wantedBy ops o ρ then growUpon P Le w (R i) ((execOp ρ o).run P w) else R i undef w
def opOk (ops : List Oper) (n i : Nat) (o : Oper) : Bool :=
  (match o.op with | .select .. => false | _ => true) &&
  (match o.dst with | some d => decide (d < n) && !(readsOf ops o).contains d | none => true) &&
  (depsOf o).all (fun j => decide (j < i)) &&
  (match o.guard with | some (j, _) => (depsOf o).contains j && (dstOf ops j).isSome | none => true) &&
  (List.range ops.length).all (fun j => j == i || (match dstOf ops j with | some d => o.dst != some d && (!(readsOf ops o).contains d || (depsOf o).contains j || (match ops[j]? with | some o' => (depsOf o').contains i | none => false)) | none => true))
def anyB (ops : List Oper) (n : Nat) : Bool := (List.range ops.length).all fun i => match ops[i]? with | some o => opOk ops n i o | none => true

def putAll (val : Nat → Value) : List Oper → Nat → Act → Act
  | [], _, a => a
  | o :: r, i, a => putAll val r (i + 1) (a.put o.dst (val i))

theorem put_size (a : Act) (d : Option Tmp) (v : Value) : (a.put d v).tmps.size = a.tmps.size := by cases d <;> simp [Act.put]
theorem put_defers (a : Act) (d : Option Tmp) (v : Value) : (a.put d v).defers = a.defers := by cases d <;> rfl
theorem put_same (a : Act) (d : Tmp) (v : Value) (h : d < a.tmps.size) : (a.put (some d) v).tmps.getD d undef = v := by simp [Act.put, h]
theorem put_other (a : Act) (d : Option Tmp) (v : Value) (t : Tmp) (h : d ≠ some t) : (a.put d v).tmps.getD t undef = a.tmps.getD t undef := by
  cases d with
  | none => rfl
  | some d =>
    have : d ≠ t := fun e => h (by rw [e])
    simp [Act.put, Array.getElem?_setIfInBounds_ne this]
theorem putAll_size (val : Nat → Value) : ∀ (l : List Oper) (i : Nat) (a : Act), (putAll val l i a).tmps.size = a.tmps.size
  | [], _, _ => rfl
  | o :: r, i, a => by rw [putAll, putAll_size val r, put_size]
theorem putAll_defers (val : Nat → Value) : ∀ (l : List Oper) (i : Nat) (a : Act), (putAll val l i a).defers = a.defers
  | [], _, _ => rfl
  | o :: r, i, a => by rw [putAll, putAll_defers val r, put_defers]
theorem putAll_other (val : Nat → Value) (t : Tmp) : ∀ (l : List Oper) (i : Nat) (a : Act), (∀ o ∈ l, o.dst ≠ some t) → (putAll val l i a).tmps.getD t undef = a.tmps.getD t undef
  | [], _, _, _ => rfl
  | o :: r, i, a, h => by
    rw [putAll, putAll_other val t r (i + 1) _ (fun o' ho => h o' (List.mem_cons_of_mem _ ho)), put_other _ _ _ _ (h o List.mem_cons_self)]
theorem putAll_at (val : Nat → Value) (t : Tmp) : ∀ (l : List Oper) (i : Nat) (a : Act) (k : Nat) (o : Oper), l[k]? = some o → o.dst = some t → t < a.tmps.size →
    (∀ j o', l[j]? = some o' → j ≠ k → o'.dst ≠ some t) → (putAll val l i a).tmps.getD t undef = val (i + k)
  | [], _, _, _, _, h, _, _, _ => by simp at h
  | x :: r, i, a, 0, o, h, hd, ht, hu => by
    simp at h; subst h
    rw [putAll, putAll_other val t r (i + 1) _ (fun o' ho => by
      obtain ⟨j, hj, e⟩ := List.getElem_of_mem ho
      exact hu (j + 1) o' (by simp [hj, e]) (by omega)), hd, put_same _ _ _ ht]; rfl
  | x :: r, i, a, k + 1, o, h, hd, ht, hu => by
    rw [putAll, putAll_at val t r (i + 1) _ k o (by simpa using h) hd (by rw [put_size]; exact ht) (fun j o' hj hjk => hu (j + 1) o' (by simpa using hj) (by omega))]
    congr 1; omega
theorem act_ext {a b : Act} (h1 : a.tmps.size = b.tmps.size) (h2 : a.defers = b.defers) (h3 : ∀ t, a.tmps.getD t undef = b.tmps.getD t undef) : a = b := by
  cases a with
  | mk t1 d1 =>
    cases b with
    | mk t2 d2 =>
      simp only at h1 h2 h3
      subst h2
      congr 1
      apply Array.ext h1
      intro i hi1 hi2
      have := h3 i
      simpa [hi1, hi2] using this

/-- what holds on the way -/
structure OnWay (Le : World → World → Prop) (ops : List Oper) (R : Nat → Value → World → Prop) (a0 : Act) (w0 : World) (listed : Array Bool) (a : Act) (w : World) : Prop where
  size : listed.size = ops.length
  le : Le w0 w
  defers : a.defers = a0.defers
  tmps : a.tmps.size = a0.tmps.size
  closed : ∀ j o, ops[j]? = some o → listed.getD j false = true → ∀ d ∈ depsOf o, listed.getD d false = true
  known : ∀ j o d, ops[j]? = some o → listed.getD j false = true → o.dst = some d → R j (a.tmps.getD d undef) w
  rest : ∀ t, (∀ j o, ops[j]? = some o → listed.getD j false = true → o.dst ≠ some t) → a.tmps.getD t undef = a0.tmps.getD t undef

theorem opOk_of {ops : List Oper} {n : Nat} (hB : anyB ops n = true) {i : Nat} {o : Oper} (hi : ops[i]? = some o) : opOk ops n i o = true := by
  have := List.all_eq_true.1 hB i (List.mem_range.2 (List.getElem?_eq_some_iff.1 hi).1)
  simpa [hi] using this
theorem listed_set {listed : Array Bool} {i j : Nat} (h : (listed.setIfInBounds i true).getD j false = true) : j = i ∨ listed.getD j false = true := by
  by_cases hij : i = j
  · exact .inl hij.symm
  · rw [getD_set_ne false hij] at h; exact .inr h
theorem yielded_eq (ops : List Oper) (tmps : Array Value) (j : Nat) : yielded ops.toArray tmps j = match dstOf ops j with | some d => boolOf (tmps.getD d undef) | none => none := by
  unfold yielded dstOf
  simp only [List.getElem?_toArray]
  cases h : (ops[j]?).bind (·.dst) with
  | none => rfl
  | some d =>
    simp only [Option.bind_some]
    by_cases hd : d < tmps.size
    · simp [hd]
      cases tmps[d] <;> rfl
    · simp [hd]
      rfl

def cnt (f : Nat → Bool) : Nat → Nat
  | 0 => 0
  | n + 1 => cnt f n + (if f n then 0 else 1)
theorem cnt_le (f : Nat → Bool) : ∀ n, cnt f n ≤ n
  | 0 => Nat.le_refl _
  | n + 1 => by have := cnt_le f n; rw [cnt]; split <;> omega
theorem cnt_zero {f : Nat → Bool} : ∀ {n : Nat}, cnt f n = 0 → ∀ k, k < n → f k = true
  | 0, _, _, h => absurd h (by omega)
  | n + 1, hc, k, hk => by
    rw [cnt] at hc
    by_cases h : k = n
    · subst h
      cases hf : f k with
      | true => rfl
      | false => simp [hf] at hc
    · exact cnt_zero (n := n) (by omega) k (by omega)
theorem cnt_same {f g : Nat → Bool} : ∀ {n : Nat}, (∀ k, k < n → f k = g k) → cnt f n = cnt g n
  | 0, _ => rfl
  | n + 1, h => by rw [cnt, cnt, cnt_same (n := n) fun k hk => h k (by omega), h n (by omega)]
theorem cnt_set {f g : Nat → Bool} {i : Nat} : ∀ {n : Nat}, i < n → f i = false → (∀ k, g k = (f k || k == i)) → cnt g n + 1 = cnt f n
  | 0, h, _, _ => absurd h (by omega)
  | n + 1, h, hf, hg => by
    rw [cnt, cnt]
    by_cases hin : i = n
    · subst hin
      have e : cnt g i = cnt f i := cnt_same fun k hk => by
        have h2 : (k == i) = false := by simp; omega
        rw [hg, h2, Bool.or_false]
      rw [e, hg, hf]; simp
    · have := cnt_set (n := n) (by omega) hf hg
      have h2 : (n == i) = false := by simp; omega
      have e : g n = f n := by rw [hg, h2, Bool.or_false]
      rw [e]; omega
theorem getD_replicate_false' (m j : Nat) : (Array.replicate m false).getD j false = false := by
  rcases Nat.lt_or_ge j m with h | h
  · simp [h]
  · simp [h]
theorem region_any {Le : World → World → Prop} (hrefl : ∀ w, Le w w) (htrans : ∀ a b c, Le a b → Le b c → Le a c) (hdrew : ∀ w, Le w w.drew) {id : Nat} {Q : Exit → Act → World → Prop} {a0 : Act} {w : World} {l : List Oper} (n : Nat) (R : Nat → Value → World → Prop)
    (hm : P.follows .mixedOrders = true) (hB : anyB l n = true) (hn : a0.tmps.size = n) (hst : ∀ i v w1 w2, R i v w1 → Le w1 w2 → R i v w2)
    (hs : ∀ i o, l[i]? = some o → Shown P Le l R a0 w i o)
    (hfin : ∀ w1 val, Le w w1 → (∀ i o, l[i]? = some o → o.dst.isSome = true → R i (val i) w1) → Q .normal (putAll val l 0 a0) w1) : (Code.region id l.toArray true).wp P Q a0 w := by
  have hsize : l.toArray.size = l.length := by simp
  have allL : ∀ (listed : Array Bool), listed.size = l.length → Region.ready .any l.toArray listed = [] → ∀ k, k < l.length → listed.getD k false = true := by
    intro listed hls hr k
    induction k using Nat.strongRecOn with
    | _ k ih =>
      intro hk
      cases hc : listed.getD k false with
      | true => rfl
      | false =>
        exfalso
        have hok := opOk_of hB (i := k) (o := l[k]) (by simp [hk])
        have hmem : k ∈ Region.ready .any l.toArray listed := by
          rw [mem_ready]
          refine ⟨?_, l[k], by simp [hk], fun e he hb => ?_⟩
          · have : k < listed.size := by omega
            simp [this] at hc ⊢; exact hc
          · have hd : e.on ∈ depsOf l[k] := by
              unfold depsOf
              rw [List.mem_filterMap]
              exact ⟨e, by simpa using he, by rw [hb]; rfl⟩
            simp only [opOk, Bool.and_eq_true, List.all_eq_true, decide_eq_true_eq] at hok
            have hlt := hok.1.1.2 _ hd
            exact ih _ hlt (by omega)
        rw [hr] at hmem
        cases hmem
  have fin : ∀ (listed : Array Bool) (a : Act) (w1 : World), OnWay Le l R a0 w listed a w1 → (∀ k, k < l.length → listed.getD k false = true) → Q .normal a w1 := by
    intro listed a w1 inv hall
    have hval := hfin w1 (fun j => match dstOf l j with | some d => a.tmps.getD d undef | none => undef) inv.le (fun i o hi hd => by
      obtain ⟨d, hd⟩ := Option.isSome_iff_exists.1 hd
      have : dstOf l i = some d := by simp [dstOf, hi, hd]
      simp only [this]
      exact inv.known i o d hi (hall i (List.getElem?_eq_some_iff.1 hi).1) hd)
    have e : a = putAll (fun j => match dstOf l j with | some d => a.tmps.getD d undef | none => undef) l 0 a0 := by
      refine act_ext (by rw [putAll_size, inv.tmps]) (by rw [putAll_defers, inv.defers]) fun t => ?_
      by_cases ht : ∃ (j : Nat) (o : Oper), l[j]? = some o ∧ o.dst = some t
      · obtain ⟨j, o, hj, hd⟩ := ht
        have hok := opOk_of hB hj
        have htn : t < n := by
          simp only [opOk, hd, Bool.and_eq_true, decide_eq_true_eq] at hok
          exact hok.1.1.1.2.1
        rw [putAll_at _ t l 0 a0 j o hj hd (by rw [hn]; exact htn) (fun j' o' hj' hne hd' => by
          have hok' := opOk_of hB hj'
          simp only [opOk, Bool.and_eq_true, List.all_eq_true] at hok'
          have h2 := hok'.2 j (List.mem_range.2 (List.getElem?_eq_some_iff.1 hj).1)
          have hdj : dstOf l j = some t := by simp [dstOf, hj, hd]
          simp [hdj, hd', Ne.symm hne] at h2)]
        have hdj : dstOf l (0 + j) = some t := by simp [dstOf, hj, hd]
        simp only [hdj]
      · rw [putAll_other _ t l 0 a0 (fun o ho hd => ht (by
          obtain ⟨j, hj, e⟩ := List.getElem_of_mem ho
          exact ⟨j, o, by simp [hj, e], hd⟩))]
        exact inv.rest t (fun j o hj _ hd => ht ⟨j, o, hj, hd⟩)
    rw [e]; exact hval
  have key : ∀ (fuel : Nat) (listed : Array Bool) (a : Act) (w1 : World), OnWay Le l R a0 w listed a w1 → cnt (fun k => listed.getD k false) l.length ≤ fuel → wpAny P .any l.toArray Q fuel listed a w1 := by
    intro fuel
    induction fuel with
    | zero =>
      intro listed a w1 inv hc
      have hall := cnt_zero (by omega : cnt (fun k => listed.getD k false) l.length = 0)
      refine ⟨?_, fin listed a w1 inv hall⟩
      rw [List.eq_nil_iff_forall_not_mem]
      intro j hj
      obtain ⟨h1, o, ho, _⟩ := mem_ready.1 hj
      have hlt : j < l.length := by
        have := (Array.getElem?_eq_some_iff.1 ho).1
        simpa using this
      have h2 := hall j hlt
      have : j < listed.size := by rw [inv.size]; exact hlt
      simp [this] at h1 h2
      rw [h1] at h2; cases h2
    | succ fuel ih =>
      intro listed a w1 inv hc
      refine ⟨fun hr => fin listed a w1 inv (allL listed inv.size hr), fun i hi => ?_⟩
      obtain ⟨h1, o, ho, hdeps⟩ := mem_ready.1 hi
      have hio : l[i]? = some o := by simpa using ho
      have hlt : i < l.length := (List.getElem?_eq_some_iff.1 hio).1
      have hls : i < listed.size := by rw [inv.size]; exact hlt
      have hun : listed.getD i false = false := by simp [hls] at h1 ⊢; exact h1
      have hok := opOk_of hB hio
      have hdl : ∀ d ∈ depsOf o, listed.getD d false = true := by
        intro d hd
        unfold depsOf at hd
        obtain ⟨e, he, hb⟩ := List.mem_filterMap.1 hd
        split at hb
        · rename_i hbb
          cases hb
          exact hdeps e (by simpa using he) hbb
        · cases hb
      have hcnt : cnt (fun k => (listed.setIfInBounds i true).getD k false) l.length ≤ fuel := by
        have := cnt_set (f := fun k => listed.getD k false) (g := fun k => (listed.setIfInBounds i true).getD k false) (i := i) (n := l.length) hlt hun (fun k => by
          by_cases hk : i = k
          · subst hk; simp [hls]
          · have hk' : (k == i) = false := by simp; omega
            simp only [getD_set_ne false hk, hk', Bool.or_false])
        omega
      have hkn : ∀ t ∈ readsOf l o, knownOf l R a0 o t (a.eval (.tmp t)) w1 := by
        intro t ht
        show knownOf l R a0 o t (a.tmps.getD t undef) w1
        unfold knownOf
        cases hsrc : srcOf l o t with
        | some j =>
          have hj := List.mem_of_find?_eq_some hsrc
          have hjt := List.find?_some hsrc
          have hjd : dstOf l j = some t := by simpa using hjt
          unfold dstOf at hjd
          cases hlj : l[j]? with
          | none => simp [hlj] at hjd
          | some oj =>
            simp [hlj] at hjd
            exact inv.known j oj t hlj (hdl j hj) hjd
        | none =>
          refine inv.rest t (fun j oj hlj hll hd => ?_)
          have hdj : dstOf l j = some t := by simp [dstOf, hlj, hd]
          have hne : j ≠ i := fun e => by subst e; rw [hun] at hll; cases hll
          simp only [opOk, Bool.and_eq_true, List.all_eq_true] at hok
          have h2 := hok.2 j (List.mem_range.2 (List.getElem?_eq_some_iff.1 hlj).1)
          simp only [hdj, hlj] at h2
          have ht' : (readsOf l o).contains t = true := by simpa using ht
          simp [hne, ht] at h2
          rcases h2.2 with h3 | h3
          · have := List.find?_eq_none.1 hsrc j h3
            simp [hdj] at this
          · have := inv.closed j oj hlj hll i h3
            rw [hun] at this; cases this
      have hsh := hs i o hio a.eval w1 ⟨fun _ => rfl, fun _ => rfl, fun _ => rfl⟩ inv.le (KnownAll.of hkn)
      have hwant : Region.wanted o (yielded l.toArray a.tmps) = wantedBy l o a.eval := by
        unfold Region.wanted wantedBy
        cases o.guard with
        | none => rfl
        | some g => simp only [yielded_eq]; rfl
      have step : ∀ v w2, Le w1 w2 → R i v w2 → wpAny P .any l.toArray Q fuel (listed.setIfInBounds i true) (a.put o.dst v) w2 := by
        intro v w2 hle hv
        refine ih _ _ _ ⟨by simp [inv.size], htrans _ _ _ inv.le hle, by rw [put_defers, inv.defers], by rw [put_size, inv.tmps], ?_, ?_, ?_⟩ hcnt
        · intro j oj hj hl d hd
          rcases listed_set hl with rfl | hl
          · rw [hio] at hj; cases hj
            exact getD_set_true (hdl d hd)
          · exact getD_set_true (inv.closed j oj hj hl d hd)
        · intro j oj d hj hl hd
          rcases listed_set hl with rfl | hl2
          · rw [hio] at hj; cases hj
            have hdn : d < n := by
              simp only [opOk, hd, Bool.and_eq_true, decide_eq_true_eq] at hok
              exact hok.1.1.1.2.1
            rw [hd, put_same _ _ _ (by rw [inv.tmps, hn]; exact hdn)]
            exact hv
          · by_cases hji : j = i
            · subst hji; rw [hun] at hl2; cases hl2
            · rw [put_other _ _ _ _ (fun hd' => by
                simp only [opOk, Bool.and_eq_true, List.all_eq_true] at hok
                have h2 := hok.2 j (List.mem_range.2 (List.getElem?_eq_some_iff.1 hj).1)
                have hdj : dstOf l j = some d := by simp [dstOf, hj, hd]
                simp [hdj, hd', hji] at h2)]
              exact hst j _ _ _ (inv.known j oj d hj hl2 hd) hle
        · intro t ht
          have h1 : o.dst ≠ some t := ht i o hio (by simp [hls])
          rw [put_other _ _ _ _ h1]
          exact inv.rest t (fun j oj hj hl => ht j oj hj (getD_set_true hl))
      unfold wpOp
      simp only [ho, hwant]
      split
      · rename_i hw
        rw [hw] at hsh
        simp only [if_true] at hsh
        left
        unfold Oper.wp
        generalize (execOp a.eval o).run P w1 = r at hsh
        cases r with
        | halt x w' => exact hsh.elim
        | ok nx w' =>
          cases nx with
          | value v => exact step v w' hsh.1 hsh.2
          | skip => exact step undef w' hsh.1 hsh.2
          | enter f args =>
            obtain ⟨h2, h3⟩ := hsh
            exact h3.mono fun e w'' ⟨v, he, hle, hv⟩ => by subst he; exact step v w'' (htrans _ _ _ h2 hle) hv
          | _ => exact hsh.elim
      · rename_i hw
        simp only [Bool.not_eq_true] at hw
        rw [hw] at hsh
        exact step undef w1 (hrefl _) (by simpa using hsh)
  refine wp_region_any hm ?_
  refine key l.toArray.size (Array.replicate l.toArray.size false) a0 w.drew ⟨by rw [Array.size_replicate, hsize], hdrew w, rfl, rfl, ?_, ?_, ?_⟩ ?_
  · intro j o _ hl; rw [getD_replicate_false'] at hl; cases hl
  · intro j o d _ hl; rw [getD_replicate_false'] at hl; cases hl
  · intro t _; rfl
  · show cnt _ l.length ≤ l.toArray.size
    rw [hsize]; exact cnt_le _ _

/-- the value is known outright -/
def Is (x : Value) : Value → World → Prop := fun v _ => v = x
@[go_sem] theorem growUpon_value (P : Program) (Le : World → World → Prop) (w w' : World) (R : Value → World → Prop) (v : Value) : growUpon P Le w R (.ok (.value v) w') = (Le w w' ∧ R v w') := rfl
@[go_sem] theorem growUpon_enter (P : Program) (Le : World → World → Prop) (w w' : World) (R : Value → World → Prop) (f : FuncId) (args : Array Value) :
    growUpon P Le w R (.ok (.enter f args) w') = (Le w w' ∧ Calls P f args w' fun e w'' => ∃ v, e = .returned v ∧ Le w' w'' ∧ R v w'') := rfl
@[go_sem] theorem gr_refl (w : World) : Gr w w ↔ True := ⟨fun _ => trivial, fun _ => Gr.refl w⟩
theorem is_here {P : Program} {w : World} {v x : Value} (h : v = x) : growUpon P Gr w (Is x) (.ok (.value v) w) := ⟨Gr.refl w, h⟩
/-- a slice that reads as these bytes -/
def ReadsB (l : List UInt8) : Value → World → Prop := fun v w => ∃ ad cap, v = .slice ad l.length cap ∧ Bytes w ad l
def Stable (Le : World → World → Prop) (r : Value → World → Prop) : Prop := ∀ v w1 w2, r v w1 → Le w1 w2 → r v w2
theorem Is.stable {Le : World → World → Prop} (x : Value) : Stable Le (Is x) := fun _ _ _ h _ => h
theorem ReadsB.stable (l : List UInt8) : Stable Gr (ReadsB l) := fun _ _ _ ⟨ad, cap, e, hb⟩ hg => ⟨ad, cap, e, hb.gr hg⟩
def nth (Rs : List (Value → World → Prop)) (i : Nat) : Value → World → Prop := Rs.getD i fun _ _ => True
def AllShown (P : Program) (Le : World → World → Prop) (ops : List Oper) (Rs : List (Value → World → Prop)) (a0 : Act) (w0 : World) : List Oper → Nat → Prop
  | [], _ => True
  | o :: r, i => Shown P Le ops (nth Rs) a0 w0 i o ∧ AllShown P Le ops Rs a0 w0 r (i + 1)
theorem AllShown.get {Le : World → World → Prop} {ops : List Oper} {Rs : List (Value → World → Prop)} {a0 : Act} {w0 : World} : ∀ {l : List Oper} {k : Nat}, AllShown P Le ops Rs a0 w0 l k → ∀ i o, l[i]? = some o → Shown P Le ops (nth Rs) a0 w0 (k + i) o
  | [], _, _, i, o, hi => by simp at hi
  | x :: r, k, h, 0, o, hi => by simp at hi; subst hi; exact h.1
  | x :: r, k, h, i + 1, o, hi => by
    have := h.2.get i o (by simpa using hi)
    rwa [show k + 1 + i = k + (i + 1) by omega] at this
def AllStable (Le : World → World → Prop) : List (Value → World → Prop) → Prop
  | [] => True
  | r :: rs => Stable Le r ∧ AllStable Le rs
theorem AllStable.get {Le : World → World → Prop} : ∀ {Rs : List (Value → World → Prop)}, AllStable Le Rs → ∀ i, Stable Le (nth Rs i)
  | [], _, i => by intro v w1 w2 _ _; simp [nth]
  | r :: rs, h, 0 => h.1
  | r :: rs, h, i + 1 => h.2.get i
def Holds (val : Nat → Value) (w : World) : List (Value → World → Prop) → Nat → Prop
  | [], _ => True
  | r :: rs, i => r (val i) w ∧ Holds val w rs (i + 1)
theorem Holds.of {val : Nat → Value} {w : World} : ∀ {Rs : List (Value → World → Prop)} {k : Nat}, (∀ i, i < Rs.length → nth Rs i (val (k + i)) w) → Holds val w Rs k
  | [], _, _ => trivial
  | r :: rs, k, h => ⟨h 0 (by simp), Holds.of fun i hi => by
    have := h (i + 1) (by simpa using hi)
    rwa [show k + (i + 1) = k + 1 + i by omega] at this⟩
theorem region_any_gr {id : Nat} {Q : Exit → Act → World → Prop} {a0 : Act} {w : World} {l : List Oper} (n : Nat) (Rs : List (Value → World → Prop))
    (hm : P.follows .mixedOrders = true) (hB : anyB l n = true) (hd : l.all (·.dst.isSome) = true) (hlen : Rs.length = l.length) (hn : a0.tmps.size = n) (hst : AllStable Gr Rs)
    (hs : AllShown P Gr l Rs a0 w l 0) (hfin : ∀ w1 val, Gr w w1 → Holds val w1 Rs 0 → Q .normal (putAll val l 0 a0) w1) : (Code.region id l.toArray true).wp P Q a0 w :=
  region_any Gr.refl (fun _ _ _ => Gr.trans) Gr.drew n (nth Rs) hm hB hn (fun i v w1 w2 => hst.get i v w1 w2) (fun i o hi => by simpa using hs.get i o hi)
    (fun w1 val hg h => hfin w1 val hg (Holds.of fun i hi => by
      have hi' : i < l.length := by omega
      rw [Nat.zero_add]
      exact h i l[i] (by simp [hi']) (List.all_eq_true.1 hd _ (List.getElem_mem hi'))))

/-- calls within such a region, by the contract's form -/
theorem any_gr {f : FuncId} {args : Array Value} {wr : World} {v : Value} (h : Calls P f args wr fun e w' => e = .returned v ∧ Gr wr w') :
    Calls P f args wr fun e w2 => ∃ x, e = .returned x ∧ Gr wr w2 ∧ Is v x w2 := h.mono fun _ _ ⟨he, hg⟩ => ⟨_, he, hg, rfl⟩
theorem any_same {f : FuncId} {args : Array Value} {wr : World} {v : Value} (h : Calls P f args wr fun e w' => e = .returned v ∧ wr = w') :
    Calls P f args wr fun e w2 => ∃ x, e = .returned x ∧ Gr wr w2 ∧ Is v x w2 := h.mono fun _ _ ⟨he, hg⟩ => ⟨_, he, hg ▸ Gr.refl _, rfl⟩
theorem any_bytes {f : FuncId} {args : Array Value} {wr : World} {t : TypeId} {l : List UInt8} (h : Calls P f args wr (RetB t wr l)) :
    Calls P f args wr fun e w2 => ∃ x, e = .returned x ∧ Gr wr w2 ∧ ReadsB l x w2 := h.mono fun _ _ ⟨ad, cap, he, ho, hg⟩ => ⟨_, he, hg, ad, cap, rfl, ho.bytes⟩
theorem any_str {src dst e : TypeId} (hs : P.underlying src = some (.slice e)) (he : P.underlying e = some (.int .u8)) (hd : P.underlying dst = some .string) {v : Value} {wr : World} {l : List UInt8} (h : ReadsB l v wr) :
    growUpon P Gr wr (Is (.string (str l))) (((convert src dst v).run P wr).andThen fun a w' => .ok (.value a) w') := by
  obtain ⟨ad, cap, rfl, hb⟩ := h
  rw [run_string hs he hd rfl hb]
  exact is_here rfl

end
end Go.Proofs.YtpaogoehgkoaeaaGreatDoor
/- Texts that are known as lists of bytes: their lengths, pieces and joins, as rules of the walk. No program is in sight here. -/
namespace Go.Proofs.YtpaogoehgkoaeaaGreatDoor
set_option linter.unusedVariables false
set_option linter.unusedSimpArgs false
theorem str_extract (l : List UInt8) (i j : Nat) : (str l).extract i j = str ((l.drop i).take (j - i)) := by
  apply ByteArray.ext
  apply Array.ext'
  simp [str, ByteArray.data_extract]
theorem str_extract_to (l : List UInt8) (i : Nat) : (str l).extract i l.length = str (l.drop i) := by
  rw [str_extract, List.take_of_length_le (by simp)]
attribute [go_sem] str_size str_extract str_append
attribute [go_sem high] str_extract_to
@[go_sem] theorem str_get (l : List UInt8) (i : Nat) (h : i < (str l).size) : (str l)[i]'h = l[i]'(by rw [str_size] at h; exact h) := rfl
/-- what hands back bytes of its own, and an error's number -/
def RetBE (e : TypeId) (w : World) (l : List UInt8) (n : Nat) : Ending → World → Prop := fun x w' =>
  ∃ ad cap, x = .returned (.tuple #[.slice ad l.length cap, .int .i64 n]) ∧ Owns w' w.heap.size e 1 ad cap l.length (bv l) ∧ Gr w w'
theorem src_str {P : Program} {u : TypeId} {w : World} (l : List UInt8) (hu : P.underlying u = some .string) : Src P u w 1 (.string (str l)) l.length (bv l) := by
  have := Src.str (P := P) (w := w) (str l) hu
  rwa [str_size, str_list] at this
end Go.Proofs.YtpaogoehgkoaeaaGreatDoor
/- The order of texts, as the model has it. No program is in sight here. -/
namespace Go.Proofs.YtpaogoehgkoaeaaGreatDoor
set_option linter.unusedVariables false
set_option linter.unusedSimpArgs false
open Go.Op (bytesLess)
theorem bl_cons (a b : UInt8) (x y : List UInt8) : bytesLess (a :: x) (b :: y) = true ↔ a.toNat < b.toNat ∨ (a = b ∧ bytesLess x y = true) := by
  simp [bytesLess, UInt8.lt_iff_toNat_lt]
theorem bl_irr (x : List UInt8) : bytesLess x x = false := by
  induction x with
  | nil => rfl
  | cons a x ih => rw [Bool.eq_false_iff]; intro h; rw [bl_cons] at h; simp [ih] at h
theorem bl_asymm : ∀ {x y : List UInt8}, bytesLess x y = true → bytesLess y x = false
  | [], [], h => by simp [bytesLess] at h
  | [], _ :: _, _ => rfl
  | _ :: _, [], h => by simp [bytesLess] at h
  | a :: x, b :: y, h => by
    rw [Bool.eq_false_iff]
    intro h2
    rw [bl_cons] at h h2
    rcases h with h | ⟨e, h⟩
    · rcases h2 with h2 | ⟨e2, _⟩
      · omega
      · subst e2; omega
    · subst e
      rcases h2 with h2 | ⟨_, h2⟩
      · omega
      · rw [bl_asymm h] at h2; cases h2
theorem bl_total : ∀ {x y : List UInt8}, bytesLess x y = false → bytesLess y x = false → x = y
  | [], [], _, _ => rfl
  | [], _ :: _, h, _ => by simp [bytesLess] at h
  | _ :: _, [], _, h => by simp [bytesLess] at h
  | a :: x, b :: y, h, h2 => by
    have k1 : ¬ (a.toNat < b.toNat ∨ (a = b ∧ bytesLess x y = true)) := fun k => by rw [(bl_cons a b x y).2 k] at h; cases h
    have k2 : ¬ (b.toNat < a.toNat ∨ (b = a ∧ bytesLess y x = true)) := fun k => by rw [(bl_cons b a y x).2 k] at h2; cases h2
    have e : a = b := UInt8.toNat_inj.1 (by omega)
    subst e
    simp only [true_and, Nat.lt_irrefl, false_or, Bool.not_eq_true] at k1 k2
    rw [bl_total k1 k2]
/-- o is not below s, s ≤ o: then what is above o is above s -/
theorem bl_le_lt : ∀ {s o b : List UInt8}, bytesLess o s = false → bytesLess o b = true → bytesLess s b = true
  | [], [], b, _, h2 => h2
  | [], _ :: _, [], _, h2 => by simp [bytesLess] at h2
  | [], _ :: _, _ :: _, _, _ => rfl
  | _ :: _, [], _, h, _ => by simp [bytesLess] at h
  | x :: s, y :: o, [], _, h2 => by simp [bytesLess] at h2
  | x :: s, y :: o, z :: b, h, h2 => by
    have k1 : ¬ (y.toNat < x.toNat ∨ (y = x ∧ bytesLess o s = true)) := fun k => by rw [(bl_cons y x o s).2 k] at h; cases h
    rw [bl_cons] at h2 ⊢
    rcases h2 with h2 | ⟨e, h2⟩
    · left; omega
    · subst e
      by_cases e2 : y = x
      · subst e2
        right
        simp only [true_and, Nat.lt_irrefl, false_or, Bool.not_eq_true] at k1
        exact ⟨rfl, bl_le_lt k1 h2⟩
      · left
        have : y.toNat ≠ x.toNat := fun k => e2 (UInt8.toNat_inj.1 k)
        omega
theorem bl_trans {x y z : List UInt8} (h : bytesLess x y = true) (h2 : bytesLess y z = true) : bytesLess x z = true :=
  bl_le_lt (bl_asymm h) h2
/-- x < y ≤ z -/
theorem bl_lt_le {x y z : List UInt8} (h : bytesLess x y = true) (h2 : bytesLess z y = false) : bytesLess x z = true := by
  cases hx : bytesLess x z with
  | true => rfl
  | false =>
    cases hz : bytesLess z x with
    | true => rw [bl_trans hz h] at h2; cases h2
    | false => rw [bl_total hx hz] at h; rw [h] at h2; cases h2
theorem bl_le_trans {x y z : List UInt8} (h : bytesLess y x = false) (h2 : bytesLess z y = false) : bytesLess z x = false := by
  cases hx : bytesLess z x with
  | false => rfl
  | true => rw [bl_lt_le hx h] at h2; cases h2
theorem bl_append : ∀ (p x y : List UInt8), bytesLess (p ++ x) (p ++ y) = bytesLess x y
  | [], _, _ => rfl
  | a :: p, x, y => by
    rw [Bool.eq_iff_iff, List.cons_append, List.cons_append, bl_cons, bl_append p x y]
    simp
end Go.Proofs.YtpaogoehgkoaeaaGreatDoor
/- The plain law of layer 5 (ikey), the parting of texts: the next text of the same length, and the first that lies below another. No program is in sight here. -/
namespace Go.Proofs.YtpaogoehgkoaeaaGreatDoor.Ikey
set_option linter.unusedVariables false
set_option linter.unusedSimpArgs false
open Go.Op (bytesLess)
/-- the text of the same length that comes behind one -/
def nextF : List UInt8 → Option (List UInt8)
  | [] => none
  | x :: l => match nextF l with
    | some l' => some (x :: l')
    | none => if x = 255 then none else some ((x + 1) :: List.replicate l.length 0)
def partN (a b : List UInt8) : Nat → Nat → List UInt8
  | 0, _ => a
  | f + 1, n => match nextF (a.take n) with
    | some s => if bytesLess s b then s else partN a b f (n + 1)
    | none => partN a b f (n + 1)
def partF (a b : List UInt8) : List UInt8 := partN a b a.length 0
theorem partN_none {a b : List UInt8} {f n : Nat} (h : nextF (a.take n) = none) : partN a b (f + 1) n = partN a b f (n + 1) := by simp [partN, h]
theorem partN_yes {a b s : List UInt8} {f n : Nat} (h : nextF (a.take n) = some s) (hb : bytesLess s b = true) : partN a b (f + 1) n = s := by simp [partN, h, hb]
theorem partN_no {a b s : List UInt8} {f n : Nat} (h : nextF (a.take n) = some s) (hb : bytesLess s b = false) : partN a b (f + 1) n = partN a b f (n + 1) := by simp [partN, h, hb]
theorem rep_snoc (n : Nat) (z : UInt8) : List.replicate (n + 1) z = List.replicate n z ++ [z] := List.replicate_succ'
theorem next_snoc (l : List UInt8) (x : UInt8) : nextF (l ++ [x]) = if x = 255 then (nextF l).map (· ++ [0]) else some (l ++ [x + 1]) := by
  induction l with
  | nil => by_cases h : x = 255 <;> simp [nextF, h]
  | cons y l ih =>
    rw [List.cons_append, nextF, ih]
    by_cases h : x = 255
    · simp only [h, if_true, nextF]
      cases hl : nextF l with
      | some l' => simp
      | none =>
        simp only [Option.map_none]
        by_cases hy : y = 255
        · simp [hy]
        · simp only [hy, if_false, Option.map_some, List.length_append, List.length_cons, List.length_nil]
          rw [rep_snoc]; simp
    · simp [h]
theorem next_len : ∀ {l s : List UInt8}, nextF l = some s → s.length = l.length
  | [], s, h => by simp [nextF] at h
  | x :: l, s, h => by
    rw [nextF] at h
    cases hl : nextF l with
    | some l' =>
      rw [hl] at h
      simp only [Option.some.injEq] at h
      subst h
      simp [next_len hl]
    | none =>
      rw [hl] at h
      by_cases hx : x = 255
      · simp [hx] at h
      · simp only [hx, if_false, Option.some.injEq] at h
        subst h
        simp
theorem succ_nat {x : UInt8} (h : x ≠ 255) : (x + 1).toNat = x.toNat + 1 := by
  have h1 : x.toNat ≠ 255 := fun k => h (UInt8.toNat_inj.1 k)
  have h2 := x.toNat_lt
  rw [UInt8.toNat_add]
  have : (1 : UInt8).toNat = 1 := rfl
  omega
/-- it comes behind all that begin with the old one -/
theorem next_above : ∀ {l s : List UInt8}, nextF l = some s → ∀ r, bytesLess (l ++ r) s = true
  | [], s, h => by simp [nextF] at h
  | x :: l, s, h => by
    intro r
    rw [nextF] at h
    cases hl : nextF l with
    | some l' =>
      rw [hl] at h
      simp only [Option.some.injEq] at h
      subst h
      rw [List.cons_append, bl_cons]
      exact .inr ⟨rfl, next_above hl r⟩
    | none =>
      rw [hl] at h
      by_cases hx : x = 255
      · simp [hx] at h
      · simp only [hx, if_false, Option.some.injEq] at h
        subst h
        rw [List.cons_append, bl_cons, succ_nat hx]
        exact .inl (by omega)
/-- what the parting tells: the first length at which there is one below b, or the text itself -/
theorem partN_spec (a b : List UInt8) : ∀ f n, n + f = a.length →
    (partN a b f n = a ∧ ∀ m, n ≤ m → m < a.length → ∀ s, nextF (a.take m) = some s → bytesLess s b = false) ∨
    (∃ m s, n ≤ m ∧ m < a.length ∧ nextF (a.take m) = some s ∧ bytesLess s b = true ∧ partN a b f n = s ∧ ∀ k, n ≤ k → k < m → ∀ s, nextF (a.take k) = some s → bytesLess s b = false)
  | 0, n, h => .inl ⟨rfl, fun m h1 h2 => by omega⟩
  | f + 1, n, h => by
    have keep : (∀ s, nextF (a.take n) = some s → bytesLess s b = false) → partN a b (f + 1) n = partN a b f (n + 1) := by
      intro hn
      cases hs : nextF (a.take n) with
      | none => exact partN_none hs
      | some s => exact partN_no hs (hn s hs)
    by_cases hn : ∀ s, nextF (a.take n) = some s → bytesLess s b = false
    · rw [keep hn]
      rcases partN_spec a b f (n + 1) (by omega) with ⟨h1, h2⟩ | ⟨m, s, h1, h2, h3, h4, h5, h6⟩
      · refine .inl ⟨h1, fun m hm1 hm2 => ?_⟩
        by_cases e : m = n
        · subst e; exact hn
        · exact h2 m (by omega) hm2
      · refine .inr ⟨m, s, by omega, h2, h3, h4, h5, fun k hk1 hk2 => ?_⟩
        by_cases e : k = n
        · subst e; exact hn
        · exact h6 k (by omega) hk2
    · have : ∃ s, nextF (a.take n) = some s ∧ bytesLess s b = true := by
        cases hs : nextF (a.take n) with
        | none => exact absurd (fun s h => by rw [hs] at h; cases h) hn
        | some s =>
          cases hb : bytesLess s b with
          | true => exact ⟨s, rfl, hb⟩
          | false => exact absurd (fun s' h => by rw [hs] at h; cases h; exact hb) hn
      obtain ⟨s, hs, hb⟩ := this
      exact .inr ⟨n, s, Nat.le_refl _, by omega, hs, hb, partN_yes hs hb, fun k h1 h2 => by omega⟩
theorem part_spec (a b : List UInt8) :
    (partF a b = a ∧ ∀ m, m < a.length → ∀ s, nextF (a.take m) = some s → bytesLess s b = false) ∨
    (∃ m s, m < a.length ∧ nextF (a.take m) = some s ∧ bytesLess s b = true ∧ partF a b = s ∧ ∀ k, k < m → ∀ s, nextF (a.take k) = some s → bytesLess s b = false) := by
  rcases partN_spec a b a.length 0 (by omega) with ⟨h1, h2⟩ | ⟨m, s, h1, h2, h3, h4, h5, h6⟩
  · exact .inl ⟨h1, fun m => h2 m (Nat.zero_le _)⟩
  · exact .inr ⟨m, s, h2, h3, h4, h5, fun k => h6 k (Nat.zero_le _)⟩
theorem above_of_take {a s : List UInt8} {m : Nat} (h : nextF (a.take m) = some s) : bytesLess a s = true := by
  have := next_above h (a.drop m)
  rwa [List.take_append_drop] at this
theorem part_from (a b : List UInt8) : bytesLess (partF a b) a = false := by
  rcases part_spec a b with ⟨h1, _⟩ | ⟨m, s, _, h3, _, h5, _⟩
  · rw [h1]; exact bl_irr a
  · rw [h5]; exact bl_asymm (above_of_take h3)
theorem part_below {a b : List UInt8} (h : bytesLess a b = true) : bytesLess (partF a b) b = true := by
  rcases part_spec a b with ⟨h1, _⟩ | ⟨m, s, _, _, h4, h5, _⟩
  · rw [h1]; exact h
  · rw [h5]; exact h4
theorem part_len (a b : List UInt8) : (partF a b).length ≤ a.length := by
  rcases part_spec a b with ⟨h1, _⟩ | ⟨m, s, h2, h3, _, h5, _⟩
  · rw [h1]; exact Nat.le_refl _
  · rw [h5, next_len h3, List.length_take]; omega
end Go.Proofs.YtpaogoehgkoaeaaGreatDoor.Ikey
/- Layer 5 (ikey): the parting of texts, of the program and of the reference. -/
namespace Go.Proofs.YtpaogoehgkoaeaaGreatDoor
set_option linter.unusedVariables false
set_option linter.unusedSimpArgs false
open Go.RowKit Ikey
open Go.Op (bytesLess)
theorem elemB : Elem Tryz.prog 31 5 (.int .u8 0) 1 1 := ⟨by kernel_rfl, by kernel_rfl, rfl, by decide⟩
/-- the row while a text is made the next one: j bytes as they were, the rest noughts -/
def rowJ (a : List UInt8) (n j : Nat) : List UInt8 := a.take j ++ List.replicate (n - j) 0
theorem rowJ_len {a : List UInt8} {n j : Nat} (h : j ≤ n) (hn : n ≤ a.length) : (rowJ a n j).length = n := by simp [rowJ]; omega
theorem rowJ_full (a : List UInt8) (n : Nat) : rowJ a n n = a.take n := by simp [rowJ]
theorem rowJ_at {a : List UInt8} {n j : Nat} (h : j + 1 ≤ n) (hn : n ≤ a.length) : (bv (rowJ a n (j + 1)))[j]? = some (.int .u8 ((a[j]'(by omega)).toNat : Int)) := by
  have hl : j < (rowJ a n (j + 1)).length := by rw [rowJ_len h hn]; omega
  rw [bv_get _ _ hl]
  have h2 : (rowJ a n (j + 1))[j]? = some (a[j]'(by omega)) := by
    unfold rowJ
    rw [List.getElem?_append_left (by simp; omega), List.getElem?_take, if_pos (by omega), List.getElem?_eq_getElem]
  rw [List.getElem?_eq_getElem hl] at h2
  injection h2 with h2
  rw [h2]
theorem rowJ_set {a : List UInt8} {n j : Nat} (h : j + 1 ≤ n) (hn : n ≤ a.length) (y : UInt8) (V : Int) (hV : V = (y.toNat : Int)) :
    (bv (rowJ a n (j + 1))).set j (.int .u8 V) = bv (a.take j ++ y :: List.replicate (n - (j + 1)) 0) := by
  subst hV
  rw [bv_set]
  congr 1
  unfold rowJ
  rw [List.take_succ_eq_append_getElem (by omega), List.append_assoc, List.set_append_right _ _ (by simp; omega)]
  have : j - (a.take j).length = 0 := by simp; omega
  rw [this]
  simp
theorem rowJ_zero {a : List UInt8} {n j : Nat} (h : j + 1 ≤ n) : a.take j ++ (0 : UInt8) :: List.replicate (n - (j + 1)) 0 = rowJ a n j := by
  unfold rowJ
  rw [← List.replicate_succ]
  congr 2
  omega
theorem next_row {a : List UInt8} {n j : Nat} (h : j + 1 ≤ n) (hn : n ≤ a.length) (hN : nextF (a.take n) = (nextF (a.take (j + 1))).map (· ++ List.replicate (n - (j + 1)) 0)) :
    (a[j]'(by omega) = 255 → nextF (a.take n) = (nextF (a.take j)).map (· ++ List.replicate (n - j) 0)) ∧
    (a[j]'(by omega) ≠ 255 → nextF (a.take n) = some (a.take j ++ (a[j]'(by omega) + 1) :: List.replicate (n - (j + 1)) 0)) := by
  rw [List.take_succ_eq_append_getElem (by omega), next_snoc] at hN
  refine ⟨fun hx => ?_, fun hx => ?_⟩
  · rw [hN, if_pos hx, Option.map_map]
    congr 1
    funext s
    simp only [Function.comp, List.append_assoc]
    congr 1
    rw [List.singleton_append, ← List.replicate_succ]
    congr 1
    omega
  · rw [hN, if_neg hx, Option.map_some]
    simp
theorem nat255 {x : UInt8} (h : x ≠ 255) : x.toNat + 1 < 256 := by
  have h1 : x.toNat ≠ 255 := fun k => h (UInt8.toNat_inj.1 k)
  have h2 := x.toNat_lt
  omega
theorem Owns.head {w : World} {base : Nat} {e : TypeId} {ad : Option Addr} {cap n : Nat} {xs : List Value} (h : Owns w base e 1 ad cap n xs) : Owns w base e 1 ad cap 0 [] := by
  obtain ⟨h1, h2, h3, ⟨e1, e2, e3⟩ | ⟨g, cur, fr, e1, e2, hg, hfr, hs, ht⟩⟩ := h
  · exact ⟨rfl, Nat.zero_le _, h3, .inl ⟨e1, rfl, e3⟩⟩
  · exact ⟨rfl, Nat.zero_le _, h3, .inr ⟨g, cur, fr, e1, e2, hg, hfr, hs, by simp⟩⟩
set_option maxRecDepth 100000 in
set_option maxHeartbeats 1000000 in
theorem Part_any (a b : List UInt8) (w : World) (hm : a.length ≤ 140737488351232) :
    Calls Tryz.prog 95 #[.string (str a), .string (str b)] w fun e w' => e = .returned (.string (str (partF a b))) ∧ Gr w w' := by
  go_enter Tryz.func95, Tryz.ntmps95
  go_wp2
  go_loopw [5, 10] (fun v i wr => ∃ (n m : Nat) (ad : Option Addr) (cap : Nat) (xs : List Value), n ≤ a.length ∧ i = .int .i64 (n : Int) ∧ v = .slice ad m cap ∧ Owns wr w.heap.size 5 1 ad cap m xs ∧ Gr w wr ∧ partF a b = partN a b (a.length - n) n) (fun _ i _ => a.length - (intOf i).toNat)
  case atStart => exact ⟨0, 0, none, 0, [], Nat.zero_le _, rfl, rfl, Owns.empty _ _ _ _, Gr.refl _, rfl⟩
  case round =>
    obtain ⟨n, m, ad, cap, xs, hn, rfl, rfl, ho, hg, hP⟩ := hrel
    have HP := Lib.hid hP; clear hP
    by_cases hlt : n < a.length
    · obtain ⟨f, hf⟩ : ∃ f, a.length - n = f + 1 := ⟨a.length - n - 1, by omega⟩
      rw [hf] at HP
      have HF := Lib.hid hf; clear hf
      by_cases hn0 : n = 0
      · subst hn0
        have HQ := Lib.hid (HP.out.trans (partN_none (by simp [nextF])))
        go_wp2
        go_roundw
        case rel => exact ⟨1, m, ad, cap, xs, by omega, rfl, rfl, ho, hg, by rw [HQ.out]; congr 1; have := HF.out; omega⟩
        case measure => simp [intOf]; omega
      · have hb0 : ((n : Int) == 0) = false := by rw [beq_eq_false_iff_ne]; omega
        have oh := ho.head.gr (Gr.drew wr)
        have hm1 : 0 + (a.take n).length ≤ maxLen := by simp; unfold maxLen; omega
        have hm2 : (0 + (a.take n).length) * 1 ≤ 140737488355328 := by simp; omega
        have hbs := hg.size
        have hbs2 : w.heap.size ≤ wr.drew.heap.size := by simp; exact hbs
        have htl : (a.take n).length = n := by simp; omega
        have HT := Lib.hid htl; clear htl
        go_wp2
        go_still_tail 5, (by kernel_rfl)
        go_wp2_with (at_builtin; refine wp_append elemB rfl _ _ rfl rfl oh rfl (src_str (a.take n) Tryz.underlying9) hm1 hm2 hbs2 ?_; intro ad2 cap2 w2 o2 k2 f2)
        simp only [Nat.zero_add, List.nil_append, HT.out] at o2
        obtain ⟨g, rfl, hgb, _⟩ := o2.at (bv_get (a.take n) 0 (by rw [HT.out]; omega))
        have G2 : Gr w w2 := (hg.trans (Gr.drew wr)).grown k2 (fun k hk => by
          cases ad with
          | none => cases hk
          | some x => cases hk; exact (ho.lt x rfl).1)
        obtain ⟨wo, rfl⟩ : ∃ wo : World, wo = w2 := ⟨_, rfl⟩
        have hn1 : n ≤ a.length := hn
        go_loopw [7] (fun i wi => ∃ j : Nat, j ≤ n ∧ i = .int .i64 ((j : Int) - 1) ∧ Owns wi w.heap.size 5 1 (some ⟨g, 0, none⟩) cap2 n (bv (rowJ a n j)) ∧ Gr w wi ∧ nextF (a.take n) = (nextF (a.take j)).map (· ++ List.replicate (n - j) 0)) (fun i _ => (intOf i + 1).toNat)
        case atStart => exact ⟨n, Nat.le_refl _, rfl, by rw [rowJ_full]; exact o2, G2, by simp⟩
        case round =>
          obtain ⟨k, hk, rfl, ho3, hg3, hN⟩ := hrel
          have HN := Lib.hid hN; clear hN
          by_cases hk0 : 0 < k
          · obtain ⟨j, rfl⟩ : ∃ j, k = j + 1 := ⟨k - 1, by omega⟩
            have e1 : ((j + 1 : Nat) : Int) - 1 = (j : Int) := by omega
            simp only [e1]
            clear e1
            obtain ⟨N1, N2⟩ := next_row hk hn1 HN.out
            have HN1 := Lib.hid N1; have HN2 := Lib.hid N2; clear N1 N2
            obtain ⟨_, e0, _, hc⟩ := ho3.at (rowJ_at hk hn1)
            cases e0
            have hf := ho3.unfrozen (i := j) rfl (by omega)
            by_cases hx : a[j] = 255
            · have hx2 : a[j].toNat = 255 := by rw [hx]; rfl
              have ho4 := ho3.store rfl (show j < n by omega) (.int .u8 0)
              rw [rowJ_set hk hn1 0 0 rfl, rowJ_zero hk] at ho4
              have HN3 := Lib.hid (HN1.out hx)
              clear hx
              rw [hx2] at hc
              clear hx2
              go_wp2
              go_roundw
              case rel => exact ⟨j, by omega, rfl, ho4, hg3.setCell hgb _, HN3.out⟩
              case measure => simp [intOf]
            · have hx2 := nat255 hx
              have hbx : ((a[j].toNat : Int) == 255) = false := by rw [beq_eq_false_iff_ne]; omega
              have hv : ((a[j].toNat : Int) + 1) = ((a[j] + 1).toNat : Int) := by rw [succ_nat hx]; omega
              have ho4 := ho3.store rfl (show j < n by omega) (.int .u8 ((a[j].toNat : Int) + 1))
              rw [rowJ_set hk hn1 (a[j] + 1) _ hv] at ho4
              have hlen : (a.take j ++ (a[j] + 1) :: List.replicate (n - (j + 1)) 0).length = n := by simp; omega
              have hN3 := HN2.out hx
              have hs := run_string (P := Tryz.prog) Tryz.underlying31 Tryz.underlying5 Tryz.underlying9 (cap := cap2) (len := n) hlen ho4.bytes
              have HL := Lib.hid hlen
              clear hv hx hlen
              generalize a.take j ++ (a[j] + 1) :: List.replicate (n - (j + 1)) 0 = s at *
              have hg4 := hg3.setCell (p := ⟨g, j, none⟩) hgb (.int .u8 ((a[j].toNat : Int) + 1))
              cases hb : bytesLess s b with
              | true =>
                have HQ := Lib.hid (HP.out.trans (partN_yes hN3 hb)); clear hN3
                go_wp2
                go_ret
                exact ⟨by rw [HQ.out]; rfl, hg4⟩
              | false =>
                have HQ := Lib.hid (HP.out.trans (partN_no hN3 hb)); clear hN3
                go_wp2
                go_roundw
                case rel => exact ⟨n + 1, n, _, cap2, _, by omega, by go_num, rfl, ho4, hg4, by rw [HQ.out]; congr 1; have := HF.out; omega⟩
                case measure => simp [intOf]; omega
          · obtain rfl : k = 0 := by omega
            have HQ := Lib.hid (HP.out.trans (partN_none (by rw [HN.out]; simp [nextF])))
            go_wp2
            go_roundw
            case rel => exact ⟨n + 1, n, _, cap2, _, by omega, by go_num, rfl, ho3, hg3, by rw [HQ.out]; congr 1; have := HF.out; omega⟩
            case measure => simp [intOf]; omega
    · have HQ := Lib.hid (show partF a b = a by
        rw [HP.out]
        obtain rfl : n = a.length := by omega
        rw [Nat.sub_self]; rfl)
      go_wp2
      go_ret
      exact ⟨by rw [HQ.out]; rfl, hg⟩
end Go.Proofs.YtpaogoehgkoaeaaGreatDoor
/- The plain law of layer 3 (varint): numbers as bytes, and what a beginning of bytes tells. No program is in sight here. -/
namespace Go.Proofs.YtpaogoehgkoaeaaGreatDoor.Varint
set_option linter.unusedVariables false
set_option linter.unusedSimpArgs false

/-- a number's bytes; the fuel is how many more there may be -/
def putN : Nat → Nat → List UInt8
  | 0, n => [UInt8.ofNat n]
  | k + 1, n => if n < 128 then [UInt8.ofNat n] else UInt8.ofNat (n % 128 + 128) :: putN k (n / 128)
def putF (n : Nat) : List UInt8 := putN 9 n
/-- the number that so many bytes tell -/
def val : List UInt8 → Nat
  | [] => 0
  | x :: l => x.toNat % 128 + 128 * val l
def short (l : List UInt8) : Nat × Nat × Nat := (0, 0, if l.length < 10 then 9 else 2)
def endAt (l : List UInt8) (k x : Nat) : Nat × Nat × Nat := if k = 9 ∧ 1 < x ∨ 0 < k ∧ x = 0 then (0, 0, 2) else (val (l.take (k + 1)), k + 1, 0)
/-- the number at the front of bytes, from a place on -/
def getAt (l : List UInt8) : Nat → Nat → Nat × Nat × Nat
  | 0, _ => short l
  | f + 1, k => match l[k]? with
    | none => short l
    | some x => if x.toNat < 128 then endAt l k x.toNat else getAt l f (k + 1)
def getF (l : List UInt8) : Nat × Nat × Nat := getAt l 10 0

theorem putN_small {k n : Nat} (h : n < 128) : putN k n = [UInt8.ofNat n] := by
  cases k with
  | zero => rfl
  | succ k => simp [putN, h]
theorem putN_big {k n : Nat} (h : ¬ n < 128) : putN (k + 1) n = UInt8.ofNat (n % 128 + 128) :: putN k (n / 128) := by
  simp [putN, h]
theorem val_append (l m : List UInt8) : val (l ++ m) = val l + 128 ^ l.length * val m := by
  induction l with
  | nil => simp [val]
  | cons x l ih => simp only [List.cons_append, val, ih, List.length_cons, Nat.pow_succ']; rw [Nat.mul_add, Nat.mul_assoc, Nat.add_assoc]
theorem val_lt (l : List UInt8) : val l < 128 ^ l.length := by
  induction l with
  | nil => simp [val]
  | cons x l ih =>
    simp only [val, List.length_cons, Nat.pow_succ]
    have := Nat.mod_lt x.toNat (show 128 > 0 by decide)
    omega
theorem val_take_succ (l : List UInt8) (k : Nat) (h : k < l.length) : val (l.take (k + 1)) = val (l.take k) + l[k].toNat % 128 * 128 ^ k := by
  rw [List.take_succ_eq_append_getElem h, val_append]
  have : (l.take k).length = k := by simp; omega
  rw [this]; simp [val, Nat.mul_comm]
theorem val_take_lt (l : List UInt8) (k : Nat) (h : k ≤ l.length) : val (l.take k) < 128 ^ k := by
  have := val_lt (l.take k)
  rwa [List.length_take, Nat.min_eq_left h] at this
theorem getAt_none {l : List UInt8} {f k : Nat} (h : l.length ≤ k) : getAt l f k = short l := by
  cases f with
  | zero => rfl
  | succ f => simp [getAt, List.getElem?_eq_none h]
theorem getAt_end {l : List UInt8} {f k : Nat} (h : k < l.length) (hx : l[k].toNat < 128) : getAt l (f + 1) k = endAt l k l[k].toNat := by
  simp [getAt, h, hx]
theorem getAt_on {l : List UInt8} {f k : Nat} (h : k < l.length) (hx : ¬ l[k].toNat < 128) : getAt l (f + 1) k = getAt l f (k + 1) := by
  simp [getAt, h, hx]

theorem pow128 (k : Nat) : 128 ^ k = 2 ^ (7 * k) := by rw [Nat.pow_mul]
theorem fits (k x : Nat) (hk : k ≤ 9) (hx : x < 128) (h9 : k = 9 → x ≤ 1) : x * 2 ^ (7 * k) < 18446744073709551616 := by
  by_cases h : k = 9
  · subst h
    have := h9 rfl
    have : x * 2 ^ (7 * 9) ≤ 1 * 2 ^ (7 * 9) := Nat.mul_le_mul_right _ this
    omega
  · have h1 : x * 2 ^ (7 * k) ≤ 127 * 2 ^ (7 * k) := Nat.mul_le_mul_right _ (by omega)
    have h2 : 2 ^ (7 * k) ≤ 2 ^ (7 * 8) := Nat.pow_le_pow_right (by decide) (by omega)
    omega
theorem take_u64 (l : List UInt8) (k : Nat) (h : k ≤ l.length) (hk : k ≤ 9) : val (l.take k) < 18446744073709551616 ∧ val (l.take k) < 2 ^ (7 * k) := by
  have h1 := val_take_lt l k h
  rw [pow128] at h1
  have h2 : 2 ^ (7 * k) ≤ 2 ^ (7 * 9) := Nat.pow_le_pow_right (by decide) (by omega)
  exact ⟨by omega, h1⟩
theorem endAt_bad {l : List UInt8} {k x : Nat} (h : k = 9 ∧ 1 < x ∨ 0 < k ∧ x = 0) : endAt l k x = (0, 0, 2) := by simp only [endAt, if_pos h]
theorem endAt_good {l : List UInt8} {k x : Nat} (h : ¬ (k = 9 ∧ 1 < x ∨ 0 < k ∧ x = 0)) : endAt l k x = (val (l.take (k + 1)), k + 1, 0) := by simp only [endAt, if_neg h]

theorem putN_len : ∀ k n, (putN k n).length ≤ k + 1 ∧ 1 ≤ (putN k n).length
  | 0, n => by simp [putN]
  | k + 1, n => by
    have := putN_len k (n / 128)
    rw [putN]; split <;> simp <;> omega

theorem getAt_lt (l : List UInt8) : ∀ f k, k + f = 10 → (getAt l f k).1 < 18446744073709551616 ∧ (getAt l f k).2.1 ≤ l.length
  | 0, k, _ => by simp [getAt, short]
  | f + 1, k, h => by
    by_cases hk : k < l.length
    · by_cases hx : l[k].toNat < 128
      · rw [getAt_end hk hx]
        by_cases hb : k = 9 ∧ 1 < l[k].toNat ∨ 0 < k ∧ l[k].toNat = 0
        · rw [endAt_bad hb]; exact ⟨by decide, Nat.zero_le _⟩
        · rw [endAt_good hb]
          refine ⟨?_, by show k + 1 ≤ l.length; omega⟩
          show val (l.take (k + 1)) < _
          rw [val_take_succ l k hk, Nat.mod_eq_of_lt hx, pow128]
          have h1 := take_u64 l k (by omega) (by omega)
          have h2 := fits k l[k].toNat (by omega) hx (by omega)
          by_cases h9 : k = 9
          · subst h9
            have h3 : l[9].toNat ≤ 1 := by omega
            have h4 : l[9].toNat * 2 ^ (7 * 9) ≤ 1 * 2 ^ (7 * 9) := Nat.mul_le_mul_right _ h3
            omega
          · have h5 : 2 ^ (7 * k) ≤ 2 ^ (7 * 8) := Nat.pow_le_pow_right (by decide) (by omega)
            have h4 : l[k].toNat * 2 ^ (7 * k) ≤ 127 * 2 ^ (7 * k) := Nat.mul_le_mul_right _ (by omega)
            omega
      · rw [getAt_on hk hx]; exact getAt_lt l f (k + 1) (by omega)
    · rw [getAt_none (by omega)]; simp [short]
theorem getF_lt (l : List UInt8) : (getF l).1 < 18446744073709551616 := (getAt_lt l 10 0 rfl).1
theorem getF_le (l : List UInt8) : (getF l).2.1 ≤ l.length := (getAt_lt l 10 0 rfl).2
/-- signed numbers -/
def foldF (m : Int) : Nat := if m < 0 then (-2 * m - 1).toNat else (2 * m).toNat
/-- the lowest bytes of a number; the number of bytes -/
def bytesN : Nat → Nat → List UInt8
  | 0, _ => []
  | k + 1, n => UInt8.ofNat n :: bytesN k (n / 256)
def le : List UInt8 → Nat
  | [] => 0
  | x :: l => x.toNat + 256 * le l
def wholeF (l : List UInt8) : Nat × Nat := if 8 < l.length then (0, 1) else (le l, 0)
theorem le_append (l m : List UInt8) : le (l ++ m) = le l + 256 ^ l.length * le m := by
  induction l with
  | nil => simp [le]
  | cons x l ih => simp only [List.cons_append, le, ih, List.length_cons, Nat.pow_succ']; rw [Nat.mul_add, Nat.mul_assoc, Nat.add_assoc]
theorem le_lt (l : List UInt8) : le l < 256 ^ l.length := by
  induction l with
  | nil => simp [le]
  | cons x l ih =>
    simp only [le, List.length_cons, Nat.pow_succ]
    have := x.toNat_lt
    omega
theorem pow256 (k : Nat) : 256 ^ k = 2 ^ (8 * k) := by rw [Nat.pow_mul]
theorem le_take_succ (l : List UInt8) (k : Nat) (h : k < l.length) : le (l.take (k + 1)) = le (l.take k) + l[k].toNat * 2 ^ (8 * k) := by
  rw [List.take_succ_eq_append_getElem h, le_append]
  have : (l.take k).length = k := by simp; omega
  rw [this, pow256]; simp [le, Nat.mul_comm]
theorem le_take (l : List UInt8) (k : Nat) (h : k ≤ l.length) (hk : k ≤ 8) : le (l.take k) < 2 ^ (8 * k) ∧ le (l.take k) < 18446744073709551616 := by
  have h1 := le_lt (l.take k)
  rw [List.length_take, Nat.min_eq_left h, pow256] at h1
  have h2 : 2 ^ (8 * k) ≤ 2 ^ (8 * 8) := Nat.pow_le_pow_right (by decide) (by omega)
  exact ⟨h1, by omega⟩
theorem le_fits (k x : Nat) (hk : k < 8) (hx : x < 256) : x * 2 ^ (8 * k) < 18446744073709551616 := by
  have h1 : x * 2 ^ (8 * k) ≤ 255 * 2 ^ (8 * k) := Nat.mul_le_mul_right _ (by omega)
  have h2 : 2 ^ (8 * k) ≤ 2 ^ (8 * 7) := Nat.pow_le_pow_right (by decide) (by omega)
  omega
def fixedF (n : Nat) (s : Int) : List UInt8 × Nat := if s < 0 ∨ 8 < s then ([], 1) else if n / 256 ^ s.toNat ≠ 0 then ([], 14) else (bytesN s.toNat n, 0)
theorem bytesN_len : ∀ k n, (bytesN k n).length = k
  | 0, _ => rfl
  | k + 1, n => by simp [bytesN, bytesN_len k]
theorem bytesN_snoc : ∀ k n, bytesN (k + 1) n = bytesN k n ++ [UInt8.ofNat (n / 256 ^ k)]
  | 0, n => by simp [bytesN]
  | k + 1, n => by
    rw [show bytesN (k + 1 + 1) n = UInt8.ofNat n :: bytesN (k + 1) (n / 256) from rfl, bytesN_snoc k (n / 256), Nat.div_div_eq_div_mul, ← Nat.pow_succ']
    rfl
end Go.Proofs.YtpaogoehgkoaeaaGreatDoor.Varint
/- Layer 5 (ikey): a version's bytes, in the program and in the reference. -/
namespace Go.Proofs.YtpaogoehgkoaeaaGreatDoor
set_option linter.unusedVariables false
set_option linter.unusedSimpArgs false
open Go.RowKit Ikey Varint
open Go.Op (bytesLess)
/-- a version, as a value -/
def ver (k : List UInt8) (s d : Int) : Value := .agg #[.string (str k), .int .i64 s, .int .i64 d]
/-- it is one -/
def okV (k : List UInt8) (s d : Int) : Bool := !k.isEmpty && decide (k.length ≤ 64) && decide (0 ≤ s) && decide (s ≤ 72057594037927935) && (decide (d = 0) || decide (d = 1))
theorem okV_of {k : List UInt8} {s d : Int} (h : okV k s d = true) : k ≠ [] ∧ k.length ≤ 64 ∧ 0 ≤ s ∧ s ≤ 72057594037927935 ∧ (d = 0 ∨ d = 1) := by
  simpa [okV, and_assoc] using h
theorem okV_mk {k : List UInt8} {s d : Int} (h : k ≠ [] ∧ k.length ≤ 64 ∧ 0 ≤ s ∧ s ≤ 72057594037927935 ∧ (d = 0 ∨ d = 1)) : okV k s d = true := by
  simpa [okV, and_assoc] using h
theorem okV_no {k : List UInt8} {s d : Int} (h : ¬ (k ≠ [] ∧ k.length ≤ 64 ∧ 0 ≤ s ∧ s ≤ 72057594037927935 ∧ (d = 0 ∨ d = 1))) : okV k s d = false := by
  rw [Bool.eq_false_iff]; exact fun k => h (okV_of k)
def chk (k : List UInt8) (s d : Int) : Int := if okV k s d then 0 else 1
theorem chk_yes {k : List UInt8} {s d : Int} (h : okV k s d = true) : chk k s d = 0 := by unfold chk; rw [h]; rfl
theorem chk_no {k : List UInt8} {s d : Int} (h : okV k s d = false) : chk k s d = 1 := by unfold chk; rw [h]; rfl
theorem Gr.box3 {w w' : World} {a b c : Value} {t : TypeId} (g : Gr (w.alloc (.cells #[a, b, c] t)) w') :
    w'.cell? ⟨w.heap.size, 0, none⟩ = some a ∧ w'.cell? ⟨w.heap.size, 1, none⟩ = some b ∧ w'.cell? ⟨w.heap.size, 2, none⟩ = some c := by
  have h := heap_alloc_new w (.cells #[a, b, c] t)
  refine ⟨g.cell ?_, g.cell ?_, g.cell ?_⟩ <;> (rw [cell_of_row _ _ _ _ _ _ h]; rfl)
set_option maxRecDepth 100000 in
set_option maxHeartbeats 1000000 in
theorem Check_any (k : List UInt8) (s d : Int) (w : World) :
    Calls Tryz.prog 87 #[ver k s d] w fun e w' => e = .returned (.int .i64 (chk k s d)) ∧ Gr w w' := by
  unfold ver
  by_cases h : k ≠ [] ∧ k.length ≤ 64 ∧ 0 ≤ s ∧ s ≤ 72057594037927935 ∧ (d = 0 ∨ d = 1)
  · have HO := Lib.hid (okV_mk h)
    obtain ⟨h1, h2, h3, h4, h5⟩ := h
    have b1 : (k == []) = false := by rw [beq_eq_false_iff_ne]; exact h1
    have b2 : k.isEmpty = false := by cases k with | nil => exact absurd rfl h1 | cons x r => rfl
    clear h1
    rcases h5 with rfl | rfl
    all_goals
      go_enter Tryz.func87, Tryz.ntmps87
      go_wp2
      go_ret
      exact ⟨ret_int (chk_yes HO.out).symm, Gr.alloc _ _⟩
  · have HO := Lib.hid (okV_no h)
    by_cases h1 : k = []
    · subst h1
      go_enter Tryz.func87, Tryz.ntmps87
      go_wp2
      go_ret
      exact ⟨ret_int (chk_no HO.out).symm, Gr.alloc _ _⟩
    · have b1 : (k == []) = false := by rw [beq_eq_false_iff_ne]; exact h1
      have b2 : k.isEmpty = false := by cases k with | nil => exact absurd rfl h1 | cons x r => rfl
      by_cases h2 : k.length ≤ 64
      · by_cases h3 : 0 ≤ s
        · by_cases h4 : s ≤ 72057594037927935
          · have d0 : (d != 0) = true := by rw [bne_iff_ne]; exact fun e => h ⟨h1, h2, h3, h4, .inl e⟩
            have d1 : (d != 1) = true := by rw [bne_iff_ne]; exact fun e => h ⟨h1, h2, h3, h4, .inr e⟩
            have d2 : (d == 0) = false := by rw [beq_eq_false_iff_ne]; exact fun e => h ⟨h1, h2, h3, h4, .inl e⟩
            have d3 : (d == 1) = false := by rw [beq_eq_false_iff_ne]; exact fun e => h ⟨h1, h2, h3, h4, .inr e⟩
            clear h h1
            go_enter Tryz.func87, Tryz.ntmps87
            go_wp2
            go_ret
            exact ⟨ret_int (chk_no HO.out).symm, Gr.alloc _ _⟩
          · clear h h1
            go_enter Tryz.func87, Tryz.ntmps87
            go_wp2
            go_ret
            exact ⟨ret_int (chk_no HO.out).symm, Gr.alloc _ _⟩
        · clear h h1
          go_enter Tryz.func87, Tryz.ntmps87
          go_wp2
          go_ret
          exact ⟨ret_int (chk_no HO.out).symm, Gr.alloc _ _⟩
      · clear h h1
        go_enter Tryz.func87, Tryz.ntmps87
        go_wp2
        go_ret
        exact ⟨ret_int (chk_no HO.out).symm, Gr.alloc _ _⟩
set_option maxRecDepth 100000 in
set_option maxHeartbeats 1000000 in
theorem rRight_any (k : List UInt8) (s d : Int) (w : World) :
    Calls Tryz.prog 35 #[ver k s d] w fun e w' => e = .returned (.bool (okV k s d)) ∧ Gr w w' := by
  unfold ver
  by_cases h : k ≠ [] ∧ k.length ≤ 64 ∧ 0 ≤ s ∧ s ≤ 72057594037927935 ∧ (d = 0 ∨ d = 1)
  · have HO := Lib.hid (okV_mk h)
    obtain ⟨h1, h2, h3, h4, h5⟩ := h
    have b1 : (k == []) = false := by rw [beq_eq_false_iff_ne]; exact h1
    have b2 : k.isEmpty = false := by cases k with | nil => exact absurd rfl h1 | cons x r => rfl
    clear h1
    rcases h5 with rfl | rfl
    all_goals
      go_enter Tryz.func35, Tryz.ntmps35
      go_wp2
      go_ret
      exact ⟨by rw [HO.out]; rfl, Gr.alloc _ _⟩
  · have HO := Lib.hid (okV_no h)
    by_cases h1 : k = []
    · subst h1
      go_enter Tryz.func35, Tryz.ntmps35
      go_wp2
      go_ret
      exact ⟨by rw [HO.out]; rfl, Gr.alloc _ _⟩
    · have b1 : (k == []) = false := by rw [beq_eq_false_iff_ne]; exact h1
      have b2 : k.isEmpty = false := by cases k with | nil => exact absurd rfl h1 | cons x r => rfl
      by_cases h2 : k.length ≤ 64
      · by_cases h3 : 0 ≤ s
        · by_cases h4 : s ≤ 72057594037927935
          · have d0 : (d != 0) = true := by rw [bne_iff_ne]; exact fun e => h ⟨h1, h2, h3, h4, .inl e⟩
            have d1 : (d != 1) = true := by rw [bne_iff_ne]; exact fun e => h ⟨h1, h2, h3, h4, .inr e⟩
            have d2 : (d == 0) = false := by rw [beq_eq_false_iff_ne]; exact fun e => h ⟨h1, h2, h3, h4, .inl e⟩
            have d3 : (d == 1) = false := by rw [beq_eq_false_iff_ne]; exact fun e => h ⟨h1, h2, h3, h4, .inr e⟩
            clear h h1
            go_enter Tryz.func35, Tryz.ntmps35
            go_wp2
            go_ret
            exact ⟨by rw [HO.out]; rfl, Gr.alloc _ _⟩
          · clear h h1
            go_enter Tryz.func35, Tryz.ntmps35
            go_wp2
            go_ret
            exact ⟨by rw [HO.out]; rfl, Gr.alloc _ _⟩
        · clear h h1
          go_enter Tryz.func35, Tryz.ntmps35
          go_wp2
          go_ret
          exact ⟨by rw [HO.out]; rfl, Gr.alloc _ _⟩
      · clear h h1
        go_enter Tryz.func35, Tryz.ntmps35
        go_wp2
        go_ret
        exact ⟨by rw [HO.out]; rfl, Gr.alloc _ _⟩
end Go.Proofs.YtpaogoehgkoaeaaGreatDoor
/- Layer 5 (ikey): Encode and Decode, of the program and of the reference. -/
namespace Go.Proofs.YtpaogoehgkoaeaaGreatDoor
set_option linter.unusedVariables false
set_option linter.unusedSimpArgs false
open Go.RowKit Ikey Varint
open Go.Op (bytesLess)
theorem or_comm64 (a b : Nat) (ha : a < 18446744073709551616) (hb : b < 18446744073709551616) : bits .or .u64 (a : Int) (b : Int) = bits .or .u64 (b : Int) (a : Int) := by
  rw [u64_or_nat _ _ ha hb, u64_or_nat _ _ hb ha, Nat.or_comm]
/-- the number and the kind in one -/
def trailF (s d : Nat) : Nat := d + s * 256
theorem trail_bits (s d : Nat) (hs : s < 72057594037927936) (hd : d < 256) : bits .or .u64 ((s : Int) * 256) (d : Int) = (trailF s d : Int) := by
  have e : ((s : Int) * 256) = ((s * 256 : Nat) : Int) := by omega
  rw [e, or_comm64 _ _ (by omega) (by omega)]
  exact u64_join d s 8 (by omega) (by omega) (by omega)
theorem trailF_lt {s d : Nat} (hs : s < 72057594037927936) (hd : d < 256) : trailF s d < 18446744073709551616 := by unfold trailF; omega
set_option maxRecDepth 100000 in
theorem trailer_any (k : List UInt8) (s d : Nat) (w : World) (hs : s < 72057594037927936) (hd : d < 256) :
    Calls Tryz.prog 110 #[ver k s d] w fun e w' => e = .returned (.int .u64 (trailF s d)) ∧ Gr w w' := by
  have H := Lib.hid (trail_bits s d hs hd)
  unfold ver
  go_enter Tryz.func110, Tryz.ntmps110
  go_wp2
  go_ret
  exact ⟨ret_int H.out, Gr.alloc _ _⟩
/-- a version's bytes -/
def encF (k : List UInt8) (s d : Nat) : List UInt8 := k ++ bytesN 8 (trailF s d)
/-- what hands back bytes, and an error's number -/
def RetBI (e : TypeId) (w : World) (l : List UInt8) (n : Int) : Ending → World → Prop := fun x w' =>
  ∃ ad cap, x = .returned (.tuple #[.slice ad l.length cap, .int .i64 n]) ∧ Owns w' w.heap.size e 1 ad cap l.length (bv l) ∧ Gr w w'
theorem enc_len (k : List UInt8) (s d : Nat) : (encF k s d).length = k.length + 8 := by simp [encF, bytesN_len]
set_option maxRecDepth 100000 in
set_option maxHeartbeats 1000000 in
theorem Encode_yes (k : List UInt8) (s d : Nat) (w : World) (h : okV k s d = true) :
    Calls Tryz.prog 62 #[ver k s d] w (RetBI 5 w (encF k s d) 0) := by
  obtain ⟨_, hk, _, hs, hd⟩ := okV_of h
  have hs' : s < 72057594037927936 := by omega
  have hd' : d < 256 := by omega
  have hkm : k.length ≤ maxLen := by unfold maxLen; omega
  have HC := Lib.hid (fun w => Check_any k s d w)
  rw [chk_yes h] at HC
  have HT := Lib.hid (fun w => trailer_any k s d w hs' hd')
  unfold ver at HC HT ⊢
  have hN := trailF_lt hs' hd'
  have HE := Lib.hid (show encF k s d = k ++ bytesN 8 (trailF s d) from rfl)
  have HL := Lib.hid (enc_len k s d)
  generalize trailF s d = N at *
  go_enter Tryz.func62, Tryz.ntmps62
  go_wp2_with (first
    | (go_at_call 87; refine (HC.out _).mono ?_; rintro e w1 ⟨rfl, g1⟩; obtain ⟨c0, c1, c2⟩ := g1.box3; obtain ⟨cap, w2, hrun, ho, hg, hsz⟩ := bytes_str Tryz.underlying9 Tryz.underlying31 Tryz.underlying5 w1 k hkm; have d0 := hg.cell c0; have d1 := hg.cell c1; have d2 := hg.cell c2; clear hsz)
    | (go_at_call 110; refine (HT.out _).mono ?_; rintro e w3 ⟨rfl, g3⟩))
  clear hrun
  have G2 : Gr w w2 := ((Gr.alloc _ _).trans g1).trans hg
  have hsz := ((Gr.alloc w _).trans g1).size
  have ho3 := (ho.gr g3).base hsz
  go_loopw [5, 7] (fun v i wr => ∃ (j : Nat) (ad : Option Addr) (cap' : Nat), j ≤ 8 ∧ i = .int .i64 (j : Int) ∧ v = .slice ad (k.length + j) cap' ∧ Owns wr w.heap.size 5 1 ad cap' (k.length + j) (bv (k ++ bytesN j N)) ∧ Gr w wr) (fun _ i _ => 8 - (intOf i).toNat)
  case atStart => exact ⟨0, _, cap, by omega, rfl, rfl, by rw [show bytesN 0 N = [] from rfl, List.append_nil]; exact ho3, G2.trans g3⟩
  case round =>
    obtain ⟨j, ad, cap', hj, rfl, rfl, ho, hg⟩ := hrel
    by_cases hlt : j < 8
    · have HX := Lib.hid (show ((N : Int) / 2 ^ (8 * j)) % 256 = ((UInt8.ofNat (N / 256 ^ j)).toNat : Int) by
        have : (N : Int) / 2 ^ (8 * j) = ((N / 256 ^ j : Nat) : Int) := by rw [pow256]; simp
        rw [this, UInt8.toNat_ofNat']; omega)
      have hs2 := hg.size
      go_wp2_with (at_builtin; refine wp_append elemB rfl _ _ rfl rfl (ho.gr (Gr.alloc _ _)) rfl (Src.one _ _ (UInt8.ofNat (N / 256 ^ j)) HX.out Tryz.underlying31) (by unfold maxLen; omega) (by omega) (by simp; omega) ?_; intro ad2 cap2 w4 o4 k4 f4)
      go_roundw
      case rel =>
        refine ⟨j + 1, ad2, cap2, by omega, by go_num, by simp [Nat.add_assoc], ?_, hg.app ho (Nat.le_refl _) k4⟩
        rw [bytesN_snoc, ← List.append_assoc, bv_append]
        exact o4
      case measure => simp [intOf]; omega
    · obtain rfl : j = 8 := by omega
      go_wp2
      go_ret2
      refine ⟨ad, cap', by rw [HL.out]; rfl, ?_, hg⟩
      rw [HL.out, HE.out]
      exact ho
end Go.Proofs.YtpaogoehgkoaeaaGreatDoor
/- Layer 5 (ikey): keyed answers true; IkeyParts and IkeyBetween answer true. -/
namespace Go.Proofs.YtpaogoehgkoaeaaGreatDoor
set_option linter.unusedVariables false
set_option linter.unusedSimpArgs false
open Go.RowKit Ikey Varint
open Go.Op (bytesLess)
end Go.Proofs.YtpaogoehgkoaeaaGreatDoor
/- Blocks that are known whole. No program is in sight here. -/
namespace Go.Proofs.YtpaogoehgkoaeaaGreatDoor
set_option linter.unusedVariables false
set_option linter.unusedSimpArgs false
open Go.RowKit
/-- block g is just these cells, none frozen -/
def Blk (w : World) (g : Nat) (t : TypeId) (cs : List Value) : Prop := w.heap[g]? = some (.cells cs.toArray t (0, 0))
section
variable {w w' : World} {g : Nat} {t : TypeId} {cs : List Value}
theorem Blk.lt (h : Blk w g t cs) : g < w.heap.size := (Array.getElem?_eq_some_iff.1 h).1
theorem Blk.cell (h : Blk w g t cs) {i : Nat} {v : Value} (hi : cs[i]? = some v) : w.cell? ⟨g, i, none⟩ = some v := by
  rw [cell_of_row w g i cs.toArray t (0, 0) h]; simpa using hi
theorem Blk.frozen (h : Blk w g t cs) (i : Nat) : w.frozen? ⟨g, i, none⟩ = false := by
  unfold Blk at h
  simp [World.frozen?, h]
theorem Blk.new (w : World) (t : TypeId) (cs : Array Value) : Blk (w.alloc (.cells cs t)) w.heap.size t cs.toList := by
  have := heap_alloc_new w (.cells cs t)
  simpa [Blk] using this
theorem Blk.gr (h : Blk w g t cs) (k : Gr w w') : Blk w' g t cs := k.heap h
theorem Blk.drew (h : Blk w g t cs) : Blk w.drew g t cs := h
theorem Blk.alloc (h : Blk w g t cs) (o : Obj) : Blk (w.alloc o) g t cs := h.gr (Gr.alloc w o)
theorem Blk.set_ (h : Blk w g t cs) (i : Nat) (u : Value) : Blk (w.setCell ⟨g, i, none⟩ u) g t (cs.set i u) := by
  unfold Blk at h ⊢
  simp [World.setCell, Array.getElem?_modify, h]
theorem Blk.far (h : Blk w g t cs) {p : Addr} (hp : g ≠ p.block) (u : Value) : Blk (w.setCell p u) g t cs := (Below.heap_setCell w p u g hp).trans h
theorem Blk.grown {row : Option Nat} (h : Blk w g t cs) (hb : w.grownBy w' row) (hg : some g ≠ row) : Blk w' g t cs := (hb.block g h.lt hg).trans h
theorem Blk.three {a b c : Value} (h : Blk w g t [a, b, c]) : w.cell? ⟨g, 0, none⟩ = some a ∧ w.cell? ⟨g, 1, none⟩ = some b ∧ w.cell? ⟨g, 2, none⟩ = some c ∧ w.frozen? ⟨g, 0, none⟩ = false ∧ w.frozen? ⟨g, 1, none⟩ = false ∧ w.frozen? ⟨g, 2, none⟩ = false :=
  ⟨h.cell rfl, h.cell rfl, h.cell rfl, h.frozen _, h.frozen _, h.frozen _⟩
theorem size_alloc1 (w : World) (o : Obj) : (w.alloc o).heap.size = w.heap.size + 1 := by simp
theorem Blk.of1 {cs : Array Value} (k : Gr (w.alloc (.cells cs t)) w') : Blk w' w.heap.size t cs.toList := (Blk.new w t cs).gr k
theorem Blk.of2a {cs : Array Value} {o : Obj} (k : Gr ((w.alloc (.cells cs t)).alloc o) w') : Blk w' w.heap.size t cs.toList := ((Blk.new w t cs).alloc o).gr k
theorem Blk.of2b {cs : Array Value} {o : Obj} (k : Gr ((w.alloc o).alloc (.cells cs t)) w') : Blk w' (w.heap.size + 1) t cs.toList := by
  have := (Blk.new (w.alloc o) t cs).gr k
  rwa [size_alloc1] at this
theorem Blk.of3a {cs : Array Value} {o o' : Obj} (k : Gr (((w.alloc (.cells cs t)).alloc o).alloc o') w') : Blk w' w.heap.size t cs.toList := (((Blk.new w t cs).alloc o).alloc o').gr k
theorem Blk.of3b {cs : Array Value} {o o' : Obj} (k : Gr (((w.alloc o).alloc (.cells cs t)).alloc o') w') : Blk w' (w.heap.size + 1) t cs.toList := by
  have := ((Blk.new (w.alloc o) t cs).alloc o').gr k
  rwa [size_alloc1] at this
theorem Blk.of3c {cs : Array Value} {o o' : Obj} (k : Gr (((w.alloc o).alloc o').alloc (.cells cs t)) w') : Blk w' (w.heap.size + 2) t cs.toList := by
  have := (Blk.new ((w.alloc o).alloc o') t cs).gr k
  rwa [size_alloc1, size_alloc1] at this
theorem Gr.far {row : Option Nat} (h : Gr w w') : w.grownBy w' row := ⟨h.os, h.tape, h.output, h.size, fun k hk _ => h.block k hk⟩
theorem grown_trans {a b c : World} {row : Option Nat} (h : a.grownBy b row) (k : b.grownBy c row) : a.grownBy c row :=
  ⟨k.os.trans h.os, k.tape.trans h.tape, k.output.trans h.output, Nat.le_trans h.size k.size, fun j hj hne => (k.block j (Nat.lt_of_lt_of_le hj h.size) hne).trans (h.block j hj hne)⟩
theorem grown_set (w : World) (g i : Nat) (u : Value) : w.grownBy (w.setCell ⟨g, i, none⟩ u) (some g) :=
  ⟨rfl, rfl, rfl, by simp, fun k _ hne => Below.heap_setCell w _ u k (fun e => hne (by rw [e]))⟩
theorem grown_drew (w : World) (row : Option Nat) : w.grownBy w.drew row := (Gr.drew w).far
theorem Gr.of_far {a w w' : World} {g : Nat} (h : Gr a w) (k : w.grownBy w' (some g)) (hg : a.heap.size ≤ g) : Gr a w' := h.grown k (fun _ e => by cases e; exact hg)
/-- a pointer to a new block of these cells -/
def NewBlk (B : Nat) (t : TypeId) (cs : List Value) : Value → World → Prop := fun v w => ∃ g, v = .pointer (some ⟨g, 0, none⟩) ∧ B ≤ g ∧ Blk w g t cs
theorem NewBlk.stable (B : Nat) (t : TypeId) (cs : List Value) : ∀ v w1 w2, NewBlk B t cs v w1 → Gr w1 w2 → NewBlk B t cs v w2 := fun _ _ _ ⟨g, e, hb, h⟩ k => ⟨g, e, hb, h.gr k⟩
end
end Go.Proofs.YtpaogoehgkoaeaaGreatDoor
/- Layer 5 (ikey): Decode and DocDecode. -/
namespace Go.Proofs.YtpaogoehgkoaeaaGreatDoor
set_option linter.unusedVariables false
set_option linter.unusedSimpArgs false
open Go.RowKit Ikey Varint
open Go.Op (bytesLess)
/-- what is told of a key and a trailer -/
def ofF (k : List UInt8) (n : Nat) : Option (List UInt8 × Nat × Nat) := if okV k ((n / 256 : Nat) : Int) ((n % 256 : Nat) : Int) then some (k, n / 256, n % 256) else none
def outV : Option (List UInt8 × Nat × Nat) → Value
  | some (k, s, d) => .tuple #[ver k s d, .int .i64 0]
  | none => .tuple #[ver [] 0 0, .int .i64 2]
def decF (b : List UInt8) : Option (List UInt8 × Nat × Nat) := if b.length < 8 then none else ofF (b.take (b.length - 8)) (le (b.drop (b.length - 8)))
set_option maxRecDepth 100000 in
set_option maxHeartbeats 1000000 in
theorem of_any (k : List UInt8) (n : Nat) (w : World) (hn : n < 18446744073709551616) :
    Calls Tryz.prog 139 #[.string (str k), .int .u64 n] w fun e w' => e = .returned (outV (ofF k n)) ∧ Gr w w' := by
  have HC := Lib.hid (fun w => Check_any k ((n / 256 : Nat) : Int) ((n % 256 : Nat) : Int) w)
  have e1 : ((n / 256 : Nat) : Int) = (n : Int) / 256 := by omega
  have e2 : ((n % 256 : Nat) : Int) = (n : Int) % 256 := by omega
  cases h : okV k ((n / 256 : Nat) : Int) ((n % 256 : Nat) : Int) with
  | true =>
    have HF := Lib.hid (show ofF k n = some (k, n / 256, n % 256) by unfold ofF; rw [h]; rfl)
    rw [chk_yes h] at HC
    unfold ver at HC
    rw [e1, e2] at HC
    clear h e1 e2
    go_enter Tryz.func139, Tryz.ntmps139
    go_wp2_with (go_at_call 87; refine (HC.out _).mono ?_; rintro e w1 ⟨rfl, g1⟩; obtain ⟨c0, c1, c2, f0, f1, f2⟩ := (Blk.of2a g1).three; obtain ⟨k0, k1, k2, _⟩ := (Blk.of2b g1).three)
    refine bodyPost_ret (v := outV (some (k, n / 256, n % 256))) (by simp [results, Tryz.results139, go_sem, outV, ver, c0, c1, c2]) rfl ⟨by rw [HF.out], ?_⟩
    exact ((((Gr.alloc _ _).trans (Gr.alloc _ _)).trans g1).setCell (Nat.le_refl _) _).setCell (Nat.le_refl _) _ |>.setCell (Nat.le_refl _) _
  | false =>
    have HF := Lib.hid (show ofF k n = none by unfold ofF; rw [h]; rfl)
    rw [chk_no h] at HC
    unfold ver at HC
    rw [e1, e2] at HC
    clear h e1 e2
    go_enter Tryz.func139, Tryz.ntmps139
    go_wp2_with (go_at_call 87; refine (HC.out _).mono ?_; rintro e w1 ⟨rfl, g1⟩; obtain ⟨c0, c1, c2, f0, f1, f2⟩ := (Blk.of2a g1).three; obtain ⟨k0, k1, k2, _⟩ := (Blk.of2b g1).three)
    refine bodyPost_ret (v := outV none) (by simp [results, Tryz.results139, go_sem, outV, ver, c0, c1, c2]; rfl) rfl ⟨by rw [HF.out], ?_⟩
    exact ((((Gr.alloc _ _).trans (Gr.alloc _ _)).trans g1).setCell (Nat.le_refl _) _).setCell (Nat.le_refl _) _ |>.setCell (Nat.le_refl _) _
def verO : Option (List UInt8 × Nat × Nat) → List UInt8 × Nat × Nat
  | some x => x
  | none => ([], 0, 0)
def errO : Option (List UInt8 × Nat × Nat) → Nat
  | some _ => 0
  | none => 2
theorem outV_eq (o : Option (List UInt8 × Nat × Nat)) : outV o = .tuple #[.agg #[.string (str (verO o).1), .int .i64 (verO o).2.1, .int .i64 (verO o).2.2], .int .i64 (errO o)] := by
  cases o <;> rfl
set_option maxRecDepth 100000 in
set_option maxHeartbeats 1000000 in
theorem Decode_any (ad : Option Addr) (cap : Nat) (l : List UInt8) (w : World) (hlc : l.length ≤ cap) (hm : l.length ≤ maxLen) (hb : Bytes w ad l) :
    Calls Tryz.prog 121 #[.slice ad l.length cap] w fun e w' => e = .returned (outV (decF l)) ∧ Gr w w' := by
  unfold maxLen at hm
  by_cases h8 : l.length < 8
  · have HD := Lib.hid (show decF l = none by unfold decF; rw [if_pos h8])
    go_enter Tryz.func121, Tryz.ntmps121
    go_wp2
    refine bodyPost_ret (v := outV none) (by simp [results, Tryz.results121, go_sem, outV, ver]; rfl) rfl ⟨by rw [HD.out], ?_⟩
    exact Gr.alloc _ _
  · obtain ⟨at_, hat⟩ : ∃ at_, l.length = at_ + 8 := ⟨l.length - 8, by omega⟩
    have hd8 : (l.drop at_).length = 8 := by simp; omega
    have HD := Lib.hid (show decF l = ofF (l.take at_) (le (l.drop at_)) by unfold decF; rw [if_neg h8, hat]; rfl)
    obtain ⟨b, off, rfl, hz⟩ := hb 0 (by omega)
    clear hz
    have hb2 := hb.gr (Gr.alloc w (.cells #[.string ⟨#[]⟩, .int .i64 0, .int .i64 0] 40))
    have hbd := hb2.drop at_
    have hle := le_lt (l.drop at_)
    rw [hd8] at hle
    have HO := Lib.hid (of_any (l.take at_) (le (l.drop at_)) (w.alloc (.cells #[.string ⟨#[]⟩, .int .i64 0, .int .i64 0] 40)) (by omega))
    have htl : (l.take at_).length = at_ := by simp; omega
    have hs := run_string (P := Tryz.prog) Tryz.underlying31 Tryz.underlying5 Tryz.underlying9 (cap := cap) htl (hb2.take at_)
    clear htl hle
    have hcap : at_ + 8 ≤ cap := by omega
    have hne : ¬ cap = at_ := by omega
    have hmm : at_ + 8 ≤ 9223372036854775807 := by omega
    have HAT := Lib.hid hat
    rw [hat]
    clear hat h8 hm hlc
    generalize l.drop at_ = m at *
    have H8 := Lib.hid hd8; clear hd8
    go_enter Tryz.func121, Tryz.ntmps121
    go_wp2
    go_loop [5, 6, 7, 18] (fun v _ _ i => ∃ j : Nat, j ≤ 8 ∧ i = .int .i64 j ∧ v = .int .u64 (le (m.take j))) (fun _ _ _ i => 8 - (intOf i).toNat)
    case atStart => exact ⟨0, by omega, rfl, rfl⟩
    case round =>
      obtain ⟨j, hj, rfl, rfl⟩ := hrel
      by_cases hlt : j < 8
      · have hjl : j < m.length := by rw [H8.out]; exact hlt
        obtain ⟨_, _, e0, hc⟩ := hbd j hjl
        cases e0
        have hx := byte_hi m[j]
        have h1 := le_take m j (by omega) (by omega)
        have HO2 := Lib.hid (u64_shl_or (le (m.take j)) m[j].toNat (8 * j) h1.1 (by have := le_fits j m[j].toNat (by omega) m[j].toNat_lt; exact this) h1.2)
        have HT := Lib.hid (le_take_succ m j hjl)
        have h2 := h1.2
        clear h1
        go_wp2
        go_round
        case rel => exact ⟨j + 1, by omega, by go_num, by rw [HO2.out, HT.out]⟩
        case measure => simp [intOf]; omega
      · obtain rfl : j = 8 := by omega
        have HT := Lib.hid (show m.take 8 = m from List.take_of_length_le (by rw [H8.out]; exact Nat.le_refl _))
        rw [HT.out]
        rw [outV_eq] at HO
        go_wp2_with (go_at_call 139; refine HO.out.mono ?_; rintro e w1 ⟨rfl, g1⟩; obtain ⟨c0, c1, c2, f0, f1, f2⟩ := (Blk.of1 g1).three)
        refine bodyPost_ret (v := outV (ofF (l.take at_) (le m))) (by rw [outV_eq]; simp [results, Tryz.results121, go_sem, c0, c1, c2]) rfl ⟨by rw [HD.out, outV_eq], ?_⟩
        exact (((Gr.alloc _ _).trans g1).setCell (Nat.le_refl _) _).setCell (Nat.le_refl _) _ |>.setCell (Nat.le_refl _) _
end Go.Proofs.YtpaogoehgkoaeaaGreatDoor
/- A region that draws its order and ends in a forced row of operations (a store, an append): the head by what each operation's value is known to be, the tail walked behind it. No program is in sight here. -/
namespace Go.Proofs.YtpaogoehgkoaeaaGreatDoor
set_option linter.unusedVariables false
set_option linter.unusedSimpArgs false
open Go.RowKit
section
variable {P : Program}
/-- the first so many are done -/
def headDone (m n0 : Nat) : Array Bool := (Array.range m).map fun i => decide (i < n0)
def tailB (l : List Oper) (n0 : Nat) : Bool :=
  decide (n0 < l.length) && Region.sinkB .any l.toArray n0 && Region.chainB .any l.toArray n0 && Region.seqB .any l.toArray (l.length - n0) n0 (headDone l.length n0)
theorem take_get {l : List Oper} {n0 i : Nat} {o : Oper} (h : (l.take n0)[i]? = some o) : i < n0 ∧ l[i]? = some o := by
  rw [List.getElem?_take] at h
  split at h
  · exact ⟨by assumption, h⟩
  · cases h
theorem get_take {l : List Oper} {n0 i : Nat} {o : Oper} (hi : i < n0) (h : l[i]? = some o) : (l.take n0)[i]? = some o := by
  rw [List.getElem?_take, if_pos hi]; exact h
theorem region_any_tail {Le : World → World → Prop} (hrefl : ∀ w, Le w w) (htrans : ∀ a b c, Le a b → Le b c → Le a c) (hdrew : ∀ w, Le w w.drew) {id : Nat} {Q : Exit → Act → World → Prop} {a0 : Act} {w : World} {l : List Oper} (n0 n : Nat) (R : Nat → Value → World → Prop)
    (hm : P.follows .mixedOrders = true) (hB : anyB (l.take n0) n = true) (hT : tailB l n0 = true) (hn : a0.tmps.size = n) (hst : ∀ i v w1 w2, R i v w1 → Le w1 w2 → R i v w2)
    (hs : ∀ i o, (l.take n0)[i]? = some o → Shown P Le (l.take n0) R a0 w i o)
    (hfin : ∀ w1 val, Le w w1 → (∀ i o, (l.take n0)[i]? = some o → o.dst.isSome = true → R i (val i) w1) → wpList P l.toArray Q (l.drop n0) (putAll val (l.take n0) 0 a0) w1) : (Code.region id l.toArray true).wp P Q a0 w := by
  simp only [tailB, Bool.and_eq_true, decide_eq_true_eq] at hT
  obtain ⟨⟨⟨hn0, hsink⟩, hchain⟩, hseq⟩ := hT
  have hsize : l.toArray.size = l.length := by simp
  have hpl : (l.take n0).length = n0 := by simp; omega
  have getX : ∀ (listed : Array Bool) (k : Nat), listed.size = l.length → k < n0 → (listed.extract 0 n0).getD k false = listed.getD k false := by
    intro listed k hsz hk
    have h1 : k < (listed.extract 0 n0).size := by simp; omega
    have h2 : k < listed.size := by omega
    simp only [Array.getD_eq_getD_getElem?]
    rw [Array.getElem?_eq_getElem h1, Array.getElem?_eq_getElem h2, Array.getElem_extract]
    simp
  have setX : ∀ (listed : Array Bool) (i : Nat), listed.size = l.length → i < n0 → (listed.setIfInBounds i true).extract 0 n0 = (listed.extract 0 n0).setIfInBounds i true := by
    intro listed i hsz hi
    apply Array.ext_getElem?
    intro k
    have hs1 : ((listed.setIfInBounds i true).extract 0 n0).size = n0 := by simp; omega
    have hs2 : ((listed.extract 0 n0).setIfInBounds i true).size = n0 := by simp; omega
    by_cases hk : k < n0
    · rw [Array.getElem?_eq_getElem (by omega), Array.getElem?_eq_getElem (by omega), Array.getElem_extract, Array.getElem_setIfInBounds, Array.getElem_setIfInBounds, Array.getElem_extract]
      all_goals first | omega | (simp; done) | (simp; omega)
    · rw [Array.getElem?_eq_none (by omega), Array.getElem?_eq_none (by omega)]
  have allL : ∀ (listed : Array Bool), listed.size = l.length → Region.ready .any l.toArray listed = [] → ∀ k, k < n0 → listed.getD k false = true := by
    intro listed hls hr k
    induction k using Nat.strongRecOn with
    | _ k ih =>
      intro hk
      cases hc : listed.getD k false with
      | true => rfl
      | false =>
        exfalso
        have hkl : k < l.length := by omega
        have hok := opOk_of hB (i := k) (o := l[k]) (get_take hk (by simp [hkl]))
        have hmem : k ∈ Region.ready .any l.toArray listed := by
          rw [mem_ready]
          refine ⟨?_, l[k], by simp [hkl], fun e he hb => ?_⟩
          · have : k < listed.size := by omega
            simp [this] at hc ⊢; exact hc
          · have hd : e.on ∈ depsOf l[k] := by
              unfold depsOf
              rw [List.mem_filterMap]
              exact ⟨e, by simpa using he, by rw [hb]; rfl⟩
            simp only [opOk, Bool.and_eq_true, List.all_eq_true, decide_eq_true_eq] at hok
            have hlt := hok.1.1.2 _ hd
            exact ih _ hlt (by omega)
        rw [hr] at hmem
        cases hmem
  have fin : ∀ (listed : Array Bool) (a : Act) (w1 : World), OnWay Le (l.take n0) R a0 w (listed.extract 0 n0) a w1 → listed.size = l.length → (∀ k, k < n0 → listed.getD k false = true) → wpList P l.toArray Q (l.drop n0) a w1 := by
    intro listed a w1 inv hsz hall
    have hval := hfin w1 (fun j => match dstOf (l.take n0) j with | some d => a.tmps.getD d undef | none => undef) inv.le (fun i o hi hd => by
      obtain ⟨d, hd⟩ := Option.isSome_iff_exists.1 hd
      have : dstOf (l.take n0) i = some d := by simp only [dstOf, hi, Option.bind_some, hd]
      simp only [this]
      exact inv.known i o d hi (by rw [getX _ _ hsz (take_get hi).1]; exact hall i (take_get hi).1) hd)
    have e : a = putAll (fun j => match dstOf (l.take n0) j with | some d => a.tmps.getD d undef | none => undef) (l.take n0) 0 a0 := by
      refine act_ext (by rw [putAll_size, inv.tmps]) (by rw [putAll_defers, inv.defers]) fun t => ?_
      by_cases ht : ∃ (j : Nat) (o : Oper), (l.take n0)[j]? = some o ∧ o.dst = some t
      · obtain ⟨j, o, hj, hd⟩ := ht
        have hok := opOk_of hB hj
        have htn : t < n := by
          simp only [opOk, hd, Bool.and_eq_true, decide_eq_true_eq] at hok
          exact hok.1.1.1.2.1
        rw [putAll_at _ t (l.take n0) 0 a0 j o hj hd (by rw [hn]; exact htn) (fun j' o' hj' hne hd' => by
          have hok' := opOk_of hB hj'
          simp only [opOk, Bool.and_eq_true, List.all_eq_true] at hok'
          have h2 := hok'.2 j (List.mem_range.2 (List.getElem?_eq_some_iff.1 hj).1)
          have hdj : dstOf (l.take n0) j = some t := by simp only [dstOf, hj, Option.bind_some, hd]
          simp [hdj, hd', Ne.symm hne] at h2)]
        have hdj : dstOf (l.take n0) (0 + j) = some t := by rw [Nat.zero_add]; simp only [dstOf, hj, Option.bind_some, hd]
        simp only [hdj]
      · rw [putAll_other _ t (l.take n0) 0 a0 (fun o ho hd => ht (by
          obtain ⟨j, hj, e⟩ := List.getElem_of_mem ho
          exact ⟨j, o, by rw [List.getElem?_eq_getElem hj, e], hd⟩))]
        exact inv.rest t (fun j o hj _ hd => ht ⟨j, o, hj, hd⟩)
    rw [e]; exact hval
  have key : ∀ (f : Nat) (listed : Array Bool) (a : Act) (w1 : World), OnWay Le (l.take n0) R a0 w (listed.extract 0 n0) a w1 → HeadInv .any l.toArray n0 listed → cnt (fun k => listed.getD k false) n0 = f → wpAny P .any l.toArray Q (f + (l.length - n0)) listed a w1 := by
    intro f
    induction f with
    | zero =>
      intro listed a w1 inv hinv hc
      have hsz : listed.size = l.length := by rw [hinv.size, hsize]
      have hall := cnt_zero hc
      have hw := fin listed a w1 inv hsz hall
      have hld : listed = headDone l.length n0 := by
        apply Array.ext
        · simp [headDone, hsz]
        · intro k hk1 hk2
          have hkl : k < l.length := by omega
          by_cases hk : k < n0
          · have := hall k hk
            simp [hk1] at this
            simp [headDone, hk, this]
          · have := hinv.tail k (by omega) (by rw [hsize]; exact hkl)
            simp [hk1] at this
            simp [headDone, hk, this]
      have hdl : (l.drop n0).length = l.length - n0 := by simp
      have := wpAny_of_seq (P := P) (md := .any) (Q' := Q) (l.drop n0) n0 listed a w1 (fun j => by simp [List.getElem?_drop]) (by rw [hdl, hld]; exact hseq) hw
      rw [hdl] at this
      rw [Nat.zero_add]
      exact this
    | succ f ih =>
      intro listed a w1 inv hinv hc
      have hsz : listed.size = l.length := by rw [hinv.size, hsize]
      have hun : ∃ k, k < n0 ∧ listed.getD k false = false := by
        rcases Classical.em (∃ k, k < n0 ∧ listed.getD k false = false) with h | h
        · exact h
        · have hz : cnt (fun k => listed.getD k false) n0 = 0 := by
            have : cnt (fun k => listed.getD k false) n0 = cnt (fun _ => true) n0 := cnt_same fun k hk => by
              cases hx : listed.getD k false with
              | true => rfl
              | false => exact absurd ⟨k, hk, hx⟩ h
            rw [this]
            have : ∀ m, cnt (fun _ => true) m = 0 := fun m => by induction m with | zero => rfl | succ m ihm => simp [cnt, ihm]
            exact this n0
          omega
      obtain ⟨k0, hk0, hku⟩ := hun
      rw [show f + 1 + (l.length - n0) = (f + (l.length - n0)) + 1 by omega]
      refine ⟨fun hr => ?_, fun i hi => ?_⟩
      · have := allL listed hsz hr k0 hk0
        rw [hku] at this; cases this
      · have hin : i < n0 := by
          rcases Nat.lt_or_ge i n0 with h | h
          · exact h
          · exact absurd hi (tail_waits hsink hchain (by rw [hsize]; exact hn0) hinv (n0 - k0) k0 rfl hk0 (getD_in (by omega) hku) i h)
        obtain ⟨h1, o, ho, hdeps⟩ := mem_ready.1 hi
        have hil : l[i]? = some o := by simpa using ho
        have hio : (l.take n0)[i]? = some o := get_take hin hil
        have hls : i < listed.size := by omega
        have hunl : listed.getD i false = false := by simp [hls] at h1 ⊢; exact h1
        have hok := opOk_of hB hio
        have hdl : ∀ d ∈ depsOf o, listed.getD d false = true := by
          intro d hd
          unfold depsOf at hd
          obtain ⟨e, he, hb⟩ := List.mem_filterMap.1 hd
          split at hb
          · rename_i hbb
            cases hb
            exact hdeps e (by simpa using he) hbb
          · cases hb
        have hdlt : ∀ d ∈ depsOf o, d < n0 := by
          intro d hd
          simp only [opOk, Bool.and_eq_true, List.all_eq_true, decide_eq_true_eq] at hok
          have := hok.1.1.2 _ hd
          omega
        have hcnt : cnt (fun k => (listed.setIfInBounds i true).getD k false) n0 = f := by
          have := cnt_set (f := fun k => listed.getD k false) (g := fun k => (listed.setIfInBounds i true).getD k false) (i := i) (n := n0) hin hunl (fun k => by
            by_cases hk : i = k
            · subst hk; simp [hls]
            · have hk' : (k == i) = false := by simp; omega
              simp only [getD_set_ne false hk, hk', Bool.or_false])
          omega
        have hkn : ∀ t ∈ readsOf (l.take n0) o, knownOf (l.take n0) R a0 o t (a.eval (.tmp t)) w1 := by
          intro t ht
          show knownOf (l.take n0) R a0 o t (a.tmps.getD t undef) w1
          unfold knownOf
          cases hsrc : srcOf (l.take n0) o t with
          | some j =>
            have hj := List.mem_of_find?_eq_some hsrc
            have hjt := List.find?_some hsrc
            have hjd : dstOf (l.take n0) j = some t := by simpa using hjt
            unfold dstOf at hjd
            cases hlj : (l.take n0)[j]? with
            | none => rw [hlj] at hjd; simp at hjd
            | some oj =>
              rw [hlj] at hjd
              simp only [Option.bind_some] at hjd
              exact inv.known j oj t hlj (by rw [getX _ _ hsz (hdlt j hj)]; exact hdl j hj) hjd
          | none =>
            refine inv.rest t (fun j oj hlj hll hd => ?_)
            have hdj : dstOf (l.take n0) j = some t := by simp only [dstOf, hlj, Option.bind_some, hd]
            have hjn := (take_get hlj).1
            rw [getX _ _ hsz hjn] at hll
            have hne : j ≠ i := fun e => by subst e; rw [hunl] at hll; cases hll
            simp only [opOk, Bool.and_eq_true, List.all_eq_true] at hok
            have h2 := hok.2 j (List.mem_range.2 (List.getElem?_eq_some_iff.1 hlj).1)
            simp only [hdj, hlj] at h2
            have ht' : (readsOf (l.take n0) o).contains t = true := by simpa using ht
            simp [hne, ht] at h2
            rcases h2.2 with h3 | h3
            · have := List.find?_eq_none.1 hsrc j h3
              simp [hdj] at this
            · have := inv.closed j oj hlj (by rw [getX _ _ hsz hjn]; exact hll) i h3
              rw [getX _ _ hsz hin, hunl] at this; cases this
        have hsh := hs i o hio a.eval w1 ⟨fun _ => rfl, fun _ => rfl, fun _ => rfl⟩ inv.le (KnownAll.of hkn)
        have hwant : Region.wanted o (yielded l.toArray a.tmps) = wantedBy (l.take n0) o a.eval := by
          unfold Region.wanted wantedBy
          cases hg : o.guard with
          | none => rfl
          | some g =>
            obtain ⟨gj, gb⟩ := g
            simp only [yielded_eq]
            have hgd : gj ∈ depsOf o := by
              simp only [opOk, hg, Bool.and_eq_true] at hok
              have := hok.1.2.1
              simpa using this
            have : dstOf (l.take n0) gj = dstOf l gj := by
              unfold dstOf
              rw [List.getElem?_take, if_pos (hdlt gj hgd)]
            rw [this]
            rfl
        have step : ∀ v w2, Le w1 w2 → R i v w2 → wpAny P .any l.toArray Q (f + (l.length - n0)) (listed.setIfInBounds i true) (a.put o.dst v) w2 := by
          intro v w2 hle hv
          refine ih _ _ _ ?_ (hinv.set hi hin) hcnt
          rw [setX listed i hsz hin]
          have hset : ∀ j, j < n0 → ((listed.extract 0 n0).setIfInBounds i true).getD j false = true → j = i ∨ (listed.extract 0 n0).getD j false = true := fun j _ h => listed_set h
          refine ⟨by simp [inv.size], htrans _ _ _ inv.le hle, by rw [put_defers, inv.defers], by rw [put_size, inv.tmps], ?_, ?_, ?_⟩
          · intro j oj hj hl d hd
            rcases listed_set hl with rfl | hl
            · rw [hio] at hj; cases hj
              exact getD_set_true (by rw [getX _ _ hsz (hdlt d hd)]; exact hdl d hd)
            · exact getD_set_true (inv.closed j oj hj hl d hd)
          · intro j oj d hj hl hd
            rcases listed_set hl with rfl | hl2
            · rw [hio] at hj; cases hj
              have hdn : d < n := by
                simp only [opOk, hd, Bool.and_eq_true, decide_eq_true_eq] at hok
                exact hok.1.1.1.2.1
              rw [hd, put_same _ _ _ (by rw [inv.tmps, hn]; exact hdn)]
              exact hv
            · by_cases hji : j = i
              · subst hji; rw [getX _ _ hsz hin, hunl] at hl2; cases hl2
              · rw [put_other _ _ _ _ (fun hd' => by
                  simp only [opOk, Bool.and_eq_true, List.all_eq_true] at hok
                  have h2 := hok.2 j (List.mem_range.2 (List.getElem?_eq_some_iff.1 hj).1)
                  have hdj : dstOf (l.take n0) j = some d := by simp only [dstOf, hj, Option.bind_some, hd]
                  simp [hdj, hd', hji] at h2)]
                exact hst j _ _ _ (inv.known j oj d hj hl2 hd) hle
          · intro t ht
            have hii : i < (listed.extract 0 n0).size := by simp; omega
            have h1 : o.dst ≠ some t := ht i o hio (by simp at hii; simp; omega)
            rw [put_other _ _ _ _ h1]
            exact inv.rest t (fun j oj hj hl => ht j oj hj (getD_set_true hl))
        unfold wpOp
        simp only [ho, hwant]
        split
        · rename_i hw
          rw [hw] at hsh
          simp only [if_true] at hsh
          left
          unfold Oper.wp
          generalize (execOp a.eval o).run P w1 = r at hsh
          cases r with
          | halt x w' => exact hsh.elim
          | ok nx w' =>
            cases nx with
            | value v => exact step v w' hsh.1 hsh.2
            | skip => exact step undef w' hsh.1 hsh.2
            | enter f args =>
              obtain ⟨h2, h3⟩ := hsh
              exact h3.mono fun e w'' ⟨v, he, hle, hv⟩ => by subst he; exact step v w'' (htrans _ _ _ h2 hle) hv
            | _ => exact hsh.elim
        · rename_i hw
          simp only [Bool.not_eq_true] at hw
          rw [hw] at hsh
          exact step undef w1 (hrefl _) (by simpa using hsh)
  refine wp_region_any hm ?_
  have inv0 : HeadInv .any l.toArray n0 (Array.replicate l.toArray.size false) :=
    ⟨by simp, fun j oj _ hl => (by rw [Go.getD_replicate_false] at hl; cases hl), fun t _ ht => getD_in (by simpa using ht) (Go.getD_replicate_false _ _)⟩
  have hgx : ∀ j, ((Array.replicate l.toArray.size false).extract 0 n0).getD j false = false := by
    intro j
    by_cases hj : j < n0
    · rw [getX _ _ (by simp) hj]; exact Go.getD_replicate_false _ _
    · simp
      rw [← Array.getD_eq_getD_getElem?]
      exact Go.getD_replicate_false _ _
  have hc0 : cnt (fun k => (Array.replicate l.toArray.size false).getD k false) n0 = n0 := by
    have : cnt (fun k => (Array.replicate l.toArray.size false).getD k false) n0 = cnt (fun _ => false) n0 := cnt_same fun k _ => Go.getD_replicate_false _ _
    rw [this]
    have : ∀ m, cnt (fun _ => false) m = m := fun m => by induction m with | zero => rfl | succ m ihm => simp [cnt, ihm]
    exact this n0
  have := key n0 (Array.replicate l.toArray.size false) a0 w.drew ⟨by simp, hdrew w, rfl, rfl, fun j o _ hl => (by rw [hgx] at hl; cases hl), fun j o d _ hl => (by rw [hgx] at hl; cases hl), fun _ _ => rfl⟩ inv0 hc0
  rw [show n0 + (l.length - n0) = l.toArray.size by rw [hsize]; omega] at this
  exact this
theorem region_tail_gr {id : Nat} {Q : Exit → Act → World → Prop} {a0 : Act} {w : World} {l : List Oper} (n0 n : Nat) (Rs : List (Value → World → Prop))
    (hm : P.follows .mixedOrders = true) (hB : anyB (l.take n0) n = true) (hT : tailB l n0 = true) (hd : (l.take n0).all (·.dst.isSome) = true) (hlen : Rs.length = (l.take n0).length) (hn : a0.tmps.size = n) (hst : AllStable Gr Rs)
    (hs : AllShown P Gr (l.take n0) Rs a0 w (l.take n0) 0) (hfin : ∀ w1 val, Gr w w1 → Holds val w1 Rs 0 → wpList P l.toArray Q (l.drop n0) (putAll val (l.take n0) 0 a0) w1) : (Code.region id l.toArray true).wp P Q a0 w :=
  region_any_tail Gr.refl (fun _ _ _ => Gr.trans) Gr.drew n0 n (nth Rs) hm hB hT hn (fun i v w1 w2 => hst.get i v w1 w2) (fun i o hi => by simpa using hs.get i o hi)
    (fun w1 val hg h => hfin w1 val hg (Holds.of fun i hi => by
      have hi' : i < (l.take n0).length := by omega
      rw [Nat.zero_add]
      exact h i (l.take n0)[i] (by rw [List.getElem?_eq_getElem hi']) (List.all_eq_true.1 hd _ (List.getElem_mem hi'))))
end
end Go.Proofs.YtpaogoehgkoaeaaGreatDoor
namespace Go.Proofs.YtpaogoehgkoaeaaGreatDoor
set_option linter.unusedVariables false
set_option linter.unusedSimpArgs false
open Go.RowKit Ikey Varint
open Go.Op (bytesLess)
end Go.Proofs.YtpaogoehgkoaeaaGreatDoor
