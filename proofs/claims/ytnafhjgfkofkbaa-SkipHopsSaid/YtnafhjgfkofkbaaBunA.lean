/- A region that draws its order, in which rows of the call's own get their last contents, wherever the stores stand. No program is in sight here. -/
import Derived.WalkKit
import Derived.ProofKit
import Derived.OpenShut
import Derived.Lib.Hide
import Derived.Lib.MinMax
import Derived.WalkLawsBesides
import Derived.Deep.Draws
import Derived.Deep.QuietTactic
import Derived.BigQuiet
import Derived.StillTailTactics
import Derived.WalkSpells
import Derived.Deep.MidRow
/- Words that all texts share: Go's unsigned numbers as bit vectors, and how the walk reckons with them. No program is in sight here. -/
namespace Go.Proofs.Ytnafhjgfkofkbaa
set_option linter.unusedVariables false
set_option linter.unusedSimpArgs false
open Go.RowKit

/-- a uint32 -/
def U (r : BitVec 32) : Int := (r.toNat : Int)
theorem U_lo (r : BitVec 32) : 0 ≤ U r := Int.natCast_nonneg _
theorem U_hi (r : BitVec 32) : U r < 4294967296 := by unfold U; have := r.isLt; omega
theorem U_ofNat (n : Nat) : U (BitVec.ofNat 32 n) = ((n % 4294967296 : Nat) : Int) := by simp [U]
theorem U_inj {a b : BitVec 32} (h : U a = U b) : a = b := BitVec.eq_of_toNat_eq (by unfold U at h; omega)
theorem U_beq (a b : BitVec 32) : (U a == U b) = (a == b) := by
  rw [Bool.eq_iff_iff, beq_iff_eq, beq_iff_eq]; exact ⟨U_inj, fun h => by rw [h]⟩
theorem U_and (a b : BitVec 32) : bits .and .u32 (U a) (U b) = U (a &&& b) := by
  unfold U; rw [u32_and_nat _ _ a.isLt b.isLt, BitVec.toNat_and]
theorem U_or (a b : BitVec 32) : bits .or .u32 (U a) (U b) = U (a ||| b) := by
  unfold U; rw [u32_or_nat _ _ a.isLt b.isLt, BitVec.toNat_or]
theorem U_xor (a b : BitVec 32) : bits .xor .u32 (U a) (U b) = U (a ^^^ b) := by
  unfold U; rw [u32_xor_nat _ _ a.isLt b.isLt, BitVec.toNat_xor]
theorem U_lit {m : Int} (n : Nat) (hm : m = (n : Int)) (h : n < 4294967296) : m = U (BitVec.ofNat 32 n) := by
  rw [U_ofNat, Nat.mod_eq_of_lt h]; exact hm
theorem U_andc (a : BitVec 32) (m : Int) (n : Nat) (hm : m = (n : Int)) (h : n < 4294967296) : bits .and .u32 (U a) m = U (a &&& BitVec.ofNat 32 n) := by
  rw [U_lit n hm h, U_and]
theorem U_orc (a : BitVec 32) (m : Int) (n : Nat) (hm : m = (n : Int)) (h : n < 4294967296) : bits .or .u32 (U a) m = U (a ||| BitVec.ofNat 32 n) := by
  rw [U_lit n hm h, U_or]
theorem U_xorc (a : BitVec 32) (m : Int) (n : Nat) (hm : m = (n : Int)) (h : n < 4294967296) : bits .xor .u32 (U a) m = U (a ^^^ BitVec.ofNat 32 n) := by
  rw [U_lit n hm h, U_xor]
theorem U_shr (a : BitVec 32) (m : Int) (n : Nat) (h : m = ((2 ^ n : Nat) : Int)) : U a / m = U (a >>> n) := by
  subst h; unfold U; rw [BitVec.toNat_ushiftRight, Nat.shiftRight_eq_div_pow]; rfl
theorem U_shl (a : BitVec 32) (m : Int) (n : Nat) (h : m = ((2 ^ n : Nat) : Int)) : U a * m % 4294967296 = U (a <<< n) := by
  subst h; unfold U; rw [BitVec.toNat_shiftLeft, Nat.shiftLeft_eq]; omega
theorem U_neg (a : BitVec 32) : (-(U a)) % 4294967296 = U (-a) := by
  unfold U; rw [BitVec.toNat_neg]; have := a.isLt; omega
theorem U_not (a : BitVec 32) : bits .xor .u32 IntKind.u32.max (U a) = U (~~~ a) := by
  have := U_xor (BitVec.allOnes 32) a
  rw [BitVec.allOnes_xor] at this
  exact this
theorem U_add (a b : BitVec 32) : (U a + U b) % 4294967296 = U (a + b) := by
  unfold U; rw [BitVec.toNat_add]; omega
theorem U_sub (a b : BitVec 32) : (U a - U b) % 4294967296 = U (a - b) := by
  unfold U; rw [BitVec.toNat_sub]; have := a.isLt; have := b.isLt; omega
theorem U_mul (a b : BitVec 32) : (U a * U b) % 4294967296 = U (a * b) := by
  unfold U; rw [BitVec.toNat_mul]; simp

theorem U_addc (a : BitVec 32) (m : Int) (n : Nat) (hm : m = (n : Int)) (h : n < 4294967296) : (U a + m) % 4294967296 = U (a + BitVec.ofNat 32 n) := by
  rw [U_lit n hm h, U_add]
theorem U_subc (a : BitVec 32) (m : Int) (n : Nat) (hm : m = (n : Int)) (h : n < 4294967296) : (U a - m) % 4294967296 = U (a - BitVec.ofNat 32 n) := by
  rw [U_lit n hm h, U_sub]
theorem U_mulc (a : BitVec 32) (m : Int) (n : Nat) (hm : m = (n : Int)) (h : n < 4294967296) : (U a * m) % 4294967296 = U (a * BitVec.ofNat 32 n) := by
  rw [U_lit n hm h, U_mul]
theorem U_byte (x : UInt8) : (x.toNat : Int) = U (BitVec.ofNat 32 x.toNat) := by
  have hx := x.toNat_lt
  rw [U_ofNat]; omega
theorem U_xorB (a : BitVec 32) (x : UInt8) : bits .xor .u32 (U a) (x.toNat : Int) = U (a ^^^ BitVec.ofNat 32 x.toNat) := by
  rw [U_byte, U_xor]
theorem byte_hi (x : UInt8) : (x.toNat : Int) < 256 := by have := x.toNat_lt; omega
theorem U_byte_bit (x : UInt8) (j : Nat) : bits .and .u32 ((x.toNat : Int) / 2 ^ j) 1 = U ((BitVec.ofNat 32 x.toNat) >>> j &&& 1#32) := by
  rw [U_byte, U_shr _ _ j (by simp), U_andc _ 1 1 rfl (by decide)]
attribute [irreducible] U
theorem ret_int {k : IntKind} {a b : Int} (h : a = b) : Ending.returned (.int k a) = .returned (.int k b) := by rw [h]
theorem ret3_of {k1 k2 k3 : IntKind} {a b c : Int} {p : Nat × Nat × Nat} {x y z : Nat} (h : p = (x, y, z)) (ha : a = (x : Int)) (hb : b = (y : Int)) (hc : c = (z : Int)) :
    Ending.returned (.tuple #[.int k1 a, .int k2 b, .int k3 c]) = .returned (.tuple #[.int k1 (p.1 : Int), .int k2 (p.2.1 : Int), .int k3 (p.2.2 : Int)]) := by
  subst h ha hb hc; rfl
theorem val_int {k : IntKind} {a b : Int} (h : a = b) : Value.int k a = Value.int k b := by rw [h]

theorem b8_xor (a b : UInt8) : bits .xor .u8 (a.toNat : Int) (b.toNat : Int) = ((a ^^^ b).toNat : Int) := by
  rw [u8_xor_nat _ _ a.toNat_lt b.toNat_lt, UInt8.toNat_xor]
theorem b8_or (a b : UInt8) : bits .or .u8 (a.toNat : Int) (b.toNat : Int) = ((a ||| b).toNat : Int) := by
  rw [u8_or_nat _ _ a.toNat_lt b.toNat_lt, UInt8.toNat_or]
theorem b8_and (a b : UInt8) : bits .and .u8 (a.toNat : Int) (b.toNat : Int) = ((a &&& b).toNat : Int) := by
  rw [u8_and_nat _ _ a.toNat_lt b.toNat_lt, UInt8.toNat_and]
theorem mod_pick (x m : Int) (h : 0 < m) (hm : m ≤ 9223372036854775807) : ∃ k : Nat, wrap64 ((IntKind.u64.wrap x).tmod m) = (k : Int) ∧ (k : Int) < m := by
  have h0 : 0 ≤ IntKind.u64.wrap x := by rw [IntKind.wrap_u64]; omega
  have h1 : (IntKind.u64.wrap x).tmod m = IntKind.u64.wrap x % m := Int.tmod_eq_emod_of_nonneg h0
  have h2 := Int.emod_nonneg (IntKind.u64.wrap x) (show m ≠ 0 by omega)
  have h3 := Int.emod_lt_of_pos (IntKind.u64.wrap x) h
  refine ⟨(IntKind.u64.wrap x % m).toNat, ?_, by omega⟩
  rw [h1, IntWalk.wrap64_in _ ⟨by omega, by omega⟩]
  omega
theorem U_bit (t : BitVec 32) (i : Nat) : bits .and .u32 (U t / 2 ^ i) 1 = if t.getLsbD i then 1 else 0 := by
  rw [U_shr _ _ i (by simp), U_andc _ 1 1 rfl (by decide)]
  have h : (t >>> i &&& BitVec.ofNat 32 1).toNat = if t.getLsbD i then 1 else 0 := by
    rw [BitVec.toNat_and, BitVec.toNat_ushiftRight]
    have : (BitVec.ofNat 32 1).toNat = 1 := rfl
    rw [this, Nat.and_one_is_mod, BitVec.getLsbD, Nat.testBit, Nat.one_and_eq_mod_two]
    have h2 := Nat.mod_two_eq_zero_or_one (t.toNat >>> i)
    rcases h2 with h2 | h2 <;> rw [h2] <;> simp
  unfold U
  rw [h]
  split <;> rfl
theorem b8_pow (r : Nat) : (2 : Int) ^ r % 256 = ((UInt8.ofNat (2 ^ r)).toNat : Int) := by
  rw [UInt8.toNat_ofNat']; simp
theorem or128 (x : Nat) (h : x < 256) : x ||| 128 = x % 128 + 128 := by
  have : ∀ y : Fin 256, y.val ||| 128 = y.val % 128 + 128 := by decide +kernel
  exact this ⟨x, h⟩
theorem b8_more (n : Nat) : bits .or .u8 ((n : Int) % 256) 128 = ((UInt8.ofNat (n % 128 + 128)).toNat : Int) := by
  have e : (n : Int) % 256 = ((n % 256 : Nat) : Int) := by omega
  have h := u8_or_nat (n % 256) 128 (by omega) (by decide)
  rw [or128 _ (by omega)] at h
  rw [e, UInt8.toNat_ofNat']
  refine h.trans ?_
  omega
theorem and127 (x : Nat) (h : x < 256) : x &&& (255 - 128) = x % 128 := by
  have : ∀ y : Fin 256, y.val &&& (255 - 128) = y.val % 128 := by decide +kernel
  exact this ⟨x, h⟩
theorem b8_less (x : UInt8) : bits .andNot .u8 (x.toNat : Int) 128 = ((x.toNat % 128 : Nat) : Int) := by
  have h := u8_andNot_nat x.toNat 128 x.toNat_lt (by decide)
  rw [and127 _ x.toNat_lt] at h
  exact h
theorem u64_join (a b i : Nat) (ha : a < 2 ^ i) (hb : b * 2 ^ i < 18446744073709551616) (hs : a < 18446744073709551616) : bits .or .u64 (a : Int) ((b * 2 ^ i : Nat) : Int) = ((a + b * 2 ^ i : Nat) : Int) := by
  rw [u64_or_nat _ _ hs hb, Nat.or_comm, nat_join i _ _ (Nat.mul_mod_left _ _) ha, Nat.add_comm]
theorem u64_wrap_nat (n : Nat) (h : n < 18446744073709551616) : IntKind.u64.wrap (n : Int) = (n : Int) := by
  rw [IntKind.wrap_u64]; omega
theorem u64_shl_or (a b i : Nat) (ha : a < 2 ^ i) (hb : b * 2 ^ i < 18446744073709551616) (hs : a < 18446744073709551616) : bits .or .u64 (a : Int) (IntKind.u64.wrap ((b : Int) * 2 ^ i)) = ((a + b * 2 ^ i : Nat) : Int) := by
  have e : ((b : Int) * 2 ^ i) = ((b * 2 ^ i : Nat) : Int) := by simp
  rw [e, u64_wrap_nat _ hb, u64_join a b i ha hb hs]
theorem u64_low (n : Nat) (h : n < 18446744073709551616) : bits .and .u64 (n : Int) 1 = ((n % 2 : Nat) : Int) := by
  have := u64_and_nat n 1 h (by decide)
  rw [Nat.and_one_is_mod] at this
  exact this
theorem i64_xor_neg (x : Nat) (h : x < 9223372036854775808) : bits .xor .i64 (x : Int) (-1) = -(x : Int) - 1 := by
  show IntKind.i64.wrap ((BitVec.ofInt 64 (x : Int) ^^^ BitVec.ofInt 64 (-1)).toNat : Int) = _
  have e : BitVec.ofInt 64 (-1) = BitVec.allOnes 64 := by decide
  rw [e, BitVec.xor_allOnes, BitVec.toNat_not, BitVec.ofInt_natCast, BitVec.toNat_ofNat, IntKind.wrap_i64]
  omega
theorem i64_xor_zero (x : Nat) (h : x < 9223372036854775808) : bits .xor .i64 (x : Int) 0 = (x : Int) := by
  show IntKind.i64.wrap ((BitVec.ofInt 64 (x : Int) ^^^ BitVec.ofInt 64 0).toNat : Int) = _
  have e : BitVec.ofInt 64 0 = 0#64 := by decide
  rw [e, BitVec.xor_zero, BitVec.ofInt_natCast, BitVec.toNat_ofNat, IntKind.wrap_i64]
  omega
theorem u64_xor_ones (x : Nat) (h : x < 18446744073709551616) : bits .xor .u64 (x : Int) 18446744073709551615 = ((18446744073709551615 - x : Nat) : Int) := by
  show IntKind.u64.wrap ((BitVec.ofInt 64 (x : Int) ^^^ BitVec.ofInt 64 18446744073709551615).toNat : Int) = _
  have e : BitVec.ofInt 64 18446744073709551615 = BitVec.allOnes 64 := by decide
  rw [e, BitVec.xor_allOnes, BitVec.toNat_not, BitVec.ofInt_natCast, BitVec.toNat_ofNat, IntKind.wrap_u64]
  omega
theorem u64_xor_zero (x : Nat) (h : x < 18446744073709551616) : bits .xor .u64 (x : Int) 0 = (x : Int) := by
  show IntKind.u64.wrap ((BitVec.ofInt 64 (x : Int) ^^^ BitVec.ofInt 64 0).toNat : Int) = _
  have e : BitVec.ofInt 64 0 = 0#64 := by decide
  rw [e, BitVec.xor_zero, BitVec.ofInt_natCast, BitVec.toNat_ofNat, IntKind.wrap_u64]
  omega
theorem if_min (x y : Int) : (if y < x then y else x) = min x y := by omega
theorem if_max (x y : Int) : (if y > x then y else x) = max x y := by omega
@[go_sem high] theorem run_min_ints4 {P : Program} (w : World) (ts : Array TypeId) (t : TypeId) (k1 k2 k3 k4 : IntKind) (x y z u : Int) :
    (Builtin.min_ ts t #[.int k1 x, .int k2 y, .int k3 z, .int k4 u]).run P w = .ok (.int k1 (min (min (min x y) z) u)) w := by
  simp [Builtin.min_, Builtin.min2, if_min]
@[go_sem high] theorem run_min_ints3 {P : Program} (w : World) (ts : Array TypeId) (t : TypeId) (k1 k2 k3 : IntKind) (x y z : Int) :
    (Builtin.min_ ts t #[.int k1 x, .int k2 y, .int k3 z]).run P w = .ok (.int k1 (min (min x y) z)) w := by
  simp [Builtin.min_, Builtin.min2, if_min]
/-- the cells that a slice's address begins -/
def Row (w : World) (ad : Option Addr) (vs : List Value) : Prop :=
  ∀ i u, vs[i]? = some u → ∃ b off, ad = some ⟨b, off, none⟩ ∧ w.cell? ⟨b, off + i, none⟩ = some u
/-- a slice of bytes that reads as l -/
def Bytes (w : World) (ad : Option Addr) (l : List UInt8) : Prop :=
  ∀ i (h : i < l.length), ∃ b off, ad = some ⟨b, off, none⟩ ∧ w.cell? ⟨b, off + i, none⟩ = some (.int .u8 (l[i].toNat : Int))

end Go.Proofs.Ytnafhjgfkofkbaa
/- Memory that a call makes itself: slices that own the head of a row, whatever mark the row bears; what append, make, a store and a conversion do to them. No program is in sight here. -/
namespace Go.Proofs.Ytnafhjgfkofkbaa
set_option linter.unusedVariables false
set_option linter.unusedSimpArgs false
open Go.RowKit

/-- old blocks are as they were -/
def Gr (w w' : World) : Prop := Below w.heap.size w w'
theorem Gr.refl (w : World) : Gr w w := Below.refl _ _
theorem Gr.size {w w' : World} (h : Gr w w') : w.heap.size ≤ w'.heap.size := Below.size h
theorem Gr.trans {a b c : World} (h : Gr a b) (k : Gr b c) : Gr a c := Below.trans h (Below.mono k h.size)
theorem Gr.below {B : Nat} {a b c : World} (h : Below B a b) (k : Gr b c) (hB : B ≤ b.heap.size) : Below B a c := Below.trans h (Below.mono k hB)
theorem Gr.alloc (w : World) (o : Obj) : Gr w (w.alloc o) := (Below.refl _ _).alloc (Nat.le_refl _) o
theorem Gr.drew (w : World) : Gr w w.drew := (Below.refl _ _).drew
theorem Gr.drewN (w : World) (n : Nat) : Gr w (w.drewN n) := ⟨rfl, rfl, rfl, Nat.le_refl _, fun _ _ => rfl⟩
theorem Gr.setCell {a w : World} (h : Gr a w) {p : Addr} (hp : a.heap.size ≤ p.block) (u : Value) : Gr a (w.setCell p u) := Below.setCell h hp u
theorem Gr.cell {w w' : World} (h : Gr w w') {p : Addr} {v : Value} (hp : w.cell? p = some v) : w'.cell? p = some v :=
  (Below.cell h (World.block_lt_of_cell? w p hp)).trans hp
theorem Gr.grown {a w w' : World} {row : Option Nat} (h : Gr a w) (hg : w.grownBy w' row) (hr : ∀ k, row = some k → a.heap.size ≤ k) : Gr a w' :=
  Below.grown h hg h.size hr
theorem Gr.heap {w w' : World} (h : Gr w w') {k : Nat} {o : Obj} (hk : w.heap[k]? = some o) : w'.heap[k]? = some o :=
  (h.block k (Array.getElem?_eq_some_iff.1 hk).1).trans hk

theorem Row.nil (w : World) (ad : Option Addr) : Row w ad [] := fun i u h => by simp at h
theorem Row.gr {w w' : World} {ad : Option Addr} {vs : List Value} (h : Row w ad vs) (g : Gr w w') : Row w' ad vs := fun i u hi => by
  obtain ⟨b, off, e, hc⟩ := h i u hi
  exact ⟨b, off, e, g.cell hc⟩
theorem Bytes.gr {w w' : World} {ad : Option Addr} {l : List UInt8} (h : Bytes w ad l) (g : Gr w w') : Bytes w' ad l := fun i hi => by
  obtain ⟨b, off, e, hc⟩ := h i hi
  exact ⟨b, off, e, g.cell hc⟩
/-- bytes as Go's values -/
def bv (l : List UInt8) : List Value := l.map fun x => .int .u8 (x.toNat : Int)
theorem bv_length (l : List UInt8) : (bv l).length = l.length := by simp [bv]
theorem bv_append (l m : List UInt8) : bv (l ++ m) = bv l ++ bv m := by simp [bv]
theorem bv_get (l : List UInt8) (i : Nat) (h : i < l.length) : (bv l)[i]? = some (.int .u8 (l[i].toNat : Int)) := by simp [bv, h]
theorem Bytes.row {w : World} {ad : Option Addr} {l : List UInt8} (h : Bytes w ad l) : Row w ad (bv l) := fun i u hi => by
  have hl : i < l.length := by rw [← bv_length l]; exact (List.getElem?_eq_some_iff.1 hi).1
  rw [bv_get l i hl] at hi
  obtain ⟨b, off, e, hc⟩ := h i hl
  exact ⟨b, off, e, hc.trans hi⟩
theorem Row.bytes {w : World} {ad : Option Addr} {l : List UInt8} (h : Row w ad (bv l)) : Bytes w ad l := fun i hi =>
  h i _ (bv_get l i hi)

/-- the slice (ad, n, cap) owns the head of a row among the blocks from 'base' on: n elements of 'size' cells, which are xs -/
def Owns (w : World) (base : Nat) (e : TypeId) (size : Nat) (ad : Option Addr) (cap n : Nat) (xs : List Value) : Prop :=
  xs.length = n * size ∧ n ≤ cap ∧ cap ≤ maxLen ∧
  ((ad = none ∧ n = 0 ∧ cap = 0) ∨
   ∃ g cur fr, ad = some ⟨g, 0, none⟩ ∧ base ≤ g ∧ w.heap[g]? = some (.cells cur e fr) ∧ cur.size ≤ fr.1 + (if fr = (0, 0) then cur.size else 0) ∧ cur.size = cap * size ∧ cur.toList.take (n * size) = xs)

theorem Owns.empty (w : World) (base : Nat) (e : TypeId) (size : Nat) : Owns w base e size none 0 0 [] := ⟨by simp, Nat.le_refl _, Nat.zero_le _, .inl ⟨rfl, rfl, rfl⟩⟩
theorem Owns.base {w : World} {base base' : Nat} {e : TypeId} {size : Nat} {ad : Option Addr} {cap n : Nat} {xs : List Value} (h : Owns w base e size ad cap n xs) (hb : base' ≤ base) : Owns w base' e size ad cap n xs := by
  obtain ⟨h1, h2, h3, h4 | ⟨g, cur, fr, e1, e2, rest⟩⟩ := h
  · exact ⟨h1, h2, h3, .inl h4⟩
  · exact ⟨h1, h2, h3, .inr ⟨g, cur, fr, e1, by omega, rest⟩⟩
theorem Owns.lt {w : World} {base : Nat} {e : TypeId} {size : Nat} {ad : Option Addr} {cap n : Nat} {xs : List Value} (h : Owns w base e size ad cap n xs) :
    ∀ a, ad = some a → base ≤ a.block ∧ a.block < w.heap.size := by
  intro a ha
  obtain ⟨_, _, _, ⟨e1, _⟩ | ⟨g, cur, fr, e1, e2, hg, _⟩⟩ := h
  · rw [e1] at ha; cases ha
  · rw [e1] at ha
    cases ha
    exact ⟨e2, (Array.getElem?_eq_some_iff.1 hg).1⟩
theorem Owns.kept {w w' : World} {base : Nat} {e : TypeId} {size : Nat} {ad : Option Addr} {cap n : Nat} {xs : List Value} (h : Owns w base e size ad cap n xs)
    (hk : ∀ g, ad = some ⟨g, 0, .none⟩ → w'.heap[g]? = w.heap[g]?) : Owns w' base e size ad cap n xs := by
  obtain ⟨h1, h2, h3, h4 | ⟨g, cur, fr, e1, e2, hg, rest⟩⟩ := h
  · exact ⟨h1, h2, h3, .inl h4⟩
  · exact ⟨h1, h2, h3, .inr ⟨g, cur, fr, e1, e2, (hk g e1).trans hg, rest⟩⟩
theorem Owns.gr {w w' : World} {base : Nat} {e : TypeId} {size : Nat} {ad : Option Addr} {cap n : Nat} {xs : List Value} (h : Owns w base e size ad cap n xs) (g : Gr w w') : Owns w' base e size ad cap n xs :=
  h.kept fun k hk => g.block k (h.lt _ hk).2
theorem Owns.grown {w w' : World} {base : Nat} {e : TypeId} {size : Nat} {ad : Option Addr} {cap n : Nat} {xs : List Value} {row : Option Nat} (h : Owns w base e size ad cap n xs) (g : w.grownBy w' row)
    (hne : ∀ a, ad = some a → some a.block ≠ row) : Owns w' base e size ad cap n xs :=
  h.kept fun k hk => g.block k (h.lt _ hk).2 (hne _ hk)
theorem Owns.row {w : World} {base : Nat} {e : TypeId} {size : Nat} {ad : Option Addr} {cap n : Nat} {xs : List Value} (h : Owns w base e size ad cap n xs) : Row w ad xs := by
  obtain ⟨h1, h2, h3, ⟨e1, e2, e3⟩ | ⟨g, cur, fr, e1, e2, hg, hfr, hs, ht⟩⟩ := h
  · subst e2
    have : xs = [] := List.eq_nil_of_length_eq_zero (by simpa using h1)
    subst this
    exact Row.nil _ _
  · intro i u hi
    refine ⟨g, 0, e1, ?_⟩
    rw [Nat.zero_add, cell_of_row w g i cur e fr hg]
    rw [← ht, List.getElem?_take] at hi
    split at hi
    · simpa using hi
    · cases hi
theorem Owns.nil_of {w : World} {base : Nat} {e : TypeId} {size : Nat} {cap n : Nat} {xs : List Value} (h : Owns w base e size .none cap n xs) : n = 0 ∧ cap = 0 ∧ xs = [] := by
  obtain ⟨h1, h2, h3, ⟨e1, e2, e3⟩ | ⟨g, cur, fr, e1, _⟩⟩ := h
  · subst e2; exact ⟨rfl, e3, List.eq_nil_of_length_eq_zero (by simpa using h1)⟩
  · cases e1

/-- no cell of the row is frozen -/
theorem free_of {fr : Nat × Nat} {s : Nat} (h : s ≤ fr.1 + (if fr = (0, 0) then s else 0)) (i : Nat) (hi : i < s) : (decide (fr.1 ≤ i) && decide (i < fr.2)) = false := by
  by_cases h0 : fr = (0, 0)
  · subst h0; simp
  · rw [if_neg h0] at h
    have : ¬ fr.1 ≤ i := by omega
    simp [this]
theorem frozen_of {w : World} {g : Nat} {cur : Array Value} {e : TypeId} {fr : Nat × Nat} (hg : w.heap[g]? = some (.cells cur e fr)) (hfr : cur.size ≤ fr.1 + (if fr = (0, 0) then cur.size else 0)) (i : Nat) (hi : i < cur.size) :
    w.frozen? ⟨g, i, none⟩ = false := by
  obtain ⟨f1, f2⟩ := fr
  simp only [World.frozen?, hg]
  exact free_of (fr := (f1, f2)) hfr i hi

theorem run_storeCells_un {P : Program} (g o : Nat) (t : TypeId) (fr : Nat × Nat) : ∀ (vs : List Value) (i : Nat) (cur : Array Value) (w : World), w.heap[g]? = some (.cells cur t fr) →
    cur.size ≤ fr.1 + (if fr = (0, 0) then cur.size else 0) → o + i + vs.length ≤ cur.size → (∀ v ∈ vs, v.oneCell' = true) →
    (storeCells ⟨g, o, none⟩ vs i).run P w = .ok () (w.setRow g (cur.toList.take (o + i) ++ vs ++ cur.toList.drop (o + i + vs.length)).toArray)
  | [], i, cur, w, hg, _, _, _ => by
    simp only [storeCells, List.append_nil, List.length_nil, Nat.add_zero, List.take_append_drop, Array.toArray_toList]
    rw [setRow_self w g cur t fr hg]
    rfl
  | v :: rest, i, cur, w, hg, hfr, hl, h1 => by
    have hi : o + i < cur.size := by simp at hl; omega
    have hadd : (⟨g, o, none⟩ : Addr).add i = ⟨g, o + i, none⟩ := by unfold Addr.add; split <;> simp_all
    have hcell : w.cell? ⟨g, o + i, none⟩ = some cur[o + i] := by simp [World.cell?, hg, hi]
    have hfro : w.frozen? ⟨g, o + i, none⟩ = false := frozen_of hg hfr _ hi
    have hst : (store ((⟨g, o, none⟩ : Addr).add i) v).run P w = .ok () (w.setRow g (cur.setIfInBounds (o + i) v)) := by
      rw [hadd, run_store P w _ v _ (h1 v (by simp)), hcell]
      simp [hfro, setCell_eq_setRow w g (o + i) cur t fr v hg]
    have ih := run_storeCells_un (P := P) g o t fr rest (i + 1) (cur.setIfInBounds (o + i) v) (w.setRow g (cur.setIfInBounds (o + i) v)) (setRow_heap w g cur _ t _ hg) (by simpa using hfr) (by simp at hl ⊢; omega) (fun x hx => h1 x (by simp [hx]))
    simp only [storeCells, Sem.run_bind, hst, Result.andThen_ok, ih, setRow_setRow]
    congr 3
    have e := list_seg_step cur.toList (o + i) v rest (by simp at hl ⊢; omega)
    simpa [Array.toList_setIfInBounds, Nat.add_assoc] using e

/-- what is known of a slice type and its elements -/
structure Elem (P : Program) (t e : TypeId) (z : Value) (size bytes : Nat) : Prop where
  ty : P.underlying t = some (.slice e)
  info : (P.info? e).map (fun i => (i.zero, i.size, i.bytes)) = some (some z, size, bytes)
  zs : z.cells.size = size
  pos : 0 < size

/-- what is appended, or copied: m elements, whose cells are news -/
def Src (P : Program) (u : TypeId) (w : World) (size : Nat) (x : Value) (m : Nat) (news : List Value) : Prop :=
  news.length = m * size ∧ (∀ v ∈ news, v.oneCell' = true) ∧
  ((∃ ad c e, x = .slice ad m c ∧ Row w ad news ∧ P.underlying u = some (.slice e)) ∨
   (∃ s : ByteArray, x = .string s ∧ m = s.size ∧ size = 1 ∧ news = bv s.data.toList ∧ P.underlying u = some .string))

theorem Src.gr {P : Program} {u : TypeId} {w w' : World} {size : Nat} {x : Value} {m : Nat} {news : List Value} (h : Src P u w size x m news) (g : Gr w w') : Src P u w' size x m news := by
  obtain ⟨h1, h2, ⟨ad, c, e, h3, h4, h5⟩ | h3⟩ := h
  · exact ⟨h1, h2, .inl ⟨ad, c, e, h3, h4.gr g, h5⟩⟩
  · exact ⟨h1, h2, .inr h3⟩
theorem bv_one (l : List UInt8) : ∀ v ∈ bv l, v.oneCell' = true := by
  intro v hv
  simp only [bv, List.mem_map] at hv
  obtain ⟨x, _, rfl⟩ := hv
  rfl
theorem Src.bytes {P : Program} {u e : TypeId} {w : World} {ad : Option Addr} {len c : Nat} {l : List UInt8} (h : Bytes w ad l) (hl : l.length = len) (hu : P.underlying u = some (.slice e)) : Src P u w 1 (.slice ad len c) len (bv l) :=
  ⟨by rw [bv_length]; omega, bv_one l, .inl ⟨ad, c, e, rfl, h.row, hu⟩⟩
theorem Src.str {P : Program} {u : TypeId} {w : World} (s : ByteArray) (hu : P.underlying u = some .string) : Src P u w 1 (.string s) s.size (bv s.data.toList) :=
  ⟨by rw [bv_length]; simp, bv_one _, .inr ⟨s, rfl, rfl, rfl, rfl, hu⟩⟩
theorem Src.own {P : Program} {u e e' : TypeId} {w : World} {base size : Nat} {ad : Option Addr} {cap n : Nat} {xs : List Value} (h : Owns w base e size ad cap n xs) (h1 : ∀ v ∈ xs, v.oneCell' = true) (hu : P.underlying u = some (.slice e')) : Src P u w size (.slice ad n cap) n xs :=
  ⟨h.1, h1, .inl ⟨ad, cap, e', rfl, h.row, hu⟩⟩

theorem Src.lenOf {P : Program} {u : TypeId} {w : World} {size : Nat} {x : Value} {m : Nat} {news : List Value} (h : Src P u w size x m news) (w' : World) : (Builtin.lenOf x).run P w' = .ok m w' := by
  obtain ⟨_, _, ⟨ad, c, e, rfl, _, _⟩ | ⟨s, rfl, rfl, _, _, _⟩⟩ := h
  · simp [Builtin.lenOf]
  · simp [Builtin.lenOf]
theorem Src.first {P : Program} {u : TypeId} {w : World} {size : Nat} {x : Value} {m : Nat} {news : List Value} (h : Src P u w size x m news) : (Builtin.firstCells size m x).run P w = .ok news.toArray w := by
  obtain ⟨h1, h2, ⟨ad, c, e, rfl, h4, _⟩ | ⟨s, rfl, rfl, h5, rfl, _⟩⟩ := h
  · cases ad with
    | none =>
      have : news = [] := by
        cases news with
        | nil => rfl
        | cons v r => obtain ⟨b, off, hh, _⟩ := h4 0 v rfl; cases hh
      subst this
      simp [Builtin.firstCells]
    | some a =>
      refine run_firstCells_some (P := P) w size m a m c news h1 ?_
      intro j v hj
      obtain ⟨b, off, hh, hc⟩ := h4 j v hj
      cases hh
      have hadd : (⟨b, off, none⟩ : Addr).add j = ⟨b, off + j, none⟩ := by unfold Addr.add; split <;> simp_all
      rw [hadd]; exact hc
  · have hx : (s.extract 0 s.size) = s := by simp
    simp [Builtin.firstCells, hx, bv]
    apply Array.ext'
    simp

theorem toList_take_append (cur : List Value) (k : Nat) (news : List Value) (h : k + news.length ≤ cur.length) :
    (cur.take k ++ news ++ cur.drop (k + news.length)).take (k + news.length) = cur.take k ++ news := by
  have : (cur.take k ++ news).length = k + news.length := by simp; omega
  rw [← this]; exact List.take_left

/-- WHAT append DOES to a slice that the call owns -/
theorem run_append {P : Program} {t u ty e : TypeId} {z : Value} {size bytes : Nat} (E : Elem P t e z size bytes) {w : World} {base : Nat} {ad : Option Addr} {cap n : Nat} {xs : List Value}
    (hown : Owns w base e size ad cap n xs) {x : Value} {m : Nat} {news : List Value} (hx : Src P u w size x m news)
    (h63 : n + m ≤ maxLen) (hbytes : (n + m) * bytes ≤ 140737488355328) (hbase : base ≤ w.heap.size) :
    ∃ ad' cap' w', (Builtin.append_ #[t, u] ty #[.slice ad n cap, x]).run P w = .ok (.slice ad' (n + m) cap') w' ∧ Owns w' base e size ad' cap' (n + m) (xs ++ news) ∧
      w.grownBy w' (ad.map (·.block)) ∧ (∀ a, ad' = some a → ad = some a ∨ w.heap.size ≤ a.block) := by
  obtain ⟨ht, hinfo, hzs, hpos⟩ := E
  obtain ⟨i, hi, hz, hsize, hby⟩ := info_parts hinfo
  subst hsize
  subst hby
  obtain ⟨d, hd, hdd⟩ : ∃ d, P.underlying u = some d ∧ (d = .string ∨ ∃ e', d = .slice e') := by
    obtain ⟨_, _, ⟨_, _, e', _, _, hu⟩ | ⟨_, _, _, _, _, hu⟩⟩ := hx
    · exact ⟨_, hu, .inr ⟨e', rfl⟩⟩
    · exact ⟨_, hu, .inl rfl⟩
  have hlen := hx.lenOf (P := P) w
  have hfirst := hx.first
  have hxl := hx.1
  have h1 := hx.2.1
  obtain ⟨hl, hnc, hcm, hcase⟩ := hown
  by_cases hroom : n + m ≤ cap
  · rcases hcase with ⟨rfl, rfl, rfl⟩ | ⟨g, cur, fr, rfl, hbg, hg, hfr, hcs, htake⟩
    · have hm : m = 0 := by omega
      subst hm
      have hn : news = [] := List.eq_nil_of_length_eq_zero (by simpa using hxl)
      have hxs : xs = [] := List.eq_nil_of_length_eq_zero (by simpa using hl)
      subst hn; subst hxs
      refine ⟨none, 0, w, ?_, Owns.empty _ _ _ _, ⟨rfl, rfl, rfl, Nat.le_refl _, fun _ _ _ => rfl⟩, fun a h => by cases h⟩
      rcases hdd with rfl | ⟨e', rfl⟩ <;> simp [Builtin.append_, run_underlying ht, run_underlying hd, sizeOf, typeInfo, hi, hlen, hfirst]
    · have hfit : n * i.size + 0 + news.length ≤ cur.size := by rw [hxl, hcs, Nat.add_zero, ← Nat.add_mul]; exact Nat.mul_le_mul_right _ hroom
      have hst := run_storeCells_un (P := P) g (n * i.size) e fr news 0 cur w hg hfr hfit h1
      simp only [Nat.add_zero] at hst hfit
      refine ⟨some ⟨g, 0, .none⟩, cap, w.setRow g (cur.toList.take (n * i.size) ++ news ++ cur.toList.drop (n * i.size + news.length)).toArray, ?_, ⟨by rw [List.length_append, hl, hxl, Nat.add_mul], hroom, hcm, .inr ⟨g, (cur.toList.take (n * i.size) ++ news ++ cur.toList.drop (n * i.size + news.length)).toArray, fr, rfl, hbg, setRow_heap w g cur _ e fr hg, ?_, ?_, ?_⟩⟩, ⟨rfl, rfl, rfl, by simp, fun k _ hk => setRow_other w g k _ (fun e => hk (by simp [e]))⟩, fun a h => .inl h⟩
      · rcases hdd with rfl | ⟨e', rfl⟩ <;> simp [Builtin.append_, run_underlying ht, run_underlying hd, sizeOf, typeInfo, hi, hlen, hroom, hfirst, Addr.add_lit, hst]
      · have : (cur.toList.take (n * i.size) ++ news ++ cur.toList.drop (n * i.size + news.length)).toArray.size = cur.size := by simp; omega
        rw [this]; exact hfr
      · simp only [List.size_toArray, List.length_append, List.length_take, List.length_drop, Array.length_toList]; omega
      · rw [Nat.add_mul, ← hxl, toList_take_append _ _ _ (by simpa using hfit), htake]
  · have hold : (Builtin.firstCells i.size n (.slice ad n cap)).run P w.drew = .ok xs.toArray w.drew := by
      cases ad with
      | none =>
        have : xs = [] := (Owns.nil_of (w := w) (base := base) (e := e) (size := i.size) (cap := cap) (n := n) ⟨hl, hnc, hcm, hcase⟩).2.2
        subst this
        simp [Builtin.firstCells]
      | some a =>
        have hrow : Row w (some a) xs := Owns.row (base := base) (e := e) (size := i.size) (cap := cap) (n := n) ⟨hl, hnc, hcm, hcase⟩
        refine run_firstCells_some (P := P) w.drew i.size n a n cap xs hl ?_
        intro j v hj
        obtain ⟨b, off, hh, hc⟩ := hrow j v hj
        cases hh
        have hadd : (⟨b, off, none⟩ : Addr).add j = ⟨b, off + j, none⟩ := by unfold Addr.add; split <;> simp_all
        rw [hadd]; exact hc
    have hfirst' := (hx.gr (Gr.drew w)).first
    have hnr : ¬ (n + m ≤ cap) := hroom
    have h63' : ¬ (9223372036854775807 < ((n : Int) + (m : Int))) := by unfold maxLen at h63; omega
    have hfit := growslice_fits (need := n + m) (old := cap) (bytes := i.bytes) (by omega) hbytes
    have h48' : ¬ (281474976710656 < Builtin.nextslicecap (n + m) cap * i.bytes) := by omega
    have hge := grownCap_ge w (n + m) cap e
    refine ⟨some ⟨w.heap.size, 0, .none⟩, grownCap w (n + m) cap e, w.drew.alloc (.cells (xs.toArray ++ news.toArray ++ Builtin.zeroCells z.cells (grownCap w (n + m) cap e - (n + m))) e), ?_,
      ⟨by rw [List.length_append, hl, hxl, Nat.add_mul], hge, grownCap_le_maxLen w (n + m) cap e h63, .inr ⟨w.heap.size, _, (0, 0), rfl, hbase, heap_alloc_new w.drew _, by simp, ?_, ?_⟩⟩, ⟨rfl, rfl, rfl, by simp, fun k hk _ => Below.heap_alloc w.drew _ k hk⟩, fun a h => by cases h; exact .inr (Nat.le_refl _)⟩
    · rcases hdd with rfl | ⟨e', rfl⟩ <;> simp [Builtin.append_, run_underlying ht, run_underlying hd, sizeOf, typeInfo, zeroValue, hi, hz, hlen, hnr, h63', h48', Question.forced, hfirst', hold, newRow, grownCap]
      all_goals (congr 2; apply Array.ext'; simp [List.append_assoc])
    · simp only [Array.size_append, List.size_toArray, size_zeroCells, hzs, hl, hxl, ← Nat.add_mul]
      congr 1
      omega
    · simp only [Array.toList_append]
      have : (xs ++ news).length = (n + m) * i.size := by rw [List.length_append, hl, hxl, Nat.add_mul]
      rw [← this]; exact List.take_left

theorem wp_append {P : Program} {t u e : TypeId} {z : Value} {size bytes : Nat} (E : Elem P t e z size bytes) {w : World} {ops : Array Oper} {rest : List Oper} {o : Oper} {a : Act} {Q : Exit → Act → World → Prop} (hgd : o.guard = none) (s x : Operand)
    (ho : o.op = .call { callee := .builtin .append, args := #[s, x], argTypes := #[t, u] })
    {base : Nat} {ad : Option Addr} {cap n : Nat} {xs : List Value} (hs : a.eval s = .slice ad n cap) (hown : Owns w base e size ad cap n xs)
    {xv : Value} {m : Nat} {news : List Value} (hxv : a.eval x = xv) (hx : Src P u w size xv m news)
    (h63 : n + m ≤ maxLen) (hbytes : (n + m) * bytes ≤ 140737488355328) (hbase : base ≤ w.heap.size)
    (h : ∀ ad' cap' w', Owns w' base e size ad' cap' (n + m) (xs ++ news) → w.grownBy w' (ad.map (·.block)) → (∀ a, ad' = some a → ad = some a ∨ w.heap.size ≤ a.block) → wpList P ops Q rest (a.put o.dst (.slice ad' (n + m) cap')) w') :
    wpList P ops Q (o :: rest) a w := by
  refine wpList_plain hgd fun K hK => ?_
  obtain ⟨ad', cap', w', hr, h2, h3, h4⟩ := run_append (u := u) (ty := o.type) E hown hx h63 hbytes hbase
  unfold Oper.wp execOp
  simp only [ho, resolve, invoke, builtin, Sem.run_bind, Sem.run_pure, Result.andThen_ok, List.map_toArray, List.map_cons, List.map_nil, hs, hxv, hr]
  exact hK _ _ (h ad' cap' w' h2 h3 h4)

theorem Row.alloc (w : World) (C : Array Value) (e : TypeId) (fr : Nat × Nat) (vs : List Value) (h : C.toList = vs) : Row (w.alloc (.cells C e fr)) (some ⟨w.heap.size, 0, none⟩) vs := by
  intro i u hi
  refine ⟨w.heap.size, 0, rfl, ?_⟩
  rw [Nat.zero_add, cell_of_row _ w.heap.size i C e fr (heap_alloc_new w _)]
  rw [← h] at hi
  simpa using hi
theorem Bytes.alloc (w : World) (C : Array Value) (e : TypeId) (fr : Nat × Nat) (l : List UInt8) (h : C.toList = bv l) : Bytes (w.alloc (.cells C e fr)) (some ⟨w.heap.size, 0, none⟩) l :=
  (Row.alloc w C e fr _ h).bytes
theorem Owns.made (w : World) (base : Nat) (C : Array Value) (e : TypeId) (fr : Nat × Nat) (size n cap : Nat) (xs : List Value) (hb : base ≤ w.heap.size) (hm : cap ≤ maxLen) (hn : n ≤ cap)
    (hs : C.size = cap * size) (hfr : C.size ≤ fr.1 + (if fr = (0, 0) then C.size else 0)) (hx : C.toList.take (n * size) = xs) : Owns (w.alloc (.cells C e fr)) base e size (some ⟨w.heap.size, 0, none⟩) cap n xs := by
  refine ⟨?_, hn, hm, .inr ⟨w.heap.size, C, fr, rfl, hb, heap_alloc_new w _, hfr, hs, hx⟩⟩
  rw [← hx, List.length_take, Array.length_toList, hs]
  exact Nat.min_eq_left (Nat.mul_le_mul_right _ hn)

/-- a region that draws its order, whose operations read, or call what only makes memory: one walk, in the order of the text -/
theorem region_gr {P : Program} {id : Nat} {Q : Exit → Act → World → Prop} {a : Act} {w : World} {l : List Oper} (hm : P.follows .mixedOrders = true) (hB : Region.lexB .any l.toArray = true)
    (h : wpQuiet P l.toArray (Gr w) (fun a' => ∀ w', Gr w w' → Q .normal a' w') l a) : (Code.region id l.toArray true).wp P Q a w :=
  wp_region_quiet (C := Gr w) hm hB (Gr.drew w) (by simpa using h)
/-- a class of worlds is not empty: what does not speak of the world holds -/
@[go_sem] theorem gr_const (w : World) (p : Prop) : (∀ w', Gr w w' → p) ↔ p := ⟨fun h => h w (Gr.refl w), fun h _ _ => h⟩
/-- a contract, met in a world of the class -/
theorem Calls.gr_of {P : Program} {f : FuncId} {args : Array Value} {w w1 : World} {v : Value} {R : Ending → World → Prop} (hg : Gr w w1) (h : Calls P f args w1 R) (hr : ∀ e w2, R e w2 → e = .returned v ∧ Gr w1 w2) :
    Calls P f args w1 fun e w2 => e = .returned v ∧ Gr w w2 :=
  h.mono fun e w2 hR => ⟨(hr e w2 hR).1, hg.trans (hr e w2 hR).2⟩
theorem same_gr {e : Ending} {v : Value} {w w2 : World} (h : e = .returned v ∧ w = w2) : e = .returned v ∧ Gr w w2 := ⟨h.1, h.2 ▸ Gr.refl w⟩
/-- a slice of bytes, as a string -/
def str (l : List UInt8) : ByteArray := ⟨l.toArray⟩
theorem str_list (l : List UInt8) : (str l).data.toList = l := by simp [str]
theorem str_size (l : List UInt8) : (str l).size = l.length := by simp [str, ByteArray.size]
theorem str_append (a b : List UInt8) : str a ++ str b = str (a ++ b) := by
  apply ByteArray.ext
  simp [str]
@[go_sem] theorem str_toList (l : List UInt8) : (str l).toList = l := by rw [Go.ByteArray.toList_eq, str_list]
theorem str_inj {a b : List UInt8} (h : str a = str b) : a = b := by
  have := congrArg (fun t => t.data.toList) h
  simpa [str] using this
theorem run_string {P : Program} {w : World} {src dst e : TypeId} (hs : P.underlying src = some (.slice e)) (he : P.underlying e = some (.int .u8)) (hd : P.underlying dst = some .string)
    {ad : Option Addr} {len cap : Nat} {l : List UInt8} (hl : l.length = len) (hb : Bytes w ad l) : (convert src dst (.slice ad len cap)).run P w = .ok (.string (str l)) w := by
  subst hl
  cases ad with
  | none =>
    have : l = [] := by
      cases l with
      | nil => rfl
      | cons x r => obtain ⟨b, off, hh, _⟩ := hb 0 (by simp); cases hh
    subst this
    rw [run_convert_bytes_string w src dst e .none _ cap hs he hd]
    rfl
  | some a =>
    refine run_convert_bytes_back w src dst e a cap l hs he hd ?_
    intro j hj
    obtain ⟨b, off, hh, hc⟩ := hb j hj
    cases hh
    have hadd : (⟨b, off, none⟩ : Addr).add j = ⟨b, off + j, none⟩ := by unfold Addr.add; split <;> simp_all
    rw [hadd]; exact hc

/-- make([]T, n, m), elements of one cell -/
theorem wp_make {P : Program} {t e : TypeId} {z : Value} {bytes : Nat} (E : Elem P t e z 1 bytes) (hz1 : z.cells = #[z]) {w : World} {ops : Array Oper} {rest : List Oper} {o : Oper} {a : Act} {Q : Exit → Act → World → Prop} (hgd : o.guard = none) (l c : Operand)
    (ho : o.op = .makeSlice t l c) {kl kc : IntKind} {L C : Int} (n m : Nat) (hl : a.eval l = .int kl L) (hc : a.eval c = .int kc C) (hL : L = (n : Int)) (hC : C = (m : Int)) (hnm : n ≤ m) (h63 : m ≤ maxLen) (hbytes : bytes * m ≤ 281474976710656)
    (h : ∀ w', Owns w' w.heap.size e 1 (some ⟨w.heap.size, 0, none⟩) m n (List.replicate n z) → Gr w w' → w'.heap.size = w.heap.size + 1 → wpList P ops Q rest (a.put o.dst (.slice (some ⟨w.heap.size, 0, none⟩) n m)) w') :
    wpList P ops Q (o :: rest) a w := by
  refine wpList_plain hgd fun K hK => ?_
  obtain ⟨ht, hinfo, hzs, hpos⟩ := E
  obtain ⟨i, hi, hz, hsize, hby⟩ := info_parts hinfo
  subst hL
  subst hC
  have h63' : (m : Int) ≤ 9223372036854775807 := by simp [maxLen] at h63; omega
  have hb' : (i.bytes : Int) * (m : Int) ≤ 281474976710656 := by
    have h : ((i.bytes * m : Nat) : Int) ≤ 281474976710656 := by rw [hby]; omega
    rwa [Int.natCast_mul] at h
  have hr := run_make (P := P) w t e i z ht hi hz kl kc n m (by omega) (by omega) hb' h63'
  simp only [Int.toNat_natCast] at hr
  unfold Oper.wp
  simp only [execOp, ho, hl, hc, Sem.run_bind, Sem.run_pure, hr, Result.andThen_ok]
  refine hK _ _ (h _ ?_ (Gr.alloc _ _) (by simp))
  refine Owns.made w _ _ e (0, 0) 1 n m _ (Nat.le_refl _) h63 hnm ?_ (by simp) ?_
  · rw [hsize, Nat.mul_one, hz1, ← Array.length_toList, toList_madeCells_one, List.length_replicate]
  · rw [hsize, Nat.mul_one, Nat.mul_one, hz1, toList_madeCells_one, List.take_replicate, Nat.min_eq_left hnm]
theorem bv_replicate (n : Nat) : List.replicate n (Value.int .u8 0) = bv (List.replicate n 0) := by simp [bv]
/-- a store into an owned row -/
theorem Owns.store {w : World} {base : Nat} {e : TypeId} {ad : Option Addr} {cap n : Nat} {xs : List Value} (h : Owns w base e 1 ad cap n xs) {g i : Nat} (had : ad = some ⟨g, 0, .none⟩) (hi : i < n) (u : Value) :
    Owns (w.setCell ⟨g, i, .none⟩ u) base e 1 ad cap n (xs.set i u) := by
  obtain ⟨h1, h2, h3, ⟨e1, _⟩ | ⟨g', cur, fr, e1, e2, hg, hfr, hs, ht⟩⟩ := h
  · rw [e1] at had; cases had
  · rw [e1] at had
    cases had
    rw [setCell_eq_setRow w g i cur e fr u hg]
    refine ⟨by simp [h1], h2, h3, .inr ⟨g, _, fr, e1, e2, setRow_heap w g cur _ e fr hg, by simpa using hfr, by simpa using hs, ?_⟩⟩
    rw [Array.toList_setIfInBounds, ← ht]
    apply List.ext_getElem?
    intro j
    simp only [List.getElem?_take, List.getElem?_set, List.length_take]
    by_cases h1 : j < n * 1
    · by_cases h2 : i = j
      · subst h2
        have h4 : i < min (n * 1) cur.toList.length := by rw [Nat.lt_min]; exact ⟨h1, by simp; omega⟩
        have h5 : i < cur.toList.length := by simp; omega
        simp only [h1, h4, h5, if_true]
      · simp only [h1, h2, if_true, if_false]
    · have h2 : ¬ i = j := by omega
      simp only [h1, h2, if_false]
theorem Owns.unfrozen {w : World} {base : Nat} {e : TypeId} {size : Nat} {ad : Option Addr} {cap n : Nat} {xs : List Value} (h : Owns w base e size ad cap n xs) {g i : Nat} (had : ad = some ⟨g, 0, .none⟩) (hi : i < n * size) : w.frozen? ⟨g, i, .none⟩ = false := by
  obtain ⟨h1, h2, h3, ⟨e1, _⟩ | ⟨g', cur, fr, e1, e2, hg, hfr, hs, ht⟩⟩ := h
  · rw [e1] at had; cases had
  · rw [e1] at had
    cases had
    exact frozen_of hg hfr i (by rw [hs]; exact Nat.lt_of_lt_of_le hi (Nat.mul_le_mul_right _ h2))
theorem Owns.at {w : World} {base : Nat} {e : TypeId} {size : Nat} {ad : Option Addr} {cap n : Nat} {xs : List Value} (h : Owns w base e size ad cap n xs) {i : Nat} {u : Value} (hi : xs[i]? = some u) :
    ∃ g, ad = some ⟨g, 0, .none⟩ ∧ base ≤ g ∧ w.cell? ⟨g, i, .none⟩ = some u := by
  obtain ⟨b, off, e1, hc⟩ := h.row i u hi
  obtain ⟨_, _, _, ⟨e2, _⟩ | ⟨g', cur, fr, e2, hb, _⟩⟩ := h
  · rw [e2] at e1; cases e1
  · rw [e2] at e1
    cases e1
    exact ⟨b, e2, hb, by rw [Nat.zero_add] at hc; exact hc⟩
theorem Owns.bytes {w : World} {base : Nat} {e : TypeId} {ad : Option Addr} {cap n : Nat} {l : List UInt8} (h : Owns w base e 1 ad cap n (bv l)) : Bytes w ad l := h.row.bytes
theorem Owns.len {w : World} {base : Nat} {e : TypeId} {ad : Option Addr} {cap n : Nat} {l : List UInt8} (h : Owns w base e 1 ad cap n (bv l)) : l.length = n := by
  have := h.1; rw [bv_length] at this; omega
theorem bv_set (l : List UInt8) (i : Nat) (x : UInt8) : (bv l).set i (.int .u8 (x.toNat : Int)) = bv (l.set i x) := by simp [bv, List.map_set]

theorem Bytes.take {w : World} {ad : Option Addr} {l : List UInt8} (h : Bytes w ad l) (n : Nat) : Bytes w ad (l.take n) := fun i hi => by
  have hl : i < l.length := by rw [List.length_take] at hi; omega
  obtain ⟨b, off, e, hc⟩ := h i hl
  exact ⟨b, off, e, by rw [hc, List.getElem_take]⟩
theorem Bytes.drop {w : World} {b off : Nat} {l : List UInt8} (h : Bytes w (some ⟨b, off, none⟩) l) (n : Nat) : Bytes w (some ⟨b, off + n, none⟩) (l.drop n) := fun i hi => by
  have hl : n + i < l.length := by rw [List.length_drop] at hi; omega
  obtain ⟨b', off', e, hc⟩ := h (n + i) hl
  cases e
  exact ⟨b, off + n, rfl, by rw [Nat.add_assoc, hc, List.getElem_drop]⟩

/-- what hands back bytes of its own -/
def RetB (e : TypeId) (w : World) (l : List UInt8) : Ending → World → Prop := fun x w' =>
  ∃ ad cap, x = .returned (.slice ad l.length cap) ∧ Owns w' w.heap.size e 1 ad cap l.length (bv l) ∧ Gr w w'

/-- one byte, laid in a block of its own -/
theorem Src.one {P : Program} {u e e' : TypeId} (w : World) (X : Int) (x : UInt8) (hX : X = (x.toNat : Int)) (hu : P.underlying u = some (.slice e')) :
    Src P u (w.alloc (.cells #[.int .u8 X] e)) 1 (.slice (some ⟨w.heap.size, 0, none⟩) 1 1) 1 (bv [x]) := by
  subst hX
  exact Src.bytes (Bytes.alloc w _ e (0, 0) [x] rfl) rfl hu
/-- what grew behind a new block, with writes to an owned row alone -/
theorem Gr.app {a w w' : World} {o : Obj} {ad : Option Addr} {base : Nat} {e : TypeId} {size cap n : Nat} {xs : List Value} (h : Gr a w) (ho : Owns w base e size ad cap n xs) (hb : a.heap.size ≤ base) (hg : (w.alloc o).grownBy w' (ad.map (·.block))) : Gr a w' :=
  (h.trans (Gr.alloc _ _)).grown hg (fun k hk => by
    cases ad with
    | none => cases hk
    | some x => cases hk; exact Nat.le_trans hb (ho.lt x rfl).1)

/-- a cut of a slice, as the walk writes it -/
theorem Bytes.cut {w : World} {ad : Option Addr} {l : List UInt8} (h : Bytes w ad l) (k n : Nat) (hk : k + n ≤ l.length) : Bytes w (Option.map (fun x => x.add k) ad) ((l.drop k).take n) := fun i hi => by
  have hl : k + i < l.length := by simp at hi; omega
  obtain ⟨b, off, e, hc⟩ := h (k + i) hl
  subst e
  have hadd : (⟨b, off, none⟩ : Addr).add k = ⟨b, off + k, none⟩ := by unfold Addr.add; split <;> simp_all
  refine ⟨b, off + k, by simp [hadd], ?_⟩
  rw [Nat.add_assoc, hc, List.getElem_take, List.getElem_drop]
theorem cut_len {l : List UInt8} {k n : Nat} (hk : k + n ≤ l.length) : ((l.drop k).take n).length = n := by simp; omega

/-- a cut of a string -/
theorem run_str_cut {P : Program} {T : TypeId} (hT : P.underlying T = some .string) (t : ByteArray) (k n : Nat) (h : k + n ≤ t.size) (w : World) :
    (Instr.slice T (.string t) (some (.int .i64 (k : Int))) (some (.int .i64 ((k : Int) + (n : Int)))) none).run P w = .ok (.string (t.extract k (k + n))) w := by
  rw [run_slice_string_if _ _ _ _ _ _ _ hT, if_pos ⟨by omega, by omega⟩, if_pos ⟨by omega, by omega⟩]
  congr 3 <;> omega

/-- a string, as bytes of its own -/
theorem bytes_str {P : Program} {src dst e : TypeId} (hs : P.underlying src = some .string) (hd : P.underlying dst = some (.slice e)) (he : P.underlying e = some (.int .u8)) (w : World) (l : List UInt8) (hl : l.length ≤ maxLen) :
    ∃ cap w', (convert src dst (.string (str l))).run P w = .ok (.slice (some ⟨w.heap.size, 0, none⟩) l.length cap) w' ∧ Owns w' w.heap.size e 1 (some ⟨w.heap.size, 0, none⟩) cap l.length (bv l) ∧ Gr w w' ∧ w'.heap.size = w.heap.size + 1 := by
  have h1 := run_bytes_of_string (P := P) w src dst e (str l) hs hd he
  rw [str_size] at h1
  have hge := grownCap_ge w l.length 0 e
  have hle := grownCap_le_maxLen w l.length 0 e hl
  have hsz : (bytesRow (str l) (grownCap w l.length 0 e)).size = grownCap w l.length 0 e := by
    have h2 : (str l).data.size = l.length := by simp [str]
    simp only [bytesRow, Array.size_append, Array.size_map, Array.size_replicate, h2, str_size]
    omega
  refine ⟨_, _, h1, ?_, ⟨rfl, rfl, rfl, by simp, fun k hk => Below.heap_alloc w.drew _ k hk⟩, by simp⟩
  refine ⟨by simp [bv], hge, hle, .inr ⟨w.heap.size, _, _, rfl, Nat.le_refl _, heap_alloc_new w.drew _, by simp, by rw [hsz, Nat.mul_one], ?_⟩⟩
  simp [bytesRow, str, bv]

end Go.Proofs.Ytnafhjgfkofkbaa
/- Blocks that are known whole. No program is in sight here. -/
namespace Go.Proofs.Ytnafhjgfkofkbaa
set_option linter.unusedVariables false
set_option linter.unusedSimpArgs false
open Go.RowKit
/-- block g is just these cells, none frozen -/
def Blk (w : World) (g : Nat) (t : TypeId) (cs : List Value) : Prop := w.heap[g]? = some (.cells cs.toArray t (0, 0))
section
variable {w w' : World} {g : Nat} {t : TypeId} {cs : List Value}
theorem Blk.lt (h : Blk w g t cs) : g < w.heap.size := (Array.getElem?_eq_some_iff.1 h).1
theorem Blk.cell (h : Blk w g t cs) {i : Nat} {v : Value} (hi : cs[i]? = some v) : w.cell? ⟨g, i, none⟩ = some v := by
  rw [cell_of_row w g i cs.toArray t (0, 0) h]; simpa using hi
theorem Blk.frozen (h : Blk w g t cs) (i : Nat) : w.frozen? ⟨g, i, none⟩ = false := by
  unfold Blk at h
  simp [World.frozen?, h]
theorem Blk.new (w : World) (t : TypeId) (cs : Array Value) : Blk (w.alloc (.cells cs t)) w.heap.size t cs.toList := by
  have := heap_alloc_new w (.cells cs t)
  simpa [Blk] using this
theorem Blk.gr (h : Blk w g t cs) (k : Gr w w') : Blk w' g t cs := k.heap h
theorem Blk.drew (h : Blk w g t cs) : Blk w.drew g t cs := h
theorem Blk.alloc (h : Blk w g t cs) (o : Obj) : Blk (w.alloc o) g t cs := h.gr (Gr.alloc w o)
theorem Blk.set_ (h : Blk w g t cs) (i : Nat) (u : Value) : Blk (w.setCell ⟨g, i, none⟩ u) g t (cs.set i u) := by
  unfold Blk at h ⊢
  simp [World.setCell, Array.getElem?_modify, h]
theorem Blk.far (h : Blk w g t cs) {p : Addr} (hp : g ≠ p.block) (u : Value) : Blk (w.setCell p u) g t cs := (Below.heap_setCell w p u g hp).trans h
theorem Blk.grown {row : Option Nat} (h : Blk w g t cs) (hb : w.grownBy w' row) (hg : some g ≠ row) : Blk w' g t cs := (hb.block g h.lt hg).trans h
theorem Blk.three {a b c : Value} (h : Blk w g t [a, b, c]) : w.cell? ⟨g, 0, none⟩ = some a ∧ w.cell? ⟨g, 1, none⟩ = some b ∧ w.cell? ⟨g, 2, none⟩ = some c ∧ w.frozen? ⟨g, 0, none⟩ = false ∧ w.frozen? ⟨g, 1, none⟩ = false ∧ w.frozen? ⟨g, 2, none⟩ = false :=
  ⟨h.cell rfl, h.cell rfl, h.cell rfl, h.frozen _, h.frozen _, h.frozen _⟩
theorem size_alloc1 (w : World) (o : Obj) : (w.alloc o).heap.size = w.heap.size + 1 := by simp
theorem Blk.of1 {cs : Array Value} (k : Gr (w.alloc (.cells cs t)) w') : Blk w' w.heap.size t cs.toList := (Blk.new w t cs).gr k
theorem Blk.of2a {cs : Array Value} {o : Obj} (k : Gr ((w.alloc (.cells cs t)).alloc o) w') : Blk w' w.heap.size t cs.toList := ((Blk.new w t cs).alloc o).gr k
theorem Blk.of2b {cs : Array Value} {o : Obj} (k : Gr ((w.alloc o).alloc (.cells cs t)) w') : Blk w' (w.heap.size + 1) t cs.toList := by
  have := (Blk.new (w.alloc o) t cs).gr k
  rwa [size_alloc1] at this
theorem Blk.of3a {cs : Array Value} {o o' : Obj} (k : Gr (((w.alloc (.cells cs t)).alloc o).alloc o') w') : Blk w' w.heap.size t cs.toList := (((Blk.new w t cs).alloc o).alloc o').gr k
theorem Blk.of3b {cs : Array Value} {o o' : Obj} (k : Gr (((w.alloc o).alloc (.cells cs t)).alloc o') w') : Blk w' (w.heap.size + 1) t cs.toList := by
  have := ((Blk.new (w.alloc o) t cs).alloc o').gr k
  rwa [size_alloc1] at this
theorem Blk.of3c {cs : Array Value} {o o' : Obj} (k : Gr (((w.alloc o).alloc o').alloc (.cells cs t)) w') : Blk w' (w.heap.size + 2) t cs.toList := by
  have := (Blk.new ((w.alloc o).alloc o') t cs).gr k
  rwa [size_alloc1, size_alloc1] at this
theorem Gr.far {row : Option Nat} (h : Gr w w') : w.grownBy w' row := ⟨h.os, h.tape, h.output, h.size, fun k hk _ => h.block k hk⟩
theorem grown_trans {a b c : World} {row : Option Nat} (h : a.grownBy b row) (k : b.grownBy c row) : a.grownBy c row :=
  ⟨k.os.trans h.os, k.tape.trans h.tape, k.output.trans h.output, Nat.le_trans h.size k.size, fun j hj hne => (k.block j (Nat.lt_of_lt_of_le hj h.size) hne).trans (h.block j hj hne)⟩
theorem grown_set (w : World) (g i : Nat) (u : Value) : w.grownBy (w.setCell ⟨g, i, none⟩ u) (some g) :=
  ⟨rfl, rfl, rfl, by simp, fun k _ hne => Below.heap_setCell w _ u k (fun e => hne (by rw [e]))⟩
theorem grown_drew (w : World) (row : Option Nat) : w.grownBy w.drew row := (Gr.drew w).far
theorem Gr.of_far {a w w' : World} {g : Nat} (h : Gr a w) (k : w.grownBy w' (some g)) (hg : a.heap.size ≤ g) : Gr a w' := h.grown k (fun _ e => by cases e; exact hg)
/-- a pointer to a new block of these cells -/
def NewBlk (B : Nat) (t : TypeId) (cs : List Value) : Value → World → Prop := fun v w => ∃ g, v = .pointer (some ⟨g, 0, none⟩) ∧ B ≤ g ∧ Blk w g t cs
theorem NewBlk.stable (B : Nat) (t : TypeId) (cs : List Value) : ∀ v w1 w2, NewBlk B t cs v w1 → Gr w1 w2 → NewBlk B t cs v w2 := fun _ _ _ ⟨g, e, hb, h⟩ k => ⟨g, e, hb, h.gr k⟩
end
end Go.Proofs.Ytnafhjgfkofkbaa
/- A region that draws its order: what each operation's value is known to be, whatever the order. Each operation is shown once, from what is known of its operands, in whatever world that has grown so far. No program is in sight here. -/
namespace Go.Proofs.Ytnafhjgfkofkbaa
set_option linter.unusedVariables false
set_option linter.unusedSimpArgs false
open Go.RowKit
section
variable {P : Program}

def growUpon (P : Program) (Le : World → World → Prop) (w : World) (R : Value → World → Prop) : Result Next → Prop
  | .ok (.value v) w' => Le w w' ∧ R v w'
  | .ok .skip w' => Le w w' ∧ R undef w'
  | .ok (.enter f args) w' => Le w w' ∧ Calls P f args w' fun e w'' => ∃ v, e = .returned v ∧ Le w' w'' ∧ R v w''
  | _ => False
def depsOf (o : Oper) : List Nat := o.after.toList.filterMap fun e => if Region.binds .any e then some e.on else none
def tmpOf : Operand → Option Tmp
  | .tmp t => some t
  | _ => none
def slotsOf (o : Oper) : List Tmp := o.op.operands.toList.filterMap tmpOf
def dstOf (ops : List Oper) (j : Nat) : Option Tmp := (ops[j]?).bind (·.dst)
def srcOf (ops : List Oper) (o : Oper) (t : Tmp) : Option Nat := (depsOf o).find? fun j => dstOf ops j == some t
/-- what an operand's reading goes by -/
def Ev (ρ : Operand → Value) : Prop := (∀ v, ρ (.const v) = v) ∧ (∀ f, ρ (.func f) = .func (.func f) #[] #[]) ∧ ∀ g, ρ (.global g) = .pointer (some ⟨g, 0, none⟩)
def boolOf : Value → Option Bool
  | .bool b => some b
  | _ => none
def wantedBy (ops : List Oper) (o : Oper) (ρ : Operand → Value) : Bool :=
  match o.guard with
  | none => true
  | some (j, b) => (match dstOf ops j with | some d => boolOf (ρ (.tmp d)) | none => none) == some b
def readsOf (ops : List Oper) (o : Oper) : List Tmp := slotsOf o ++ (match o.guard with | none => [] | some (j, _) => (dstOf ops j).toList)
def knownOf (ops : List Oper) (R : Nat → Value → World → Prop) (a0 : Act) (o : Oper) (t : Tmp) (v : Value) (w : World) : Prop :=
  match srcOf ops o t with
  | some j => R j v w
  | none => v = a0.tmps.getD t undef
/-- of a row of slots -/
def KnownAll (ops : List Oper) (R : Nat → Value → World → Prop) (a0 : Act) (o : Oper) (ρ : Operand → Value) (w : World) : List Tmp → Prop
  | [] => True
  | t :: r => knownOf ops R a0 o t (ρ (.tmp t)) w ∧ KnownAll ops R a0 o ρ w r
theorem KnownAll.of {ops : List Oper} {R : Nat → Value → World → Prop} {a0 : Act} {o : Oper} {ρ : Operand → Value} {w : World} : ∀ {l : List Tmp}, (∀ t ∈ l, knownOf ops R a0 o t (ρ (.tmp t)) w) → KnownAll ops R a0 o ρ w l
  | [], _ => trivial
  | t :: r, h => ⟨h t List.mem_cons_self, KnownAll.of fun x hx => h x (List.mem_cons_of_mem _ hx)⟩
/-- what is to be shown of an operation -/
def Shown (P : Program) (Le : World → World → Prop) (ops : List Oper) (R : Nat → Value → World → Prop) (a0 : Act) (w0 : World) (i : Nat) (o : Oper) : Prop :=
  ∀ ρ w, Ev ρ → Le w0 w → KnownAll ops R a0 o ρ w (readsOf ops o) →
    if wantedBy ops o ρ then growUpon P Le w (R i) ((execOp ρ o).run P w) else R i undef w
def opOk (ops : List Oper) (n i : Nat) (o : Oper) : Bool :=
  (match o.op with | .select .. => false | _ => true) &&
  (match o.dst with | some d => decide (d < n) && !(readsOf ops o).contains d | none => true) &&
  (depsOf o).all (fun j => decide (j < i)) &&
  (match o.guard with | some (j, _) => (depsOf o).contains j && (dstOf ops j).isSome | none => true) &&
  (List.range ops.length).all (fun j => j == i || (match dstOf ops j with | some d => o.dst != some d && (!(readsOf ops o).contains d || (depsOf o).contains j || (match ops[j]? with | some o' => (depsOf o').contains i | none => false)) | none => true))
def anyB (ops : List Oper) (n : Nat) : Bool := (List.range ops.length).all fun i => match ops[i]? with | some o => opOk ops n i o | none => true

def putAll (val : Nat → Value) : List Oper → Nat → Act → Act
  | [], _, a => a
  | o :: r, i, a => putAll val r (i + 1) (a.put o.dst (val i))

theorem put_size (a : Act) (d : Option Tmp) (v : Value) : (a.put d v).tmps.size = a.tmps.size := by cases d <;> simp [Act.put]
theorem put_defers (a : Act) (d : Option Tmp) (v : Value) : (a.put d v).defers = a.defers := by cases d <;> rfl
theorem put_same (a : Act) (d : Tmp) (v : Value) (h : d < a.tmps.size) : (a.put (some d) v).tmps.getD d undef = v := by simp [Act.put, h]
theorem put_other (a : Act) (d : Option Tmp) (v : Value) (t : Tmp) (h : d ≠ some t) : (a.put d v).tmps.getD t undef = a.tmps.getD t undef := by
  cases d with
  | none => rfl
  | some d =>
    have : d ≠ t := fun e => h (by rw [e])
    simp [Act.put, Array.getElem?_setIfInBounds_ne this]
theorem putAll_size (val : Nat → Value) : ∀ (l : List Oper) (i : Nat) (a : Act), (putAll val l i a).tmps.size = a.tmps.size
  | [], _, _ => rfl
  | o :: r, i, a => by rw [putAll, putAll_size val r, put_size]
theorem putAll_defers (val : Nat → Value) : ∀ (l : List Oper) (i : Nat) (a : Act), (putAll val l i a).defers = a.defers
  | [], _, _ => rfl
  | o :: r, i, a => by rw [putAll, putAll_defers val r, put_defers]
theorem putAll_other (val : Nat → Value) (t : Tmp) : ∀ (l : List Oper) (i : Nat) (a : Act), (∀ o ∈ l, o.dst ≠ some t) → (putAll val l i a).tmps.getD t undef = a.tmps.getD t undef
  | [], _, _, _ => rfl
  | o :: r, i, a, h => by
    rw [putAll, putAll_other val t r (i + 1) _ (fun o' ho => h o' (List.mem_cons_of_mem _ ho)), put_other _ _ _ _ (h o List.mem_cons_self)]
theorem putAll_at (val : Nat → Value) (t : Tmp) : ∀ (l : List Oper) (i : Nat) (a : Act) (k : Nat) (o : Oper), l[k]? = some o → o.dst = some t → t < a.tmps.size →
    (∀ j o', l[j]? = some o' → j ≠ k → o'.dst ≠ some t) → (putAll val l i a).tmps.getD t undef = val (i + k)
  | [], _, _, _, _, h, _, _, _ => by simp at h
  | x :: r, i, a, 0, o, h, hd, ht, hu => by
    simp at h; subst h
    rw [putAll, putAll_other val t r (i + 1) _ (fun o' ho => by
      obtain ⟨j, hj, e⟩ := List.getElem_of_mem ho
      exact hu (j + 1) o' (by simp [hj, e]) (by omega)), hd, put_same _ _ _ ht]; rfl
  | x :: r, i, a, k + 1, o, h, hd, ht, hu => by
    rw [putAll, putAll_at val t r (i + 1) _ k o (by simpa using h) hd (by rw [put_size]; exact ht) (fun j o' hj hjk => hu (j + 1) o' (by simpa using hj) (by omega))]
    congr 1; omega
theorem act_ext {a b : Act} (h1 : a.tmps.size = b.tmps.size) (h2 : a.defers = b.defers) (h3 : ∀ t, a.tmps.getD t undef = b.tmps.getD t undef) : a = b := by
  cases a with
  | mk t1 d1 =>
    cases b with
    | mk t2 d2 =>
      simp only at h1 h2 h3
      subst h2
      congr 1
      apply Array.ext h1
      intro i hi1 hi2
      have := h3 i
      simpa [hi1, hi2] using this

/-- what holds on the way -/
structure OnWay (Le : World → World → Prop) (ops : List Oper) (R : Nat → Value → World → Prop) (a0 : Act) (w0 : World) (listed : Array Bool) (a : Act) (w : World) : Prop where
  size : listed.size = ops.length
  le : Le w0 w
  defers : a.defers = a0.defers
  tmps : a.tmps.size = a0.tmps.size
  closed : ∀ j o, ops[j]? = some o → listed.getD j false = true → ∀ d ∈ depsOf o, listed.getD d false = true
  known : ∀ j o d, ops[j]? = some o → listed.getD j false = true → o.dst = some d → R j (a.tmps.getD d undef) w
  rest : ∀ t, (∀ j o, ops[j]? = some o → listed.getD j false = true → o.dst ≠ some t) → a.tmps.getD t undef = a0.tmps.getD t undef

theorem opOk_of {ops : List Oper} {n : Nat} (hB : anyB ops n = true) {i : Nat} {o : Oper} (hi : ops[i]? = some o) : opOk ops n i o = true := by
  have := List.all_eq_true.1 hB i (List.mem_range.2 (List.getElem?_eq_some_iff.1 hi).1)
  simpa [hi] using this
theorem listed_set {listed : Array Bool} {i j : Nat} (h : (listed.setIfInBounds i true).getD j false = true) : j = i ∨ listed.getD j false = true := by
  by_cases hij : i = j
  · exact .inl hij.symm
  · rw [getD_set_ne false hij] at h; exact .inr h
theorem yielded_eq (ops : List Oper) (tmps : Array Value) (j : Nat) : yielded ops.toArray tmps j = match dstOf ops j with | some d => boolOf (tmps.getD d undef) | none => none := by
  unfold yielded dstOf
  simp only [List.getElem?_toArray]
  cases h : (ops[j]?).bind (·.dst) with
  | none => rfl
  | some d =>
    simp only [Option.bind_some]
    by_cases hd : d < tmps.size
    · simp [hd]
      cases tmps[d] <;> rfl
    · simp [hd]
      rfl

def cnt (f : Nat → Bool) : Nat → Nat
  | 0 => 0
  | n + 1 => cnt f n + (if f n then 0 else 1)
theorem cnt_le (f : Nat → Bool) : ∀ n, cnt f n ≤ n
  | 0 => Nat.le_refl _
  | n + 1 => by have := cnt_le f n; rw [cnt]; split <;> omega
theorem cnt_zero {f : Nat → Bool} : ∀ {n : Nat}, cnt f n = 0 → ∀ k, k < n → f k = true
  | 0, _, _, h => absurd h (by omega)
  | n + 1, hc, k, hk => by
    rw [cnt] at hc
    by_cases h : k = n
    · subst h
      cases hf : f k with
      | true => rfl
      | false => simp [hf] at hc
    · exact cnt_zero (n := n) (by omega) k (by omega)
theorem cnt_same {f g : Nat → Bool} : ∀ {n : Nat}, (∀ k, k < n → f k = g k) → cnt f n = cnt g n
  | 0, _ => rfl
  | n + 1, h => by rw [cnt, cnt, cnt_same (n := n) fun k hk => h k (by omega), h n (by omega)]
theorem cnt_set {f g : Nat → Bool} {i : Nat} : ∀ {n : Nat}, i < n → f i = false → (∀ k, g k = (f k || k == i)) → cnt g n + 1 = cnt f n
  | 0, h, _, _ => absurd h (by omega)
  | n + 1, h, hf, hg => by
    rw [cnt, cnt]
    by_cases hin : i = n
    · subst hin
      have e : cnt g i = cnt f i := cnt_same fun k hk => by
        have h2 : (k == i) = false := by simp; omega
        rw [hg, h2, Bool.or_false]
      rw [e, hg, hf]; simp
    · have := cnt_set (n := n) (by omega) hf hg
      have h2 : (n == i) = false := by simp; omega
      have e : g n = f n := by rw [hg, h2, Bool.or_false]
      rw [e]; omega
theorem getD_replicate_false' (m j : Nat) : (Array.replicate m false).getD j false = false := by
  rcases Nat.lt_or_ge j m with h | h
  · simp [h]
  · simp [h]
theorem region_any {Le : World → World → Prop} (hrefl : ∀ w, Le w w) (htrans : ∀ a b c, Le a b → Le b c → Le a c) (hdrew : ∀ w, Le w w.drew) {id : Nat} {Q : Exit → Act → World → Prop} {a0 : Act} {w : World} {l : List Oper} (n : Nat) (R : Nat → Value → World → Prop)
    (hm : P.follows .mixedOrders = true) (hB : anyB l n = true) (hn : a0.tmps.size = n) (hst : ∀ i v w1 w2, R i v w1 → Le w1 w2 → R i v w2)
    (hs : ∀ i o, l[i]? = some o → Shown P Le l R a0 w i o)
    (hfin : ∀ w1 val, Le w w1 → (∀ i o, l[i]? = some o → o.dst.isSome = true → R i (val i) w1) → Q .normal (putAll val l 0 a0) w1) : (Code.region id l.toArray true).wp P Q a0 w := by
  have hsize : l.toArray.size = l.length := by simp
  have allL : ∀ (listed : Array Bool), listed.size = l.length → Region.ready .any l.toArray listed = [] → ∀ k, k < l.length → listed.getD k false = true := by
    intro listed hls hr k
    induction k using Nat.strongRecOn with
    | _ k ih =>
      intro hk
      cases hc : listed.getD k false with
      | true => rfl
      | false =>
        exfalso
        have hok := opOk_of hB (i := k) (o := l[k]) (by simp [hk])
        have hmem : k ∈ Region.ready .any l.toArray listed := by
          rw [mem_ready]
          refine ⟨?_, l[k], by simp [hk], fun e he hb => ?_⟩
          · have : k < listed.size := by omega
            simp [this] at hc ⊢; exact hc
          · have hd : e.on ∈ depsOf l[k] := by
              unfold depsOf
              rw [List.mem_filterMap]
              exact ⟨e, by simpa using he, by rw [hb]; rfl⟩
            simp only [opOk, Bool.and_eq_true, List.all_eq_true, decide_eq_true_eq] at hok
            have hlt := hok.1.1.2 _ hd
            exact ih _ hlt (by omega)
        rw [hr] at hmem
        cases hmem
  have fin : ∀ (listed : Array Bool) (a : Act) (w1 : World), OnWay Le l R a0 w listed a w1 → (∀ k, k < l.length → listed.getD k false = true) → Q .normal a w1 := by
    intro listed a w1 inv hall
    have hval := hfin w1 (fun j => match dstOf l j with | some d => a.tmps.getD d undef | none => undef) inv.le (fun i o hi hd => by
      obtain ⟨d, hd⟩ := Option.isSome_iff_exists.1 hd
      have : dstOf l i = some d := by simp [dstOf, hi, hd]
      simp only [this]
      exact inv.known i o d hi (hall i (List.getElem?_eq_some_iff.1 hi).1) hd)
    have e : a = putAll (fun j => match dstOf l j with | some d => a.tmps.getD d undef | none => undef) l 0 a0 := by
      refine act_ext (by rw [putAll_size, inv.tmps]) (by rw [putAll_defers, inv.defers]) fun t => ?_
      by_cases ht : ∃ (j : Nat) (o : Oper), l[j]? = some o ∧ o.dst = some t
      · obtain ⟨j, o, hj, hd⟩ := ht
        have hok := opOk_of hB hj
        have htn : t < n := by
          simp only [opOk, hd, Bool.and_eq_true, decide_eq_true_eq] at hok
          exact hok.1.1.1.2.1
        rw [putAll_at _ t l 0 a0 j o hj hd (by rw [hn]; exact htn) (fun j' o' hj' hne hd' => by
          have hok' := opOk_of hB hj'
          simp only [opOk, Bool.and_eq_true, List.all_eq_true] at hok'
          have h2 := hok'.2 j (List.mem_range.2 (List.getElem?_eq_some_iff.1 hj).1)
          have hdj : dstOf l j = some t := by simp [dstOf, hj, hd]
          simp [hdj, hd', Ne.symm hne] at h2)]
        have hdj : dstOf l (0 + j) = some t := by simp [dstOf, hj, hd]
        simp only [hdj]
      · rw [putAll_other _ t l 0 a0 (fun o ho hd => ht (by
          obtain ⟨j, hj, e⟩ := List.getElem_of_mem ho
          exact ⟨j, o, by simp [hj, e], hd⟩))]
        exact inv.rest t (fun j o hj _ hd => ht ⟨j, o, hj, hd⟩)
    rw [e]; exact hval
  have key : ∀ (fuel : Nat) (listed : Array Bool) (a : Act) (w1 : World), OnWay Le l R a0 w listed a w1 → cnt (fun k => listed.getD k false) l.length ≤ fuel → wpAny P .any l.toArray Q fuel listed a w1 := by
    intro fuel
    induction fuel with
    | zero =>
      intro listed a w1 inv hc
      have hall := cnt_zero (by omega : cnt (fun k => listed.getD k false) l.length = 0)
      refine ⟨?_, fin listed a w1 inv hall⟩
      rw [List.eq_nil_iff_forall_not_mem]
      intro j hj
      obtain ⟨h1, o, ho, _⟩ := mem_ready.1 hj
      have hlt : j < l.length := by
        have := (Array.getElem?_eq_some_iff.1 ho).1
        simpa using this
      have h2 := hall j hlt
      have : j < listed.size := by rw [inv.size]; exact hlt
      simp [this] at h1 h2
      rw [h1] at h2; cases h2
    | succ fuel ih =>
      intro listed a w1 inv hc
      refine ⟨fun hr => fin listed a w1 inv (allL listed inv.size hr), fun i hi => ?_⟩
      obtain ⟨h1, o, ho, hdeps⟩ := mem_ready.1 hi
      have hio : l[i]? = some o := by simpa using ho
      have hlt : i < l.length := (List.getElem?_eq_some_iff.1 hio).1
      have hls : i < listed.size := by rw [inv.size]; exact hlt
      have hun : listed.getD i false = false := by simp [hls] at h1 ⊢; exact h1
      have hok := opOk_of hB hio
      have hdl : ∀ d ∈ depsOf o, listed.getD d false = true := by
        intro d hd
        unfold depsOf at hd
        obtain ⟨e, he, hb⟩ := List.mem_filterMap.1 hd
        split at hb
        · rename_i hbb
          cases hb
          exact hdeps e (by simpa using he) hbb
        · cases hb
      have hcnt : cnt (fun k => (listed.setIfInBounds i true).getD k false) l.length ≤ fuel := by
        have := cnt_set (f := fun k => listed.getD k false) (g := fun k => (listed.setIfInBounds i true).getD k false) (i := i) (n := l.length) hlt hun (fun k => by
          by_cases hk : i = k
          · subst hk; simp [hls]
          · have hk' : (k == i) = false := by simp; omega
            simp only [getD_set_ne false hk, hk', Bool.or_false])
        omega
      have hkn : ∀ t ∈ readsOf l o, knownOf l R a0 o t (a.eval (.tmp t)) w1 := by
        intro t ht
        show knownOf l R a0 o t (a.tmps.getD t undef) w1
        unfold knownOf
        cases hsrc : srcOf l o t with
        | some j =>
          have hj := List.mem_of_find?_eq_some hsrc
          have hjt := List.find?_some hsrc
          have hjd : dstOf l j = some t := by simpa using hjt
          unfold dstOf at hjd
          cases hlj : l[j]? with
          | none => simp [hlj] at hjd
          | some oj =>
            simp [hlj] at hjd
            exact inv.known j oj t hlj (hdl j hj) hjd
        | none =>
          refine inv.rest t (fun j oj hlj hll hd => ?_)
          have hdj : dstOf l j = some t := by simp [dstOf, hlj, hd]
          have hne : j ≠ i := fun e => by subst e; rw [hun] at hll; cases hll
          simp only [opOk, Bool.and_eq_true, List.all_eq_true] at hok
          have h2 := hok.2 j (List.mem_range.2 (List.getElem?_eq_some_iff.1 hlj).1)
          simp only [hdj, hlj] at h2
          have ht' : (readsOf l o).contains t = true := by simpa using ht
          simp [hne, ht] at h2
          rcases h2.2 with h3 | h3
          · have := List.find?_eq_none.1 hsrc j h3
            simp [hdj] at this
          · have := inv.closed j oj hlj hll i h3
            rw [hun] at this; cases this
      have hsh := hs i o hio a.eval w1 ⟨fun _ => rfl, fun _ => rfl, fun _ => rfl⟩ inv.le (KnownAll.of hkn)
      have hwant : Region.wanted o (yielded l.toArray a.tmps) = wantedBy l o a.eval := by
        unfold Region.wanted wantedBy
        cases o.guard with
        | none => rfl
        | some g => simp only [yielded_eq]; rfl
      have step : ∀ v w2, Le w1 w2 → R i v w2 → wpAny P .any l.toArray Q fuel (listed.setIfInBounds i true) (a.put o.dst v) w2 := by
        intro v w2 hle hv
        refine ih _ _ _ ⟨by simp [inv.size], htrans _ _ _ inv.le hle, by rw [put_defers, inv.defers], by rw [put_size, inv.tmps], ?_, ?_, ?_⟩ hcnt
        · intro j oj hj hl d hd
          rcases listed_set hl with rfl | hl
          · rw [hio] at hj; cases hj
            exact getD_set_true (hdl d hd)
          · exact getD_set_true (inv.closed j oj hj hl d hd)
        · intro j oj d hj hl hd
          rcases listed_set hl with rfl | hl2
          · rw [hio] at hj; cases hj
            have hdn : d < n := by
              simp only [opOk, hd, Bool.and_eq_true, decide_eq_true_eq] at hok
              exact hok.1.1.1.2.1
            rw [hd, put_same _ _ _ (by rw [inv.tmps, hn]; exact hdn)]
            exact hv
          · by_cases hji : j = i
            · subst hji; rw [hun] at hl2; cases hl2
            · rw [put_other _ _ _ _ (fun hd' => by
                simp only [opOk, Bool.and_eq_true, List.all_eq_true] at hok
                have h2 := hok.2 j (List.mem_range.2 (List.getElem?_eq_some_iff.1 hj).1)
                have hdj : dstOf l j = some d := by simp [dstOf, hj, hd]
                simp [hdj, hd', hji] at h2)]
              exact hst j _ _ _ (inv.known j oj d hj hl2 hd) hle
        · intro t ht
          have h1 : o.dst ≠ some t := ht i o hio (by simp [hls])
          rw [put_other _ _ _ _ h1]
          exact inv.rest t (fun j oj hj hl => ht j oj hj (getD_set_true hl))
      unfold wpOp
      simp only [ho, hwant]
      split
      · rename_i hw
        rw [hw] at hsh
        simp only [if_true] at hsh
        left
        unfold Oper.wp
        generalize (execOp a.eval o).run P w1 = r at hsh
        cases r with
        | halt x w' => exact hsh.elim
        | ok nx w' =>
          cases nx with
          | value v => exact step v w' hsh.1 hsh.2
          | skip => exact step undef w' hsh.1 hsh.2
          | enter f args =>
            obtain ⟨h2, h3⟩ := hsh
            exact h3.mono fun e w'' ⟨v, he, hle, hv⟩ => by subst he; exact step v w'' (htrans _ _ _ h2 hle) hv
          | _ => exact hsh.elim
      · rename_i hw
        simp only [Bool.not_eq_true] at hw
        rw [hw] at hsh
        exact step undef w1 (hrefl _) (by simpa using hsh)
  refine wp_region_any hm ?_
  refine key l.toArray.size (Array.replicate l.toArray.size false) a0 w.drew ⟨by rw [Array.size_replicate, hsize], hdrew w, rfl, rfl, ?_, ?_, ?_⟩ ?_
  · intro j o _ hl; rw [getD_replicate_false'] at hl; cases hl
  · intro j o d _ hl; rw [getD_replicate_false'] at hl; cases hl
  · intro t _; rfl
  · show cnt _ l.length ≤ l.toArray.size
    rw [hsize]; exact cnt_le _ _

/-- the value is known outright -/
def Is (x : Value) : Value → World → Prop := fun v _ => v = x
@[go_sem] theorem growUpon_value (P : Program) (Le : World → World → Prop) (w w' : World) (R : Value → World → Prop) (v : Value) : growUpon P Le w R (.ok (.value v) w') = (Le w w' ∧ R v w') := rfl
@[go_sem] theorem growUpon_enter (P : Program) (Le : World → World → Prop) (w w' : World) (R : Value → World → Prop) (f : FuncId) (args : Array Value) :
    growUpon P Le w R (.ok (.enter f args) w') = (Le w w' ∧ Calls P f args w' fun e w'' => ∃ v, e = .returned v ∧ Le w' w'' ∧ R v w'') := rfl
@[go_sem] theorem gr_refl (w : World) : Gr w w ↔ True := ⟨fun _ => trivial, fun _ => Gr.refl w⟩
theorem is_here {P : Program} {w : World} {v x : Value} (h : v = x) : growUpon P Gr w (Is x) (.ok (.value v) w) := ⟨Gr.refl w, h⟩
/-- a slice that reads as these bytes -/
def ReadsB (l : List UInt8) : Value → World → Prop := fun v w => ∃ ad cap, v = .slice ad l.length cap ∧ Bytes w ad l
def Stable (Le : World → World → Prop) (r : Value → World → Prop) : Prop := ∀ v w1 w2, r v w1 → Le w1 w2 → r v w2
theorem Is.stable {Le : World → World → Prop} (x : Value) : Stable Le (Is x) := fun _ _ _ h _ => h
theorem ReadsB.stable (l : List UInt8) : Stable Gr (ReadsB l) := fun _ _ _ ⟨ad, cap, e, hb⟩ hg => ⟨ad, cap, e, hb.gr hg⟩
def nth (Rs : List (Value → World → Prop)) (i : Nat) : Value → World → Prop := Rs.getD i fun _ _ => True
def AllShown (P : Program) (Le : World → World → Prop) (ops : List Oper) (Rs : List (Value → World → Prop)) (a0 : Act) (w0 : World) : List Oper → Nat → Prop
  | [], _ => True
  | o :: r, i => Shown P Le ops (nth Rs) a0 w0 i o ∧ AllShown P Le ops Rs a0 w0 r (i + 1)
theorem AllShown.get {Le : World → World → Prop} {ops : List Oper} {Rs : List (Value → World → Prop)} {a0 : Act} {w0 : World} : ∀ {l : List Oper} {k : Nat}, AllShown P Le ops Rs a0 w0 l k → ∀ i o, l[i]? = some o → Shown P Le ops (nth Rs) a0 w0 (k + i) o
  | [], _, _, i, o, hi => by simp at hi
  | x :: r, k, h, 0, o, hi => by simp at hi; subst hi; exact h.1
  | x :: r, k, h, i + 1, o, hi => by
    have := h.2.get i o (by simpa using hi)
    rwa [show k + 1 + i = k + (i + 1) by omega] at this
def AllStable (Le : World → World → Prop) : List (Value → World → Prop) → Prop
  | [] => True
  | r :: rs => Stable Le r ∧ AllStable Le rs
theorem AllStable.get {Le : World → World → Prop} : ∀ {Rs : List (Value → World → Prop)}, AllStable Le Rs → ∀ i, Stable Le (nth Rs i)
  | [], _, i => by intro v w1 w2 _ _; simp [nth]
  | r :: rs, h, 0 => h.1
  | r :: rs, h, i + 1 => h.2.get i
def Holds (val : Nat → Value) (w : World) : List (Value → World → Prop) → Nat → Prop
  | [], _ => True
  | r :: rs, i => r (val i) w ∧ Holds val w rs (i + 1)
theorem Holds.of {val : Nat → Value} {w : World} : ∀ {Rs : List (Value → World → Prop)} {k : Nat}, (∀ i, i < Rs.length → nth Rs i (val (k + i)) w) → Holds val w Rs k
  | [], _, _ => trivial
  | r :: rs, k, h => ⟨h 0 (by simp), Holds.of fun i hi => by
    have := h (i + 1) (by simpa using hi)
    rwa [show k + (i + 1) = k + 1 + i by omega] at this⟩
theorem region_any_gr {id : Nat} {Q : Exit → Act → World → Prop} {a0 : Act} {w : World} {l : List Oper} (n : Nat) (Rs : List (Value → World → Prop))
    (hm : P.follows .mixedOrders = true) (hB : anyB l n = true) (hd : l.all (·.dst.isSome) = true) (hlen : Rs.length = l.length) (hn : a0.tmps.size = n) (hst : AllStable Gr Rs)
    (hs : AllShown P Gr l Rs a0 w l 0) (hfin : ∀ w1 val, Gr w w1 → Holds val w1 Rs 0 → Q .normal (putAll val l 0 a0) w1) : (Code.region id l.toArray true).wp P Q a0 w :=
  region_any Gr.refl (fun _ _ _ => Gr.trans) Gr.drew n (nth Rs) hm hB hn (fun i v w1 w2 => hst.get i v w1 w2) (fun i o hi => by simpa using hs.get i o hi)
    (fun w1 val hg h => hfin w1 val hg (Holds.of fun i hi => by
      have hi' : i < l.length := by omega
      rw [Nat.zero_add]
      exact h i l[i] (by simp [hi']) (List.all_eq_true.1 hd _ (List.getElem_mem hi'))))

/-- calls within such a region, by the contract's form -/
theorem any_gr {f : FuncId} {args : Array Value} {wr : World} {v : Value} (h : Calls P f args wr fun e w' => e = .returned v ∧ Gr wr w') :
    Calls P f args wr fun e w2 => ∃ x, e = .returned x ∧ Gr wr w2 ∧ Is v x w2 := h.mono fun _ _ ⟨he, hg⟩ => ⟨_, he, hg, rfl⟩
theorem any_same {f : FuncId} {args : Array Value} {wr : World} {v : Value} (h : Calls P f args wr fun e w' => e = .returned v ∧ wr = w') :
    Calls P f args wr fun e w2 => ∃ x, e = .returned x ∧ Gr wr w2 ∧ Is v x w2 := h.mono fun _ _ ⟨he, hg⟩ => ⟨_, he, hg ▸ Gr.refl _, rfl⟩
theorem any_bytes {f : FuncId} {args : Array Value} {wr : World} {t : TypeId} {l : List UInt8} (h : Calls P f args wr (RetB t wr l)) :
    Calls P f args wr fun e w2 => ∃ x, e = .returned x ∧ Gr wr w2 ∧ ReadsB l x w2 := h.mono fun _ _ ⟨ad, cap, he, ho, hg⟩ => ⟨_, he, hg, ad, cap, rfl, ho.bytes⟩
theorem any_str {src dst e : TypeId} (hs : P.underlying src = some (.slice e)) (he : P.underlying e = some (.int .u8)) (hd : P.underlying dst = some .string) {v : Value} {wr : World} {l : List UInt8} (h : ReadsB l v wr) :
    growUpon P Gr wr (Is (.string (str l))) (((convert src dst v).run P wr).andThen fun a w' => .ok (.value a) w') := by
  obtain ⟨ad, cap, rfl, hb⟩ := h
  rw [run_string hs he hd rfl hb]
  exact is_here rfl

end
end Go.Proofs.Ytnafhjgfkofkbaa
/- A region that draws its order and ends in a forced row of operations (a store, an append): the head by what each operation's value is known to be, the tail walked behind it. No program is in sight here. -/
namespace Go.Proofs.Ytnafhjgfkofkbaa
set_option linter.unusedVariables false
set_option linter.unusedSimpArgs false
open Go.RowKit
section
variable {P : Program}
/-- the first so many are done -/
def headDone (m n0 : Nat) : Array Bool := (Array.range m).map fun i => decide (i < n0)
def tailB (l : List Oper) (n0 : Nat) : Bool :=
  decide (n0 < l.length) && Region.sinkB .any l.toArray n0 && Region.chainB .any l.toArray n0 && Region.seqB .any l.toArray (l.length - n0) n0 (headDone l.length n0)
theorem take_get {l : List Oper} {n0 i : Nat} {o : Oper} (h : (l.take n0)[i]? = some o) : i < n0 ∧ l[i]? = some o := by
  rw [List.getElem?_take] at h
  split at h
  · exact ⟨by assumption, h⟩
  · cases h
theorem get_take {l : List Oper} {n0 i : Nat} {o : Oper} (hi : i < n0) (h : l[i]? = some o) : (l.take n0)[i]? = some o := by
  rw [List.getElem?_take, if_pos hi]; exact h
theorem region_any_tail {Le : World → World → Prop} (hrefl : ∀ w, Le w w) (htrans : ∀ a b c, Le a b → Le b c → Le a c) (hdrew : ∀ w, Le w w.drew) {id : Nat} {Q : Exit → Act → World → Prop} {a0 : Act} {w : World} {l : List Oper} (n0 n : Nat) (R : Nat → Value → World → Prop)
    (hm : P.follows .mixedOrders = true) (hB : anyB (l.take n0) n = true) (hT : tailB l n0 = true) (hn : a0.tmps.size = n) (hst : ∀ i v w1 w2, R i v w1 → Le w1 w2 → R i v w2)
    (hs : ∀ i o, (l.take n0)[i]? = some o → Shown P Le (l.take n0) R a0 w i o)
    (hfin : ∀ w1 val, Le w w1 → (∀ i o, (l.take n0)[i]? = some o → o.dst.isSome = true → R i (val i) w1) → wpList P l.toArray Q (l.drop n0) (putAll val (l.take n0) 0 a0) w1) : (Code.region id l.toArray true).wp P Q a0 w := by
  simp only [tailB, Bool.and_eq_true, decide_eq_true_eq] at hT
  obtain ⟨⟨⟨hn0, hsink⟩, hchain⟩, hseq⟩ := hT
  have hsize : l.toArray.size = l.length := by simp
  have hpl : (l.take n0).length = n0 := by simp; omega
  have getX : ∀ (listed : Array Bool) (k : Nat), listed.size = l.length → k < n0 → (listed.extract 0 n0).getD k false = listed.getD k false := by
    intro listed k hsz hk
    have h1 : k < (listed.extract 0 n0).size := by simp; omega
    have h2 : k < listed.size := by omega
    simp only [Array.getD_eq_getD_getElem?]
    rw [Array.getElem?_eq_getElem h1, Array.getElem?_eq_getElem h2, Array.getElem_extract]
    simp
  have setX : ∀ (listed : Array Bool) (i : Nat), listed.size = l.length → i < n0 → (listed.setIfInBounds i true).extract 0 n0 = (listed.extract 0 n0).setIfInBounds i true := by
    intro listed i hsz hi
    apply Array.ext_getElem?
    intro k
    have hs1 : ((listed.setIfInBounds i true).extract 0 n0).size = n0 := by simp; omega
    have hs2 : ((listed.extract 0 n0).setIfInBounds i true).size = n0 := by simp; omega
    by_cases hk : k < n0
    · rw [Array.getElem?_eq_getElem (by omega), Array.getElem?_eq_getElem (by omega), Array.getElem_extract, Array.getElem_setIfInBounds, Array.getElem_setIfInBounds, Array.getElem_extract]
      all_goals first | omega | (simp; done) | (simp; omega)
    · rw [Array.getElem?_eq_none (by omega), Array.getElem?_eq_none (by omega)]
  have allL : ∀ (listed : Array Bool), listed.size = l.length → Region.ready .any l.toArray listed = [] → ∀ k, k < n0 → listed.getD k false = true := by
    intro listed hls hr k
    induction k using Nat.strongRecOn with
    | _ k ih =>
      intro hk
      cases hc : listed.getD k false with
      | true => rfl
      | false =>
        exfalso
        have hkl : k < l.length := by omega
        have hok := opOk_of hB (i := k) (o := l[k]) (get_take hk (by simp [hkl]))
        have hmem : k ∈ Region.ready .any l.toArray listed := by
          rw [mem_ready]
          refine ⟨?_, l[k], by simp [hkl], fun e he hb => ?_⟩
          · have : k < listed.size := by omega
            simp [this] at hc ⊢; exact hc
          · have hd : e.on ∈ depsOf l[k] := by
              unfold depsOf
              rw [List.mem_filterMap]
              exact ⟨e, by simpa using he, by rw [hb]; rfl⟩
            simp only [opOk, Bool.and_eq_true, List.all_eq_true, decide_eq_true_eq] at hok
            have hlt := hok.1.1.2 _ hd
            exact ih _ hlt (by omega)
        rw [hr] at hmem
        cases hmem
  have fin : ∀ (listed : Array Bool) (a : Act) (w1 : World), OnWay Le (l.take n0) R a0 w (listed.extract 0 n0) a w1 → listed.size = l.length → (∀ k, k < n0 → listed.getD k false = true) → wpList P l.toArray Q (l.drop n0) a w1 := by
    intro listed a w1 inv hsz hall
    have hval := hfin w1 (fun j => match dstOf (l.take n0) j with | some d => a.tmps.getD d undef | none => undef) inv.le (fun i o hi hd => by
      obtain ⟨d, hd⟩ := Option.isSome_iff_exists.1 hd
      have : dstOf (l.take n0) i = some d := by simp only [dstOf, hi, Option.bind_some, hd]
      simp only [this]
      exact inv.known i o d hi (by rw [getX _ _ hsz (take_get hi).1]; exact hall i (take_get hi).1) hd)
    have e : a = putAll (fun j => match dstOf (l.take n0) j with | some d => a.tmps.getD d undef | none => undef) (l.take n0) 0 a0 := by
      refine act_ext (by rw [putAll_size, inv.tmps]) (by rw [putAll_defers, inv.defers]) fun t => ?_
      by_cases ht : ∃ (j : Nat) (o : Oper), (l.take n0)[j]? = some o ∧ o.dst = some t
      · obtain ⟨j, o, hj, hd⟩ := ht
        have hok := opOk_of hB hj
        have htn : t < n := by
          simp only [opOk, hd, Bool.and_eq_true, decide_eq_true_eq] at hok
          exact hok.1.1.1.2.1
        rw [putAll_at _ t (l.take n0) 0 a0 j o hj hd (by rw [hn]; exact htn) (fun j' o' hj' hne hd' => by
          have hok' := opOk_of hB hj'
          simp only [opOk, Bool.and_eq_true, List.all_eq_true] at hok'
          have h2 := hok'.2 j (List.mem_range.2 (List.getElem?_eq_some_iff.1 hj).1)
          have hdj : dstOf (l.take n0) j = some t := by simp only [dstOf, hj, Option.bind_some, hd]
          simp [hdj, hd', Ne.symm hne] at h2)]
        have hdj : dstOf (l.take n0) (0 + j) = some t := by rw [Nat.zero_add]; simp only [dstOf, hj, Option.bind_some, hd]
        simp only [hdj]
      · rw [putAll_other _ t (l.take n0) 0 a0 (fun o ho hd => ht (by
          obtain ⟨j, hj, e⟩ := List.getElem_of_mem ho
          exact ⟨j, o, by rw [List.getElem?_eq_getElem hj, e], hd⟩))]
        exact inv.rest t (fun j o hj _ hd => ht ⟨j, o, hj, hd⟩)
    rw [e]; exact hval
  have key : ∀ (f : Nat) (listed : Array Bool) (a : Act) (w1 : World), OnWay Le (l.take n0) R a0 w (listed.extract 0 n0) a w1 → HeadInv .any l.toArray n0 listed → cnt (fun k => listed.getD k false) n0 = f → wpAny P .any l.toArray Q (f + (l.length - n0)) listed a w1 := by
    intro f
    induction f with
    | zero =>
      intro listed a w1 inv hinv hc
      have hsz : listed.size = l.length := by rw [hinv.size, hsize]
      have hall := cnt_zero hc
      have hw := fin listed a w1 inv hsz hall
      have hld : listed = headDone l.length n0 := by
        apply Array.ext
        · simp [headDone, hsz]
        · intro k hk1 hk2
          have hkl : k < l.length := by omega
          by_cases hk : k < n0
          · have := hall k hk
            simp [hk1] at this
            simp [headDone, hk, this]
          · have := hinv.tail k (by omega) (by rw [hsize]; exact hkl)
            simp [hk1] at this
            simp [headDone, hk, this]
      have hdl : (l.drop n0).length = l.length - n0 := by simp
      have := wpAny_of_seq (P := P) (md := .any) (Q' := Q) (l.drop n0) n0 listed a w1 (fun j => by simp [List.getElem?_drop]) (by rw [hdl, hld]; exact hseq) hw
      rw [hdl] at this
      rw [Nat.zero_add]
      exact this
    | succ f ih =>
      intro listed a w1 inv hinv hc
      have hsz : listed.size = l.length := by rw [hinv.size, hsize]
      have hun : ∃ k, k < n0 ∧ listed.getD k false = false := by
        rcases Classical.em (∃ k, k < n0 ∧ listed.getD k false = false) with h | h
        · exact h
        · have hz : cnt (fun k => listed.getD k false) n0 = 0 := by
            have : cnt (fun k => listed.getD k false) n0 = cnt (fun _ => true) n0 := cnt_same fun k hk => by
              cases hx : listed.getD k false with
              | true => rfl
              | false => exact absurd ⟨k, hk, hx⟩ h
            rw [this]
            have : ∀ m, cnt (fun _ => true) m = 0 := fun m => by induction m with | zero => rfl | succ m ihm => simp [cnt, ihm]
            exact this n0
          omega
      obtain ⟨k0, hk0, hku⟩ := hun
      rw [show f + 1 + (l.length - n0) = (f + (l.length - n0)) + 1 by omega]
      refine ⟨fun hr => ?_, fun i hi => ?_⟩
      · have := allL listed hsz hr k0 hk0
        rw [hku] at this; cases this
      · have hin : i < n0 := by
          rcases Nat.lt_or_ge i n0 with h | h
          · exact h
          · exact absurd hi (tail_waits hsink hchain (by rw [hsize]; exact hn0) hinv (n0 - k0) k0 rfl hk0 (getD_in (by omega) hku) i h)
        obtain ⟨h1, o, ho, hdeps⟩ := mem_ready.1 hi
        have hil : l[i]? = some o := by simpa using ho
        have hio : (l.take n0)[i]? = some o := get_take hin hil
        have hls : i < listed.size := by omega
        have hunl : listed.getD i false = false := by simp [hls] at h1 ⊢; exact h1
        have hok := opOk_of hB hio
        have hdl : ∀ d ∈ depsOf o, listed.getD d false = true := by
          intro d hd
          unfold depsOf at hd
          obtain ⟨e, he, hb⟩ := List.mem_filterMap.1 hd
          split at hb
          · rename_i hbb
            cases hb
            exact hdeps e (by simpa using he) hbb
          · cases hb
        have hdlt : ∀ d ∈ depsOf o, d < n0 := by
          intro d hd
          simp only [opOk, Bool.and_eq_true, List.all_eq_true, decide_eq_true_eq] at hok
          have := hok.1.1.2 _ hd
          omega
        have hcnt : cnt (fun k => (listed.setIfInBounds i true).getD k false) n0 = f := by
          have := cnt_set (f := fun k => listed.getD k false) (g := fun k => (listed.setIfInBounds i true).getD k false) (i := i) (n := n0) hin hunl (fun k => by
            by_cases hk : i = k
            · subst hk; simp [hls]
            · have hk' : (k == i) = false := by simp; omega
              simp only [getD_set_ne false hk, hk', Bool.or_false])
          omega
        have hkn : ∀ t ∈ readsOf (l.take n0) o, knownOf (l.take n0) R a0 o t (a.eval (.tmp t)) w1 := by
          intro t ht
          show knownOf (l.take n0) R a0 o t (a.tmps.getD t undef) w1
          unfold knownOf
          cases hsrc : srcOf (l.take n0) o t with
          | some j =>
            have hj := List.mem_of_find?_eq_some hsrc
            have hjt := List.find?_some hsrc
            have hjd : dstOf (l.take n0) j = some t := by simpa using hjt
            unfold dstOf at hjd
            cases hlj : (l.take n0)[j]? with
            | none => rw [hlj] at hjd; simp at hjd
            | some oj =>
              rw [hlj] at hjd
              simp only [Option.bind_some] at hjd
              exact inv.known j oj t hlj (by rw [getX _ _ hsz (hdlt j hj)]; exact hdl j hj) hjd
          | none =>
            refine inv.rest t (fun j oj hlj hll hd => ?_)
            have hdj : dstOf (l.take n0) j = some t := by simp only [dstOf, hlj, Option.bind_some, hd]
            have hjn := (take_get hlj).1
            rw [getX _ _ hsz hjn] at hll
            have hne : j ≠ i := fun e => by subst e; rw [hunl] at hll; cases hll
            simp only [opOk, Bool.and_eq_true, List.all_eq_true] at hok
            have h2 := hok.2 j (List.mem_range.2 (List.getElem?_eq_some_iff.1 hlj).1)
            simp only [hdj, hlj] at h2
            have ht' : (readsOf (l.take n0) o).contains t = true := by simpa using ht
            simp [hne, ht] at h2
            rcases h2.2 with h3 | h3
            · have := List.find?_eq_none.1 hsrc j h3
              simp [hdj] at this
            · have := inv.closed j oj hlj (by rw [getX _ _ hsz hjn]; exact hll) i h3
              rw [getX _ _ hsz hin, hunl] at this; cases this
        have hsh := hs i o hio a.eval w1 ⟨fun _ => rfl, fun _ => rfl, fun _ => rfl⟩ inv.le (KnownAll.of hkn)
        have hwant : Region.wanted o (yielded l.toArray a.tmps) = wantedBy (l.take n0) o a.eval := by
          unfold Region.wanted wantedBy
          cases hg : o.guard with
          | none => rfl
          | some g =>
            obtain ⟨gj, gb⟩ := g
            simp only [yielded_eq]
            have hgd : gj ∈ depsOf o := by
              simp only [opOk, hg, Bool.and_eq_true] at hok
              have := hok.1.2.1
              simpa using this
            have : dstOf (l.take n0) gj = dstOf l gj := by
              unfold dstOf
              rw [List.getElem?_take, if_pos (hdlt gj hgd)]
            rw [this]
            rfl
        have step : ∀ v w2, Le w1 w2 → R i v w2 → wpAny P .any l.toArray Q (f + (l.length - n0)) (listed.setIfInBounds i true) (a.put o.dst v) w2 := by
          intro v w2 hle hv
          refine ih _ _ _ ?_ (hinv.set hi hin) hcnt
          rw [setX listed i hsz hin]
          have hset : ∀ j, j < n0 → ((listed.extract 0 n0).setIfInBounds i true).getD j false = true → j = i ∨ (listed.extract 0 n0).getD j false = true := fun j _ h => listed_set h
          refine ⟨by simp [inv.size], htrans _ _ _ inv.le hle, by rw [put_defers, inv.defers], by rw [put_size, inv.tmps], ?_, ?_, ?_⟩
          · intro j oj hj hl d hd
            rcases listed_set hl with rfl | hl
            · rw [hio] at hj; cases hj
              exact getD_set_true (by rw [getX _ _ hsz (hdlt d hd)]; exact hdl d hd)
            · exact getD_set_true (inv.closed j oj hj hl d hd)
          · intro j oj d hj hl hd
            rcases listed_set hl with rfl | hl2
            · rw [hio] at hj; cases hj
              have hdn : d < n := by
                simp only [opOk, hd, Bool.and_eq_true, decide_eq_true_eq] at hok
                exact hok.1.1.1.2.1
              rw [hd, put_same _ _ _ (by rw [inv.tmps, hn]; exact hdn)]
              exact hv
            · by_cases hji : j = i
              · subst hji; rw [getX _ _ hsz hin, hunl] at hl2; cases hl2
              · rw [put_other _ _ _ _ (fun hd' => by
                  simp only [opOk, Bool.and_eq_true, List.all_eq_true] at hok
                  have h2 := hok.2 j (List.mem_range.2 (List.getElem?_eq_some_iff.1 hj).1)
                  have hdj : dstOf (l.take n0) j = some d := by simp only [dstOf, hj, Option.bind_some, hd]
                  simp [hdj, hd', hji] at h2)]
                exact hst j _ _ _ (inv.known j oj d hj hl2 hd) hle
          · intro t ht
            have hii : i < (listed.extract 0 n0).size := by simp; omega
            have h1 : o.dst ≠ some t := ht i o hio (by simp at hii; simp; omega)
            rw [put_other _ _ _ _ h1]
            exact inv.rest t (fun j oj hj hl => ht j oj hj (getD_set_true hl))
        unfold wpOp
        simp only [ho, hwant]
        split
        · rename_i hw
          rw [hw] at hsh
          simp only [if_true] at hsh
          left
          unfold Oper.wp
          generalize (execOp a.eval o).run P w1 = r at hsh
          cases r with
          | halt x w' => exact hsh.elim
          | ok nx w' =>
            cases nx with
            | value v => exact step v w' hsh.1 hsh.2
            | skip => exact step undef w' hsh.1 hsh.2
            | enter f args =>
              obtain ⟨h2, h3⟩ := hsh
              exact h3.mono fun e w'' ⟨v, he, hle, hv⟩ => by subst he; exact step v w'' (htrans _ _ _ h2 hle) hv
            | _ => exact hsh.elim
        · rename_i hw
          simp only [Bool.not_eq_true] at hw
          rw [hw] at hsh
          exact step undef w1 (hrefl _) (by simpa using hsh)
  refine wp_region_any hm ?_
  have inv0 : HeadInv .any l.toArray n0 (Array.replicate l.toArray.size false) :=
    ⟨by simp, fun j oj _ hl => (by rw [Go.getD_replicate_false] at hl; cases hl), fun t _ ht => getD_in (by simpa using ht) (Go.getD_replicate_false _ _)⟩
  have hgx : ∀ j, ((Array.replicate l.toArray.size false).extract 0 n0).getD j false = false := by
    intro j
    by_cases hj : j < n0
    · rw [getX _ _ (by simp) hj]; exact Go.getD_replicate_false _ _
    · simp
      rw [← Array.getD_eq_getD_getElem?]
      exact Go.getD_replicate_false _ _
  have hc0 : cnt (fun k => (Array.replicate l.toArray.size false).getD k false) n0 = n0 := by
    have : cnt (fun k => (Array.replicate l.toArray.size false).getD k false) n0 = cnt (fun _ => false) n0 := cnt_same fun k _ => Go.getD_replicate_false _ _
    rw [this]
    have : ∀ m, cnt (fun _ => false) m = m := fun m => by induction m with | zero => rfl | succ m ihm => simp [cnt, ihm]
    exact this n0
  have := key n0 (Array.replicate l.toArray.size false) a0 w.drew ⟨by simp, hdrew w, rfl, rfl, fun j o _ hl => (by rw [hgx] at hl; cases hl), fun j o d _ hl => (by rw [hgx] at hl; cases hl), fun _ _ => rfl⟩ inv0 hc0
  rw [show n0 + (l.length - n0) = l.toArray.size by rw [hsize]; omega] at this
  exact this
theorem region_tail_gr {id : Nat} {Q : Exit → Act → World → Prop} {a0 : Act} {w : World} {l : List Oper} (n0 n : Nat) (Rs : List (Value → World → Prop))
    (hm : P.follows .mixedOrders = true) (hB : anyB (l.take n0) n = true) (hT : tailB l n0 = true) (hd : (l.take n0).all (·.dst.isSome) = true) (hlen : Rs.length = (l.take n0).length) (hn : a0.tmps.size = n) (hst : AllStable Gr Rs)
    (hs : AllShown P Gr (l.take n0) Rs a0 w (l.take n0) 0) (hfin : ∀ w1 val, Gr w w1 → Holds val w1 Rs 0 → wpList P l.toArray Q (l.drop n0) (putAll val (l.take n0) 0 a0) w1) : (Code.region id l.toArray true).wp P Q a0 w :=
  region_any_tail Gr.refl (fun _ _ _ => Gr.trans) Gr.drew n0 n (nth Rs) hm hB hT hn (fun i v w1 w2 => hst.get i v w1 w2) (fun i o hi => by simpa using hs.get i o hi)
    (fun w1 val hg h => hfin w1 val hg (Holds.of fun i hi => by
      have hi' : i < (l.take n0).length := by omega
      rw [Nat.zero_add]
      exact h i (l.take n0)[i] (by rw [List.getElem?_eq_getElem hi']) (List.all_eq_true.1 hd _ (List.getElem_mem hi'))))
end
end Go.Proofs.Ytnafhjgfkofkbaa
/- An append to a slice that the call owns, within a region that draws its order: whatever is done beside. No program is in sight here. -/
namespace Go.Proofs.Ytnafhjgfkofkbaa
set_option linter.unusedVariables false
set_option linter.unusedSimpArgs false
open Go.RowKit
section
variable {P : Program}
/-- what append leaves of a block that has room -/
def appRow (n : Nat) (news : List Value) : Option Obj → Option Obj
  | some (.cells cur e fr) => some (.cells (cur.toList.take n ++ news ++ cur.toList.drop (n + news.length)).toArray e fr)
  | o => o
theorem appRow_idem (n : Nat) (news : List Value) (cur : Array Value) (e : TypeId) (fr : Nat × Nat) (h : n + news.length ≤ cur.size) :
    appRow n news (appRow n news (some (.cells cur e fr))) = appRow n news (some (.cells cur e fr)) := by
  simp only [appRow]
  have hn : (cur.toList.take n).length = n := by simp; omega
  have e1 : (cur.toList.take n ++ news ++ cur.toList.drop (n + news.length)).take n = cur.toList.take n := by
    rw [List.append_assoc]
    have := List.take_left (l₁ := cur.toList.take n) (l₂ := news ++ cur.toList.drop (n + news.length))
    rwa [hn] at this
  have e2 : (cur.toList.take n ++ news ++ cur.toList.drop (n + news.length)).drop (n + news.length) = cur.toList.drop (n + news.length) := by
    have := List.drop_left (l₁ := cur.toList.take n ++ news) (l₂ := cur.toList.drop (n + news.length))
    rwa [show (cur.toList.take n ++ news).length = n + news.length by rw [List.length_append, hn]] at this
  rw [e1, e2]
/-- a block may become another one, just once -/
def Once (row : Option Nat) (A B : Option Obj) (w w' : World) : Prop := w.grownBy w' row ∧ ∀ g, row = some g → w'.heap[g]? = w.heap[g]? ∨ (w.heap[g]? = A ∧ w'.heap[g]? = B)
section
variable {row : Option Nat} {A B : Option Obj}
theorem Once.refl (w : World) : Once row A B w w := ⟨(Gr.refl w).far, fun _ _ => .inl rfl⟩
theorem Once.trans {a b c : World} (h : Once row A B a b) (k : Once row A B b c) : Once row A B a c :=
  ⟨grown_trans h.1 k.1, fun g hg => by
    rcases h.2 g hg with h1 | ⟨h1, h2⟩ <;> rcases k.2 g hg with k1 | ⟨k1, k2⟩
    · exact .inl (k1.trans h1)
    · exact .inr ⟨h1 ▸ k1, k2⟩
    · exact .inr ⟨h1, k1.trans h2⟩
    · exact .inr ⟨h1, k2⟩⟩
theorem Once.drew (w : World) : Once row A B w w.drew := ⟨grown_drew w row, fun _ _ => .inl rfl⟩
theorem Gr.once {w w' : World} (h : Gr w w') (hr : ∀ g, row = some g → g < w.heap.size) : Once row A B w w' := ⟨h.far, fun g hg => .inl (h.block g (hr g hg))⟩
theorem Once.size {w w' : World} (h : Once row A B w w') : w.heap.size ≤ w'.heap.size := h.1.size
theorem Once.cell {w w' : World} (h : Once row A B w w') {p : Addr} {v : Value} (hp : w.cell? p = some v) (hne : some p.block ≠ row) : w'.cell? p = some v := by
  have := h.1.block p.block (World.block_lt_of_cell? w p hp) hne
  unfold World.cell? at hp ⊢
  rw [this]; exact hp
theorem Once.owns {w w' : World} (h : Once row A B w w') {base : Nat} {e : TypeId} {size : Nat} {ad : Option Addr} {cap n : Nat} {xs : List Value} (ho : Owns w base e size ad cap n xs)
    (hne : ∀ a, ad = some a → some a.block ≠ row) : Owns w' base e size ad cap n xs := ho.grown h.1 hne
theorem Once.bytes {w w' : World} (h : Once row A B w w') {ad : Option Addr} {l : List UInt8} (hb : Bytes w ad l) (hne : ∀ a, ad = some a → some a.block ≠ row) : Bytes w' ad l := fun i hi => by
  obtain ⟨b, off, e, hc⟩ := hb i hi
  exact ⟨b, off, e, h.cell hc (show some b ≠ row from hne ⟨b, off, none⟩ e)⟩
@[go_sem] theorem once_refl (w : World) : Once row A B w w ↔ True := ⟨fun _ => trivial, fun _ => Once.refl w⟩
theorem region_tail_once {id : Nat} {Q : Exit → Act → World → Prop} {a0 : Act} {w : World} {l : List Oper} (row : Option Nat) (A B : Option Obj) (n0 n : Nat) (Rs : List (Value → World → Prop))
    (hm : P.follows .mixedOrders = true) (hB : anyB (l.take n0) n = true) (hT : tailB l n0 = true) (hd : (l.take n0).all (·.dst.isSome) = true) (hlen : Rs.length = (l.take n0).length) (hn : a0.tmps.size = n) (hst : AllStable (Once row A B) Rs)
    (hs : AllShown P (Once row A B) (l.take n0) Rs a0 w (l.take n0) 0) (hfin : ∀ w1 val, Once row A B w w1 → Holds val w1 Rs 0 → wpList P l.toArray Q (l.drop n0) (putAll val (l.take n0) 0 a0) w1) : (Code.region id l.toArray true).wp P Q a0 w :=
  region_any_tail Once.refl (fun _ _ _ => Once.trans) Once.drew n0 n (nth Rs) hm hB hT hn (fun i v w1 w2 => hst.get i v w1 w2) (fun i o hi => by simpa using hs.get i o hi)
    (fun w1 val hg h => hfin w1 val hg (Holds.of fun i hi => by
      have hi' : i < (l.take n0).length := by omega
      rw [Nat.zero_add]
      exact h i (l.take n0)[i] (by rw [List.getElem?_eq_getElem hi']) (List.all_eq_true.1 hd _ (List.getElem_mem hi'))))
/-- bytes that were made since -/
def MadeB (base : Nat) (e : TypeId) (l : List UInt8) : Value → World → Prop := fun v w => ∃ ad cap, v = .slice ad l.length cap ∧ Owns w base e 1 ad cap l.length (bv l)
theorem MadeB.stable {base : Nat} {e : TypeId} {l : List UInt8} (h : ∀ g, row = some g → g < base) : Stable (Once row A B) (MadeB base e l) := by
  rintro v w1 w2 ⟨ad, cap, rfl, ho⟩ k
  exact ⟨ad, cap, rfl, k.owns ho fun a ha hr => by have := (ho.lt a ha).1; have := h _ hr.symm; omega⟩
/-- what the slice of the append is known to be -/
def Apd (row : Option Nat) (B : Option Obj) (base : Nat) (e : TypeId) (size n : Nat) (xs : List Value) : Value → World → Prop := fun v w =>
  ∃ ad cap, v = .slice ad n cap ∧ Owns w base e size ad cap n xs ∧ ∀ a, ad = some a → some a.block = row → w.heap[a.block]? = B
theorem Apd.stable (base : Nat) (e : TypeId) (size n : Nat) (xs : List Value) : Stable (Once row A B) (Apd row B base e size n xs) := by
  rintro v w1 w2 ⟨ad, cap, rfl, ho, hb⟩ h
  have key : ∀ g, ad = some ⟨g, 0, .none⟩ → w2.heap[g]? = w1.heap[g]? := by
    intro g hg
    by_cases hr : some g = row
    · have h1 := hb _ hg hr
      rcases h.2 g hr.symm with h2 | ⟨_, h2⟩
      · exact h2
      · rw [h2]; exact h1.symm
    · exact h.1.block g (ho.lt _ hg).2 hr
  refine ⟨ad, cap, rfl, ho.kept key, fun a ha hr => ?_⟩
  obtain ⟨_, _, _, ⟨e1, _⟩ | ⟨g, cur, fr, e1, _⟩⟩ := ho
  · rw [e1] at ha; cases ha
  · rw [e1] at ha; cases ha
    rw [key g e1]; exact hb _ e1 hr
/-- the same, and where it lies: in the row, or in a block that was made since -/
def Apn (row : Option Nat) (B : Option Obj) (base : Nat) (e : TypeId) (size n : Nat) (xs : List Value) (N : Nat) : Value → World → Prop := fun v w =>
  ∃ ad cap, v = .slice ad n cap ∧ Owns w base e size ad cap n xs ∧ (∀ a, ad = some a → some a.block = row → w.heap[a.block]? = B) ∧ ∀ a, ad = some a → some a.block = row ∨ N ≤ a.block
theorem Apn.stable (base : Nat) (e : TypeId) (size n : Nat) (xs : List Value) (N : Nat) : Stable (Once row A B) (Apn row B base e size n xs N) := by
  rintro v w1 w2 ⟨ad, cap, rfl, ho, hb, hn⟩ h
  obtain ⟨ad', cap', he, ho', hb'⟩ := Apd.stable (A := A) base e size n xs (.slice ad n cap) w1 w2 ⟨ad, cap, rfl, ho, hb⟩ h
  cases he
  exact ⟨ad, cap, rfl, ho', hb', hn⟩
end
/-- append, and what it does to the block itself -/
theorem run_append_at {t u ty e : TypeId} {z : Value} {size bytes : Nat} (E : Elem P t e z size bytes) {w : World} {base : Nat} {ad : Option Addr} {cap n : Nat} {xs : List Value}
    (hown : Owns w base e size ad cap n xs) {x : Value} {m : Nat} {news : List Value} (hx : Src P u w size x m news)
    (h63 : n + m ≤ maxLen) (hbytes : (n + m) * bytes ≤ 140737488355328) (hbase : base ≤ w.heap.size) :
    ∃ ad' cap' w', (Builtin.append_ #[t, u] ty #[.slice ad n cap, x]).run P w = .ok (.slice ad' (n + m) cap') w' ∧ Owns w' base e size ad' cap' (n + m) (xs ++ news) ∧
      w.grownBy w' (ad.map (·.block)) ∧ (∀ a, ad' = some a → ad = some a ∨ w.heap.size ≤ a.block) ∧
      (∀ g, ad = some ⟨g, 0, .none⟩ → (n + m ≤ cap ∧ w'.heap[g]? = appRow (n * size) news w.heap[g]?) ∨ (w'.heap[g]? = w.heap[g]? ∧ ∀ a, ad' = some a → a.block ≠ g)) := by
  obtain ⟨ad', cap', w', h1, h2, h3, h4⟩ := run_append (ty := ty) E hown hx h63 hbytes hbase
  refine ⟨ad', cap', w', h1, h2, h3, h4, fun g hg => ?_⟩
  have hglt := (hown.lt _ hg).2
  obtain ⟨ht, hinfo, hzs, hpos⟩ := E
  obtain ⟨i, hi, hz, hsize, hby⟩ := info_parts hinfo
  subst hsize
  subst hby
  obtain ⟨d, hd, hdd⟩ : ∃ d, P.underlying u = some d ∧ (d = .string ∨ ∃ e', d = .slice e') := by
    obtain ⟨_, _, ⟨_, _, e', _, _, hu⟩ | ⟨_, _, _, _, _, hu⟩⟩ := hx
    · exact ⟨_, hu, .inr ⟨e', rfl⟩⟩
    · exact ⟨_, hu, .inl rfl⟩
  have hlen := hx.lenOf (P := P) w
  have hfirst := hx.first
  have hxl := hx.1
  have h1c := hx.2.1
  obtain ⟨hl, hnc, hcm, hcase⟩ := hown
  subst hg
  by_cases hroom : n + m ≤ cap
  · left
    refine ⟨hroom, ?_⟩
    rcases hcase with ⟨h, _⟩ | ⟨g', cur, fr, e1, hbg, hg, hfr, hcs, htake⟩
    · cases h
    · cases e1
      have hfit : n * i.size + 0 + news.length ≤ cur.size := by rw [hxl, hcs, Nat.add_zero, ← Nat.add_mul]; exact Nat.mul_le_mul_right _ hroom
      have hst := run_storeCells_un (P := P) g (n * i.size) e fr news 0 cur w hg hfr hfit h1c
      simp only [Nat.add_zero] at hst
      have hr : (Builtin.append_ #[t, u] ty #[.slice (some ⟨g, 0, .none⟩) n cap, x]).run P w = .ok (.slice (some ⟨g, 0, .none⟩) (n + m) cap) (w.setRow g (cur.toList.take (n * i.size) ++ news ++ cur.toList.drop (n * i.size + news.length)).toArray) := by
        rcases hdd with rfl | ⟨e', rfl⟩ <;> simp [Builtin.append_, run_underlying ht, run_underlying hd, sizeOf, typeInfo, hi, hlen, hroom, hfirst, Addr.add_lit, hst]
      rw [hr] at h1
      cases h1
      rw [hg, setRow_heap w g cur _ e fr hg]
      rfl
  · right
    rcases hcase with ⟨h, _⟩ | ⟨g', cur, fr, e1, hbg, hg, hfr, hcs, htake⟩
    · cases h
    · cases e1
      have hold : (Builtin.firstCells i.size n (.slice (some ⟨g, 0, .none⟩) n cap)).run P w.drew = .ok xs.toArray w.drew := by
        have hrow : Row w (some ⟨g, 0, .none⟩) xs := Owns.row (base := base) (e := e) (size := i.size) (cap := cap) (n := n) ⟨hl, hnc, hcm, .inr ⟨g, cur, fr, rfl, hbg, hg, hfr, hcs, htake⟩⟩
        refine run_firstCells_some (P := P) w.drew i.size n _ n cap xs hl ?_
        intro j v hj
        obtain ⟨b, off, hh, hc⟩ := hrow j v hj
        cases hh
        have hadd : (⟨g, 0, none⟩ : Addr).add j = ⟨g, 0 + j, none⟩ := by unfold Addr.add; split <;> simp_all
        rw [hadd]; exact hc
      have hfirst' := (hx.gr (Gr.drew w)).first
      have hnr : ¬ (n + m ≤ cap) := hroom
      have h63' : ¬ (9223372036854775807 < ((n : Int) + (m : Int))) := by unfold maxLen at h63; omega
      have hfit := growslice_fits (need := n + m) (old := cap) (bytes := i.bytes) (by omega) hbytes
      have h48' : ¬ (281474976710656 < Builtin.nextslicecap (n + m) cap * i.bytes) := by omega
      have hr : ∃ o, (Builtin.append_ #[t, u] ty #[.slice (some ⟨g, 0, .none⟩) n cap, x]).run P w = .ok (.slice (some ⟨w.heap.size, 0, .none⟩) (n + m) (grownCap w (n + m) cap e)) (w.drew.alloc o) := by
        refine ⟨.cells (xs.toArray ++ news.toArray ++ Builtin.zeroCells z.cells (grownCap w (n + m) cap e - (n + m))) e, ?_⟩
        rcases hdd with rfl | ⟨e', rfl⟩ <;> simp [Builtin.append_, run_underlying ht, run_underlying hd, sizeOf, typeInfo, zeroValue, hi, hz, hlen, hnr, h63', h48', Question.forced, hfirst', hold, newRow, grownCap]
        all_goals (congr 2; apply Array.ext'; simp [List.append_assoc])
      obtain ⟨o, hr⟩ := hr
      rw [hr] at h1
      cases h1
      exact ⟨Below.heap_alloc w.drew _ g hglt, fun a ha => by cases ha; exact Nat.ne_of_gt hglt⟩
/-- THE STEP of such an append: whatever is done beside it -/
theorem append_once2 {t u e : TypeId} {z : Value} {size bytes : Nat} (E : Elem P t e z size bytes) {w0 w : World} {base : Nat} {ad : Option Addr} {cap n : Nat} {xs : List Value}
    (hown : Owns w0 base e size ad cap n xs) {x : Value} {m : Nat} {news : List Value} {row : Option Nat} (hrow : row = ad.map (·.block))
    {A B : Option Obj} (hA : ∀ g, row = some g → A = w0.heap[g]?) (hB : B = if n + m ≤ cap then appRow (n * size) news A else A)
    (hle : Once row A B w0 w) (hx : Src P u w size x m news)
    (h63 : n + m ≤ maxLen) (hbytes : (n + m) * bytes ≤ 140737488355328) (hbase : base ≤ w0.heap.size) {ty : TypeId} :
    ∃ v w', (Builtin.append_ #[t, u] ty #[.slice ad n cap, x]).run P w = .ok v w' ∧ Once row A B w w' ∧ Apn row B base e size (n + m) (xs ++ news) w0.heap.size v w' := by
  have hwOwn : Owns w base e size ad cap n xs ∧ ∀ g, row = some g → n + m ≤ cap → appRow (n * size) news w.heap[g]? = B := by
    obtain ⟨h1, h2, h3, ⟨e1, e2, e3⟩ | ⟨g, cur, fr, e1, e2, hg, hfr, hs, ht⟩⟩ := hown
    · subst e1
      exact ⟨⟨h1, h2, h3, .inl ⟨rfl, e2, e3⟩⟩, fun g hg => by rw [hrow] at hg; cases hg⟩
    · subst e1
      have hr : row = some g := hrow
      have hAg := hA g hr
      rw [hg] at hAg
      rcases hle.2 g hr with h | ⟨_, h⟩
      · rw [hg] at h
        refine ⟨⟨h1, h2, h3, .inr ⟨g, cur, fr, rfl, e2, h, hfr, hs, ht⟩⟩, fun g' hg' hrm => ?_⟩
        rw [hr] at hg'; cases hg'
        rw [h, hB, if_pos hrm, hAg]
      · have hnc : n * size ≤ cur.size := by rw [hs]; exact Nat.mul_le_mul_right _ h2
        have hlen : (cur.toList.take (n * size)).length = n * size := by simp; omega
        have htk : (cur.toList.take (n * size) ++ news ++ cur.toList.drop (n * size + news.length)).take (n * size) = xs := by
          rw [List.append_assoc]
          have := List.take_left (l₁ := cur.toList.take (n * size)) (l₂ := news ++ cur.toList.drop (n * size + news.length))
          rw [hlen] at this
          rw [this, ht]
        by_cases hroom : n + m ≤ cap
        · rw [hB, if_pos hroom, hAg] at h
          have hfit : n * size + news.length ≤ cur.size := by rw [hx.1, hs, ← Nat.add_mul]; exact Nat.mul_le_mul_right _ hroom
          have hsz : (cur.toList.take (n * size) ++ news ++ cur.toList.drop (n * size + news.length)).toArray.size = cur.size := by simp; omega
          refine ⟨⟨h1, h2, h3, .inr ⟨g, _, fr, rfl, e2, h, by rw [hsz]; exact hfr, by rw [hsz]; exact hs, htk⟩⟩, fun g' hg' _ => ?_⟩
          rw [hr] at hg'; cases hg'
          rw [h, hB, if_pos hroom, hAg]
          exact appRow_idem _ _ _ _ _ hfit
        · rw [hB, if_neg hroom, hAg] at h
          exact ⟨⟨h1, h2, h3, .inr ⟨g, cur, fr, rfl, e2, h, hfr, hs, ht⟩⟩, fun g' hg' hrm => absurd hrm hroom⟩
  obtain ⟨ho, hBw⟩ := hwOwn
  obtain ⟨ad', cap', w', r1, r2, r3, r4, r5⟩ := run_append_at (u := u) (ty := ty) E ho hx h63 hbytes (Nat.le_trans hbase hle.size)
  refine ⟨_, w', r1, ⟨hrow ▸ r3, ?_⟩, ad', cap', rfl, r2, ?_, fun a ha => ?_⟩
  · intro g hg
    have had : ad = some ⟨g, 0, .none⟩ := by
      rw [hrow] at hg
      obtain ⟨_, _, _, ⟨e1, _⟩ | ⟨g', cur, fr, e1, _⟩⟩ := ho
      · rw [e1] at hg; cases hg
      · rw [e1] at hg ⊢; cases hg; rfl
    rcases r5 g had with ⟨hrm, h⟩ | ⟨h, _⟩
    · rw [hBw g hg hrm] at h
      rcases hle.2 g hg with h2 | ⟨_, h2⟩
      · exact .inr ⟨h2.trans (hA g hg).symm, h⟩
      · exact .inl (h.trans h2.symm)
    · exact .inl h
  · intro a ha hg
    have had : ad = some ⟨a.block, 0, .none⟩ := by
      rw [hrow] at hg
      obtain ⟨_, _, _, ⟨e1, _⟩ | ⟨g', cur, fr, e1, _⟩⟩ := ho
      · rw [e1] at hg; cases hg
      · rw [e1] at hg ⊢; cases hg; rfl
    rcases r5 a.block had with ⟨hrm, h⟩ | ⟨_, h⟩
    · rw [h]; exact hBw _ hg.symm hrm
    · exact absurd rfl (h a ha)
  · rcases r4 a ha with h | h
    · exact .inl (by rw [hrow, h]; rfl)
    · exact .inr (Nat.le_trans hle.size h)
theorem append_once {t u e : TypeId} {z : Value} {size bytes : Nat} (E : Elem P t e z size bytes) {w0 w : World} {base : Nat} {ad : Option Addr} {cap n : Nat} {xs : List Value}
    (hown : Owns w0 base e size ad cap n xs) {x : Value} {m : Nat} {news : List Value} {row : Option Nat} (hrow : row = ad.map (·.block))
    {A B : Option Obj} (hA : ∀ g, row = some g → A = w0.heap[g]?) (hB : B = if n + m ≤ cap then appRow (n * size) news A else A)
    (hle : Once row A B w0 w) (hx : Src P u w size x m news)
    (h63 : n + m ≤ maxLen) (hbytes : (n + m) * bytes ≤ 140737488355328) (hbase : base ≤ w0.heap.size) {ty : TypeId} :
    ∃ v w', (Builtin.append_ #[t, u] ty #[.slice ad n cap, x]).run P w = .ok v w' ∧ Once row A B w w' ∧ Apd row B base e size (n + m) (xs ++ news) v w' := by
  obtain ⟨v, w', h1, h2, ad', cap', h3, h4, h5, _⟩ := append_once2 (ty := ty) E hown hrow hA hB hle hx h63 hbytes hbase
  exact ⟨v, w', h1, h2, ad', cap', h3, h4, h5⟩
end
end Go.Proofs.Ytnafhjgfkofkbaa
/- A region that draws its order, and stores somewhere on the way: what each operation shows is kept, a store's too. No program is in sight here. -/
namespace Go.Proofs.Ytnafhjgfkofkbaa
set_option linter.unusedVariables false
set_option linter.unusedSimpArgs false
open Go.RowKit
section
variable {P : Program}
/-- what holds on the way -/
structure OnWayS (Le : World → World → Prop) (ops : List Oper) (R : Nat → Value → World → Prop) (a0 : Act) (w0 : World) (listed : Array Bool) (a : Act) (w : World) : Prop where
  size : listed.size = ops.length
  le : Le w0 w
  defers : a.defers = a0.defers
  tmps : a.tmps.size = a0.tmps.size
  closed : ∀ j o, ops[j]? = some o → listed.getD j false = true → ∀ d ∈ depsOf o, listed.getD d false = true
  known : ∀ j o, ops[j]? = some o → listed.getD j false = true → ∃ v, R j v w ∧ ∀ d, o.dst = some d → a.tmps.getD d undef = v
  rest : ∀ t, (∀ j o, ops[j]? = some o → listed.getD j false = true → o.dst ≠ some t) → a.tmps.getD t undef = a0.tmps.getD t undef

theorem region_any_store {Le : World → World → Prop} (hrefl : ∀ w, Le w w) (htrans : ∀ a b c, Le a b → Le b c → Le a c) (hdrew : ∀ w, Le w w.drew) {id : Nat} {Q : Exit → Act → World → Prop} {a0 : Act} {w : World} {l : List Oper} (n : Nat) (R : Nat → Value → World → Prop)
    (hm : P.follows .mixedOrders = true) (hB : anyB l n = true) (hn : a0.tmps.size = n) (hst : ∀ i v w1 w2, R i v w1 → Le w1 w2 → R i v w2)
    (hs : ∀ i o, l[i]? = some o → Shown P Le l R a0 w i o)
    (hfin : ∀ w1 val, Le w w1 → (∀ i o, l[i]? = some o → ∃ v, R i v w1 ∧ (o.dst.isSome = true → val i = v)) → Q .normal (putAll val l 0 a0) w1) : (Code.region id l.toArray true).wp P Q a0 w := by
  have hsize : l.toArray.size = l.length := by simp
  have allL : ∀ (listed : Array Bool), listed.size = l.length → Region.ready .any l.toArray listed = [] → ∀ k, k < l.length → listed.getD k false = true := by
    intro listed hls hr k
    induction k using Nat.strongRecOn with
    | _ k ih =>
      intro hk
      cases hc : listed.getD k false with
      | true => rfl
      | false =>
        exfalso
        have hok := opOk_of hB (i := k) (o := l[k]) (by simp [hk])
        have hmem : k ∈ Region.ready .any l.toArray listed := by
          rw [mem_ready]
          refine ⟨?_, l[k], by simp [hk], fun e he hb => ?_⟩
          · have : k < listed.size := by omega
            simp [this] at hc ⊢; exact hc
          · have hd : e.on ∈ depsOf l[k] := by
              unfold depsOf
              rw [List.mem_filterMap]
              exact ⟨e, by simpa using he, by rw [hb]; rfl⟩
            simp only [opOk, Bool.and_eq_true, List.all_eq_true, decide_eq_true_eq] at hok
            have hlt := hok.1.1.2 _ hd
            exact ih _ hlt (by omega)
        rw [hr] at hmem
        cases hmem
  have fin : ∀ (listed : Array Bool) (a : Act) (w1 : World), OnWayS Le l R a0 w listed a w1 → (∀ k, k < l.length → listed.getD k false = true) → Q .normal a w1 := by
    intro listed a w1 inv hall
    have hval := hfin w1 (fun j => match dstOf l j with | some d => a.tmps.getD d undef | none => undef) inv.le (fun i o hi => by
      obtain ⟨v, hv, he⟩ := inv.known i o hi (hall i (List.getElem?_eq_some_iff.1 hi).1)
      refine ⟨v, hv, fun hd => ?_⟩
      obtain ⟨d, hd⟩ := Option.isSome_iff_exists.1 hd
      have : dstOf l i = some d := by simp [dstOf, hi, hd]
      simp only [this]
      exact he d hd)
    have e : a = putAll (fun j => match dstOf l j with | some d => a.tmps.getD d undef | none => undef) l 0 a0 := by
      refine act_ext (by rw [putAll_size, inv.tmps]) (by rw [putAll_defers, inv.defers]) fun t => ?_
      by_cases ht : ∃ (j : Nat) (o : Oper), l[j]? = some o ∧ o.dst = some t
      · obtain ⟨j, o, hj, hd⟩ := ht
        have hok := opOk_of hB hj
        have htn : t < n := by
          simp only [opOk, hd, Bool.and_eq_true, decide_eq_true_eq] at hok
          exact hok.1.1.1.2.1
        rw [putAll_at _ t l 0 a0 j o hj hd (by rw [hn]; exact htn) (fun j' o' hj' hne hd' => by
          have hok' := opOk_of hB hj'
          simp only [opOk, Bool.and_eq_true, List.all_eq_true] at hok'
          have h2 := hok'.2 j (List.mem_range.2 (List.getElem?_eq_some_iff.1 hj).1)
          have hdj : dstOf l j = some t := by simp [dstOf, hj, hd]
          simp [hdj, hd', Ne.symm hne] at h2)]
        have hdj : dstOf l (0 + j) = some t := by simp [dstOf, hj, hd]
        simp only [hdj]
      · rw [putAll_other _ t l 0 a0 (fun o ho hd => ht (by
          obtain ⟨j, hj, e⟩ := List.getElem_of_mem ho
          exact ⟨j, o, by simp [hj, e], hd⟩))]
        exact inv.rest t (fun j o hj _ hd => ht ⟨j, o, hj, hd⟩)
    rw [e]; exact hval
  have key : ∀ (fuel : Nat) (listed : Array Bool) (a : Act) (w1 : World), OnWayS Le l R a0 w listed a w1 → cnt (fun k => listed.getD k false) l.length ≤ fuel → wpAny P .any l.toArray Q fuel listed a w1 := by
    intro fuel
    induction fuel with
    | zero =>
      intro listed a w1 inv hc
      have hall := cnt_zero (by omega : cnt (fun k => listed.getD k false) l.length = 0)
      refine ⟨?_, fin listed a w1 inv hall⟩
      rw [List.eq_nil_iff_forall_not_mem]
      intro j hj
      obtain ⟨h1, o, ho, _⟩ := mem_ready.1 hj
      have hlt : j < l.length := by
        have := (Array.getElem?_eq_some_iff.1 ho).1
        simpa using this
      have h2 := hall j hlt
      have : j < listed.size := by rw [inv.size]; exact hlt
      simp [this] at h1 h2
      rw [h1] at h2; cases h2
    | succ fuel ih =>
      intro listed a w1 inv hc
      refine ⟨fun hr => fin listed a w1 inv (allL listed inv.size hr), fun i hi => ?_⟩
      obtain ⟨h1, o, ho, hdeps⟩ := mem_ready.1 hi
      have hio : l[i]? = some o := by simpa using ho
      have hlt : i < l.length := (List.getElem?_eq_some_iff.1 hio).1
      have hls : i < listed.size := by rw [inv.size]; exact hlt
      have hun : listed.getD i false = false := by simp [hls] at h1 ⊢; exact h1
      have hok := opOk_of hB hio
      have hdl : ∀ d ∈ depsOf o, listed.getD d false = true := by
        intro d hd
        unfold depsOf at hd
        obtain ⟨e, he, hb⟩ := List.mem_filterMap.1 hd
        split at hb
        · rename_i hbb
          cases hb
          exact hdeps e (by simpa using he) hbb
        · cases hb
      have hcnt : cnt (fun k => (listed.setIfInBounds i true).getD k false) l.length ≤ fuel := by
        have := cnt_set (f := fun k => listed.getD k false) (g := fun k => (listed.setIfInBounds i true).getD k false) (i := i) (n := l.length) hlt hun (fun k => by
          by_cases hk : i = k
          · subst hk; simp [hls]
          · have hk' : (k == i) = false := by simp; omega
            simp only [getD_set_ne false hk, hk', Bool.or_false])
        omega
      have hkn : ∀ t ∈ readsOf l o, knownOf l R a0 o t (a.eval (.tmp t)) w1 := by
        intro t ht
        show knownOf l R a0 o t (a.tmps.getD t undef) w1
        unfold knownOf
        cases hsrc : srcOf l o t with
        | some j =>
          have hj := List.mem_of_find?_eq_some hsrc
          have hjt := List.find?_some hsrc
          have hjd : dstOf l j = some t := by simpa using hjt
          unfold dstOf at hjd
          cases hlj : l[j]? with
          | none => simp [hlj] at hjd
          | some oj =>
            simp [hlj] at hjd
            obtain ⟨v, hv, he⟩ := inv.known j oj hlj (hdl j hj)
            show R j (a.tmps.getD t undef) w1
            rw [he t hjd]; exact hv
        | none =>
          refine inv.rest t (fun j oj hlj hll hd => ?_)
          have hdj : dstOf l j = some t := by simp [dstOf, hlj, hd]
          have hne : j ≠ i := fun e => by subst e; rw [hun] at hll; cases hll
          simp only [opOk, Bool.and_eq_true, List.all_eq_true] at hok
          have h2 := hok.2 j (List.mem_range.2 (List.getElem?_eq_some_iff.1 hlj).1)
          simp only [hdj, hlj] at h2
          have ht' : (readsOf l o).contains t = true := by simpa using ht
          simp [hne, ht] at h2
          rcases h2.2 with h3 | h3
          · have := List.find?_eq_none.1 hsrc j h3
            simp [hdj] at this
          · have := inv.closed j oj hlj hll i h3
            rw [hun] at this; cases this
      have hsh := hs i o hio a.eval w1 ⟨fun _ => rfl, fun _ => rfl, fun _ => rfl⟩ inv.le (KnownAll.of hkn)
      have hwant : Region.wanted o (yielded l.toArray a.tmps) = wantedBy l o a.eval := by
        unfold Region.wanted wantedBy
        cases o.guard with
        | none => rfl
        | some g => simp only [yielded_eq]; rfl
      have step : ∀ v w2, Le w1 w2 → R i v w2 → wpAny P .any l.toArray Q fuel (listed.setIfInBounds i true) (a.put o.dst v) w2 := by
        intro v w2 hle hv
        refine ih _ _ _ ⟨by simp [inv.size], htrans _ _ _ inv.le hle, by rw [put_defers, inv.defers], by rw [put_size, inv.tmps], ?_, ?_, ?_⟩ hcnt
        · intro j oj hj hl d hd
          rcases listed_set hl with rfl | hl
          · rw [hio] at hj; cases hj
            exact getD_set_true (hdl d hd)
          · exact getD_set_true (inv.closed j oj hj hl d hd)
        · intro j oj hj hl
          rcases listed_set hl with rfl | hl2
          · rw [hio] at hj; cases hj
            refine ⟨v, hv, fun d hd => ?_⟩
            have hdn : d < n := by
              simp only [opOk, hd, Bool.and_eq_true, decide_eq_true_eq] at hok
              exact hok.1.1.1.2.1
            rw [hd, put_same _ _ _ (by rw [inv.tmps, hn]; exact hdn)]
          · by_cases hji : j = i
            · subst hji; rw [hun] at hl2; cases hl2
            · obtain ⟨v', hv', he'⟩ := inv.known j oj hj hl2
              refine ⟨v', hst j _ _ _ hv' hle, fun d hd => ?_⟩
              rw [put_other _ _ _ _ (fun hd' => by
                simp only [opOk, Bool.and_eq_true, List.all_eq_true] at hok
                have h2 := hok.2 j (List.mem_range.2 (List.getElem?_eq_some_iff.1 hj).1)
                have hdj : dstOf l j = some d := by simp [dstOf, hj, hd]
                simp [hdj, hd', hji] at h2)]
              exact he' d hd
        · intro t ht
          have h1 : o.dst ≠ some t := ht i o hio (by simp [hls])
          rw [put_other _ _ _ _ h1]
          exact inv.rest t (fun j oj hj hl => ht j oj hj (getD_set_true hl))
      unfold wpOp
      simp only [ho, hwant]
      split
      · rename_i hw
        rw [hw] at hsh
        simp only [if_true] at hsh
        left
        unfold Oper.wp
        generalize (execOp a.eval o).run P w1 = r at hsh
        cases r with
        | halt x w' => exact hsh.elim
        | ok nx w' =>
          cases nx with
          | value v => exact step v w' hsh.1 hsh.2
          | skip => exact step undef w' hsh.1 hsh.2
          | enter f args =>
            obtain ⟨h2, h3⟩ := hsh
            exact h3.mono fun e w'' ⟨v, he, hle, hv⟩ => by subst he; exact step v w'' (htrans _ _ _ h2 hle) hv
          | _ => exact hsh.elim
      · rename_i hw
        simp only [Bool.not_eq_true] at hw
        rw [hw] at hsh
        exact step undef w1 (hrefl _) (by simpa using hsh)
  refine wp_region_any hm ?_
  refine key l.toArray.size (Array.replicate l.toArray.size false) a0 w.drew ⟨by rw [Array.size_replicate, hsize], hdrew w, rfl, rfl, ?_, ?_, ?_⟩ ?_
  · intro j o _ hl; rw [getD_replicate_false'] at hl; cases hl
  · intro j o _ hl; rw [getD_replicate_false'] at hl; cases hl
  · intro t _; rfl
  · show cnt _ l.length ≤ l.toArray.size
    rw [hsize]; exact cnt_le _ _

theorem putAll_congr {f g : Nat → Value} : ∀ (l : List Oper) (k : Nat) (a : Act), (∀ i o, l[i]? = some o → o.dst.isSome = true → f (k + i) = g (k + i)) → putAll f l k a = putAll g l k a
  | [], _, _, _ => rfl
  | o :: r, k, a, h => by
    rw [putAll, putAll]
    have e : a.put o.dst (f k) = a.put o.dst (g k) := by
      cases hd : o.dst with
      | none => rfl
      | some d =>
        have := h 0 o rfl (by rw [hd]; rfl)
        rw [Nat.add_zero] at this
        rw [this]
    rw [e]
    exact putAll_congr r (k + 1) _ fun i o' hi hd => by
      have := h (i + 1) o' (by simpa using hi) hd
      rwa [show k + (i + 1) = k + 1 + i by omega] at this
/-- a store that was done -/
def StoredB (row : Option Nat) (B : Option Obj) : Value → World → Prop := fun _ w => ∀ g, row = some g → w.heap[g]? = B
theorem StoredB.stable {row : Option Nat} {A B : Option Obj} : Stable (Once row A B) (StoredB row B) := by
  intro v w1 w2 h k g hg
  rcases k.2 g hg with h1 | ⟨_, h1⟩
  · rw [h1]; exact h g hg
  · exact h1
theorem region_store_once {id : Nat} {Q : Exit → Act → World → Prop} {a0 : Act} {w : World} {l : List Oper} (row : Option Nat) (A B : Option Obj) (n : Nat) (Rs : List (Value → World → Prop))
    (hm : P.follows .mixedOrders = true) (hB : anyB l n = true) (_ : true = true) (hlen : Rs.length = l.length) (hn : a0.tmps.size = n) (hst : AllStable (Once row A B) Rs)
    (hs : AllShown P (Once row A B) l Rs a0 w l 0) (hfin : ∀ w1 val, Once row A B w w1 → Holds val w1 Rs 0 → Q .normal (putAll val l 0 a0) w1) : (Code.region id l.toArray true).wp P Q a0 w :=
  region_any_store Once.refl (fun _ _ _ => Once.trans) Once.drew n (nth Rs) hm hB hn (fun i v w1 w2 => hst.get i v w1 w2) (fun i o hi => by simpa using hs.get i o hi)
    (fun w1 val hg h => by
      have hex : ∀ i, ∃ v, (i < l.length → nth Rs i v w1) ∧ ∀ o, l[i]? = some o → o.dst.isSome = true → val i = v := by
        intro i
        by_cases hi : i < l.length
        · obtain ⟨v, hv, he⟩ := h i l[i] (by simp [hi])
          exact ⟨v, fun _ => hv, fun o ho hd => by rw [List.getElem?_eq_getElem hi] at ho; cases ho; exact he hd⟩
        · exact ⟨undef, fun h => absurd h hi, fun o ho => by rw [List.getElem?_eq_none (by omega)] at ho; cases ho⟩
      obtain ⟨val2, h2⟩ := Classical.axiomOfChoice hex
      rw [putAll_congr (f := val) (g := val2) l 0 a0 fun i o hi hd => by rw [Nat.zero_add]; exact (h2 i).2 o hi hd]
      exact hfin w1 val2 hg (Holds.of fun i hi => by rw [Nat.zero_add]; exact (h2 i).1 (by omega)))
end
end Go.Proofs.Ytnafhjgfkofkbaa
/- Texts that are known as lists of bytes: their lengths, pieces and joins, as rules of the walk. No program is in sight here. -/
namespace Go.Proofs.Ytnafhjgfkofkbaa
set_option linter.unusedVariables false
set_option linter.unusedSimpArgs false
theorem str_extract (l : List UInt8) (i j : Nat) : (str l).extract i j = str ((l.drop i).take (j - i)) := by
  apply ByteArray.ext
  apply Array.ext'
  simp [str, ByteArray.data_extract]
theorem str_extract_to (l : List UInt8) (i : Nat) : (str l).extract i l.length = str (l.drop i) := by
  rw [str_extract, List.take_of_length_le (by simp)]
attribute [go_sem] str_size str_extract str_append
attribute [go_sem high] str_extract_to
@[go_sem] theorem str_get (l : List UInt8) (i : Nat) (h : i < (str l).size) : (str l)[i]'h = l[i]'(by rw [str_size] at h; exact h) := rfl
/-- what hands back bytes of its own, and an error's number -/
def RetBE (e : TypeId) (w : World) (l : List UInt8) (n : Nat) : Ending → World → Prop := fun x w' =>
  ∃ ad cap, x = .returned (.tuple #[.slice ad l.length cap, .int .i64 n]) ∧ Owns w' w.heap.size e 1 ad cap l.length (bv l) ∧ Gr w w'
theorem str_nil : str [] = ByteArray.empty := rfl
theorem src_str {P : Program} {u : TypeId} {w : World} (l : List UInt8) (hu : P.underlying u = some .string) : Src P u w 1 (.string (str l)) l.length (bv l) := by
  have := Src.str (P := P) (w := w) (str l) hu
  rwa [str_size, str_list] at this
end Go.Proofs.Ytnafhjgfkofkbaa
/- Appends to slices that a region which draws its order makes itself. No program is in sight here. -/
namespace Go.Proofs.Ytnafhjgfkofkbaa
set_option linter.unusedVariables false
set_option linter.unusedSimpArgs false
open Go.RowKit
section
variable {P : Program}
def Roomy (k : Nat) : Option Obj → Prop
  | some (.cells cur _ _) => k ≤ cur.size
  | _ => False
/-- the blocks below N are what they were; a later one may have had its cells from n on overwritten by these, once -/
def Fresh (N n : Nat) (news : List Value) (w w' : World) : Prop := Below N w w' ∧ ∀ g, g < w.heap.size → w'.heap[g]? = w.heap[g]? ∨ (Roomy (n + news.length) w.heap[g]? ∧ w'.heap[g]? = appRow n news w.heap[g]?)
theorem Fresh.refl {N n : Nat} {news : List Value} (w : World) : Fresh N n news w w := ⟨Below.refl _ _, fun _ _ => .inl rfl⟩
theorem Fresh.size {N n : Nat} {news : List Value} {w w' : World} (h : Fresh N n news w w') : w.heap.size ≤ w'.heap.size := h.1.size
theorem Fresh.trans {N n : Nat} {news : List Value} {a b c : World} (h : Fresh N n news a b) (k : Fresh N n news b c) : Fresh N n news a c := by
  refine ⟨h.1.trans k.1, fun g hg => ?_⟩
  rcases h.2 g hg with h1 | ⟨hr, h1⟩ <;> rcases k.2 g (Nat.lt_of_lt_of_le hg h.size) with k1 | ⟨kr, k1⟩
  · exact .inl (k1.trans h1)
  · rw [h1] at kr k1; exact .inr ⟨kr, k1⟩
  · exact .inr ⟨hr, k1.trans h1⟩
  · rw [h1] at k1
    refine .inr ⟨hr, k1.trans ?_⟩
    generalize a.heap[g]? = o at hr ⊢
    match o, hr with
    | some (.cells cur e fr), hr => exact appRow_idem n news cur e fr hr
theorem Fresh.drew {N n : Nat} {news : List Value} (w : World) : Fresh N n news w w.drew := ⟨(Below.refl _ _).drew, fun _ _ => .inl rfl⟩
theorem Gr.fresh {N n : Nat} {news : List Value} {w w' : World} (h : Gr w w') (hN : N ≤ w.heap.size) : Fresh N n news w w' := ⟨Below.mono h hN, fun g hg => .inl (h.block g hg)⟩
theorem Fresh.gr {N n : Nat} {news : List Value} {w w' w0 : World} (h : Fresh N n news w w') (h0 : Gr w0 w) (hN : w0.heap.size ≤ N) : Gr w0 w' := Below.trans h0 (Below.mono h.1 hN)
theorem appRow_take {n : Nat} {news : List Value} {cur : Array Value} (hr : n + news.length ≤ cur.size) :
    (cur.toList.take n ++ news ++ cur.toList.drop (n + news.length)).toArray.size = cur.size ∧
    (∀ m, m ≤ n → (cur.toList.take n ++ news ++ cur.toList.drop (n + news.length)).toArray.toList.take m = cur.toList.take m) ∧
    (cur.toList.take n ++ news ++ cur.toList.drop (n + news.length)).toArray.toList.take (n + news.length) = cur.toList.take n ++ news := by
  have hn : (cur.toList.take n).length = n := by simp; omega
  refine ⟨by simp; omega, fun m hm => ?_, ?_⟩
  · show (cur.toList.take n ++ news ++ cur.toList.drop (n + news.length)).take m = _
    rw [List.append_assoc, List.take_append_of_le_length (by omega), List.take_take, Nat.min_eq_left hm]
  · show (cur.toList.take n ++ news ++ cur.toList.drop (n + news.length)).take (n + news.length) = _
    have := List.take_left (l₁ := cur.toList.take n ++ news) (l₂ := cur.toList.drop (n + news.length))
    rwa [show (cur.toList.take n ++ news).length = n + news.length by rw [List.length_append, hn]] at this
theorem Fresh.owns {N n : Nat} {news : List Value} {w w' : World} (h : Fresh N n news w w') {base : Nat} {e : TypeId} {size : Nat} {ad : Option Addr} {cap m : Nat} {xs : List Value} (ho : Owns w base e size ad cap m xs)
    (hx : xs.length ≤ n ∨ ∃ ys, xs = ys ++ news ∧ ys.length = n) : Owns w' base e size ad cap m xs := by
  obtain ⟨h1, h2, h3, h4 | ⟨g, cur, fr, e1, e2, hg, hfr, hs, ht⟩⟩ := ho
  · exact ⟨h1, h2, h3, .inl h4⟩
  · have hlt : g < w.heap.size := (Array.getElem?_eq_some_iff.1 hg).1
    rcases h.2 g hlt with hk | ⟨hr, hk⟩
    · exact ⟨h1, h2, h3, .inr ⟨g, cur, fr, e1, e2, hk.trans hg, hfr, hs, ht⟩⟩
    · rw [hg] at hk hr
      obtain ⟨t1, t2, t3⟩ := appRow_take hr
      refine ⟨h1, h2, h3, .inr ⟨g, _, fr, e1, e2, hk, by rw [t1]; exact hfr, by rw [t1]; exact hs, ?_⟩⟩
      rcases hx with hx | ⟨ys, rfl, hy⟩
      · rw [t2 _ (by omega)]; exact ht
      · have hm : m * size = n + news.length := by rw [← h1, List.length_append, hy]
        rw [hm] at ht ⊢
        rw [t3]
        have : cur.toList.take n = ys := by
          have h5 : (cur.toList.take (n + news.length)).take n = (ys ++ news).take n := by rw [ht]
          rw [List.take_take, Nat.min_eq_left (by omega), ← hy, List.take_left] at h5
          rw [← hy]; exact h5
        rw [this]
theorem Fresh.cell {N n : Nat} {news : List Value} {w w' : World} (h : Fresh N n news w w') {p : Addr} {v : Value} (hp : w.cell? p = some v) (hb : p.block < N) : w'.cell? p = some v := by
  have := h.1.block p.block hb
  unfold World.cell? at hp ⊢
  rw [this]; exact hp
theorem Fresh.row {N n : Nat} {news : List Value} {w w' : World} (h : Fresh N n news w w') {ad : Option Addr} {vs : List Value} (hr : Row w ad vs) (hN : w.heap.size ≤ N) : Row w' ad vs := fun i u hi => by
  obtain ⟨b, off, e, hc⟩ := hr i u hi
  exact ⟨b, off, e, h.cell hc (Nat.lt_of_lt_of_le (World.block_lt_of_cell? w _ hc) hN)⟩
theorem Owns.void (w : World) (B : Nat) (e : TypeId) (size : Nat) (hB : B ≤ w.heap.size) : Owns (w.alloc (.cells #[] e)) B e size (some ⟨w.heap.size, 0, none⟩) 0 0 [] :=
  Owns.made w B #[] e (0, 0) size 0 0 [] hB (Nat.zero_le _) (Nat.le_refl _) (by simp) (by simp) (by simp)
/-- a slice that was made since, of so many elements -/
def Made (N : Nat) (e : TypeId) (size m : Nat) (xs : List Value) : Value → World → Prop := fun v w => ∃ ad cap, v = .slice ad m cap ∧ Owns w N e size ad cap m xs
/-- an empty one -/
def Mt (N : Nat) (e : TypeId) (size : Nat) : Value → World → Prop := fun v w => ∃ ad, v = .slice ad 0 0 ∧ Owns w N e size ad 0 0 []
/-- one element, in a block of its own -/
def OneB (xs : List Value) : Value → World → Prop := fun v w => ∃ g e fr, v = .slice (some ⟨g, 0, none⟩) 1 1 ∧ w.heap[g]? = some (.cells xs.toArray e fr)
/-- a slice of what was there -/
def OldRow (N m : Nat) (xs : List Value) : Value → World → Prop := fun v w => ∃ ad cap, v = .slice ad m cap ∧ Row w ad xs ∧ ∀ a, ad = some a → a.block < N
variable {N n : Nat} {news : List Value}
theorem Made.stable (e : TypeId) (size m : Nat) (xs : List Value) (hx : xs.length ≤ n ∨ ∃ ys, xs = ys ++ news ∧ ys.length = n) : Stable (Fresh N n news) (Made N e size m xs) := by
  rintro v w1 w2 ⟨ad, cap, rfl, ho⟩ h
  exact ⟨ad, cap, rfl, h.owns ho hx⟩
theorem Mt.stable (e : TypeId) (size : Nat) : Stable (Fresh N n news) (Mt N e size) := by
  rintro v w1 w2 ⟨ad, rfl, ho⟩ h
  exact ⟨ad, rfl, h.owns ho (.inl (Nat.zero_le _))⟩
theorem OneB.stable : Stable (Fresh N n news) (OneB news) := by
  rintro v w1 w2 ⟨g, e, fr, rfl, hg⟩ h
  refine ⟨g, e, fr, rfl, ?_⟩
  rcases h.2 g (Array.getElem?_eq_some_iff.1 hg).1 with hk | ⟨hr, hk⟩
  · exact hk.trans hg
  · rw [hg] at hk hr
    have h0 : n + news.length ≤ news.length := by have h9 : n + news.length ≤ news.toArray.size := hr; simpa using h9
    obtain rfl : n = 0 := by omega
    rw [hk]
    simp [appRow]
theorem OneB.src {u e' : TypeId} {size : Nat} {xs : List Value} {v : Value} {w : World} (h : OneB xs v w) (hx : xs.length = size) (h1 : ∀ x ∈ xs, x.oneCell' = true) (hu : P.underlying u = some (.slice e')) : Src P u w size v 1 xs := by
  obtain ⟨g, e, fr, rfl, hg⟩ := h
  refine ⟨by omega, h1, .inl ⟨_, _, e', rfl, fun i y hi => ⟨g, 0, rfl, ?_⟩, hu⟩⟩
  unfold World.cell?
  simp only [Nat.zero_add, hg]
  simpa using hi
theorem OldRow.stable (m : Nat) (xs : List Value) : Stable (Fresh N n news) (OldRow N m xs) := by
  rintro v w1 w2 ⟨ad, cap, rfl, hr, hb⟩ h
  refine ⟨ad, cap, rfl, fun i u hi => ?_, hb⟩
  obtain ⟨b, off, e, hc⟩ := hr i u hi
  have := h.1.block b (hb _ e)
  refine ⟨b, off, e, ?_⟩
  unfold World.cell? at hc ⊢
  simp only at hc ⊢
  rw [this]; exact hc
theorem region_tail_fresh {id : Nat} {Q : Exit → Act → World → Prop} {a0 : Act} {w : World} {l : List Oper} (N n : Nat) (news : List Value) (n0 k : Nat) (Rs : List (Value → World → Prop))
    (hm : P.follows .mixedOrders = true) (hB : anyB (l.take n0) k = true) (hT : tailB l n0 = true) (hd : (l.take n0).all (·.dst.isSome) = true) (hlen : Rs.length = (l.take n0).length) (hn : a0.tmps.size = k) (hst : AllStable (Fresh N n news) Rs)
    (hs : AllShown P (Fresh N n news) (l.take n0) Rs a0 w (l.take n0) 0) (hfin : ∀ w1 val, Fresh N n news w w1 → Holds val w1 Rs 0 → wpList P l.toArray Q (l.drop n0) (putAll val (l.take n0) 0 a0) w1) : (Code.region id l.toArray true).wp P Q a0 w :=
  region_any_tail Fresh.refl (fun _ _ _ => Fresh.trans) Fresh.drew n0 k (nth Rs) hm hB hT hn (fun i v w1 w2 => hst.get i v w1 w2) (fun i o hi => by simpa using hs.get i o hi)
    (fun w1 val hg h => hfin w1 val hg (Holds.of fun i hi => by
      have hi' : i < (l.take n0).length := by omega
      rw [Nat.zero_add]
      exact h i (l.take n0)[i] (by rw [List.getElem?_eq_getElem hi']) (List.all_eq_true.1 hd _ (List.getElem_mem hi'))))
@[go_sem] theorem fresh_refl (w : World) : Fresh N n news w w ↔ True := ⟨fun _ => trivial, fun _ => Fresh.refl w⟩
/-- THE STEPS -/
theorem append_mt {t u e : TypeId} {z : Value} {size bytes : Nat} (E : Elem P t e z size bytes) {w : World} {ad : Option Addr} (ho : Owns w N e size ad 0 0 []) {x : Value} {m : Nat} {xs : List Value} (hx : Src P u w size x m xs)
    (h63 : m ≤ maxLen) (hbytes : m * bytes ≤ 140737488355328) (hN : N ≤ w.heap.size) {ty : TypeId} :
    ∃ v w', (Builtin.append_ #[t, u] ty #[.slice ad 0 0, x]).run P w = .ok v w' ∧ Fresh N n news w w' ∧ Made N e size m xs v w' := by
  obtain ⟨ad', cap', w', r1, r2, r3, r4, r5⟩ := run_append_at (u := u) (ty := ty) E ho hx (by omega) (by rw [Nat.zero_add]; exact hbytes) hN
  rw [Nat.zero_add, List.nil_append] at r2
  rw [Nat.zero_add] at r1
  have hbelow : Below N w w' := ⟨r3.os, r3.tape, r3.output, r3.size, fun g hg => by
    refine r3.block g (by omega) (fun hh => ?_)
    cases ad with
    | none => cases hh
    | some a => simp only [Option.map_some, Option.some.injEq] at hh; have := (ho.lt a rfl).1; omega⟩
  refine ⟨_, w', r1, ⟨hbelow, fun g hg => .inl ?_⟩, ad', cap', rfl, r2⟩
  by_cases hh : some g = ad.map (·.block)
  · have had : ad = some ⟨g, 0, .none⟩ := by
      obtain ⟨_, _, _, ⟨e1, _⟩ | ⟨g', cur, fr, e1, _⟩⟩ := ho
      · rw [e1] at hh; cases hh
      · rw [e1] at hh ⊢; cases hh; rfl
    rcases r5 g had with ⟨hm, h⟩ | ⟨h, _⟩
    · have hm0 : m = 0 := by omega
      subst hm0
      have hxs : xs = [] := List.eq_nil_of_length_eq_zero (by have := hx.1; omega)
      rw [h, hxs]
      cases hq : w.heap[g]? with
      | none => rfl
      | some o => cases o <;> simp [appRow]
    · exact h
  · exact r3.block g hg hh
theorem append_made {t u e : TypeId} {z : Value} {size bytes : Nat} (E : Elem P t e z size bytes) {w : World} {ad : Option Addr} {cap k m : Nat} {xs : List Value} (ho : Owns w N e size ad cap k xs) {x : Value} (hx : Src P u w size x m news) (hn : n = k * size)
    (h63 : k + m ≤ maxLen) (hbytes : (k + m) * bytes ≤ 140737488355328) (hN : N ≤ w.heap.size) {ty : TypeId} :
    ∃ v w', (Builtin.append_ #[t, u] ty #[.slice ad k cap, x]).run P w = .ok v w' ∧ Fresh N n news w w' ∧ Made N e size (k + m) (xs ++ news) v w' := by
  obtain ⟨ad', cap', w', r1, r2, r3, r4, r5⟩ := run_append_at (u := u) (ty := ty) E ho hx h63 hbytes hN
  have hbelow : Below N w w' := ⟨r3.os, r3.tape, r3.output, r3.size, fun g hg => by
    refine r3.block g (by omega) (fun hh => ?_)
    cases ad with
    | none => cases hh
    | some a => simp only [Option.map_some, Option.some.injEq] at hh; have := (ho.lt a rfl).1; omega⟩
  refine ⟨_, w', r1, ⟨hbelow, fun g hg => ?_⟩, ad', cap', rfl, r2⟩
  by_cases hh : some g = ad.map (·.block)
  · obtain ⟨_, _, _, ⟨e1, _⟩ | ⟨g', cur, fr, e1, _, hg', _, hs, _⟩⟩ := ho
    · rw [e1] at hh; cases hh
    · rw [e1] at hh; cases hh
      rcases r5 _ e1 with ⟨hm, h⟩ | ⟨h, _⟩
      · refine .inr ⟨?_, by rw [hn]; exact h⟩
        rw [hg']
        show n + news.length ≤ cur.size
        rw [hs, hn, hx.1, ← Nat.add_mul]; exact Nat.mul_le_mul_right _ hm
      · exact .inl h
  · exact .inl (r3.block g hg hh)
end
end Go.Proofs.Ytnafhjgfkofkbaa
/- A region that draws its order, in which one operation (a store) ends a phase: what is needed ahead of it is known to be done in that phase. No program is in sight here. -/
namespace Go.Proofs.Ytnafhjgfkofkbaa
set_option linter.unusedVariables false
set_option linter.unusedSimpArgs false
open Go.RowKit
section
variable {P : Program}
/-- a step, that keeps the phase if it is to -/
def LeP (Le : World → World → Prop) (Pre : World → Prop) (keep : Bool) (w w' : World) : Prop := Le w w' ∧ (keep = true → Pre w → Pre w')
/-- is done ahead of operation s, or is it -/
def preB (l : List Oper) (s i : Nat) : Bool := i == s || (match l[s]? with | some o => (depsOf o).contains i | none => false)
def ShownP (P : Program) (Le : World → World → Prop) (Pre : World → Prop) (ops : List Oper) (s : Nat) (R : Nat → Value → World → Prop) (a0 : Act) (w0 : World) (i : Nat) (o : Oper) : Prop :=
  ∀ ρ w, Ev ρ → (Le w0 w ∧ (preB ops s i = true → Pre w)) → KnownAll ops R a0 o ρ w (readsOf ops o) →
    if wantedBy ops o ρ then growUpon P (LeP Le Pre (i != s)) w (R i) ((execOp ρ o).run P w) else R i undef w
def AllShownP (P : Program) (Le : World → World → Prop) (Pre : World → Prop) (ops : List Oper) (s : Nat) (Rs : List (Value → World → Prop)) (a0 : Act) (w0 : World) : List Oper → Nat → Prop
  | [], _ => True
  | o :: r, i => ShownP P Le Pre ops s (nth Rs) a0 w0 i o ∧ AllShownP P Le Pre ops s Rs a0 w0 r (i + 1)
theorem AllShownP.get {Le : World → World → Prop} {Pre : World → Prop} {ops : List Oper} {s : Nat} {Rs : List (Value → World → Prop)} {a0 : Act} {w0 : World} : ∀ {l : List Oper} {k : Nat}, AllShownP P Le Pre ops s Rs a0 w0 l k → ∀ i o, l[i]? = some o → ShownP P Le Pre ops s (nth Rs) a0 w0 (k + i) o
  | [], _, _, i, o, hi => by simp at hi
  | x :: r, k, h, 0, o, hi => by simp at hi; subst hi; exact h.1
  | x :: r, k, h, i + 1, o, hi => by
    have := h.2.get i o (by simpa using hi)
    rwa [show k + 1 + i = k + (i + 1) by omega] at this
@[go_sem] theorem leP_same {Le : World → World → Prop} {Pre : World → Prop} {k : Bool} {w : World} (h : Le w w) : LeP Le Pre k w w ↔ True := ⟨fun _ => trivial, fun _ => ⟨h, fun _ x => x⟩⟩
/-- what holds on the way -/
structure OnWayP (Pre : World → Prop) (s : Nat) (Le : World → World → Prop) (ops : List Oper) (R : Nat → Value → World → Prop) (a0 : Act) (w0 : World) (listed : Array Bool) (a : Act) (w : World) : Prop where
  size : listed.size = ops.length
  le : Le w0 w
  defers : a.defers = a0.defers
  tmps : a.tmps.size = a0.tmps.size
  closed : ∀ j o, ops[j]? = some o → listed.getD j false = true → ∀ d ∈ depsOf o, listed.getD d false = true
  known : ∀ j o, ops[j]? = some o → listed.getD j false = true → ∃ v, R j v w ∧ ∀ d, o.dst = some d → a.tmps.getD d undef = v
  pre : listed.getD s false = false → Pre w
  rest : ∀ t, (∀ j o, ops[j]? = some o → listed.getD j false = true → o.dst ≠ some t) → a.tmps.getD t undef = a0.tmps.getD t undef

theorem region_any_phase {Pre : World → Prop} (s : Nat) {Le : World → World → Prop} (hrefl : ∀ w, Le w w) (htrans : ∀ a b c, Le a b → Le b c → Le a c) (hdrew : ∀ w, Le w w.drew) {id : Nat} {Q : Exit → Act → World → Prop} {a0 : Act} {w : World} {l : List Oper} (n : Nat) (R : Nat → Value → World → Prop)
    (hm : P.follows .mixedOrders = true) (hB : anyB l n = true) (hn : a0.tmps.size = n) (hst : ∀ i v w1 w2, R i v w1 → Le w1 w2 → R i v w2)
    (hp0 : Pre w.drew) (hs : ∀ i o, l[i]? = some o → ShownP P Le Pre l s R a0 w i o)
    (hfin : ∀ w1 val, Le w w1 → (∀ i o, l[i]? = some o → ∃ v, R i v w1 ∧ (o.dst.isSome = true → val i = v)) → Q .normal (putAll val l 0 a0) w1) : (Code.region id l.toArray true).wp P Q a0 w := by
  have hsize : l.toArray.size = l.length := by simp
  have allL : ∀ (listed : Array Bool), listed.size = l.length → Region.ready .any l.toArray listed = [] → ∀ k, k < l.length → listed.getD k false = true := by
    intro listed hls hr k
    induction k using Nat.strongRecOn with
    | _ k ih =>
      intro hk
      cases hc : listed.getD k false with
      | true => rfl
      | false =>
        exfalso
        have hok := opOk_of hB (i := k) (o := l[k]) (by simp [hk])
        have hmem : k ∈ Region.ready .any l.toArray listed := by
          rw [mem_ready]
          refine ⟨?_, l[k], by simp [hk], fun e he hb => ?_⟩
          · have : k < listed.size := by omega
            simp [this] at hc ⊢; exact hc
          · have hd : e.on ∈ depsOf l[k] := by
              unfold depsOf
              rw [List.mem_filterMap]
              exact ⟨e, by simpa using he, by rw [hb]; rfl⟩
            simp only [opOk, Bool.and_eq_true, List.all_eq_true, decide_eq_true_eq] at hok
            have hlt := hok.1.1.2 _ hd
            exact ih _ hlt (by omega)
        rw [hr] at hmem
        cases hmem
  have fin : ∀ (listed : Array Bool) (a : Act) (w1 : World), OnWayP Pre s Le l R a0 w listed a w1 → (∀ k, k < l.length → listed.getD k false = true) → Q .normal a w1 := by
    intro listed a w1 inv hall
    have hval := hfin w1 (fun j => match dstOf l j with | some d => a.tmps.getD d undef | none => undef) inv.le (fun i o hi => by
      obtain ⟨v, hv, he⟩ := inv.known i o hi (hall i (List.getElem?_eq_some_iff.1 hi).1)
      refine ⟨v, hv, fun hd => ?_⟩
      obtain ⟨d, hd⟩ := Option.isSome_iff_exists.1 hd
      have : dstOf l i = some d := by simp [dstOf, hi, hd]
      simp only [this]
      exact he d hd)
    have e : a = putAll (fun j => match dstOf l j with | some d => a.tmps.getD d undef | none => undef) l 0 a0 := by
      refine act_ext (by rw [putAll_size, inv.tmps]) (by rw [putAll_defers, inv.defers]) fun t => ?_
      by_cases ht : ∃ (j : Nat) (o : Oper), l[j]? = some o ∧ o.dst = some t
      · obtain ⟨j, o, hj, hd⟩ := ht
        have hok := opOk_of hB hj
        have htn : t < n := by
          simp only [opOk, hd, Bool.and_eq_true, decide_eq_true_eq] at hok
          exact hok.1.1.1.2.1
        rw [putAll_at _ t l 0 a0 j o hj hd (by rw [hn]; exact htn) (fun j' o' hj' hne hd' => by
          have hok' := opOk_of hB hj'
          simp only [opOk, Bool.and_eq_true, List.all_eq_true] at hok'
          have h2 := hok'.2 j (List.mem_range.2 (List.getElem?_eq_some_iff.1 hj).1)
          have hdj : dstOf l j = some t := by simp [dstOf, hj, hd]
          simp [hdj, hd', Ne.symm hne] at h2)]
        have hdj : dstOf l (0 + j) = some t := by simp [dstOf, hj, hd]
        simp only [hdj]
      · rw [putAll_other _ t l 0 a0 (fun o ho hd => ht (by
          obtain ⟨j, hj, e⟩ := List.getElem_of_mem ho
          exact ⟨j, o, by simp [hj, e], hd⟩))]
        exact inv.rest t (fun j o hj _ hd => ht ⟨j, o, hj, hd⟩)
    rw [e]; exact hval
  have key : ∀ (fuel : Nat) (listed : Array Bool) (a : Act) (w1 : World), OnWayP Pre s Le l R a0 w listed a w1 → cnt (fun k => listed.getD k false) l.length ≤ fuel → wpAny P .any l.toArray Q fuel listed a w1 := by
    intro fuel
    induction fuel with
    | zero =>
      intro listed a w1 inv hc
      have hall := cnt_zero (by omega : cnt (fun k => listed.getD k false) l.length = 0)
      refine ⟨?_, fin listed a w1 inv hall⟩
      rw [List.eq_nil_iff_forall_not_mem]
      intro j hj
      obtain ⟨h1, o, ho, _⟩ := mem_ready.1 hj
      have hlt : j < l.length := by
        have := (Array.getElem?_eq_some_iff.1 ho).1
        simpa using this
      have h2 := hall j hlt
      have : j < listed.size := by rw [inv.size]; exact hlt
      simp [this] at h1 h2
      rw [h1] at h2; cases h2
    | succ fuel ih =>
      intro listed a w1 inv hc
      refine ⟨fun hr => fin listed a w1 inv (allL listed inv.size hr), fun i hi => ?_⟩
      obtain ⟨h1, o, ho, hdeps⟩ := mem_ready.1 hi
      have hio : l[i]? = some o := by simpa using ho
      have hlt : i < l.length := (List.getElem?_eq_some_iff.1 hio).1
      have hls : i < listed.size := by rw [inv.size]; exact hlt
      have hun : listed.getD i false = false := by simp [hls] at h1 ⊢; exact h1
      have hok := opOk_of hB hio
      have hdl : ∀ d ∈ depsOf o, listed.getD d false = true := by
        intro d hd
        unfold depsOf at hd
        obtain ⟨e, he, hb⟩ := List.mem_filterMap.1 hd
        split at hb
        · rename_i hbb
          cases hb
          exact hdeps e (by simpa using he) hbb
        · cases hb
      have hcnt : cnt (fun k => (listed.setIfInBounds i true).getD k false) l.length ≤ fuel := by
        have := cnt_set (f := fun k => listed.getD k false) (g := fun k => (listed.setIfInBounds i true).getD k false) (i := i) (n := l.length) hlt hun (fun k => by
          by_cases hk : i = k
          · subst hk; simp [hls]
          · have hk' : (k == i) = false := by simp; omega
            simp only [getD_set_ne false hk, hk', Bool.or_false])
        omega
      have hkn : ∀ t ∈ readsOf l o, knownOf l R a0 o t (a.eval (.tmp t)) w1 := by
        intro t ht
        show knownOf l R a0 o t (a.tmps.getD t undef) w1
        unfold knownOf
        cases hsrc : srcOf l o t with
        | some j =>
          have hj := List.mem_of_find?_eq_some hsrc
          have hjt := List.find?_some hsrc
          have hjd : dstOf l j = some t := by simpa using hjt
          unfold dstOf at hjd
          cases hlj : l[j]? with
          | none => simp [hlj] at hjd
          | some oj =>
            simp [hlj] at hjd
            obtain ⟨v, hv, he⟩ := inv.known j oj hlj (hdl j hj)
            show R j (a.tmps.getD t undef) w1
            rw [he t hjd]; exact hv
        | none =>
          refine inv.rest t (fun j oj hlj hll hd => ?_)
          have hdj : dstOf l j = some t := by simp [dstOf, hlj, hd]
          have hne : j ≠ i := fun e => by subst e; rw [hun] at hll; cases hll
          simp only [opOk, Bool.and_eq_true, List.all_eq_true] at hok
          have h2 := hok.2 j (List.mem_range.2 (List.getElem?_eq_some_iff.1 hlj).1)
          simp only [hdj, hlj] at h2
          have ht' : (readsOf l o).contains t = true := by simpa using ht
          simp [hne, ht] at h2
          rcases h2.2 with h3 | h3
          · have := List.find?_eq_none.1 hsrc j h3
            simp [hdj] at this
          · have := inv.closed j oj hlj hll i h3
            rw [hun] at this; cases this
      have hls2 : s < listed.size → listed.getD s false = false → listed[s]?.getD false = false := fun h1 h2 => by simpa using h2
      have hpre : preB l s i = true → Pre w1 := by
        intro hb
        refine inv.pre ?_
        cases hc : listed.getD s false with
        | false => rfl
        | true =>
          exfalso
          simp only [preB, Bool.or_eq_true, beq_iff_eq] at hb
          rcases hb with rfl | hb
          · rw [hun] at hc; cases hc
          · cases hos : l[s]? with
            | none => rw [hos] at hb; cases hb
            | some os =>
              rw [hos] at hb
              have := inv.closed s os hos hc i (by simpa using hb)
              rw [hun] at this; cases this
      have hsh := hs i o hio a.eval w1 ⟨fun _ => rfl, fun _ => rfl, fun _ => rfl⟩ ⟨inv.le, hpre⟩ (KnownAll.of hkn)
      have hwant : Region.wanted o (yielded l.toArray a.tmps) = wantedBy l o a.eval := by
        unfold Region.wanted wantedBy
        cases o.guard with
        | none => rfl
        | some g => simp only [yielded_eq]; rfl
      have step : ∀ v w2, LeP Le Pre (i != s) w1 w2 → R i v w2 → wpAny P .any l.toArray Q fuel (listed.setIfInBounds i true) (a.put o.dst v) w2 := by
        intro v w2 hle2 hv
        have hle := hle2.1
        refine ih _ _ _ ⟨by simp [inv.size], htrans _ _ _ inv.le hle, by rw [put_defers, inv.defers], by rw [put_size, inv.tmps], ?_, ?_, ?_, ?_⟩ hcnt
        · intro j oj hj hl d hd
          rcases listed_set hl with rfl | hl
          · rw [hio] at hj; cases hj
            exact getD_set_true (hdl d hd)
          · exact getD_set_true (inv.closed j oj hj hl d hd)
        · intro j oj hj hl
          rcases listed_set hl with rfl | hl2
          · rw [hio] at hj; cases hj
            refine ⟨v, hv, fun d hd => ?_⟩
            have hdn : d < n := by
              simp only [opOk, hd, Bool.and_eq_true, decide_eq_true_eq] at hok
              exact hok.1.1.1.2.1
            rw [hd, put_same _ _ _ (by rw [inv.tmps, hn]; exact hdn)]
          · by_cases hji : j = i
            · subst hji; rw [hun] at hl2; cases hl2
            · obtain ⟨v', hv', he'⟩ := inv.known j oj hj hl2
              refine ⟨v', hst j _ _ _ hv' hle, fun d hd => ?_⟩
              rw [put_other _ _ _ _ (fun hd' => by
                simp only [opOk, Bool.and_eq_true, List.all_eq_true] at hok
                have h2 := hok.2 j (List.mem_range.2 (List.getElem?_eq_some_iff.1 hj).1)
                have hdj : dstOf l j = some d := by simp [dstOf, hj, hd]
                simp [hdj, hd', hji] at h2)]
              exact he' d hd
        · intro hns
          by_cases his : i = s
          · subst his; simp [hls] at hns
          · have hns2 : listed.getD s false = false := by
              rw [getD_set_ne false his] at hns; exact hns
            exact hle2.2 (by simpa using his) (inv.pre hns2)
        · intro t ht
          have h1 : o.dst ≠ some t := ht i o hio (by simp [hls])
          rw [put_other _ _ _ _ h1]
          exact inv.rest t (fun j oj hj hl => ht j oj hj (getD_set_true hl))
      unfold wpOp
      simp only [ho, hwant]
      split
      · rename_i hw
        rw [hw] at hsh
        simp only [if_true] at hsh
        left
        unfold Oper.wp
        generalize (execOp a.eval o).run P w1 = r at hsh
        cases r with
        | halt x w' => exact hsh.elim
        | ok nx w' =>
          cases nx with
          | value v => exact step v w' hsh.1 hsh.2
          | skip => exact step undef w' hsh.1 hsh.2
          | enter f args =>
            obtain ⟨h2, h3⟩ := hsh
            exact h3.mono fun e w'' ⟨v, he, hle, hv⟩ => by subst he; exact step v w'' ⟨htrans _ _ _ h2.1 hle.1, fun hb hp => hle.2 hb (h2.2 hb hp)⟩ hv
          | _ => exact hsh.elim
      · rename_i hw
        simp only [Bool.not_eq_true] at hw
        rw [hw] at hsh
        exact step undef w1 ⟨hrefl _, fun _ h => h⟩ (by simpa using hsh)
  refine wp_region_any hm ?_
  refine key l.toArray.size (Array.replicate l.toArray.size false) a0 w.drew ⟨by rw [Array.size_replicate, hsize], hdrew w, rfl, rfl, ?_, ?_, fun _ => hp0, ?_⟩ ?_
  · intro j o _ hl; rw [getD_replicate_false'] at hl; cases hl
  · intro j o _ hl; rw [getD_replicate_false'] at hl; cases hl
  · intro t _; rfl
  · show cnt _ l.length ≤ l.toArray.size
    rw [hsize]; exact cnt_le _ _

theorem region_phase {Le : World → World → Prop} (Pre : World → Prop) (s : Nat) (hrefl : ∀ w, Le w w) (htrans : ∀ a b c, Le a b → Le b c → Le a c) (hdrew : ∀ w, Le w w.drew) {id : Nat} {Q : Exit → Act → World → Prop} {a0 : Act} {w : World} (hp0 : Pre w.drew) {l : List Oper} (n : Nat) (Rs : List (Value → World → Prop))
    (hm : P.follows .mixedOrders = true) (hB : anyB l n = true) (_ : true = true) (hlen : Rs.length = l.length) (hn : a0.tmps.size = n) (hst : AllStable Le Rs)
    (hs : AllShownP P Le Pre l s Rs a0 w l 0) (hfin : ∀ w1 val, Le w w1 → Holds val w1 Rs 0 → Q .normal (putAll val l 0 a0) w1) : (Code.region id l.toArray true).wp P Q a0 w :=
  region_any_phase s hrefl htrans hdrew n (nth Rs) hm hB hn (fun i v w1 w2 => hst.get i v w1 w2) hp0 (fun i o hi => by simpa using hs.get i o hi)
    (fun w1 val hg h => by
      have hex : ∀ i, ∃ v, (i < l.length → nth Rs i v w1) ∧ ∀ o, l[i]? = some o → o.dst.isSome = true → val i = v := by
        intro i
        by_cases hi : i < l.length
        · obtain ⟨v, hv, he⟩ := h i l[i] (by simp [hi])
          exact ⟨v, fun _ => hv, fun o ho hd => by rw [List.getElem?_eq_getElem hi] at ho; cases ho; exact he hd⟩
        · exact ⟨undef, fun h => absurd h hi, fun o ho => by rw [List.getElem?_eq_none (by omega)] at ho; cases ho⟩
      obtain ⟨val2, h2⟩ := Classical.axiomOfChoice hex
      rw [putAll_congr (f := val) (g := val2) l 0 a0 fun i o hi hd => by rw [Nat.zero_add]; exact (h2 i).2 o hi hd]
      exact hfin w1 val2 hg (Holds.of fun i hi => by rw [Nat.zero_add]; exact (h2 i).1 (by omega)))
/-- what is known stays known -/
def Keeping (A B C : World → Prop) (w w' : World) : Prop := (A w → A w') ∧ (B w → B w') ∧ (C w → C w')
@[go_sem] theorem keeping_refl (A B C : World → Prop) (w : World) : Keeping A B C w w ↔ True := ⟨fun _ => trivial, fun _ => ⟨id, id, id⟩⟩
def KnownB (A B C : World → Prop) : Value → World → Prop := fun _ w => B w
def KnownC (A B C : World → Prop) : Value → World → Prop := fun _ w => C w
theorem KnownB.stable (A B C : World → Prop) : Stable (Keeping A B C) (KnownB A B C) := fun _ _ _ h k => k.2.1 h
theorem KnownC.stable (A B C : World → Prop) : Stable (Keeping A B C) (KnownC A B C) := fun _ _ _ h k => k.2.2 h
theorem region_keeping (A B C : World → Prop) (hdrew : ∀ w, Keeping A B C w w.drew) {id : Nat} {Q : Exit → Act → World → Prop} {a0 : Act} {w : World} {l : List Oper} (n : Nat) (Rs : List (Value → World → Prop))
    (hm : P.follows .mixedOrders = true) (hB : anyB l n = true) (_ : true = true) (hlen : Rs.length = l.length) (hn : a0.tmps.size = n) (hst : AllStable (Keeping A B C) Rs)
    (hs : AllShown P (Keeping A B C) l Rs a0 w l 0) (hfin : ∀ w1 val, Keeping A B C w w1 → Holds val w1 Rs 0 → Q .normal (putAll val l 0 a0) w1) : (Code.region id l.toArray true).wp P Q a0 w :=
  region_any_store (fun _ => ⟨fun x => x, fun x => x, fun x => x⟩) (fun _ _ _ h k => ⟨fun x => k.1 (h.1 x), fun x => k.2.1 (h.2.1 x), fun x => k.2.2 (h.2.2 x)⟩) hdrew n (nth Rs) hm hB hn (fun i v w1 w2 => hst.get i v w1 w2) (fun i o hi => by simpa using hs.get i o hi)
    (fun w1 val hg h => by
      have hex : ∀ i, ∃ v, (i < l.length → nth Rs i v w1) ∧ ∀ o, l[i]? = some o → o.dst.isSome = true → val i = v := by
        intro i
        by_cases hi : i < l.length
        · obtain ⟨v, hv, he⟩ := h i l[i] (by simp [hi])
          exact ⟨v, fun _ => hv, fun o ho hd => by rw [List.getElem?_eq_getElem hi] at ho; cases ho; exact he hd⟩
        · exact ⟨undef, fun h => absurd h hi, fun o ho => by rw [List.getElem?_eq_none (by omega)] at ho; cases ho⟩
      obtain ⟨val2, h2⟩ := Classical.axiomOfChoice hex
      rw [putAll_congr (f := val) (g := val2) l 0 a0 fun i o hi hd => by rw [Nat.zero_add]; exact (h2 i).2 o hi hd]
      exact hfin w1 val2 hg (Holds.of fun i hi => by rw [Nat.zero_add]; exact (h2 i).1 (by omega)))
end
end Go.Proofs.Ytnafhjgfkofkbaa
/- A region that draws its order, in which a slice that the call owns is appended to, and then a cell of a block is stored. No program is in sight here. -/
namespace Go.Proofs.Ytnafhjgfkofkbaa
set_option linter.unusedVariables false
set_option linter.unusedSimpArgs false
open Go.RowKit
section
variable {P : Program}
/-- THE STEP of such an append, by what it needs of the world -/
theorem append_once3 {t u e : TypeId} {z : Value} {size bytes : Nat} (E : Elem P t e z size bytes) {w0 w : World} {base : Nat} {ad : Option Addr} {cap n : Nat} {xs : List Value}
    (hown : Owns w0 base e size ad cap n xs) {x : Value} {m : Nat} {news : List Value} {row : Option Nat} (hrow : row = ad.map (·.block))
    {A B : Option Obj} (hA : ∀ g, row = some g → A = w0.heap[g]?) (hB : B = if n + m ≤ cap then appRow (n * size) news A else A)
    (hrc : ∀ g, row = some g → w.heap[g]? = w0.heap[g]? ∨ (w0.heap[g]? = A ∧ w.heap[g]? = B)) (hsz0 : w0.heap.size ≤ w.heap.size) (hx : Src P u w size x m news)
    (h63 : n + m ≤ maxLen) (hbytes : (n + m) * bytes ≤ 140737488355328) (hbase : base ≤ w0.heap.size) {ty : TypeId} :
    ∃ v w', (Builtin.append_ #[t, u] ty #[.slice ad n cap, x]).run P w = .ok v w' ∧ Once row A B w w' ∧ Apn row B base e size (n + m) (xs ++ news) w0.heap.size v w' := by
  have hwOwn : Owns w base e size ad cap n xs ∧ ∀ g, row = some g → n + m ≤ cap → appRow (n * size) news w.heap[g]? = B := by
    obtain ⟨h1, h2, h3, ⟨e1, e2, e3⟩ | ⟨g, cur, fr, e1, e2, hg, hfr, hs, ht⟩⟩ := hown
    · subst e1
      exact ⟨⟨h1, h2, h3, .inl ⟨rfl, e2, e3⟩⟩, fun g hg => by rw [hrow] at hg; cases hg⟩
    · subst e1
      have hr : row = some g := hrow
      have hAg := hA g hr
      rw [hg] at hAg
      rcases hrc g hr with h | ⟨_, h⟩
      · rw [hg] at h
        refine ⟨⟨h1, h2, h3, .inr ⟨g, cur, fr, rfl, e2, h, hfr, hs, ht⟩⟩, fun g' hg' hrm => ?_⟩
        rw [hr] at hg'; cases hg'
        rw [h, hB, if_pos hrm, hAg]
      · have hnc : n * size ≤ cur.size := by rw [hs]; exact Nat.mul_le_mul_right _ h2
        have hlen : (cur.toList.take (n * size)).length = n * size := by simp; omega
        have htk : (cur.toList.take (n * size) ++ news ++ cur.toList.drop (n * size + news.length)).take (n * size) = xs := by
          rw [List.append_assoc]
          have := List.take_left (l₁ := cur.toList.take (n * size)) (l₂ := news ++ cur.toList.drop (n * size + news.length))
          rw [hlen] at this
          rw [this, ht]
        by_cases hroom : n + m ≤ cap
        · rw [hB, if_pos hroom, hAg] at h
          have hfit : n * size + news.length ≤ cur.size := by rw [hx.1, hs, ← Nat.add_mul]; exact Nat.mul_le_mul_right _ hroom
          have hsz : (cur.toList.take (n * size) ++ news ++ cur.toList.drop (n * size + news.length)).toArray.size = cur.size := by simp; omega
          refine ⟨⟨h1, h2, h3, .inr ⟨g, _, fr, rfl, e2, h, by rw [hsz]; exact hfr, by rw [hsz]; exact hs, htk⟩⟩, fun g' hg' _ => ?_⟩
          rw [hr] at hg'; cases hg'
          rw [h, hB, if_pos hroom, hAg]
          exact appRow_idem _ _ _ _ _ hfit
        · rw [hB, if_neg hroom, hAg] at h
          exact ⟨⟨h1, h2, h3, .inr ⟨g, cur, fr, rfl, e2, h, hfr, hs, ht⟩⟩, fun g' hg' hrm => absurd hrm hroom⟩
  obtain ⟨ho, hBw⟩ := hwOwn
  obtain ⟨ad', cap', w', r1, r2, r3, r4, r5⟩ := run_append_at (u := u) (ty := ty) E ho hx h63 hbytes (Nat.le_trans hbase hsz0)
  refine ⟨_, w', r1, ⟨hrow ▸ r3, ?_⟩, ad', cap', rfl, r2, ?_, fun a ha => ?_⟩
  · intro g hg
    have had : ad = some ⟨g, 0, .none⟩ := by
      rw [hrow] at hg
      obtain ⟨_, _, _, ⟨e1, _⟩ | ⟨g', cur, fr, e1, _⟩⟩ := ho
      · rw [e1] at hg; cases hg
      · rw [e1] at hg ⊢; cases hg; rfl
    rcases r5 g had with ⟨hrm, h⟩ | ⟨h, _⟩
    · rw [hBw g hg hrm] at h
      rcases hrc g hg with h2 | ⟨_, h2⟩
      · exact .inr ⟨h2.trans (hA g hg).symm, h⟩
      · exact .inl (h.trans h2.symm)
    · exact .inl h
  · intro a ha hg
    have had : ad = some ⟨a.block, 0, .none⟩ := by
      rw [hrow] at hg
      obtain ⟨_, _, _, ⟨e1, _⟩ | ⟨g', cur, fr, e1, _⟩⟩ := ho
      · rw [e1] at hg; cases hg
      · rw [e1] at hg ⊢; cases hg; rfl
    rcases r5 a.block had with ⟨hrm, h⟩ | ⟨_, h⟩
    · rw [h]; exact hBw _ hg.symm hrm
    · exact absurd rfl (h a ha)
  · rcases r4 a ha with h | h
    · exact .inl (by rw [hrow, h]; rfl)
    · exact .inr (Nat.le_trans hsz0 h)
/-- a row becomes another one, just once; a block turns into something good -/
structure Duo (row : Option Nat) (A B : Option Obj) (g : Nat) (Good : World → Prop) (w w' : World) : Prop where
  os : w'.os = w.os
  tape : w'.tape = w.tape
  output : w'.output = w.output
  size : w.heap.size ≤ w'.heap.size
  block : ∀ k, k < w.heap.size → some k ≠ row → k ≠ g → w'.heap[k]? = w.heap[k]?
  row : ∀ r, row = some r → w'.heap[r]? = w.heap[r]? ∨ (w.heap[r]? = A ∧ w'.heap[r]? = B)
  turn : w'.heap[g]? = w.heap[g]? ∨ Good w'
  good : Good w → Good w'
variable {row : Option Nat} {A B : Option Obj} {g : Nat} {Good : World → Prop}
theorem Duo.refl (w : World) : Duo row A B g Good w w := ⟨rfl, rfl, rfl, Nat.le_refl _, fun _ _ _ _ => rfl, fun _ _ => .inl rfl, .inl rfl, id⟩
theorem Duo.trans {a b c : World} (h : Duo row A B g Good a b) (k : Duo row A B g Good b c) : Duo row A B g Good a c :=
  ⟨k.os.trans h.os, k.tape.trans h.tape, k.output.trans h.output, Nat.le_trans h.size k.size,
   fun j hj h1 h2 => (k.block j (Nat.lt_of_lt_of_le hj h.size) h1 h2).trans (h.block j hj h1 h2),
   fun r hr => by
    rcases h.row r hr with h1 | ⟨h1, h2⟩ <;> rcases k.row r hr with k1 | ⟨k1, k2⟩
    · exact .inl (k1.trans h1)
    · exact .inr ⟨h1 ▸ k1, k2⟩
    · exact .inr ⟨h1, k1.trans h2⟩
    · exact .inr ⟨h1, k2⟩,
   by
    rcases k.turn with k1 | k1
    · rcases h.turn with h1 | h1
      · exact .inl (k1.trans h1)
      · exact .inr (k.good h1)
    · exact .inr k1,
   fun x => k.good (h.good x)⟩
theorem Duo.drew (hd : ∀ w, Good w → Good w.drew) (w : World) : Duo row A B g Good w w.drew := ⟨rfl, rfl, rfl, Nat.le_refl _, fun _ _ _ _ => rfl, fun _ _ => .inl rfl, .inl rfl, hd w⟩
theorem Gr.duo {w w' : World} (h : Gr w w') (hr : ∀ r, row = some r → r < w.heap.size) (hg : g < w.heap.size) (hk : Good w → Good w') : Duo row A B g Good w w' :=
  ⟨h.os, h.tape, h.output, h.size, fun k hk _ _ => h.block k hk, fun r hr' => .inl (h.block r (hr r hr')), .inl (h.block g hg), hk⟩
theorem Once.duo {w w' : World} (h : Once row A B w w') (hg : g < w.heap.size) (hgr : some g ≠ row) (hk : Good w → Good w') : Duo row A B g Good w w' :=
  ⟨h.1.os, h.1.tape, h.1.output, h.1.size, fun k hk h1 _ => h.1.block k hk h1, h.2, .inl (h.1.block g hg hgr), hk⟩
@[go_sem] theorem duo_refl (w : World) : Duo row A B g Good w w ↔ True := ⟨fun _ => trivial, fun _ => Duo.refl w⟩
theorem Duo.cell {w w' : World} (h : Duo row A B g Good w w') {p : Addr} {v : Value} (hp : w.cell? p = some v) (hne : some p.block ≠ row) (hg : p.block ≠ g) : w'.cell? p = some v := by
  have := h.block p.block (World.block_lt_of_cell? w p hp) hne hg
  unfold World.cell? at hp ⊢
  rw [this]; exact hp
theorem Duo.far {w w' a : World} (h : Duo row A B g Good w w') (hr : ∀ r, row = some r → a.heap.size ≤ r) (k : a.grownBy w (some g)) : a.grownBy w' (some g) :=
  ⟨h.os.trans k.os, h.tape.trans k.tape, h.output.trans k.output, Nat.le_trans k.size h.size, fun j hj hne => by
    have hj2 := Nat.lt_of_lt_of_le hj k.size
    exact (h.block j hj2 (fun e => by have := hr j e.symm; omega) (fun e => hne (by rw [e]))).trans (k.block j hj hne)⟩
theorem Apn.duo {base : Nat} {e : TypeId} {size n : Nat} {xs : List Value} {N : Nat} {v : Value} {w1 w2 : World} (h : Apn row B base e size n xs N v w1) (hg : g < N) (hgr : some g ≠ row) (k : Duo row A B g Good w1 w2) : Apn row B base e size n xs N v w2 := by
  obtain ⟨ad, cap, rfl, ho, hb, hn⟩ := h
  have key : ∀ y, ad = some y → w2.heap[y.block]? = w1.heap[y.block]? := by
    intro y hy
    by_cases hr : some y.block = row
    · have h1 := hb _ hy hr
      rcases k.row y.block hr.symm with h2 | ⟨_, h2⟩
      · exact h2
      · rw [h2]; exact h1.symm
    · refine k.block y.block (ho.lt _ hy).2 hr (fun e => ?_)
      rcases hn y hy with h1 | h1
      · exact hr h1
      · omega
  exact ⟨ad, cap, rfl, ho.kept (fun g' hg' => key _ hg'), fun y hy hr => by rw [key y hy]; exact hb y hy hr, hn⟩
theorem Apn.dstable {base : Nat} {e : TypeId} {size n : Nat} {xs : List Value} {N : Nat} (hg : g < N) (hgr : some g ≠ row) : Stable (Duo row A B g Good) (Apn row B base e size n xs N) := fun _ _ _ h k => h.duo hg hgr k
/-- one element, in a block that was made since -/
def OneD (N : Nat) (xs : List Value) : Value → World → Prop := fun v w => ∃ g e fr, v = .slice (some ⟨g, 0, none⟩) 1 1 ∧ N ≤ g ∧ w.heap[g]? = some (.cells xs.toArray e fr)
theorem OneD.dstable {N : Nat} {xs : List Value} (hg : g < N) (hr : ∀ r, row = some r → r < N) : Stable (Duo row A B g Good) (OneD N xs) := by
  rintro v w1 w2 ⟨k, e, fr, rfl, hN, hk⟩ d
  exact ⟨k, e, fr, rfl, hN, (d.block k (Array.getElem?_eq_some_iff.1 hk).1 (fun e => by have := hr k e.symm; omega) (by omega)).trans hk⟩
/-- a block whose last cell is the slice of the append -/
def TailGood (row : Option Nat) (B : Option Obj) (base : Nat) (t e : TypeId) (size n : Nat) (xs : List Value) (N g : Nat) (cs : List Value) (w : World) : Prop := ∃ v, Blk w g t (cs ++ [v]) ∧ Apn row B base e size n xs N v w
theorem TailGood.duo {base : Nat} {t e : TypeId} {size n : Nat} {xs : List Value} {N : Nat} {cs : List Value} {w1 w2 : World} (h : TailGood row B base t e size n xs N g cs w1) (hg : g < N) (hgr : some g ≠ row) (k : Duo row A B g Good w1 w2) (hs : w2.heap[g]? = w1.heap[g]?) : TailGood row B base t e size n xs N g cs w2 := by
  obtain ⟨v, h1, h2⟩ := h
  exact ⟨v, hs.trans h1, h2.duo hg hgr k⟩
theorem TailGood.drew {base : Nat} {t e : TypeId} {size n : Nat} {xs : List Value} {N : Nat} {cs : List Value} (hg : g < N) (hgr : some g ≠ row) (w : World) (h : TailGood row B base t e size n xs N g cs w) : TailGood row B base t e size n xs N g cs w.drew :=
  h.duo (A := none) (Good := fun _ => True) hg hgr (Duo.drew (fun _ _ => trivial) w) rfl
theorem duo_set {base : Nat} {t e : TypeId} {size n : Nat} {xs : List Value} {N : Nat} {cs : List Value} {v : Value} {w : World} {i : Nat} (hB : Blk (w.setCell ⟨g, i, none⟩ v) g t (cs ++ [v])) (ha : Apn row B base e size n xs N v w) (hg : g < N) (hgr : some g ≠ row) :
    Duo row A B g (TailGood row B base t e size n xs N g cs) w (w.setCell ⟨g, i, none⟩ v) ∧ TailGood row B base t e size n xs N g cs (w.setCell ⟨g, i, none⟩ v) := by
  have hf := grown_set w g i v
  have k : Duo row A B g (fun _ => True) w (w.setCell ⟨g, i, none⟩ v) :=
    ⟨hf.os, hf.tape, hf.output, hf.size, fun k hk _ h => hf.block k hk (fun e => h (Option.some.inj e)), fun r hr => .inl (Below.heap_setCell w _ v r (fun e => hgr (by rw [hr, e]))), .inr trivial, fun _ => trivial⟩
  have good : TailGood row B base t e size n xs N g cs (w.setCell ⟨g, i, none⟩ v) := ⟨v, hB, ha.duo hg hgr k⟩
  exact ⟨⟨k.os, k.tape, k.output, k.size, k.block, k.row, .inr good, fun _ => good⟩, good⟩
/-- a good thing since -/
def SinceG (G : World → Prop) : Value → World → Prop := fun _ w => G w
theorem SinceG.stable : Stable (Duo row A B g Good) (SinceG Good) := fun _ _ _ h k => k.good h
theorem region_duo (row : Option Nat) (A B : Option Obj) (g : Nat) (Good : World → Prop) (hd : ∀ w, Good w → Good w.drew) {id : Nat} {Q : Exit → Act → World → Prop} {a0 : Act} {w : World} {l : List Oper} (n : Nat) (Rs : List (Value → World → Prop))
    (hm : P.follows .mixedOrders = true) (hB : anyB l n = true) (_ : true = true) (hlen : Rs.length = l.length) (hn : a0.tmps.size = n) (hst : AllStable (Duo row A B g Good) Rs)
    (hs : AllShown P (Duo row A B g Good) l Rs a0 w l 0) (hfin : ∀ w1 val, Duo row A B g Good w w1 → Holds val w1 Rs 0 → Q .normal (putAll val l 0 a0) w1) : (Code.region id l.toArray true).wp P Q a0 w :=
  region_any_store Duo.refl (fun _ _ _ => Duo.trans) (Duo.drew hd) n (nth Rs) hm hB hn (fun i v w1 w2 => hst.get i v w1 w2) (fun i o hi => by simpa using hs.get i o hi)
    (fun w1 val hg h => by
      have hex : ∀ i, ∃ v, (i < l.length → nth Rs i v w1) ∧ ∀ o, l[i]? = some o → o.dst.isSome = true → val i = v := by
        intro i
        by_cases hi : i < l.length
        · obtain ⟨v, hv, he⟩ := h i l[i] (by simp [hi])
          exact ⟨v, fun _ => hv, fun o ho hd => by rw [List.getElem?_eq_getElem hi] at ho; cases ho; exact he hd⟩
        · exact ⟨undef, fun h => absurd h hi, fun o ho => by rw [List.getElem?_eq_none (by omega)] at ho; cases ho⟩
      obtain ⟨val2, h2⟩ := Classical.axiomOfChoice hex
      rw [putAll_congr (f := val) (g := val2) l 0 a0 fun i o hi hd => by rw [Nat.zero_add]; exact (h2 i).2 o hi hd]
      exact hfin w1 val2 hg (Holds.of fun i hi => by rw [Nat.zero_add]; exact (h2 i).1 (by omega)))
end
end Go.Proofs.Ytnafhjgfkofkbaa
/- A region that draws its order, in which several operations end a phase each: what is needed ahead of each is known to be done in its phase. No program is in sight here. -/
namespace Go.Proofs.Ytnafhjgfkofkbaa
set_option linter.unusedVariables false
set_option linter.unusedSimpArgs false
open Go.RowKit
section
variable {P : Program}
/-- a step, that keeps all phases but its own -/
def LePs (Le : World → World → Prop) (Pre : Nat → World → Prop) (i : Nat) (w w' : World) : Prop := Le w w' ∧ ∀ s, s ≠ i → Pre s w → Pre s w'
def ShownPs (P : Program) (Le : World → World → Prop) (Pre : Nat → World → Prop) (ops : List Oper) (R : Nat → Value → World → Prop) (a0 : Act) (w0 : World) (i : Nat) (o : Oper) : Prop :=
  ∀ ρ w, Ev ρ → (Le w0 w ∧ ∀ s, preB ops s i = true → Pre s w) → KnownAll ops R a0 o ρ w (readsOf ops o) →
    if wantedBy ops o ρ then growUpon P (LePs Le Pre i) w (R i) ((execOp ρ o).run P w) else R i undef w
def AllShownPs (P : Program) (Le : World → World → Prop) (Pre : Nat → World → Prop) (ops : List Oper) (Rs : List (Value → World → Prop)) (a0 : Act) (w0 : World) : List Oper → Nat → Prop
  | [], _ => True
  | o :: r, i => ShownPs P Le Pre ops (nth Rs) a0 w0 i o ∧ AllShownPs P Le Pre ops Rs a0 w0 r (i + 1)
theorem AllShownPs.get {Le : World → World → Prop} {Pre : Nat → World → Prop} {ops : List Oper} {Rs : List (Value → World → Prop)} {a0 : Act} {w0 : World} : ∀ {l : List Oper} {k : Nat}, AllShownPs P Le Pre ops Rs a0 w0 l k → ∀ i o, l[i]? = some o → ShownPs P Le Pre ops (nth Rs) a0 w0 (k + i) o
  | [], _, _, i, o, hi => by simp at hi
  | x :: r, k, h, 0, o, hi => by simp at hi; subst hi; exact h.1
  | x :: r, k, h, i + 1, o, hi => by
    have := h.2.get i o (by simpa using hi)
    rwa [show k + 1 + i = k + (i + 1) by omega] at this
@[go_sem] theorem lePs_same {Le : World → World → Prop} {Pre : Nat → World → Prop} {k : Nat} {w : World} (h : Le w w) : LePs Le Pre k w w ↔ True := ⟨fun _ => trivial, fun _ => ⟨h, fun _ _ x => x⟩⟩
/-- what holds on the way -/
structure OnWayPs (Pre : Nat → World → Prop) (Le : World → World → Prop) (ops : List Oper) (R : Nat → Value → World → Prop) (a0 : Act) (w0 : World) (listed : Array Bool) (a : Act) (w : World) : Prop where
  size : listed.size = ops.length
  le : Le w0 w
  defers : a.defers = a0.defers
  tmps : a.tmps.size = a0.tmps.size
  closed : ∀ j o, ops[j]? = some o → listed.getD j false = true → ∀ d ∈ depsOf o, listed.getD d false = true
  known : ∀ j o, ops[j]? = some o → listed.getD j false = true → ∃ v, R j v w ∧ ∀ d, o.dst = some d → a.tmps.getD d undef = v
  pre : ∀ s, listed.getD s false = false → Pre s w
  rest : ∀ t, (∀ j o, ops[j]? = some o → listed.getD j false = true → o.dst ≠ some t) → a.tmps.getD t undef = a0.tmps.getD t undef

theorem region_any_phases {Pre : Nat → World → Prop} {Le : World → World → Prop} (hrefl : ∀ w, Le w w) (htrans : ∀ a b c, Le a b → Le b c → Le a c) (hdrew : ∀ w, Le w w.drew) {id : Nat} {Q : Exit → Act → World → Prop} {a0 : Act} {w : World} {l : List Oper} (n : Nat) (R : Nat → Value → World → Prop)
    (hm : P.follows .mixedOrders = true) (hB : anyB l n = true) (hn : a0.tmps.size = n) (hst : ∀ i v w1 w2, R i v w1 → Le w1 w2 → R i v w2)
    (hp0 : ∀ s, Pre s w.drew) (hs : ∀ i o, l[i]? = some o → ShownPs P Le Pre l R a0 w i o)
    (hfin : ∀ w1 val, Le w w1 → (∀ i o, l[i]? = some o → ∃ v, R i v w1 ∧ (o.dst.isSome = true → val i = v)) → Q .normal (putAll val l 0 a0) w1) : (Code.region id l.toArray true).wp P Q a0 w := by
  have hsize : l.toArray.size = l.length := by simp
  have allL : ∀ (listed : Array Bool), listed.size = l.length → Region.ready .any l.toArray listed = [] → ∀ k, k < l.length → listed.getD k false = true := by
    intro listed hls hr k
    induction k using Nat.strongRecOn with
    | _ k ih =>
      intro hk
      cases hc : listed.getD k false with
      | true => rfl
      | false =>
        exfalso
        have hok := opOk_of hB (i := k) (o := l[k]) (by simp [hk])
        have hmem : k ∈ Region.ready .any l.toArray listed := by
          rw [mem_ready]
          refine ⟨?_, l[k], by simp [hk], fun e he hb => ?_⟩
          · have : k < listed.size := by omega
            simp [this] at hc ⊢; exact hc
          · have hd : e.on ∈ depsOf l[k] := by
              unfold depsOf
              rw [List.mem_filterMap]
              exact ⟨e, by simpa using he, by rw [hb]; rfl⟩
            simp only [opOk, Bool.and_eq_true, List.all_eq_true, decide_eq_true_eq] at hok
            have hlt := hok.1.1.2 _ hd
            exact ih _ hlt (by omega)
        rw [hr] at hmem
        cases hmem
  have fin : ∀ (listed : Array Bool) (a : Act) (w1 : World), OnWayPs Pre Le l R a0 w listed a w1 → (∀ k, k < l.length → listed.getD k false = true) → Q .normal a w1 := by
    intro listed a w1 inv hall
    have hval := hfin w1 (fun j => match dstOf l j with | some d => a.tmps.getD d undef | none => undef) inv.le (fun i o hi => by
      obtain ⟨v, hv, he⟩ := inv.known i o hi (hall i (List.getElem?_eq_some_iff.1 hi).1)
      refine ⟨v, hv, fun hd => ?_⟩
      obtain ⟨d, hd⟩ := Option.isSome_iff_exists.1 hd
      have : dstOf l i = some d := by simp [dstOf, hi, hd]
      simp only [this]
      exact he d hd)
    have e : a = putAll (fun j => match dstOf l j with | some d => a.tmps.getD d undef | none => undef) l 0 a0 := by
      refine act_ext (by rw [putAll_size, inv.tmps]) (by rw [putAll_defers, inv.defers]) fun t => ?_
      by_cases ht : ∃ (j : Nat) (o : Oper), l[j]? = some o ∧ o.dst = some t
      · obtain ⟨j, o, hj, hd⟩ := ht
        have hok := opOk_of hB hj
        have htn : t < n := by
          simp only [opOk, hd, Bool.and_eq_true, decide_eq_true_eq] at hok
          exact hok.1.1.1.2.1
        rw [putAll_at _ t l 0 a0 j o hj hd (by rw [hn]; exact htn) (fun j' o' hj' hne hd' => by
          have hok' := opOk_of hB hj'
          simp only [opOk, Bool.and_eq_true, List.all_eq_true] at hok'
          have h2 := hok'.2 j (List.mem_range.2 (List.getElem?_eq_some_iff.1 hj).1)
          have hdj : dstOf l j = some t := by simp [dstOf, hj, hd]
          simp [hdj, hd', Ne.symm hne] at h2)]
        have hdj : dstOf l (0 + j) = some t := by simp [dstOf, hj, hd]
        simp only [hdj]
      · rw [putAll_other _ t l 0 a0 (fun o ho hd => ht (by
          obtain ⟨j, hj, e⟩ := List.getElem_of_mem ho
          exact ⟨j, o, by simp [hj, e], hd⟩))]
        exact inv.rest t (fun j o hj _ hd => ht ⟨j, o, hj, hd⟩)
    rw [e]; exact hval
  have key : ∀ (fuel : Nat) (listed : Array Bool) (a : Act) (w1 : World), OnWayPs Pre Le l R a0 w listed a w1 → cnt (fun k => listed.getD k false) l.length ≤ fuel → wpAny P .any l.toArray Q fuel listed a w1 := by
    intro fuel
    induction fuel with
    | zero =>
      intro listed a w1 inv hc
      have hall := cnt_zero (by omega : cnt (fun k => listed.getD k false) l.length = 0)
      refine ⟨?_, fin listed a w1 inv hall⟩
      rw [List.eq_nil_iff_forall_not_mem]
      intro j hj
      obtain ⟨h1, o, ho, _⟩ := mem_ready.1 hj
      have hlt : j < l.length := by
        have := (Array.getElem?_eq_some_iff.1 ho).1
        simpa using this
      have h2 := hall j hlt
      have : j < listed.size := by rw [inv.size]; exact hlt
      simp [this] at h1 h2
      rw [h1] at h2; cases h2
    | succ fuel ih =>
      intro listed a w1 inv hc
      refine ⟨fun hr => fin listed a w1 inv (allL listed inv.size hr), fun i hi => ?_⟩
      obtain ⟨h1, o, ho, hdeps⟩ := mem_ready.1 hi
      have hio : l[i]? = some o := by simpa using ho
      have hlt : i < l.length := (List.getElem?_eq_some_iff.1 hio).1
      have hls : i < listed.size := by rw [inv.size]; exact hlt
      have hun : listed.getD i false = false := by simp [hls] at h1 ⊢; exact h1
      have hok := opOk_of hB hio
      have hdl : ∀ d ∈ depsOf o, listed.getD d false = true := by
        intro d hd
        unfold depsOf at hd
        obtain ⟨e, he, hb⟩ := List.mem_filterMap.1 hd
        split at hb
        · rename_i hbb
          cases hb
          exact hdeps e (by simpa using he) hbb
        · cases hb
      have hcnt : cnt (fun k => (listed.setIfInBounds i true).getD k false) l.length ≤ fuel := by
        have := cnt_set (f := fun k => listed.getD k false) (g := fun k => (listed.setIfInBounds i true).getD k false) (i := i) (n := l.length) hlt hun (fun k => by
          by_cases hk : i = k
          · subst hk; simp [hls]
          · have hk' : (k == i) = false := by simp; omega
            simp only [getD_set_ne false hk, hk', Bool.or_false])
        omega
      have hkn : ∀ t ∈ readsOf l o, knownOf l R a0 o t (a.eval (.tmp t)) w1 := by
        intro t ht
        show knownOf l R a0 o t (a.tmps.getD t undef) w1
        unfold knownOf
        cases hsrc : srcOf l o t with
        | some j =>
          have hj := List.mem_of_find?_eq_some hsrc
          have hjt := List.find?_some hsrc
          have hjd : dstOf l j = some t := by simpa using hjt
          unfold dstOf at hjd
          cases hlj : l[j]? with
          | none => simp [hlj] at hjd
          | some oj =>
            simp [hlj] at hjd
            obtain ⟨v, hv, he⟩ := inv.known j oj hlj (hdl j hj)
            show R j (a.tmps.getD t undef) w1
            rw [he t hjd]; exact hv
        | none =>
          refine inv.rest t (fun j oj hlj hll hd => ?_)
          have hdj : dstOf l j = some t := by simp [dstOf, hlj, hd]
          have hne : j ≠ i := fun e => by subst e; rw [hun] at hll; cases hll
          simp only [opOk, Bool.and_eq_true, List.all_eq_true] at hok
          have h2 := hok.2 j (List.mem_range.2 (List.getElem?_eq_some_iff.1 hlj).1)
          simp only [hdj, hlj] at h2
          have ht' : (readsOf l o).contains t = true := by simpa using ht
          simp [hne, ht] at h2
          rcases h2.2 with h3 | h3
          · have := List.find?_eq_none.1 hsrc j h3
            simp [hdj] at this
          · have := inv.closed j oj hlj hll i h3
            rw [hun] at this; cases this
      have hpre : ∀ s, preB l s i = true → Pre s w1 := by
        intro s hb
        refine inv.pre s ?_
        cases hc : listed.getD s false with
        | false => rfl
        | true =>
          exfalso
          simp only [preB, Bool.or_eq_true, beq_iff_eq] at hb
          rcases hb with rfl | hb
          · rw [hun] at hc; cases hc
          · cases hos : l[s]? with
            | none => rw [hos] at hb; cases hb
            | some os =>
              rw [hos] at hb
              have := inv.closed s os hos hc i (by simpa using hb)
              rw [hun] at this; cases this
      have hsh := hs i o hio a.eval w1 ⟨fun _ => rfl, fun _ => rfl, fun _ => rfl⟩ ⟨inv.le, hpre⟩ (KnownAll.of hkn)
      have hwant : Region.wanted o (yielded l.toArray a.tmps) = wantedBy l o a.eval := by
        unfold Region.wanted wantedBy
        cases o.guard with
        | none => rfl
        | some g => simp only [yielded_eq]; rfl
      have step : ∀ v w2, LePs Le Pre i w1 w2 → R i v w2 → wpAny P .any l.toArray Q fuel (listed.setIfInBounds i true) (a.put o.dst v) w2 := by
        intro v w2 hle2 hv
        have hle := hle2.1
        refine ih _ _ _ ⟨by simp [inv.size], htrans _ _ _ inv.le hle, by rw [put_defers, inv.defers], by rw [put_size, inv.tmps], ?_, ?_, ?_, ?_⟩ hcnt
        · intro j oj hj hl d hd
          rcases listed_set hl with rfl | hl
          · rw [hio] at hj; cases hj
            exact getD_set_true (hdl d hd)
          · exact getD_set_true (inv.closed j oj hj hl d hd)
        · intro j oj hj hl
          rcases listed_set hl with rfl | hl2
          · rw [hio] at hj; cases hj
            refine ⟨v, hv, fun d hd => ?_⟩
            have hdn : d < n := by
              simp only [opOk, hd, Bool.and_eq_true, decide_eq_true_eq] at hok
              exact hok.1.1.1.2.1
            rw [hd, put_same _ _ _ (by rw [inv.tmps, hn]; exact hdn)]
          · by_cases hji : j = i
            · subst hji; rw [hun] at hl2; cases hl2
            · obtain ⟨v', hv', he'⟩ := inv.known j oj hj hl2
              refine ⟨v', hst j _ _ _ hv' hle, fun d hd => ?_⟩
              rw [put_other _ _ _ _ (fun hd' => by
                simp only [opOk, Bool.and_eq_true, List.all_eq_true] at hok
                have h2 := hok.2 j (List.mem_range.2 (List.getElem?_eq_some_iff.1 hj).1)
                have hdj : dstOf l j = some d := by simp [dstOf, hj, hd]
                simp [hdj, hd', hji] at h2)]
              exact he' d hd
        · intro s hns
          by_cases his : i = s
          · subst his; simp [hls] at hns
          · have hns2 : listed.getD s false = false := by
              rw [getD_set_ne false his] at hns; exact hns
            exact hle2.2 s (fun e => his e.symm) (inv.pre s hns2)
        · intro t ht
          have h1 : o.dst ≠ some t := ht i o hio (by simp [hls])
          rw [put_other _ _ _ _ h1]
          exact inv.rest t (fun j oj hj hl => ht j oj hj (getD_set_true hl))
      unfold wpOp
      simp only [ho, hwant]
      split
      · rename_i hw
        rw [hw] at hsh
        simp only [if_true] at hsh
        left
        unfold Oper.wp
        generalize (execOp a.eval o).run P w1 = r at hsh
        cases r with
        | halt x w' => exact hsh.elim
        | ok nx w' =>
          cases nx with
          | value v => exact step v w' hsh.1 hsh.2
          | skip => exact step undef w' hsh.1 hsh.2
          | enter f args =>
            obtain ⟨h2, h3⟩ := hsh
            exact h3.mono fun e w'' ⟨v, he, hle, hv⟩ => by subst he; exact step v w'' ⟨htrans _ _ _ h2.1 hle.1, fun s hb hp => hle.2 s hb (h2.2 s hb hp)⟩ hv
          | _ => exact hsh.elim
      · rename_i hw
        simp only [Bool.not_eq_true] at hw
        rw [hw] at hsh
        exact step undef w1 ⟨hrefl _, fun _ _ h => h⟩ (by simpa using hsh)
  refine wp_region_any hm ?_
  refine key l.toArray.size (Array.replicate l.toArray.size false) a0 w.drew ⟨by rw [Array.size_replicate, hsize], hdrew w, rfl, rfl, ?_, ?_, fun s _ => hp0 s, ?_⟩ ?_
  · intro j o _ hl; rw [getD_replicate_false'] at hl; cases hl
  · intro j o _ hl; rw [getD_replicate_false'] at hl; cases hl
  · intro t _; rfl
  · show cnt _ l.length ≤ l.toArray.size
    rw [hsize]; exact cnt_le _ _

theorem region_phases {Le : World → World → Prop} (Pre : Nat → World → Prop) (hrefl : ∀ w, Le w w) (htrans : ∀ a b c, Le a b → Le b c → Le a c) (hdrew : ∀ w, Le w w.drew) {id : Nat} {Q : Exit → Act → World → Prop} {a0 : Act} {w : World} (hp0 : ∀ s, Pre s w.drew) {l : List Oper} (n : Nat) (Rs : List (Value → World → Prop))
    (hm : P.follows .mixedOrders = true) (hB : anyB l n = true) (_ : true = true) (hlen : Rs.length = l.length) (hn : a0.tmps.size = n) (hst : AllStable Le Rs)
    (hs : AllShownPs P Le Pre l Rs a0 w l 0) (hfin : ∀ w1 val, Le w w1 → Holds val w1 Rs 0 → Q .normal (putAll val l 0 a0) w1) : (Code.region id l.toArray true).wp P Q a0 w :=
  region_any_phases hrefl htrans hdrew n (nth Rs) hm hB hn (fun i v w1 w2 => hst.get i v w1 w2) hp0 (fun i o hi => by simpa using hs.get i o hi)
    (fun w1 val hg h => by
      have hex : ∀ i, ∃ v, (i < l.length → nth Rs i v w1) ∧ ∀ o, l[i]? = some o → o.dst.isSome = true → val i = v := by
        intro i
        by_cases hi : i < l.length
        · obtain ⟨v, hv, he⟩ := h i l[i] (by simp [hi])
          exact ⟨v, fun _ => hv, fun o ho hd => by rw [List.getElem?_eq_getElem hi] at ho; cases ho; exact he hd⟩
        · exact ⟨undef, fun h => absurd h hi, fun o ho => by rw [List.getElem?_eq_none (by omega)] at ho; cases ho⟩
      obtain ⟨val2, h2⟩ := Classical.axiomOfChoice hex
      rw [putAll_congr (f := val) (g := val2) l 0 a0 fun i o hi hd => by rw [Nat.zero_add]; exact (h2 i).2 o hi hd]
      exact hfin w1 val2 hg (Holds.of fun i hi => by rw [Nat.zero_add]; exact (h2 i).1 (by omega)))
/-- a block in which one cell is the slice of the append -/
def GoodF (row : Option Nat) (B : Option Obj) (base : Nat) (t e : TypeId) (size n : Nat) (xs : List Value) (N g : Nat) (F : Value → List Value) (w : World) : Prop := ∃ v, Blk w g t (F v) ∧ Apn row B base e size n xs N v w
section
variable {row : Option Nat} {A B : Option Obj} {g : Nat} {Good : World → Prop} {base : Nat} {t e : TypeId} {size n : Nat} {xs : List Value} {N : Nat} {F : Value → List Value}
theorem GoodF.duo {w1 w2 : World} (h : GoodF row B base t e size n xs N g F w1) (hg : g < N) (hgr : some g ≠ row) (k : Duo row A B g Good w1 w2) (hs : w2.heap[g]? = w1.heap[g]?) : GoodF row B base t e size n xs N g F w2 := by
  obtain ⟨v, h1, h2⟩ := h
  exact ⟨v, hs.trans h1, h2.duo hg hgr k⟩
theorem GoodF.drew (hg : g < N) (hgr : some g ≠ row) (w : World) (h : GoodF row B base t e size n xs N g F w) : GoodF row B base t e size n xs N g F w.drew :=
  h.duo (A := none) (Good := fun _ => True) hg hgr (Duo.drew (fun _ _ => trivial) w) rfl
theorem duo_setF {v : Value} {w : World} {i : Nat} (hB : Blk (w.setCell ⟨g, i, none⟩ v) g t (F v)) (ha : Apn row B base e size n xs N v w) (hg : g < N) (hgr : some g ≠ row) :
    Duo row A B g (GoodF row B base t e size n xs N g F) w (w.setCell ⟨g, i, none⟩ v) ∧ GoodF row B base t e size n xs N g F (w.setCell ⟨g, i, none⟩ v) := by
  have hf := grown_set w g i v
  have k : Duo row A B g (fun _ => True) w (w.setCell ⟨g, i, none⟩ v) :=
    ⟨hf.os, hf.tape, hf.output, hf.size, fun k hk _ h => hf.block k hk (fun e => h (Option.some.inj e)), fun r hr => .inl (Below.heap_setCell w _ v r (fun e => hgr (by rw [hr, e]))), .inr trivial, fun _ => trivial⟩
  have good : GoodF row B base t e size n xs N g F (w.setCell ⟨g, i, none⟩ v) := ⟨v, hB, ha.duo hg hgr k⟩
  exact ⟨⟨k.os, k.tape, k.output, k.size, k.block, k.row, .inr good, fun _ => good⟩, good⟩
end
end
end Go.Proofs.Ytnafhjgfkofkbaa
/- A region that draws its order, with a ghost beside the world: what has been done is told by it. No program is in sight here. -/
namespace Go.Proofs.Ytnafhjgfkofkbaa
set_option linter.unusedVariables false
set_option linter.unusedSimpArgs false
open Go.RowKit
section
variable {P : Program} {G : Type}
/-- a value, whatever the state -/
def IsG (x : Value) : Value → World × G → Prop := fun v _ => v = x
/-- a value, in states of a kind -/
def IsS (x : Value) (p : World × G → Prop) : Value → World × G → Prop := fun v s => v = x ∧ p s
def nthG (Rs : List (Value → World × G → Prop)) (i : Nat) : Value → World × G → Prop := Rs.getD i fun _ _ => True
def StableG (Le : World × G → World × G → Prop) (r : Value → World × G → Prop) : Prop := ∀ v s1 s2, r v s1 → Le s1 s2 → r v s2
def AllStableG (Le : World × G → World × G → Prop) : List (Value → World × G → Prop) → Prop
  | [] => True
  | r :: rs => StableG Le r ∧ AllStableG Le rs
theorem AllStableG.get {Le : World × G → World × G → Prop} : ∀ {Rs : List (Value → World × G → Prop)}, AllStableG Le Rs → ∀ i v s1 s2, nthG Rs i v s1 → Le s1 s2 → nthG Rs i v s2
  | [], _, i, v, s1, s2, _, _ => by simp [nthG]
  | r :: rs, h, 0, v, s1, s2, hr, hl => h.1 v s1 s2 hr hl
  | r :: rs, h, i + 1, v, s1, s2, hr, hl => by
    have := AllStableG.get h.2 i v s1 s2 (by simpa [nthG] using hr) hl
    simpa [nthG] using this
theorem IsG.stable {Le : World × G → World × G → Prop} (x : Value) : StableG Le (IsG x) := fun _ _ _ h _ => h
def HoldsG (val : Nat → Value) (s : World × G) : List (Value → World × G → Prop) → Nat → Prop
  | [], _ => True
  | r :: rs, i => r (val i) s ∧ HoldsG val s rs (i + 1)
theorem HoldsG.of {val : Nat → Value} {s : World × G} : ∀ {Rs : List (Value → World × G → Prop)} {k : Nat}, (∀ i, i < Rs.length → nthG Rs i (val (k + i)) s) → HoldsG val s Rs k
  | [], _, _ => trivial
  | r :: rs, k, h => ⟨by simpa [nthG] using h 0 (by simp), HoldsG.of fun i hi => by
    have := h (i + 1) (by simpa using hi)
    rw [show k + (i + 1) = k + 1 + i by omega] at this
    simpa [nthG] using this⟩
/-- a step, that keeps all phases but its own -/
def LePg (Le : World × G → World × G → Prop) (Pre : Nat → World × G → Prop) (i : Nat) (s s' : World × G) : Prop := Le s s' ∧ ∀ k, k ≠ i → Pre k s → Pre k s'
def growG (P : Program) (LE : World × G → World × G → Prop) (s : World × G) (R : Value → World × G → Prop) : Result Next → Prop
  | .ok (.value v) w' => ∃ g', LE s (w', g') ∧ R v (w', g')
  | .ok .skip w' => ∃ g', LE s (w', g') ∧ R undef (w', g')
  | .ok (.enter f args) w' => Calls P f args w' fun e w'' => ∃ v g', e = .returned v ∧ LE s (w'', g') ∧ R v (w'', g')
  | _ => False
theorem growG_value (LE : World × G → World × G → Prop) (s : World × G) (R : Value → World × G → Prop) (v : Value) (w' : World) (g' : G) (h : LE s (w', g')) (hR : R v (w', g')) : growG P LE s R (.ok (.value v) w') := ⟨g', h, hR⟩
theorem growG_skip {LE : World × G → World × G → Prop} {s : World × G} {R : Value → World × G → Prop} {w' : World} (g' : G) (h : LE s (w', g')) (hR : R undef (w', g')) : growG P LE s R (.ok .skip w') := ⟨g', h, hR⟩
theorem growG_enter {LE : World × G → World × G → Prop} {s : World × G} {R : Value → World × G → Prop} {f : FuncId} {args : Array Value} {w' : World} (h : Calls P f args w' fun e w'' => ∃ v g', e = .returned v ∧ LE s (w'', g') ∧ R v (w'', g')) : growG P LE s R (.ok (.enter f args) w') := h
theorem pureG {Le : World × G → World × G → Prop} {Pre : Nat → World × G → Prop} {i : Nat} {w : World} {g : G} {v x : Value} (hr : ∀ s, Le s s) (h : v = x) : growG P (LePg Le Pre i) (w, g) (IsG x) (.ok (.value v) w) := ⟨g, ⟨hr _, fun _ _ h => h⟩, h⟩
def ShownG (P : Program) (Le : World × G → World × G → Prop) (Pre : Nat → World × G → Prop) (ops : List Oper) (R : Nat → Value → World × G → Prop) (a0 : Act) (s0 : World × G) (i : Nat) (o : Oper) : Prop :=
  ∀ ρ w g, Ev ρ → (Le s0 (w, g) ∧ ∀ k, preB ops k i = true → Pre k (w, g)) → KnownAll ops (fun j v w' => R j v (w', g)) a0 o ρ w (readsOf ops o) →
    if wantedBy ops o ρ then growG P (LePg Le Pre i) (w, g) (R i) ((execOp ρ o).run P w) else R i undef (w, g)
def AllShownG (P : Program) (Le : World × G → World × G → Prop) (Pre : Nat → World × G → Prop) (ops : List Oper) (Rs : List (Value → World × G → Prop)) (a0 : Act) (s0 : World × G) : List Oper → Nat → Prop
  | [], _ => True
  | o :: r, i => ShownG P Le Pre ops (nthG Rs) a0 s0 i o ∧ AllShownG P Le Pre ops Rs a0 s0 r (i + 1)
theorem AllShownG.get {Le : World × G → World × G → Prop} {Pre : Nat → World × G → Prop} {ops : List Oper} {Rs : List (Value → World × G → Prop)} {a0 : Act} {s0 : World × G} : ∀ {l : List Oper} {k : Nat}, AllShownG P Le Pre ops Rs a0 s0 l k → ∀ i o, l[i]? = some o → ShownG P Le Pre ops (nthG Rs) a0 s0 (k + i) o
  | [], _, _, i, o, hi => by simp at hi
  | x :: r, k, h, 0, o, hi => by simp at hi; subst hi; exact h.1
  | x :: r, k, h, i + 1, o, hi => by
    have := h.2.get i o (by simpa using hi)
    rwa [show k + 1 + i = k + (i + 1) by omega] at this
/-- what holds on the way -/
structure OnWayG (Pre : Nat → World × G → Prop) (Le : World × G → World × G → Prop) (ops : List Oper) (R : Nat → Value → World × G → Prop) (a0 : Act) (s0 : World × G) (listed : Array Bool) (a : Act) (w : World) (gh : G) : Prop where
  size : listed.size = ops.length
  le : Le s0 (w, gh)
  defers : a.defers = a0.defers
  tmps : a.tmps.size = a0.tmps.size
  closed : ∀ j o, ops[j]? = some o → listed.getD j false = true → ∀ d ∈ depsOf o, listed.getD d false = true
  known : ∀ j o, ops[j]? = some o → listed.getD j false = true → ∃ v, R j v (w, gh) ∧ ∀ d, o.dst = some d → a.tmps.getD d undef = v
  pre : ∀ s, listed.getD s false = false → Pre s (w, gh)
  rest : ∀ t, (∀ j o, ops[j]? = some o → listed.getD j false = true → o.dst ≠ some t) → a.tmps.getD t undef = a0.tmps.getD t undef

theorem region_any_ghost {Pre : Nat → World × G → Prop} {Le : World × G → World × G → Prop} (hrefl : ∀ s, Le s s) (htrans : ∀ a b c, Le a b → Le b c → Le a c) {id : Nat} {Q : Exit → Act → World → Prop} {a0 : Act} {w : World} (g0 : G) {l : List Oper} (n : Nat) (R : Nat → Value → World × G → Prop)
    (hm : P.follows .mixedOrders = true) (hB : anyB l n = true) (hn : a0.tmps.size = n) (hst : ∀ i v w1 w2, R i v w1 → Le w1 w2 → R i v w2)
    (hp0 : ∀ s, Pre s (w.drew, g0)) (hs : ∀ i o, l[i]? = some o → ShownG P Le Pre l R a0 (w.drew, g0) i o)
    (hfin : ∀ w1 g1 val, Le (w.drew, g0) (w1, g1) → (∀ i o, l[i]? = some o → ∃ v, R i v (w1, g1) ∧ (o.dst.isSome = true → val i = v)) → Q .normal (putAll val l 0 a0) w1) : (Code.region id l.toArray true).wp P Q a0 w := by
  have hsize : l.toArray.size = l.length := by simp
  have allL : ∀ (listed : Array Bool), listed.size = l.length → Region.ready .any l.toArray listed = [] → ∀ k, k < l.length → listed.getD k false = true := by
    intro listed hls hr k
    induction k using Nat.strongRecOn with
    | _ k ih =>
      intro hk
      cases hc : listed.getD k false with
      | true => rfl
      | false =>
        exfalso
        have hok := opOk_of hB (i := k) (o := l[k]) (by simp [hk])
        have hmem : k ∈ Region.ready .any l.toArray listed := by
          rw [mem_ready]
          refine ⟨?_, l[k], by simp [hk], fun e he hb => ?_⟩
          · have : k < listed.size := by omega
            simp [this] at hc ⊢; exact hc
          · have hd : e.on ∈ depsOf l[k] := by
              unfold depsOf
              rw [List.mem_filterMap]
              exact ⟨e, by simpa using he, by rw [hb]; rfl⟩
            simp only [opOk, Bool.and_eq_true, List.all_eq_true, decide_eq_true_eq] at hok
            have hlt := hok.1.1.2 _ hd
            exact ih _ hlt (by omega)
        rw [hr] at hmem
        cases hmem
  have fin : ∀ (listed : Array Bool) (a : Act) (w1 : World) (g1 : G), OnWayG Pre Le l R a0 (w.drew, g0) listed a w1 g1 → (∀ k, k < l.length → listed.getD k false = true) → Q .normal a w1 := by
    intro listed a w1 g1 inv hall
    have hval := hfin w1 g1 (fun j => match dstOf l j with | some d => a.tmps.getD d undef | none => undef) inv.le (fun i o hi => by
      obtain ⟨v, hv, he⟩ := inv.known i o hi (hall i (List.getElem?_eq_some_iff.1 hi).1)
      refine ⟨v, hv, fun hd => ?_⟩
      obtain ⟨d, hd⟩ := Option.isSome_iff_exists.1 hd
      have : dstOf l i = some d := by simp [dstOf, hi, hd]
      simp only [this]
      exact he d hd)
    have e : a = putAll (fun j => match dstOf l j with | some d => a.tmps.getD d undef | none => undef) l 0 a0 := by
      refine act_ext (by rw [putAll_size, inv.tmps]) (by rw [putAll_defers, inv.defers]) fun t => ?_
      by_cases ht : ∃ (j : Nat) (o : Oper), l[j]? = some o ∧ o.dst = some t
      · obtain ⟨j, o, hj, hd⟩ := ht
        have hok := opOk_of hB hj
        have htn : t < n := by
          simp only [opOk, hd, Bool.and_eq_true, decide_eq_true_eq] at hok
          exact hok.1.1.1.2.1
        rw [putAll_at _ t l 0 a0 j o hj hd (by rw [hn]; exact htn) (fun j' o' hj' hne hd' => by
          have hok' := opOk_of hB hj'
          simp only [opOk, Bool.and_eq_true, List.all_eq_true] at hok'
          have h2 := hok'.2 j (List.mem_range.2 (List.getElem?_eq_some_iff.1 hj).1)
          have hdj : dstOf l j = some t := by simp [dstOf, hj, hd]
          simp [hdj, hd', Ne.symm hne] at h2)]
        have hdj : dstOf l (0 + j) = some t := by simp [dstOf, hj, hd]
        simp only [hdj]
      · rw [putAll_other _ t l 0 a0 (fun o ho hd => ht (by
          obtain ⟨j, hj, e⟩ := List.getElem_of_mem ho
          exact ⟨j, o, by simp [hj, e], hd⟩))]
        exact inv.rest t (fun j o hj _ hd => ht ⟨j, o, hj, hd⟩)
    rw [e]; exact hval
  have key : ∀ (fuel : Nat) (listed : Array Bool) (a : Act) (w1 : World) (g1 : G), OnWayG Pre Le l R a0 (w.drew, g0) listed a w1 g1 → cnt (fun k => listed.getD k false) l.length ≤ fuel → wpAny P .any l.toArray Q fuel listed a w1 := by
    intro fuel
    induction fuel with
    | zero =>
      intro listed a w1 g1 inv hc
      have hall := cnt_zero (by omega : cnt (fun k => listed.getD k false) l.length = 0)
      refine ⟨?_, fin listed a w1 g1 inv hall⟩
      rw [List.eq_nil_iff_forall_not_mem]
      intro j hj
      obtain ⟨h1, o, ho, _⟩ := mem_ready.1 hj
      have hlt : j < l.length := by
        have := (Array.getElem?_eq_some_iff.1 ho).1
        simpa using this
      have h2 := hall j hlt
      have : j < listed.size := by rw [inv.size]; exact hlt
      simp [this] at h1 h2
      rw [h1] at h2; cases h2
    | succ fuel ih =>
      intro listed a w1 g1 inv hc
      refine ⟨fun hr => fin listed a w1 g1 inv (allL listed inv.size hr), fun i hi => ?_⟩
      obtain ⟨h1, o, ho, hdeps⟩ := mem_ready.1 hi
      have hio : l[i]? = some o := by simpa using ho
      have hlt : i < l.length := (List.getElem?_eq_some_iff.1 hio).1
      have hls : i < listed.size := by rw [inv.size]; exact hlt
      have hun : listed.getD i false = false := by simp [hls] at h1 ⊢; exact h1
      have hok := opOk_of hB hio
      have hdl : ∀ d ∈ depsOf o, listed.getD d false = true := by
        intro d hd
        unfold depsOf at hd
        obtain ⟨e, he, hb⟩ := List.mem_filterMap.1 hd
        split at hb
        · rename_i hbb
          cases hb
          exact hdeps e (by simpa using he) hbb
        · cases hb
      have hcnt : cnt (fun k => (listed.setIfInBounds i true).getD k false) l.length ≤ fuel := by
        have := cnt_set (f := fun k => listed.getD k false) (g := fun k => (listed.setIfInBounds i true).getD k false) (i := i) (n := l.length) hlt hun (fun k => by
          by_cases hk : i = k
          · subst hk; simp [hls]
          · have hk' : (k == i) = false := by simp; omega
            simp only [getD_set_ne false hk, hk', Bool.or_false])
        omega
      have hkn : ∀ t ∈ readsOf l o, knownOf l (fun j v w' => R j v (w', g1)) a0 o t (a.eval (.tmp t)) w1 := by
        intro t ht
        show knownOf l (fun j v w' => R j v (w', g1)) a0 o t (a.tmps.getD t undef) w1
        unfold knownOf
        cases hsrc : srcOf l o t with
        | some j =>
          have hj := List.mem_of_find?_eq_some hsrc
          have hjt := List.find?_some hsrc
          have hjd : dstOf l j = some t := by simpa using hjt
          unfold dstOf at hjd
          cases hlj : l[j]? with
          | none => simp [hlj] at hjd
          | some oj =>
            simp [hlj] at hjd
            obtain ⟨v, hv, he⟩ := inv.known j oj hlj (hdl j hj)
            show R j (a.tmps.getD t undef) (w1, g1)
            rw [he t hjd]; exact hv
        | none =>
          refine inv.rest t (fun j oj hlj hll hd => ?_)
          have hdj : dstOf l j = some t := by simp [dstOf, hlj, hd]
          have hne : j ≠ i := fun e => by subst e; rw [hun] at hll; cases hll
          simp only [opOk, Bool.and_eq_true, List.all_eq_true] at hok
          have h2 := hok.2 j (List.mem_range.2 (List.getElem?_eq_some_iff.1 hlj).1)
          simp only [hdj, hlj] at h2
          have ht' : (readsOf l o).contains t = true := by simpa using ht
          simp [hne, ht] at h2
          rcases h2.2 with h3 | h3
          · have := List.find?_eq_none.1 hsrc j h3
            simp [hdj] at this
          · have := inv.closed j oj hlj hll i h3
            rw [hun] at this; cases this
      have hpre : ∀ s, preB l s i = true → Pre s (w1, g1) := by
        intro s hb
        refine inv.pre s ?_
        cases hc : listed.getD s false with
        | false => rfl
        | true =>
          exfalso
          simp only [preB, Bool.or_eq_true, beq_iff_eq] at hb
          rcases hb with rfl | hb
          · rw [hun] at hc; cases hc
          · cases hos : l[s]? with
            | none => rw [hos] at hb; cases hb
            | some os =>
              rw [hos] at hb
              have := inv.closed s os hos hc i (by simpa using hb)
              rw [hun] at this; cases this
      have hsh := hs i o hio a.eval w1 g1 ⟨fun _ => rfl, fun _ => rfl, fun _ => rfl⟩ ⟨inv.le, hpre⟩ (KnownAll.of hkn)
      have hwant : Region.wanted o (yielded l.toArray a.tmps) = wantedBy l o a.eval := by
        unfold Region.wanted wantedBy
        cases o.guard with
        | none => rfl
        | some g => simp only [yielded_eq]; rfl
      have step : ∀ v w2 g2, LePg Le Pre i (w1, g1) (w2, g2) → R i v (w2, g2) → wpAny P .any l.toArray Q fuel (listed.setIfInBounds i true) (a.put o.dst v) w2 := by
        intro v w2 g2 hle2 hv
        have hle := hle2.1
        refine ih _ _ _ g2 ⟨by simp [inv.size], htrans _ _ _ inv.le hle, by rw [put_defers, inv.defers], by rw [put_size, inv.tmps], ?_, ?_, ?_, ?_⟩ hcnt
        · intro j oj hj hl d hd
          rcases listed_set hl with rfl | hl
          · rw [hio] at hj; cases hj
            exact getD_set_true (hdl d hd)
          · exact getD_set_true (inv.closed j oj hj hl d hd)
        · intro j oj hj hl
          rcases listed_set hl with rfl | hl2
          · rw [hio] at hj; cases hj
            refine ⟨v, hv, fun d hd => ?_⟩
            have hdn : d < n := by
              simp only [opOk, hd, Bool.and_eq_true, decide_eq_true_eq] at hok
              exact hok.1.1.1.2.1
            rw [hd, put_same _ _ _ (by rw [inv.tmps, hn]; exact hdn)]
          · by_cases hji : j = i
            · subst hji; rw [hun] at hl2; cases hl2
            · obtain ⟨v', hv', he'⟩ := inv.known j oj hj hl2
              refine ⟨v', hst j _ _ _ hv' hle, fun d hd => ?_⟩
              rw [put_other _ _ _ _ (fun hd' => by
                simp only [opOk, Bool.and_eq_true, List.all_eq_true] at hok
                have h2 := hok.2 j (List.mem_range.2 (List.getElem?_eq_some_iff.1 hj).1)
                have hdj : dstOf l j = some d := by simp [dstOf, hj, hd]
                simp [hdj, hd', hji] at h2)]
              exact he' d hd
        · intro s hns
          by_cases his : i = s
          · subst his; simp [hls] at hns
          · have hns2 : listed.getD s false = false := by
              rw [getD_set_ne false his] at hns; exact hns
            exact hle2.2 s (fun e => his e.symm) (inv.pre s hns2)
        · intro t ht
          have h1 : o.dst ≠ some t := ht i o hio (by simp [hls])
          rw [put_other _ _ _ _ h1]
          exact inv.rest t (fun j oj hj hl => ht j oj hj (getD_set_true hl))
      unfold wpOp
      simp only [ho, hwant]
      split
      · rename_i hw
        rw [hw] at hsh
        simp only [if_true] at hsh
        left
        unfold Oper.wp
        generalize (execOp a.eval o).run P w1 = r at hsh
        cases r with
        | halt x w' => exact hsh.elim
        | ok nx w' =>
          cases nx with
          | value v => obtain ⟨g2, h2, h3⟩ := hsh; exact step v w' g2 h2 h3
          | skip => obtain ⟨g2, h2, h3⟩ := hsh; exact step undef w' g2 h2 h3
          | enter f args => exact Calls.mono hsh fun e w'' ⟨v, g2, he, hle, hv⟩ => by subst he; exact step v w'' g2 hle hv
          | _ => exact hsh.elim
      · rename_i hw
        simp only [Bool.not_eq_true] at hw
        rw [hw] at hsh
        exact step undef w1 g1 ⟨hrefl _, fun _ _ h => h⟩ (by simpa using hsh)
  refine wp_region_any hm ?_
  refine key l.toArray.size (Array.replicate l.toArray.size false) a0 w.drew g0 ⟨by rw [Array.size_replicate, hsize], hrefl _, rfl, rfl, ?_, ?_, fun s _ => hp0 s, ?_⟩ ?_
  · intro j o _ hl; rw [getD_replicate_false'] at hl; cases hl
  · intro j o _ hl; rw [getD_replicate_false'] at hl; cases hl
  · intro t _; rfl
  · show cnt _ l.length ≤ l.toArray.size
    rw [hsize]; exact cnt_le _ _

theorem region_ghost {Le : World × G → World × G → Prop} (Pre : Nat → World × G → Prop) (hrefl : ∀ s, Le s s) (htrans : ∀ a b c, Le a b → Le b c → Le a c) {id : Nat} {Q : Exit → Act → World → Prop} {a0 : Act} {w : World} (g0 : G) (hp0 : ∀ s, Pre s (w.drew, g0)) {l : List Oper} (n : Nat) (Rs : List (Value → World × G → Prop))
    (hm : P.follows .mixedOrders = true) (hB : anyB l n = true) (_ : true = true) (hlen : Rs.length = l.length) (hn : a0.tmps.size = n) (hst : AllStableG Le Rs)
    (hs : AllShownG P Le Pre l Rs a0 (w.drew, g0) l 0) (hfin : ∀ w1 g1 val, Le (w.drew, g0) (w1, g1) → HoldsG val (w1, g1) Rs 0 → Q .normal (putAll val l 0 a0) w1) : (Code.region id l.toArray true).wp P Q a0 w :=
  region_any_ghost hrefl htrans g0 n (nthG Rs) hm hB hn (fun i v w1 w2 => hst.get i v w1 w2) hp0 (fun i o hi => by simpa using hs.get i o hi)
    (fun w1 g1 val hg h => by
      have hex : ∀ i, ∃ v, (i < l.length → nthG Rs i v (w1, g1)) ∧ ∀ o, l[i]? = some o → o.dst.isSome = true → val i = v := by
        intro i
        by_cases hi : i < l.length
        · obtain ⟨v, hv, he⟩ := h i l[i] (by simp [hi])
          exact ⟨v, fun _ => hv, fun o ho hd => by rw [List.getElem?_eq_getElem hi] at ho; cases ho; exact he hd⟩
        · exact ⟨undef, fun h => absurd h hi, fun o ho => by rw [List.getElem?_eq_none (by omega)] at ho; cases ho⟩
      obtain ⟨val2, h2⟩ := Classical.axiomOfChoice hex
      rw [putAll_congr (f := val) (g := val2) l 0 a0 fun i o hi hd => by rw [Nat.zero_add]; exact (h2 i).2 o hi hd]
      exact hfin w1 g1 val2 hg (HoldsG.of fun i hi => by rw [Nat.zero_add]; exact (h2 i).1 (by omega)))
end
end Go.Proofs.Ytnafhjgfkofkbaa
/- A block's whole row, loaded and stored at once; results that lie in rows. No program is in sight here. -/
namespace Go.Proofs.Ytnafhjgfkofkbaa
set_option linter.unusedVariables false
set_option linter.unusedSimpArgs false
open Go.RowKit
theorem rangeAt_blk {w : World} {g : Nat} {t : TypeId} {cs : List Value} (h : Blk w g t cs) : w.rangeAt g 0 cs := fun j v hv => by
  rw [Nat.zero_add]; exact h.cell hv
section
variable {P : Program}
theorem load_blk {w : World} {g : Nat} {t ty : TypeId} {cs : List Value} {d : TypeDesc} {n : Nat} (hb : Blk w g t cs) (hu : P.underlying ty = some d) (hd : d.isRow = true) (hi : (P.info? ty).map (·.size) = some n) (hn : cs.length = n) :
    (loadVar ty ⟨g, 0, none⟩).run P w = .ok (.agg cs.toArray) w := run_loadVar_mid w g 0 ty cs d (rangeAt_blk hb) hu hd (by rw [hn]; exact hi)
theorem wp_load_blk {w : World} {ops : Array Oper} {rest : List Oper} {o : Oper} {a : Act} {Q : Exit → Act → World → Prop} (hgd : o.guard = none) (ty : TypeId) (x : Operand) (ho : o.op = .load ty x)
    {g : Nat} {t : TypeId} {cs : List Value} {d : TypeDesc} {n : Nat} (hx : a.eval x = .pointer (some ⟨g, 0, none⟩)) (hb : Blk w g t cs) (hu : P.underlying ty = some d) (hd : d.isRow = true) (hi : (P.info? ty).map (·.size) = some n) (hn : cs.length = n)
    (h : wpList P ops Q rest (a.put o.dst (.agg cs.toArray)) w) : wpList P ops Q (o :: rest) a w :=
  wpList_load_mid hgd ty x ho g 0 hx cs d (rangeAt_blk hb) hu hd (by rw [hn]; exact hi) h
theorem wp_store_blk {w : World} {ops : Array Oper} {rest : List Oper} {o : Oper} {a : Act} {Q : Exit → Act → World → Prop} (hgd : o.guard = none) (ty : TypeId) (x y : Operand) (ho : o.op = .store ty x y)
    {g : Nat} {t : TypeId} {cs cs' : List Value} {n : Nat} (hx : a.eval x = .pointer (some ⟨g, 0, none⟩)) (hy : a.eval y = .agg cs'.toArray) (hb : Blk w g t cs) (hi : (P.info? ty).map (·.size) = some n) (hn : cs.length = n) (hn' : cs'.length = n) (h1 : ∀ v ∈ cs', v.oneCell' = true)
    (h : wpList P ops Q rest (a.put o.dst undef) (w.setRow g cs'.toArray)) : wpList P ops Q (o :: rest) a w := by
  refine wpList_plain hgd fun K hK => ?_
  have hr := run_storeVar_row (P := P) w g t ty cs.toArray cs'.toArray hb (by rw [hi]; simp [hn']) (by simp [hn, hn']) (all_oneCell_toArray h1)
  unfold Oper.wp execOp
  simp only [ho, hx, hy, Instr.storeAt, Instr.sureAddr, Sem.run_bind, Sem.run_pure, Result.andThen_ok, hr]
  exact hK _ _ h
theorem Blk.setRow' {w : World} {b : Nat} {e : TypeId} {cs : List Value} (h : Blk w b e cs) (ds : List Value) : Blk (w.setRow b ds.toArray) b e ds := setRow_heap w b cs.toArray ds.toArray e (0, 0) h
theorem gr_setRow {a w : World} {b : Nat} (h : Gr a w) (hb : a.heap.size ≤ b) (cs : Array Value) : Gr a (w.setRow b cs) :=
  h.grown (row := some b) ⟨rfl, rfl, rfl, by simp, fun k _ hk => setRow_other w b k cs (fun e => hk (by rw [e]))⟩ (fun k e => by cases e; exact hb)
theorem Blk.row_far {w : World} {g b : Nat} {t : TypeId} {cs : List Value} (h : Blk w g t cs) (hne : g ≠ b) (ds : Array Value) : Blk (w.setRow b ds) g t cs := (setRow_other w b g ds hne).trans h
/-- the same, the world behind it any that holds the row -/
theorem wp_store_row {w : World} {ops : Array Oper} {rest : List Oper} {o : Oper} {a : Act} {Q : Exit → Act → World → Prop} (hgd : o.guard = none) (ty : TypeId) (x y : Operand) (ho : o.op = .store ty x y)
    {g : Nat} {t : TypeId} {cs cs' : List Value} {n : Nat} (hx : a.eval x = .pointer (some ⟨g, 0, none⟩)) (hy : a.eval y = .agg cs'.toArray) (hb : Blk w g t cs) (hi : (P.info? ty).map (·.size) = some n) (hn : cs.length = n) (hn' : cs'.length = n) (h1 : ∀ v ∈ cs', v.oneCell' = true)
    (h : ∀ w', Blk w' g t cs' → w.grownBy w' (some g) → wpList P ops Q rest (a.put o.dst undef) w') : wpList P ops Q (o :: rest) a w :=
  wp_store_blk hgd ty x y ho hx hy hb hi hn hn' h1 (h _ (hb.setRow' cs') ⟨rfl, rfl, rfl, by simp, fun k _ hk => setRow_other w g k _ (fun e => hk (by rw [e]))⟩)
theorem results_cell_tmp {fn : Func} {t u : Tmp} {ty : TypeId} (h : fn.results = #[.cell t ty, .tmp u]) {tmps : Array Value} {w : World} {g : Nat} {v : Value} (ht : tmps.getD t undef = .pointer (some ⟨g, 0, none⟩)) (hl : (loadVar ty ⟨g, 0, none⟩).run P w = .ok v w) :
    (results fn tmps).run P w = .ok (.tuple #[v, tmps.getD u undef]) w := by
  have ht' : tmps[t]?.getD undef = .pointer (some ⟨g, 0, none⟩) := by simpa using ht
  simp [results, h, Sem.run_bind, ht', hl, asAddr]
theorem results_cell2_tmp {fn : Func} {t u v : Tmp} {ty ty2 : TypeId} (h : fn.results = #[.cell t ty, .cell u ty2, .tmp v]) {tmps : Array Value} {w : World} {g g2 : Nat} {x y : Value} (ht : tmps.getD t undef = .pointer (some ⟨g, 0, none⟩)) (hl : (loadVar ty ⟨g, 0, none⟩).run P w = .ok x w)
    (ht2 : tmps.getD u undef = .pointer (some ⟨g2, 0, none⟩)) (hl2 : (loadVar ty2 ⟨g2, 0, none⟩).run P w = .ok y w) :
    (results fn tmps).run P w = .ok (.tuple #[x, y, tmps.getD v undef]) w := by
  have ht' : tmps[t]?.getD undef = .pointer (some ⟨g, 0, none⟩) := by simpa using ht
  have ht2' : tmps[u]?.getD undef = .pointer (some ⟨g2, 0, none⟩) := by simpa using ht2
  simp [results, h, Sem.run_bind, ht', hl, ht2', hl2, asAddr]
end
end Go.Proofs.Ytnafhjgfkofkbaa
namespace Go.Proofs.Ytnafhjgfkofkbaa
set_option linter.unusedVariables false
set_option linter.unusedSimpArgs false
open Go.RowKit
/-- only blocks of T have changed, and to what T tells -/
structure FinL (T : Nat → Option Obj) (w w' : World) : Prop where
  os : w'.os = w.os
  tape : w'.tape = w.tape
  output : w'.output = w.output
  size : w.heap.size ≤ w'.heap.size
  block : ∀ j, j < w.heap.size → T j = none → w'.heap[j]? = w.heap[j]?
  fin : ∀ j o, T j = some o → w'.heap[j]? = w.heap[j]? ∨ w'.heap[j]? = some o
section
variable {T : Nat → Option Obj} {a b c w w' : World}
theorem FinL.refl (w : World) : FinL T w w := ⟨rfl, rfl, rfl, Nat.le_refl _, fun _ _ _ => rfl, fun _ _ _ => .inl rfl⟩
theorem FinL.trans (h : FinL T a b) (k : FinL T b c) : FinL T a c :=
  ⟨k.os.trans h.os, k.tape.trans h.tape, k.output.trans h.output, Nat.le_trans h.size k.size, fun j hj hT => (k.block j (Nat.lt_of_lt_of_le hj h.size) hT).trans (h.block j hj hT), fun j o hT => by
    rcases k.fin j o hT with k1 | k1
    · rcases h.fin j o hT with h1 | h1
      · exact .inl (k1.trans h1)
      · exact .inr (k1.trans h1)
    · exact .inr k1⟩
theorem FinL.drew (w : World) : FinL T w w.drew := ⟨rfl, rfl, rfl, Nat.le_refl _, fun _ _ _ => rfl, fun _ _ _ => .inl rfl⟩
theorem Gr.fin (h : Gr w w') (hT : ∀ j o, T j = some o → j < w.heap.size) : FinL T w w' := ⟨h.os, h.tape, h.output, h.size, fun j hj _ => h.block j hj, fun j o hj => .inl (h.block j (hT j o hj))⟩
theorem FinL.gr (h : FinL T w w') (k : Gr a w) (hT : ∀ j o, T j = some o → a.heap.size ≤ j) : Gr a w' :=
  ⟨h.os.trans k.os, h.tape.trans k.tape, h.output.trans k.output, Nat.le_trans k.size h.size, fun j hj => (h.block j (Nat.lt_of_lt_of_le hj k.size) (by
    cases ho : T j with
    | none => rfl
    | some o => have := hT j o ho; omega)).trans (k.block j hj)⟩
theorem FinL.blk (h : FinL T w w') {g : Nat} {t : TypeId} {cs : List Value} (hb : Blk w g t cs) (hn : T g = none) : Blk w' g t cs := (h.block g hb.lt hn).trans hb
theorem FinL.cell (h : FinL T w w') {p : Addr} {v : Value} (hp : w.cell? p = some v) (hn : T p.block = none) : w'.cell? p = some v := by
  have := h.block p.block (World.block_lt_of_cell? w p hp) hn
  unfold World.cell? at hp ⊢
  rw [this]; exact hp
theorem FinL.bytes (h : FinL T w w') {ad : Option Addr} {l : List UInt8} (hb : Bytes w ad l) (hn : ∀ x, ad = some x → T x.block = none) : Bytes w' ad l := fun i hi => by
  obtain ⟨b, off, e, hc⟩ := hb i hi
  exact ⟨b, off, e, h.cell hc (hn ⟨b, off, none⟩ e)⟩
/-- a row that has its last contents -/
def Put (T : Nat → Option Obj) (j : Nat) : Value → World → Prop := fun _ w => ∀ o, T j = some o → w.heap[j]? = some o
theorem Put.stable (j : Nat) : Stable (FinL T) (Put T j) := fun _ _ _ h k o ho => by
  rcases k.fin j o ho with h1 | h1
  · exact h1.trans (h o ho)
  · exact h1
theorem Put.blk {j : Nat} {v : Value} {t : TypeId} {cs : List Value} (h : Put T j v w) (hT : T j = some (.cells cs.toArray t (0, 0))) : Blk w j t cs := h _ hT
@[go_sem] theorem fin_refl (w : World) : FinL T w w ↔ True := ⟨fun _ => trivial, fun _ => FinL.refl w⟩
variable {P : Program}
theorem fin_same {f : FuncId} {args : Array Value} {wr : World} {v : Value} (h : Calls P f args wr fun e w' => e = .returned v ∧ wr = w') :
    Calls P f args wr fun e w'' => ∃ u, e = .returned u ∧ FinL T wr w'' ∧ Is v u w'' := h.mono fun e w'' ⟨h1, h2⟩ => ⟨_, h1, h2 ▸ FinL.refl _, rfl⟩
theorem fin_store {W wr : World} (hg : FinL T W wr) {j : Nat} {t ty : TypeId} {cs0 cs : List Value} {n : Nat} (h0 : Blk W j t cs0) (hT : T j = some (.cells cs.toArray t (0, 0))) (hi : (P.info? ty).map (·.size) = some n) (hn : cs0.length = n) (hn' : cs.length = n) (h1 : ∀ v ∈ cs, v.oneCell' = true) :
    ∃ wr', (Instr.storeAt ty (.pointer (some ⟨j, 0, none⟩)) (.agg cs.toArray)).run P wr = .ok () wr' ∧ FinL T wr wr' ∧ ∀ v, Put T j v wr' := by
  have hb : ∃ x, Blk wr j t x ∧ x.length = n := by
    rcases hg.fin j _ hT with h | h
    · exact ⟨cs0, h.trans h0, hn⟩
    · exact ⟨cs, h, hn'⟩
  obtain ⟨x, hx, hl⟩ := hb
  have hr := run_storeVar_row (P := P) wr j t ty x.toArray cs.toArray hx (by rw [hi]; simp [hn']) (by simp [hl, hn']) (all_oneCell_toArray h1)
  have hb2 := hx.setRow' cs
  refine ⟨wr.setRow j cs.toArray, by simp only [Instr.storeAt, Instr.sureAddr, Sem.run_bind, Sem.run_pure, Result.andThen_ok, hr], ⟨rfl, rfl, rfl, by simp, fun k hk hkT => setRow_other wr j k _ (fun e => by rw [e, hT] at hkT; cases hkT), fun k o hk => ?_⟩, fun v o ho => ?_⟩
  · by_cases e : k = j
    · subst e
      rw [hT] at hk
      cases hk
      exact .inr hb2
    · exact .inl (setRow_other wr j k _ e)
  · rw [hT] at ho
    cases ho
    exact hb2
theorem fin_put {W wr : World} (hg : FinL T W wr) {ρ : Operand → Value} {o : Oper} (ty : TypeId) (x y : Operand) (ho : o.op = .store ty x y) {j : Nat} {t : TypeId} {cs0 cs : List Value} {n : Nat} (hx : ρ x = .pointer (some ⟨j, 0, none⟩)) (hy : ρ y = .agg cs.toArray)
    (h0 : Blk W j t cs0) (hT : T j = some (.cells cs.toArray t (0, 0))) (hi : (P.info? ty).map (·.size) = some n) (hn : cs0.length = n) (hn' : cs.length = n) (h1 : ∀ v ∈ cs, v.oneCell' = true) :
    growUpon P (FinL T) wr (Put T j) ((execOp ρ o).run P wr) := by
  obtain ⟨wr', hr, h2, h3⟩ := fin_store (P := P) (ty := ty) hg h0 hT hi hn hn' h1
  unfold execOp
  simp only [ho, hx, hy, Sem.run_bind, hr, Result.andThen_ok, Sem.run_pure]
  exact ⟨h2, h3 _⟩
theorem fin_load {W wr : World} (hg : FinL T W wr) {ρ : Operand → Value} {o : Oper} (ty : TypeId) (x : Operand) (ho : o.op = .load ty x) {j : Nat} {t : TypeId} {cs : List Value} {d : TypeDesc} {n : Nat} (hx : ρ x = .pointer (some ⟨j, 0, none⟩))
    (hb : Blk W j t cs) (hT : T j = none) (hu : P.underlying ty = some d) (hd : d.isRow = true) (hi : (P.info? ty).map (·.size) = some n) (hn : cs.length = n) :
    growUpon P (FinL T) wr (Is (.agg cs.toArray)) ((execOp ρ o).run P wr) := by
  have hr := load_blk (P := P) (ty := ty) (hg.blk hb hT) hu hd hi hn
  unfold execOp
  simp only [ho, hx, Instr.loadAt, Instr.sureAddr, Sem.run_bind, Sem.run_pure, Result.andThen_ok, hr]
  exact ⟨FinL.refl _, rfl⟩
theorem region_fin {id : Nat} {Q : Exit → Act → World → Prop} {a0 : Act} {w : World} {l : List Oper} (T : Nat → Option Obj) (n : Nat) (Rs : List (Value → World → Prop))
    (hm : P.follows .mixedOrders = true) (hB : anyB l n = true) (_ : true = true) (hlen : Rs.length = l.length) (hn : a0.tmps.size = n) (hst : AllStable (FinL T) Rs)
    (hs : AllShown P (FinL T) l Rs a0 w l 0) (hfin : ∀ w1 val, FinL T w w1 → Holds val w1 Rs 0 → Q .normal (putAll val l 0 a0) w1) : (Code.region id l.toArray true).wp P Q a0 w :=
  region_any_store FinL.refl (fun _ _ _ => FinL.trans) FinL.drew n (nth Rs) hm hB hn (fun i v w1 w2 => hst.get i v w1 w2) (fun i o hi => by simpa using hs.get i o hi)
    (fun w1 val hg h => by
      have hex : ∀ i, ∃ v, (i < l.length → nth Rs i v w1) ∧ ∀ o, l[i]? = some o → o.dst.isSome = true → val i = v := by
        intro i
        by_cases hi : i < l.length
        · obtain ⟨v, hv, he⟩ := h i l[i] (by simp [hi])
          exact ⟨v, fun _ => hv, fun o ho hd => by rw [List.getElem?_eq_getElem hi] at ho; cases ho; exact he hd⟩
        · exact ⟨undef, fun h => absurd h hi, fun o ho => by rw [List.getElem?_eq_none (by omega)] at ho; cases ho⟩
      obtain ⟨val2, h2⟩ := Classical.axiomOfChoice hex
      rw [putAll_congr (f := val) (g := val2) l 0 a0 fun i o hi hd => by rw [Nat.zero_add]; exact (h2 i).2 o hi hd]
      exact hfin w1 val2 hg (Holds.of fun i hi => by rw [Nat.zero_add]; exact (h2 i).1 (by omega)))
end
end Go.Proofs.Ytnafhjgfkofkbaa
