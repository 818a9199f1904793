/- Words that all texts share: Go's unsigned numbers as bit vectors, and how the walk reckons with them. No program is in sight here. -/
import Derived.WalkKit
import Derived.ProofKit
import Derived.OpenShut
import Derived.Lib.Hide
import Derived.Lib.MinMax
import Derived.WalkLawsBesides
namespace Go.Proofs.Ytfnimpgphagnfaa
set_option linter.unusedVariables false
set_option linter.unusedSimpArgs false
open Go.RowKit

/-- a uint32 -/
def U (r : BitVec 32) : Int := (r.toNat : Int)
theorem U_lo (r : BitVec 32) : 0 ≤ U r := Int.natCast_nonneg _
theorem U_hi (r : BitVec 32) : U r < 4294967296 := by unfold U; have := r.isLt; omega
theorem U_ofNat (n : Nat) : U (BitVec.ofNat 32 n) = ((n % 4294967296 : Nat) : Int) := by simp [U]
theorem U_inj {a b : BitVec 32} (h : U a = U b) : a = b := BitVec.eq_of_toNat_eq (by unfold U at h; omega)
theorem U_beq (a b : BitVec 32) : (U a == U b) = (a == b) := by
  rw [Bool.eq_iff_iff, beq_iff_eq, beq_iff_eq]; exact ⟨U_inj, fun h => by rw [h]⟩
theorem U_and (a b : BitVec 32) : bits .and .u32 (U a) (U b) = U (a &&& b) := by
  unfold U; rw [u32_and_nat _ _ a.isLt b.isLt, BitVec.toNat_and]
theorem U_or (a b : BitVec 32) : bits .or .u32 (U a) (U b) = U (a ||| b) := by
  unfold U; rw [u32_or_nat _ _ a.isLt b.isLt, BitVec.toNat_or]
theorem U_xor (a b : BitVec 32) : bits .xor .u32 (U a) (U b) = U (a ^^^ b) := by
  unfold U; rw [u32_xor_nat _ _ a.isLt b.isLt, BitVec.toNat_xor]
theorem U_lit {m : Int} (n : Nat) (hm : m = (n : Int)) (h : n < 4294967296) : m = U (BitVec.ofNat 32 n) := by
  rw [U_ofNat, Nat.mod_eq_of_lt h]; exact hm
theorem U_andc (a : BitVec 32) (m : Int) (n : Nat) (hm : m = (n : Int)) (h : n < 4294967296) : bits .and .u32 (U a) m = U (a &&& BitVec.ofNat 32 n) := by
  rw [U_lit n hm h, U_and]
theorem U_orc (a : BitVec 32) (m : Int) (n : Nat) (hm : m = (n : Int)) (h : n < 4294967296) : bits .or .u32 (U a) m = U (a ||| BitVec.ofNat 32 n) := by
  rw [U_lit n hm h, U_or]
theorem U_xorc (a : BitVec 32) (m : Int) (n : Nat) (hm : m = (n : Int)) (h : n < 4294967296) : bits .xor .u32 (U a) m = U (a ^^^ BitVec.ofNat 32 n) := by
  rw [U_lit n hm h, U_xor]
theorem U_shr (a : BitVec 32) (m : Int) (n : Nat) (h : m = ((2 ^ n : Nat) : Int)) : U a / m = U (a >>> n) := by
  subst h; unfold U; rw [BitVec.toNat_ushiftRight, Nat.shiftRight_eq_div_pow]; rfl
theorem U_shl (a : BitVec 32) (m : Int) (n : Nat) (h : m = ((2 ^ n : Nat) : Int)) : U a * m % 4294967296 = U (a <<< n) := by
  subst h; unfold U; rw [BitVec.toNat_shiftLeft, Nat.shiftLeft_eq]; omega
theorem U_neg (a : BitVec 32) : (-(U a)) % 4294967296 = U (-a) := by
  unfold U; rw [BitVec.toNat_neg]; have := a.isLt; omega
theorem U_not (a : BitVec 32) : bits .xor .u32 IntKind.u32.max (U a) = U (~~~ a) := by
  have := U_xor (BitVec.allOnes 32) a
  rw [BitVec.allOnes_xor] at this
  exact this
theorem U_add (a b : BitVec 32) : (U a + U b) % 4294967296 = U (a + b) := by
  unfold U; rw [BitVec.toNat_add]; omega
theorem U_sub (a b : BitVec 32) : (U a - U b) % 4294967296 = U (a - b) := by
  unfold U; rw [BitVec.toNat_sub]; have := a.isLt; have := b.isLt; omega
theorem U_mul (a b : BitVec 32) : (U a * U b) % 4294967296 = U (a * b) := by
  unfold U; rw [BitVec.toNat_mul]; simp

theorem U_addc (a : BitVec 32) (m : Int) (n : Nat) (hm : m = (n : Int)) (h : n < 4294967296) : (U a + m) % 4294967296 = U (a + BitVec.ofNat 32 n) := by
  rw [U_lit n hm h, U_add]
theorem U_subc (a : BitVec 32) (m : Int) (n : Nat) (hm : m = (n : Int)) (h : n < 4294967296) : (U a - m) % 4294967296 = U (a - BitVec.ofNat 32 n) := by
  rw [U_lit n hm h, U_sub]
theorem U_mulc (a : BitVec 32) (m : Int) (n : Nat) (hm : m = (n : Int)) (h : n < 4294967296) : (U a * m) % 4294967296 = U (a * BitVec.ofNat 32 n) := by
  rw [U_lit n hm h, U_mul]
theorem U_byte (x : UInt8) : (x.toNat : Int) = U (BitVec.ofNat 32 x.toNat) := by
  have hx := x.toNat_lt
  rw [U_ofNat]; omega
theorem U_xorB (a : BitVec 32) (x : UInt8) : bits .xor .u32 (U a) (x.toNat : Int) = U (a ^^^ BitVec.ofNat 32 x.toNat) := by
  rw [U_byte, U_xor]
theorem byte_hi (x : UInt8) : (x.toNat : Int) < 256 := by have := x.toNat_lt; omega
theorem U_byte_bit (x : UInt8) (j : Nat) : bits .and .u32 ((x.toNat : Int) / 2 ^ j) 1 = U ((BitVec.ofNat 32 x.toNat) >>> j &&& 1#32) := by
  rw [U_byte, U_shr _ _ j (by simp), U_andc _ 1 1 rfl (by decide)]
attribute [irreducible] U
theorem ret_int {k : IntKind} {a b : Int} (h : a = b) : Ending.returned (.int k a) = .returned (.int k b) := by rw [h]
theorem ret3_of {k1 k2 k3 : IntKind} {a b c : Int} {p : Nat × Nat × Nat} {x y z : Nat} (h : p = (x, y, z)) (ha : a = (x : Int)) (hb : b = (y : Int)) (hc : c = (z : Int)) :
    Ending.returned (.tuple #[.int k1 a, .int k2 b, .int k3 c]) = .returned (.tuple #[.int k1 (p.1 : Int), .int k2 (p.2.1 : Int), .int k3 (p.2.2 : Int)]) := by
  subst h ha hb hc; rfl
theorem val_int {k : IntKind} {a b : Int} (h : a = b) : Value.int k a = Value.int k b := by rw [h]

theorem b8_xor (a b : UInt8) : bits .xor .u8 (a.toNat : Int) (b.toNat : Int) = ((a ^^^ b).toNat : Int) := by
  rw [u8_xor_nat _ _ a.toNat_lt b.toNat_lt, UInt8.toNat_xor]
theorem b8_or (a b : UInt8) : bits .or .u8 (a.toNat : Int) (b.toNat : Int) = ((a ||| b).toNat : Int) := by
  rw [u8_or_nat _ _ a.toNat_lt b.toNat_lt, UInt8.toNat_or]
theorem b8_and (a b : UInt8) : bits .and .u8 (a.toNat : Int) (b.toNat : Int) = ((a &&& b).toNat : Int) := by
  rw [u8_and_nat _ _ a.toNat_lt b.toNat_lt, UInt8.toNat_and]
theorem mod_pick (x m : Int) (h : 0 < m) (hm : m ≤ 9223372036854775807) : ∃ k : Nat, wrap64 ((IntKind.u64.wrap x).tmod m) = (k : Int) ∧ (k : Int) < m := by
  have h0 : 0 ≤ IntKind.u64.wrap x := by rw [IntKind.wrap_u64]; omega
  have h1 : (IntKind.u64.wrap x).tmod m = IntKind.u64.wrap x % m := Int.tmod_eq_emod_of_nonneg h0
  have h2 := Int.emod_nonneg (IntKind.u64.wrap x) (show m ≠ 0 by omega)
  have h3 := Int.emod_lt_of_pos (IntKind.u64.wrap x) h
  refine ⟨(IntKind.u64.wrap x % m).toNat, ?_, by omega⟩
  rw [h1, IntWalk.wrap64_in _ ⟨by omega, by omega⟩]
  omega
theorem U_bit (t : BitVec 32) (i : Nat) : bits .and .u32 (U t / 2 ^ i) 1 = if t.getLsbD i then 1 else 0 := by
  rw [U_shr _ _ i (by simp), U_andc _ 1 1 rfl (by decide)]
  have h : (t >>> i &&& BitVec.ofNat 32 1).toNat = if t.getLsbD i then 1 else 0 := by
    rw [BitVec.toNat_and, BitVec.toNat_ushiftRight]
    have : (BitVec.ofNat 32 1).toNat = 1 := rfl
    rw [this, Nat.and_one_is_mod, BitVec.getLsbD, Nat.testBit, Nat.one_and_eq_mod_two]
    have h2 := Nat.mod_two_eq_zero_or_one (t.toNat >>> i)
    rcases h2 with h2 | h2 <;> rw [h2] <;> simp
  unfold U
  rw [h]
  split <;> rfl
theorem b8_pow (r : Nat) : (2 : Int) ^ r % 256 = ((UInt8.ofNat (2 ^ r)).toNat : Int) := by
  rw [UInt8.toNat_ofNat']; simp
theorem or128 (x : Nat) (h : x < 256) : x ||| 128 = x % 128 + 128 := by
  have : ∀ y : Fin 256, y.val ||| 128 = y.val % 128 + 128 := by decide +kernel
  exact this ⟨x, h⟩
theorem b8_more (n : Nat) : bits .or .u8 ((n : Int) % 256) 128 = ((UInt8.ofNat (n % 128 + 128)).toNat : Int) := by
  have e : (n : Int) % 256 = ((n % 256 : Nat) : Int) := by omega
  have h := u8_or_nat (n % 256) 128 (by omega) (by decide)
  rw [or128 _ (by omega)] at h
  rw [e, UInt8.toNat_ofNat']
  refine h.trans ?_
  omega
theorem and127 (x : Nat) (h : x < 256) : x &&& (255 - 128) = x % 128 := by
  have : ∀ y : Fin 256, y.val &&& (255 - 128) = y.val % 128 := by decide +kernel
  exact this ⟨x, h⟩
theorem b8_less (x : UInt8) : bits .andNot .u8 (x.toNat : Int) 128 = ((x.toNat % 128 : Nat) : Int) := by
  have h := u8_andNot_nat x.toNat 128 x.toNat_lt (by decide)
  rw [and127 _ x.toNat_lt] at h
  exact h
theorem u64_join (a b i : Nat) (ha : a < 2 ^ i) (hb : b * 2 ^ i < 18446744073709551616) (hs : a < 18446744073709551616) : bits .or .u64 (a : Int) ((b * 2 ^ i : Nat) : Int) = ((a + b * 2 ^ i : Nat) : Int) := by
  rw [u64_or_nat _ _ hs hb, Nat.or_comm, nat_join i _ _ (Nat.mul_mod_left _ _) ha, Nat.add_comm]
theorem u64_wrap_nat (n : Nat) (h : n < 18446744073709551616) : IntKind.u64.wrap (n : Int) = (n : Int) := by
  rw [IntKind.wrap_u64]; omega
theorem u64_shl_or (a b i : Nat) (ha : a < 2 ^ i) (hb : b * 2 ^ i < 18446744073709551616) (hs : a < 18446744073709551616) : bits .or .u64 (a : Int) (IntKind.u64.wrap ((b : Int) * 2 ^ i)) = ((a + b * 2 ^ i : Nat) : Int) := by
  have e : ((b : Int) * 2 ^ i) = ((b * 2 ^ i : Nat) : Int) := by simp
  rw [e, u64_wrap_nat _ hb, u64_join a b i ha hb hs]
theorem u64_low (n : Nat) (h : n < 18446744073709551616) : bits .and .u64 (n : Int) 1 = ((n % 2 : Nat) : Int) := by
  have := u64_and_nat n 1 h (by decide)
  rw [Nat.and_one_is_mod] at this
  exact this
theorem i64_xor_neg (x : Nat) (h : x < 9223372036854775808) : bits .xor .i64 (x : Int) (-1) = -(x : Int) - 1 := by
  show IntKind.i64.wrap ((BitVec.ofInt 64 (x : Int) ^^^ BitVec.ofInt 64 (-1)).toNat : Int) = _
  have e : BitVec.ofInt 64 (-1) = BitVec.allOnes 64 := by decide
  rw [e, BitVec.xor_allOnes, BitVec.toNat_not, BitVec.ofInt_natCast, BitVec.toNat_ofNat, IntKind.wrap_i64]
  omega
theorem i64_xor_zero (x : Nat) (h : x < 9223372036854775808) : bits .xor .i64 (x : Int) 0 = (x : Int) := by
  show IntKind.i64.wrap ((BitVec.ofInt 64 (x : Int) ^^^ BitVec.ofInt 64 0).toNat : Int) = _
  have e : BitVec.ofInt 64 0 = 0#64 := by decide
  rw [e, BitVec.xor_zero, BitVec.ofInt_natCast, BitVec.toNat_ofNat, IntKind.wrap_i64]
  omega
theorem u64_xor_ones (x : Nat) (h : x < 18446744073709551616) : bits .xor .u64 (x : Int) 18446744073709551615 = ((18446744073709551615 - x : Nat) : Int) := by
  show IntKind.u64.wrap ((BitVec.ofInt 64 (x : Int) ^^^ BitVec.ofInt 64 18446744073709551615).toNat : Int) = _
  have e : BitVec.ofInt 64 18446744073709551615 = BitVec.allOnes 64 := by decide
  rw [e, BitVec.xor_allOnes, BitVec.toNat_not, BitVec.ofInt_natCast, BitVec.toNat_ofNat, IntKind.wrap_u64]
  omega
theorem u64_xor_zero (x : Nat) (h : x < 18446744073709551616) : bits .xor .u64 (x : Int) 0 = (x : Int) := by
  show IntKind.u64.wrap ((BitVec.ofInt 64 (x : Int) ^^^ BitVec.ofInt 64 0).toNat : Int) = _
  have e : BitVec.ofInt 64 0 = 0#64 := by decide
  rw [e, BitVec.xor_zero, BitVec.ofInt_natCast, BitVec.toNat_ofNat, IntKind.wrap_u64]
  omega
theorem if_min (x y : Int) : (if y < x then y else x) = min x y := by omega
theorem if_max (x y : Int) : (if y > x then y else x) = max x y := by omega
@[go_sem high] theorem run_min_ints4 {P : Program} (w : World) (ts : Array TypeId) (t : TypeId) (k1 k2 k3 k4 : IntKind) (x y z u : Int) :
    (Builtin.min_ ts t #[.int k1 x, .int k2 y, .int k3 z, .int k4 u]).run P w = .ok (.int k1 (min (min (min x y) z) u)) w := by
  simp [Builtin.min_, Builtin.min2, if_min]
@[go_sem high] theorem run_min_ints3 {P : Program} (w : World) (ts : Array TypeId) (t : TypeId) (k1 k2 k3 : IntKind) (x y z : Int) :
    (Builtin.min_ ts t #[.int k1 x, .int k2 y, .int k3 z]).run P w = .ok (.int k1 (min (min x y) z)) w := by
  simp [Builtin.min_, Builtin.min2, if_min]
/-- the cells that a slice's address begins -/
def Row (w : World) (ad : Option Addr) (vs : List Value) : Prop :=
  ∀ i u, vs[i]? = some u → ∃ b off, ad = some ⟨b, off, none⟩ ∧ w.cell? ⟨b, off + i, none⟩ = some u
/-- a slice of bytes that reads as l -/
def Bytes (w : World) (ad : Option Addr) (l : List UInt8) : Prop :=
  ∀ i (h : i < l.length), ∃ b off, ad = some ⟨b, off, none⟩ ∧ w.cell? ⟨b, off + i, none⟩ = some (.int .u8 (l[i].toNat : Int))

end Go.Proofs.Ytfnimpgphagnfaa
