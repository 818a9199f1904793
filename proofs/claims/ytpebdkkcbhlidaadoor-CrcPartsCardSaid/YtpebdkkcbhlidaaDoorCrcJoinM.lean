/- The plain law of layer 4 (crc): a join, and what a matrix of what becomes of each bit tells. No program is in sight here. -/
import Derived.Test.YtpebdkkcbhlidaaDoorCrcMath
import Derived.Lib.TrailingZeros
namespace Go.Proofs.YtpebdkkcbhlidaaDoor.Crc
set_option linter.unusedVariables false
set_option linter.unusedSimpArgs false
/-- the sum of bytes behind others -/
def joinF (a b : BitVec 32) (n : Nat) : BitVec 32 := iterF (8 * n) a ^^^ b
theorem not_xor (a : BitVec 32) : ~~~ a = BitVec.allOnes 32 ^^^ a := by rw [BitVec.allOnes_xor]
theorem foldF_ones (l : List UInt8) : foldF (BitVec.allOnes 32) l = BitVec.allOnes 32 ^^^ sumF l := by
  unfold sumF moreF
  rw [not_xor, not_xor, BitVec.xor_zero, ← BitVec.xor_assoc, BitVec.xor_self, BitVec.zero_xor]
theorem sumF_join (x y : List UInt8) : sumF (x ++ y) = joinF (sumF x) (sumF y) y.length := by
  have h1 : sumF (x ++ y) = ~~~ (foldF (BitVec.allOnes 32 ^^^ sumF x) y) := by
    rw [← foldF_ones, ← foldF_append]
    unfold sumF moreF
    rw [not_xor 0#32, BitVec.xor_zero]
  rw [h1, foldF_xor, foldF_ones, not_xor]
  unfold joinF
  rw [BitVec.xor_assoc, ← BitVec.xor_assoc, BitVec.xor_self, BitVec.zero_xor, BitVec.xor_comm]
theorem joinF_both (a b c : BitVec 32) (m n : Nat) : joinF a (joinF b c n) (m + n) = joinF (joinF a b m) c n := by
  unfold joinF
  rw [Nat.mul_add, iterF_add, iterF_xor, BitVec.xor_assoc]
theorem not_pred (r : BitVec 32) : ~~~ (r - 1#32) = -r := by
  apply BitVec.eq_of_toNat_eq
  have := r.isLt
  rw [BitVec.toNat_not, BitVec.toNat_neg, BitVec.toNat_sub]
  simp
  omega
/-- the lowest bit that is on -/
theorem low_bit (r : BitVec 32) (h : r ≠ 0#32) : r &&& -r = 1#32 <<< Go.Lib.ctz 32 r.toNat := by
  have h0 : r.toNat ≠ 0 := fun e => h (BitVec.eq_of_toNat_eq (by simpa using e))
  obtain ⟨h1, h2⟩ := Go.Lib.lowest_bit 32 r.toNat h0 r.isLt
  apply BitVec.eq_of_toNat_eq
  have hp : 2 ^ Go.Lib.ctz 32 r.toNat < 2 ^ 32 := Nat.pow_lt_pow_right (by decide) h2
  have hm : (2 ^ 32 - r.toNat) % 2 ^ 32 = 2 ^ 32 - r.toNat := Nat.mod_eq_of_lt (by have := r.isLt; omega)
  rw [BitVec.toNat_and, BitVec.toNat_neg, hm, h1, BitVec.toNat_shiftLeft]
  simp only [BitVec.toNat_ofNat, Nat.shiftLeft_eq]
  rw [show 1 % 2 ^ 32 = 1 from rfl, Nat.one_mul, Nat.mod_eq_of_lt hp]
theorem low_off (r : BitVec 32) (h : r ≠ 0#32) : r = (r &&& (r - 1#32)) ^^^ 1#32 <<< Go.Lib.ctz 32 r.toNat := by
  rw [← low_bit r h, ← not_pred]
  ext i hi
  simp only [BitVec.getElem_xor, BitVec.getElem_and, BitVec.getElem_not]
  cases r[i] <;> cases (r - 1#32)[i] <;> rfl
theorem low_less (r : BitVec 32) (h : r ≠ 0#32) : (r &&& (r - 1#32)).toNat < r.toNat := by
  have h0 : r.toNat ≠ 0 := fun e => h (BitVec.eq_of_toNat_eq (by simpa using e))
  have h1 := r.isLt
  have h2 : (r - 1#32).toNat = r.toNat - 1 := by rw [BitVec.toNat_sub]; simp; omega
  have h3 : (r &&& (r - 1#32)).toNat ≤ (r - 1#32).toNat := by rw [BitVec.toNat_and]; exact Nat.and_le_right
  omega
theorem ctz_lt (r : BitVec 32) (h : r ≠ 0#32) : Go.Lib.ctz 32 r.toNat < 32 := by
  have h0 : r.toNat ≠ 0 := fun e => h (BitVec.eq_of_toNat_eq (by simpa using e))
  exact (Go.Lib.lowest_bit 32 r.toNat h0 r.isLt).2
/-- one bit's share of what becomes of a word -/
theorem iterF_low (k : Nat) (r : BitVec 32) (h : r ≠ 0#32) : iterF k r = iterF k (r &&& (r - 1#32)) ^^^ iterF k (1#32 <<< Go.Lib.ctz 32 r.toNat) := by
  rw [← iterF_xor, ← low_off r h]
end Go.Proofs.YtpebdkkcbhlidaaDoor.Crc
