/- Layer 1 (region): how a piece is aligned, in bits. No program is in sight here. -/
import Derived.Test.YtfnimpgphagnfaaRegionMath
namespace Go.Proofs.Ytfnimpgphagnfaa
set_option linter.unusedVariables false
set_option linter.unusedSimpArgs false
open Go.RowKit
theorem i64_align (x k : Nat) (hk : k ≤ 6) (hx : x < 9223372036854775808) : bits .andNot .i64 (x : Int) ((2 ^ k - 1 : Nat) : Int) = ((x / 2 ^ k * 2 ^ k : Nat) : Int) := by
  show IntKind.i64.wrap ((BitVec.ofInt 64 (x : Int) &&& ~~~BitVec.ofInt 64 ((2 ^ k - 1 : Nat) : Int)).toNat : Int) = _
  rw [BitVec.ofInt_natCast, BitVec.ofInt_natCast]
  have e : (BitVec.ofNat 64 x &&& ~~~BitVec.ofNat 64 (2 ^ k - 1)) = BitVec.ofNat 64 (x / 2 ^ k * 2 ^ k) := by
    apply BitVec.eq_of_getLsbD_eq
    intro i hi
    simp only [BitVec.getLsbD_and, BitVec.getLsbD_not, BitVec.getLsbD_ofNat, hi, decide_true, Bool.true_and, Nat.testBit_two_pow_sub_one, Nat.testBit_mul_two_pow, Nat.testBit_div_two_pow]
    by_cases h : i < k
    · have : ¬ k ≤ i := by omega
      simp [h, this]
    · have h2 : k ≤ i := by omega
      simp [h, h2]
  rw [e, BitVec.toNat_ofNat]
  have hle : x / 2 ^ k * 2 ^ k ≤ x := Nat.div_mul_le_self _ _
  rw [Nat.mod_eq_of_lt (by omega), IntKind.wrap_i64]
  omega
theorem pow_check : ∀ a : Fin 65, 1 ≤ a.val → (decide (bits .and .i64 (a.val : Int) ((a.val : Int) - 1) = 0) = alignOk (a.val : Int)) := by decide +kernel
theorem align_check {a : Int} (h1 : 1 ≤ a) (h2 : a ≤ 64) : (bits .and .i64 a (a - 1) = 0 ∧ alignOk a = true) ∨ (bits .and .i64 a (a - 1) ≠ 0 ∧ alignOk a = false) := by
  have := pow_check ⟨a.toNat, by omega⟩ (by simp only; omega)
  simp only [show (a.toNat : Int) = a by omega] at this
  cases hk : alignOk a with
  | true => rw [hk] at this; exact .inl ⟨by simpa using this, rfl⟩
  | false => rw [hk] at this; exact .inr ⟨by simpa using this, rfl⟩
theorem alignOk_pow {a : Int} (h : alignOk a = true) : ∃ k : Nat, k ≤ 6 ∧ a = ((2 ^ k : Nat) : Int) := by
  unfold alignOk at h
  simp only [Bool.or_eq_true, beq_iff_eq] at h
  rcases h with (((((h | h) | h) | h) | h) | h) | h
  · exact ⟨0, by decide, h⟩
  · exact ⟨1, by decide, h⟩
  · exact ⟨2, by decide, h⟩
  · exact ⟨3, by decide, h⟩
  · exact ⟨4, by decide, h⟩
  · exact ⟨5, by decide, h⟩
  · exact ⟨6, by decide, h⟩
theorem alignOk_range {a : Int} (h : alignOk a = true) : 1 ≤ a ∧ a ≤ 64 := by
  unfold alignOk at h
  simp only [Bool.or_eq_true, beq_iff_eq] at h
  omega
/-- 'in' aligned -/
theorem align_up {x : Nat} {a : Int} (h : alignOk a = true) (hx : x ≤ 1000000000) : bits .andNot .i64 ((x : Int) + a - 1) (a - 1) = ((upTo x a.toNat : Nat) : Int) := by
  obtain ⟨k, hk, rfl⟩ := alignOk_pow h
  have hp : 0 < 2 ^ k := Nat.two_pow_pos k
  have hr := alignOk_range h
  have e1 : (x : Int) + ((2 ^ k : Nat) : Int) - 1 = ((x + 2 ^ k - 1 : Nat) : Int) := by omega
  have e2 : ((2 ^ k : Nat) : Int) - 1 = ((2 ^ k - 1 : Nat) : Int) := by omega
  rw [e1, e2, i64_align _ k hk (by omega)]
  unfold upTo
  rw [Int.toNat_natCast]
theorem upTo_bounds {x a : Nat} (h : 1 ≤ a) : x ≤ upTo x a ∧ upTo x a < x + a := by
  unfold upTo
  have h1 := Nat.div_add_mod (x + a - 1) a
  have h2 := Nat.mod_lt (x + a - 1) (show 0 < a by omega)
  have h3 : (x + a - 1) / a * a = a * ((x + a - 1) / a) := Nat.mul_comm _ _
  omega
end Go.Proofs.Ytfnimpgphagnfaa
