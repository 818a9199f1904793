/- The plain law of layer 6 (bloom): bits in rows of bytes, and the probes of keys. No program is in sight here. -/
import Derived.Test.YtpkbifaeofcckaaBloomMath
import Derived.Test.YtpkbifaeofcckaaMem
namespace Go.Proofs.Ytpkbifaeofcckaa.Bloom
set_option linter.unusedVariables false
set_option linter.unusedSimpArgs false
/-- what so many bits of a byte make -/
def byteN (on : Nat → Bool) (q : Nat) : Nat → Nat
  | 0 => 0
  | m + 1 => byteN on q m + if on (8 * q + m) then 2 ^ m else 0
theorem byteN_lt (on : Nat → Bool) (q : Nat) : ∀ m, byteN on q m < 2 ^ m
  | 0 => by simp [byteN]
  | m + 1 => by
    have := byteN_lt on q m
    rw [byteN, Nat.pow_succ]
    split <;> omega
theorem byteN_bit (on : Nat → Bool) (q : Nat) : ∀ m r, (byteN on q m).testBit r = (decide (r < m) && on (8 * q + r))
  | 0, r => by simp [byteN]
  | m + 1, r => by
    have hlt := byteN_lt on q m
    have ih := byteN_bit on q m
    rw [byteN]
    by_cases ho : on (8 * q + m) = true
    · rw [if_pos ho, Nat.add_comm]
      have e : 2 ^ m + byteN on q m = 2 ^ m * 1 + byteN on q m := by omega
      rw [e, Nat.testBit_two_pow_mul_add _ hlt]
      by_cases h1 : r < m
      · rw [if_pos h1, ih]; simp [h1, show r < m + 1 by omega]
      · rw [if_neg h1]
        by_cases h2 : r = m
        · subst h2; simp [ho]
        · have h3 : ¬ r < m + 1 := by omega
          simp only [h3, decide_false, Bool.false_and]
          rw [Bool.eq_false_iff]
          intro h
          rw [Nat.testBit_one_eq_true_iff_self_eq_zero] at h
          omega
    · rw [if_neg ho, Nat.add_zero, ih]
      by_cases h2 : r = m
      · subst h2; simp [Bool.eq_false_iff.2 ho]
      · have : (r < m + 1) ↔ r < m := by omega
        simp [this]
theorem byteN_congr {on on' : Nat → Bool} {q : Nat} : ∀ {m : Nat}, (∀ r, r < m → on (8 * q + r) = on' (8 * q + r)) → byteN on q m = byteN on' q m
  | 0, _ => rfl
  | m + 1, h => by rw [byteN, byteN, byteN_congr (m := m) fun r hr => h r (by omega), h m (by omega)]
theorem byteN_cut {on : Nat → Bool} {q r : Nat} : ∀ {m : Nat}, r ≤ m → (∀ i, r ≤ i → i < m → on (8 * q + i) = false) → byteN on q m = byteN on q r
  | 0, h, _ => by have : r = 0 := by omega
                  subst this; rfl
  | m + 1, h, hf => by
    by_cases e : r = m + 1
    · rw [e]
    · rw [byteN, hf m (by omega) (by omega), byteN_cut (m := m) (by omega) fun i h1 h2 => hf i h1 (by omega)]
      simp
def byteF (on : Nat → Bool) (q : Nat) : UInt8 := UInt8.ofNat (byteN on q 8)
theorem byteF_nat (on : Nat → Bool) (q : Nat) : (byteF on q).toNat = byteN on q 8 := by
  have := byteN_lt on q 8
  unfold byteF
  rw [UInt8.toNat_ofNat']; omega
def rowF (on : Nat → Bool) (n : Nat) : List UInt8 := (List.range n).map (byteF on)
theorem rowF_len (on : Nat → Bool) (n : Nat) : (rowF on n).length = n := by simp [rowF]
theorem rowF_get (on : Nat → Bool) (n q : Nat) (h : q < (rowF on n).length) : (rowF on n)[q] = byteF on q := by simp [rowF]
def addB (on : Nat → Bool) (b : Nat) : Nat → Bool := fun p => on p || p == b
theorem row_set (on : Nat → Bool) (n b : Nat) (hb : b / 8 < n) (y : UInt8) (hy : y.toNat = byteN on (b / 8) 8 ||| 2 ^ (b % 8)) : (rowF on n).set (b / 8) y = rowF (addB on b) n := by
  apply List.ext_getElem
  · simp [rowF_len]
  · intro q h1 h2
    rw [List.length_set, rowF_len] at h1
    rw [List.getElem_set, rowF_get]
    by_cases e : b / 8 = q
    · subst e
      rw [if_pos rfl]
      apply UInt8.toNat_inj.1
      rw [hy, rowF_get, byteF_nat]
      apply Nat.eq_of_testBit_eq
      intro r
      rw [Nat.testBit_or, byteN_bit, byteN_bit, Nat.testBit_two_pow]
      unfold addB
      by_cases h8 : r < 8
      · simp only [h8, decide_true, Bool.true_and]
        congr 1
        rw [Bool.eq_iff_iff, decide_eq_true_iff, beq_iff_eq]
        omega
      · have : ¬ b % 8 = r := by omega
        simp [h8, this]
    · rw [if_neg e, rowF_get]
      unfold byteF
      congr 1
      apply byteN_congr
      intro r hr
      unfold addB
      have : (8 * q + r == b) = false := by rw [beq_eq_false_iff_ne]; omega
      rw [this, Bool.or_false]
theorem row_congr {on on' : Nat → Bool} {n : Nat} (h : ∀ p, p < 8 * n → on p = on' p) : rowF on n = rowF on' n := by
  unfold rowF
  apply List.map_congr_left
  intro q hq
  rw [List.mem_range] at hq
  unfold byteF
  congr 1
  exact byteN_congr fun r hr => h _ (by omega)
/-- a filter's bits -/
def bitOf (l : List UInt8) (p : Nat) : Bool := (l.getD (p / 8) 0).toNat.testBit (p % 8)
theorem bit_row (on : Nat → Bool) (n p : Nat) (h : p < 8 * n) : bitOf (rowF on n) p = on p := by
  unfold bitOf
  have h1 : p / 8 < (rowF on n).length := by rw [rowF_len]; omega
  rw [List.getD_eq_getElem?_getD, List.getElem?_eq_getElem h1, Option.getD_some, rowF_get, byteF_nat, byteN_bit]
  have h2 : p % 8 < 8 := by omega
  have h3 : 8 * (p / 8) + p % 8 = p := by omega
  simp [h2, h3]
/-- a key's second number, and its probes -/
def dF (h : BitVec 32) : BitVec 32 := h <<< 15 ||| h >>> 17
def atF (h : BitVec 32) (j : Nat) : BitVec 32 := h + BitVec.ofNat 32 j * dF h
theorem atF_zero (h : BitVec 32) : atF h 0 = h := by simp [atF]
theorem atF_succ (h : BitVec 32) (j : Nat) : atF h (j + 1) = atF h j + dF h := by
  have e : BitVec.ofNat 32 (j + 1) = BitVec.ofNat 32 j + 1#32 := by
    apply BitVec.eq_of_toNat_eq
    simp [BitVec.toNat_add]
  unfold atF
  rw [e, BitVec.add_mul, BitVec.one_mul, BitVec.add_assoc]
def bitAt (h : BitVec 32) (b j : Nat) : Nat := (atF h j).toNat % b
/-- the bits of some keys, and of the first probes of one more -/
def probesF (h : BitVec 32) (b k : Nat) (p : Nat) : Bool := (List.range k).any fun j => bitAt h b j == p
def onF (keys : List (List UInt8)) (b k : Nat) (p : Nat) : Bool := keys.any fun key => probesF (hashF key) b k p
theorem probesF_succ (h : BitVec 32) (b k p : Nat) : probesF h b (k + 1) p = (probesF h b k p || p == bitAt h b k) := by
  unfold probesF
  rw [List.range_succ, List.any_append]
  simp [Bool.beq_comm]
theorem probesF_zero (h : BitVec 32) (b p : Nat) : probesF h b 0 p = false := rfl
theorem onF_snoc (keys : List (List UInt8)) (key : List UInt8) (b k p : Nat) : onF (keys ++ [key]) b k p = (onF keys b k p || probesF (hashF key) b k p) := by
  unfold onF
  rw [List.any_append]
  simp
theorem onF_take (keys : List (List UInt8)) (i : Nat) (h : i < keys.length) (b k p : Nat) : onF (keys.take (i + 1)) b k p = (onF (keys.take i) b k p || probesF (hashF keys[i]) b k p) := by
  rw [List.take_succ_eq_append_getElem h, onF_snoc]
/-- are all probes there? -/
def allF (l : List UInt8) (h : BitVec 32) (b k : Nat) : Bool := (List.range k).all fun j => bitOf l (bitAt h b j)
theorem allF_no {l : List UInt8} {h : BitVec 32} {b k j : Nat} (hj : j < k) (hb : bitOf l (bitAt h b j) = false) : allF l h b k = false := by
  rw [Bool.eq_false_iff]
  intro ha
  have := List.all_eq_true.1 ha j (List.mem_range.2 hj)
  rw [hb] at this; cases this
theorem allF_yes {l : List UInt8} {h : BitVec 32} {b k : Nat} (ha : ∀ j, j < k → bitOf l (bitAt h b j) = true) : allF l h b k = true :=
  List.all_eq_true.2 fun j hj => ha j (List.mem_range.1 hj)
end Go.Proofs.Ytpkbifaeofcckaa.Bloom
