/- The plain law of layer 3 (varint): numbers as bytes, and what a beginning of bytes tells. No program is in sight here. -/
namespace Go.Proofs.YtnjnehegfdimaaaDoor.Varint
set_option linter.unusedVariables false
set_option linter.unusedSimpArgs false

/-- a number's bytes; the fuel is how many more there may be -/
def putN : Nat → Nat → List UInt8
  | 0, n => [UInt8.ofNat n]
  | k + 1, n => if n < 128 then [UInt8.ofNat n] else UInt8.ofNat (n % 128 + 128) :: putN k (n / 128)
def putF (n : Nat) : List UInt8 := putN 9 n
/-- the number that so many bytes tell -/
def val : List UInt8 → Nat
  | [] => 0
  | x :: l => x.toNat % 128 + 128 * val l
def short (l : List UInt8) : Nat × Nat × Nat := (0, 0, if l.length < 10 then 9 else 2)
def endAt (l : List UInt8) (k x : Nat) : Nat × Nat × Nat := if k = 9 ∧ 1 < x ∨ 0 < k ∧ x = 0 then (0, 0, 2) else (val (l.take (k + 1)), k + 1, 0)
/-- the number at the front of bytes, from a place on -/
def getAt (l : List UInt8) : Nat → Nat → Nat × Nat × Nat
  | 0, _ => short l
  | f + 1, k => match l[k]? with
    | none => short l
    | some x => if x.toNat < 128 then endAt l k x.toNat else getAt l f (k + 1)
def getF (l : List UInt8) : Nat × Nat × Nat := getAt l 10 0

theorem putN_small {k n : Nat} (h : n < 128) : putN k n = [UInt8.ofNat n] := by
  cases k with
  | zero => rfl
  | succ k => simp [putN, h]
theorem putN_big {k n : Nat} (h : ¬ n < 128) : putN (k + 1) n = UInt8.ofNat (n % 128 + 128) :: putN k (n / 128) := by
  simp [putN, h]
theorem val_append (l m : List UInt8) : val (l ++ m) = val l + 128 ^ l.length * val m := by
  induction l with
  | nil => simp [val]
  | cons x l ih => simp only [List.cons_append, val, ih, List.length_cons, Nat.pow_succ']; rw [Nat.mul_add, Nat.mul_assoc, Nat.add_assoc]
theorem val_lt (l : List UInt8) : val l < 128 ^ l.length := by
  induction l with
  | nil => simp [val]
  | cons x l ih =>
    simp only [val, List.length_cons, Nat.pow_succ]
    have := Nat.mod_lt x.toNat (show 128 > 0 by decide)
    omega
theorem val_take_succ (l : List UInt8) (k : Nat) (h : k < l.length) : val (l.take (k + 1)) = val (l.take k) + l[k].toNat % 128 * 128 ^ k := by
  rw [List.take_succ_eq_append_getElem h, val_append]
  have : (l.take k).length = k := by simp; omega
  rw [this]; simp [val, Nat.mul_comm]
theorem val_take_lt (l : List UInt8) (k : Nat) (h : k ≤ l.length) : val (l.take k) < 128 ^ k := by
  have := val_lt (l.take k)
  rwa [List.length_take, Nat.min_eq_left h] at this
theorem getAt_none {l : List UInt8} {f k : Nat} (h : l.length ≤ k) : getAt l f k = short l := by
  cases f with
  | zero => rfl
  | succ f => simp [getAt, List.getElem?_eq_none h]
theorem getAt_end {l : List UInt8} {f k : Nat} (h : k < l.length) (hx : l[k].toNat < 128) : getAt l (f + 1) k = endAt l k l[k].toNat := by
  simp [getAt, h, hx]
theorem getAt_on {l : List UInt8} {f k : Nat} (h : k < l.length) (hx : ¬ l[k].toNat < 128) : getAt l (f + 1) k = getAt l f (k + 1) := by
  simp [getAt, h, hx]

theorem pow128 (k : Nat) : 128 ^ k = 2 ^ (7 * k) := by rw [Nat.pow_mul]
theorem fits (k x : Nat) (hk : k ≤ 9) (hx : x < 128) (h9 : k = 9 → x ≤ 1) : x * 2 ^ (7 * k) < 18446744073709551616 := by
  by_cases h : k = 9
  · subst h
    have := h9 rfl
    have : x * 2 ^ (7 * 9) ≤ 1 * 2 ^ (7 * 9) := Nat.mul_le_mul_right _ this
    omega
  · have h1 : x * 2 ^ (7 * k) ≤ 127 * 2 ^ (7 * k) := Nat.mul_le_mul_right _ (by omega)
    have h2 : 2 ^ (7 * k) ≤ 2 ^ (7 * 8) := Nat.pow_le_pow_right (by decide) (by omega)
    omega
theorem take_u64 (l : List UInt8) (k : Nat) (h : k ≤ l.length) (hk : k ≤ 9) : val (l.take k) < 18446744073709551616 ∧ val (l.take k) < 2 ^ (7 * k) := by
  have h1 := val_take_lt l k h
  rw [pow128] at h1
  have h2 : 2 ^ (7 * k) ≤ 2 ^ (7 * 9) := Nat.pow_le_pow_right (by decide) (by omega)
  exact ⟨by omega, h1⟩
theorem endAt_bad {l : List UInt8} {k x : Nat} (h : k = 9 ∧ 1 < x ∨ 0 < k ∧ x = 0) : endAt l k x = (0, 0, 2) := by simp only [endAt, if_pos h]
theorem endAt_good {l : List UInt8} {k x : Nat} (h : ¬ (k = 9 ∧ 1 < x ∨ 0 < k ∧ x = 0)) : endAt l k x = (val (l.take (k + 1)), k + 1, 0) := by simp only [endAt, if_neg h]

theorem putN_len : ∀ k n, (putN k n).length ≤ k + 1 ∧ 1 ≤ (putN k n).length
  | 0, n => by simp [putN]
  | k + 1, n => by
    have := putN_len k (n / 128)
    rw [putN]; split <;> simp <;> omega

theorem getAt_lt (l : List UInt8) : ∀ f k, k + f = 10 → (getAt l f k).1 < 18446744073709551616 ∧ (getAt l f k).2.1 ≤ l.length
  | 0, k, _ => by simp [getAt, short]
  | f + 1, k, h => by
    by_cases hk : k < l.length
    · by_cases hx : l[k].toNat < 128
      · rw [getAt_end hk hx]
        by_cases hb : k = 9 ∧ 1 < l[k].toNat ∨ 0 < k ∧ l[k].toNat = 0
        · rw [endAt_bad hb]; exact ⟨by decide, Nat.zero_le _⟩
        · rw [endAt_good hb]
          refine ⟨?_, by show k + 1 ≤ l.length; omega⟩
          show val (l.take (k + 1)) < _
          rw [val_take_succ l k hk, Nat.mod_eq_of_lt hx, pow128]
          have h1 := take_u64 l k (by omega) (by omega)
          have h2 := fits k l[k].toNat (by omega) hx (by omega)
          by_cases h9 : k = 9
          · subst h9
            have h3 : l[9].toNat ≤ 1 := by omega
            have h4 : l[9].toNat * 2 ^ (7 * 9) ≤ 1 * 2 ^ (7 * 9) := Nat.mul_le_mul_right _ h3
            omega
          · have h5 : 2 ^ (7 * k) ≤ 2 ^ (7 * 8) := Nat.pow_le_pow_right (by decide) (by omega)
            have h4 : l[k].toNat * 2 ^ (7 * k) ≤ 127 * 2 ^ (7 * k) := Nat.mul_le_mul_right _ (by omega)
            omega
      · rw [getAt_on hk hx]; exact getAt_lt l f (k + 1) (by omega)
    · rw [getAt_none (by omega)]; simp [short]
theorem getF_lt (l : List UInt8) : (getF l).1 < 18446744073709551616 := (getAt_lt l 10 0 rfl).1
theorem getF_le (l : List UInt8) : (getF l).2.1 ≤ l.length := (getAt_lt l 10 0 rfl).2
/-- signed numbers -/
def foldF (m : Int) : Nat := if m < 0 then (-2 * m - 1).toNat else (2 * m).toNat
def unfoldF (n : Nat) : Int := if n % 2 = 1 then -((n / 2 : Nat) : Int) - 1 else ((n / 2 : Nat) : Int)
theorem foldF_lt (m : Int) (h1 : -9223372036854775808 ≤ m) (h2 : m ≤ 9223372036854775807) : foldF m < 18446744073709551616 := by
  unfold foldF; split <;> omega
theorem unfold_fold (m : Int) : unfoldF (foldF m) = m := by
  unfold foldF unfoldF
  split
  · rw [if_pos (by omega)]; omega
  · rw [if_neg (by omega)]; omega
theorem fold_unfold (n : Nat) : foldF (unfoldF n) = n := by
  unfold foldF unfoldF
  split <;> split <;> omega
/-- the lowest bytes of a number; the number of bytes -/
def bytesN : Nat → Nat → List UInt8
  | 0, _ => []
  | k + 1, n => UInt8.ofNat n :: bytesN k (n / 256)
def le : List UInt8 → Nat
  | [] => 0
  | x :: l => x.toNat + 256 * le l
def wholeF (l : List UInt8) : Nat × Nat := if 8 < l.length then (0, 1) else (le l, 0)
theorem le_append (l m : List UInt8) : le (l ++ m) = le l + 256 ^ l.length * le m := by
  induction l with
  | nil => simp [le]
  | cons x l ih => simp only [List.cons_append, le, ih, List.length_cons, Nat.pow_succ']; rw [Nat.mul_add, Nat.mul_assoc, Nat.add_assoc]
theorem le_lt (l : List UInt8) : le l < 256 ^ l.length := by
  induction l with
  | nil => simp [le]
  | cons x l ih =>
    simp only [le, List.length_cons, Nat.pow_succ]
    have := x.toNat_lt
    omega
theorem pow256 (k : Nat) : 256 ^ k = 2 ^ (8 * k) := by rw [Nat.pow_mul]
theorem le_take_succ (l : List UInt8) (k : Nat) (h : k < l.length) : le (l.take (k + 1)) = le (l.take k) + l[k].toNat * 2 ^ (8 * k) := by
  rw [List.take_succ_eq_append_getElem h, le_append]
  have : (l.take k).length = k := by simp; omega
  rw [this, pow256]; simp [le, Nat.mul_comm]
theorem le_take (l : List UInt8) (k : Nat) (h : k ≤ l.length) (hk : k ≤ 8) : le (l.take k) < 2 ^ (8 * k) ∧ le (l.take k) < 18446744073709551616 := by
  have h1 := le_lt (l.take k)
  rw [List.length_take, Nat.min_eq_left h, pow256] at h1
  have h2 : 2 ^ (8 * k) ≤ 2 ^ (8 * 8) := Nat.pow_le_pow_right (by decide) (by omega)
  exact ⟨h1, by omega⟩
theorem le_fits (k x : Nat) (hk : k < 8) (hx : x < 256) : x * 2 ^ (8 * k) < 18446744073709551616 := by
  have h1 : x * 2 ^ (8 * k) ≤ 255 * 2 ^ (8 * k) := Nat.mul_le_mul_right _ (by omega)
  have h2 : 2 ^ (8 * k) ≤ 2 ^ (8 * 7) := Nat.pow_le_pow_right (by decide) (by omega)
  omega
def fixedF (n : Nat) (s : Int) : List UInt8 × Nat := if s < 0 ∨ 8 < s then ([], 1) else if n / 256 ^ s.toNat ≠ 0 then ([], 14) else (bytesN s.toNat n, 0)
theorem bytesN_len : ∀ k n, (bytesN k n).length = k
  | 0, _ => rfl
  | k + 1, n => by simp [bytesN, bytesN_len k]
theorem bytesN_snoc : ∀ k n, bytesN (k + 1) n = bytesN k n ++ [UInt8.ofNat (n / 256 ^ k)]
  | 0, n => by simp [bytesN]
  | k + 1, n => by
    rw [show bytesN (k + 1 + 1) n = UInt8.ofNat n :: bytesN (k + 1) (n / 256) from rfl, bytesN_snoc k (n / 256), Nat.div_div_eq_div_mul, ← Nat.pow_succ']
    rfl
theorem val_drop_le (l : List UInt8) (j : Nat) : val (l.drop j) ≤ val l := by
  have h : val l = val (l.take j ++ l.drop j) := by rw [List.take_append_drop]
  rw [val_append] at h
  have h2 : 1 ≤ 128 ^ (l.take j).length := Nat.pow_pos (by decide)
  have h3 : 1 * val (l.drop j) ≤ 128 ^ (l.take j).length * val (l.drop j) := Nat.mul_le_mul_right _ h2
  omega
/-- a text at the front -/
def getTextF (l : List UInt8) (most : Int) : List UInt8 × Nat × Nat :=
  if (getF l).2.2 ≠ 0 then ([], 0, (getF l).2.2)
  else if most < 0 ∨ most < ((getF l).1 : Int) then ([], 0, 14)
  else if l.length - (getF l).2.1 < (getF l).1 then ([], 0, 9)
  else ((l.drop (getF l).2.1).take (getF l).1, (getF l).2.1 + (getF l).1, 0)

end Go.Proofs.YtnjnehegfdimaaaDoor.Varint
