/- Layer 5 (ikey): the order of versions, in the program and in the reference. -/
import Derived.Test.YtnafhjgfkofkbaaBunA
import Derived.Test.YtnafhjgfkofkbaaRows
import Derived.Outline
import Derived.Lib.Bytealg
import Derived.WalkLawsBesides
/- The plain law of layer 3 (varint): numbers as bytes, and what a beginning of bytes tells. No program is in sight here. -/
namespace Go.Proofs.Ytnafhjgfkofkbaa.Varint
set_option linter.unusedVariables false
set_option linter.unusedSimpArgs false

/-- a number's bytes; the fuel is how many more there may be -/
def putN : Nat → Nat → List UInt8
  | 0, n => [UInt8.ofNat n]
  | k + 1, n => if n < 128 then [UInt8.ofNat n] else UInt8.ofNat (n % 128 + 128) :: putN k (n / 128)
def putF (n : Nat) : List UInt8 := putN 9 n
/-- the number that so many bytes tell -/
def val : List UInt8 → Nat
  | [] => 0
  | x :: l => x.toNat % 128 + 128 * val l
def short (l : List UInt8) : Nat × Nat × Nat := (0, 0, if l.length < 10 then 9 else 2)
def endAt (l : List UInt8) (k x : Nat) : Nat × Nat × Nat := if k = 9 ∧ 1 < x ∨ 0 < k ∧ x = 0 then (0, 0, 2) else (val (l.take (k + 1)), k + 1, 0)
/-- the number at the front of bytes, from a place on -/
def getAt (l : List UInt8) : Nat → Nat → Nat × Nat × Nat
  | 0, _ => short l
  | f + 1, k => match l[k]? with
    | none => short l
    | some x => if x.toNat < 128 then endAt l k x.toNat else getAt l f (k + 1)
def getF (l : List UInt8) : Nat × Nat × Nat := getAt l 10 0

theorem putN_small {k n : Nat} (h : n < 128) : putN k n = [UInt8.ofNat n] := by
  cases k with
  | zero => rfl
  | succ k => simp [putN, h]
theorem putN_big {k n : Nat} (h : ¬ n < 128) : putN (k + 1) n = UInt8.ofNat (n % 128 + 128) :: putN k (n / 128) := by
  simp [putN, h]
theorem val_append (l m : List UInt8) : val (l ++ m) = val l + 128 ^ l.length * val m := by
  induction l with
  | nil => simp [val]
  | cons x l ih => simp only [List.cons_append, val, ih, List.length_cons, Nat.pow_succ']; rw [Nat.mul_add, Nat.mul_assoc, Nat.add_assoc]
theorem val_lt (l : List UInt8) : val l < 128 ^ l.length := by
  induction l with
  | nil => simp [val]
  | cons x l ih =>
    simp only [val, List.length_cons, Nat.pow_succ]
    have := Nat.mod_lt x.toNat (show 128 > 0 by decide)
    omega
theorem val_take_succ (l : List UInt8) (k : Nat) (h : k < l.length) : val (l.take (k + 1)) = val (l.take k) + l[k].toNat % 128 * 128 ^ k := by
  rw [List.take_succ_eq_append_getElem h, val_append]
  have : (l.take k).length = k := by simp; omega
  rw [this]; simp [val, Nat.mul_comm]
theorem val_take_lt (l : List UInt8) (k : Nat) (h : k ≤ l.length) : val (l.take k) < 128 ^ k := by
  have := val_lt (l.take k)
  rwa [List.length_take, Nat.min_eq_left h] at this
theorem getAt_none {l : List UInt8} {f k : Nat} (h : l.length ≤ k) : getAt l f k = short l := by
  cases f with
  | zero => rfl
  | succ f => simp [getAt, List.getElem?_eq_none h]
theorem getAt_end {l : List UInt8} {f k : Nat} (h : k < l.length) (hx : l[k].toNat < 128) : getAt l (f + 1) k = endAt l k l[k].toNat := by
  simp [getAt, h, hx]
theorem getAt_on {l : List UInt8} {f k : Nat} (h : k < l.length) (hx : ¬ l[k].toNat < 128) : getAt l (f + 1) k = getAt l f (k + 1) := by
  simp [getAt, h, hx]

theorem pow128 (k : Nat) : 128 ^ k = 2 ^ (7 * k) := by rw [Nat.pow_mul]
theorem fits (k x : Nat) (hk : k ≤ 9) (hx : x < 128) (h9 : k = 9 → x ≤ 1) : x * 2 ^ (7 * k) < 18446744073709551616 := by
  by_cases h : k = 9
  · subst h
    have := h9 rfl
    have : x * 2 ^ (7 * 9) ≤ 1 * 2 ^ (7 * 9) := Nat.mul_le_mul_right _ this
    omega
  · have h1 : x * 2 ^ (7 * k) ≤ 127 * 2 ^ (7 * k) := Nat.mul_le_mul_right _ (by omega)
    have h2 : 2 ^ (7 * k) ≤ 2 ^ (7 * 8) := Nat.pow_le_pow_right (by decide) (by omega)
    omega
theorem take_u64 (l : List UInt8) (k : Nat) (h : k ≤ l.length) (hk : k ≤ 9) : val (l.take k) < 18446744073709551616 ∧ val (l.take k) < 2 ^ (7 * k) := by
  have h1 := val_take_lt l k h
  rw [pow128] at h1
  have h2 : 2 ^ (7 * k) ≤ 2 ^ (7 * 9) := Nat.pow_le_pow_right (by decide) (by omega)
  exact ⟨by omega, h1⟩
theorem endAt_bad {l : List UInt8} {k x : Nat} (h : k = 9 ∧ 1 < x ∨ 0 < k ∧ x = 0) : endAt l k x = (0, 0, 2) := by simp only [endAt, if_pos h]
theorem endAt_good {l : List UInt8} {k x : Nat} (h : ¬ (k = 9 ∧ 1 < x ∨ 0 < k ∧ x = 0)) : endAt l k x = (val (l.take (k + 1)), k + 1, 0) := by simp only [endAt, if_neg h]

theorem putN_len : ∀ k n, (putN k n).length ≤ k + 1 ∧ 1 ≤ (putN k n).length
  | 0, n => by simp [putN]
  | k + 1, n => by
    have := putN_len k (n / 128)
    rw [putN]; split <;> simp <;> omega

theorem getAt_lt (l : List UInt8) : ∀ f k, k + f = 10 → (getAt l f k).1 < 18446744073709551616 ∧ (getAt l f k).2.1 ≤ l.length
  | 0, k, _ => by simp [getAt, short]
  | f + 1, k, h => by
    by_cases hk : k < l.length
    · by_cases hx : l[k].toNat < 128
      · rw [getAt_end hk hx]
        by_cases hb : k = 9 ∧ 1 < l[k].toNat ∨ 0 < k ∧ l[k].toNat = 0
        · rw [endAt_bad hb]; exact ⟨by decide, Nat.zero_le _⟩
        · rw [endAt_good hb]
          refine ⟨?_, by show k + 1 ≤ l.length; omega⟩
          show val (l.take (k + 1)) < _
          rw [val_take_succ l k hk, Nat.mod_eq_of_lt hx, pow128]
          have h1 := take_u64 l k (by omega) (by omega)
          have h2 := fits k l[k].toNat (by omega) hx (by omega)
          by_cases h9 : k = 9
          · subst h9
            have h3 : l[9].toNat ≤ 1 := by omega
            have h4 : l[9].toNat * 2 ^ (7 * 9) ≤ 1 * 2 ^ (7 * 9) := Nat.mul_le_mul_right _ h3
            omega
          · have h5 : 2 ^ (7 * k) ≤ 2 ^ (7 * 8) := Nat.pow_le_pow_right (by decide) (by omega)
            have h4 : l[k].toNat * 2 ^ (7 * k) ≤ 127 * 2 ^ (7 * k) := Nat.mul_le_mul_right _ (by omega)
            omega
      · rw [getAt_on hk hx]; exact getAt_lt l f (k + 1) (by omega)
    · rw [getAt_none (by omega)]; simp [short]
theorem getF_lt (l : List UInt8) : (getF l).1 < 18446744073709551616 := (getAt_lt l 10 0 rfl).1
theorem getF_le (l : List UInt8) : (getF l).2.1 ≤ l.length := (getAt_lt l 10 0 rfl).2
/-- signed numbers -/
def foldF (m : Int) : Nat := if m < 0 then (-2 * m - 1).toNat else (2 * m).toNat
def unfoldF (n : Nat) : Int := if n % 2 = 1 then -((n / 2 : Nat) : Int) - 1 else ((n / 2 : Nat) : Int)
theorem foldF_lt (m : Int) (h1 : -9223372036854775808 ≤ m) (h2 : m ≤ 9223372036854775807) : foldF m < 18446744073709551616 := by
  unfold foldF; split <;> omega
theorem unfold_fold (m : Int) : unfoldF (foldF m) = m := by
  unfold foldF unfoldF
  split
  · rw [if_pos (by omega)]; omega
  · rw [if_neg (by omega)]; omega
theorem fold_unfold (n : Nat) : foldF (unfoldF n) = n := by
  unfold foldF unfoldF
  split <;> split <;> omega
/-- the lowest bytes of a number; the number of bytes -/
def bytesN : Nat → Nat → List UInt8
  | 0, _ => []
  | k + 1, n => UInt8.ofNat n :: bytesN k (n / 256)
def le : List UInt8 → Nat
  | [] => 0
  | x :: l => x.toNat + 256 * le l
def wholeF (l : List UInt8) : Nat × Nat := if 8 < l.length then (0, 1) else (le l, 0)
theorem le_append (l m : List UInt8) : le (l ++ m) = le l + 256 ^ l.length * le m := by
  induction l with
  | nil => simp [le]
  | cons x l ih => simp only [List.cons_append, le, ih, List.length_cons, Nat.pow_succ']; rw [Nat.mul_add, Nat.mul_assoc, Nat.add_assoc]
theorem le_lt (l : List UInt8) : le l < 256 ^ l.length := by
  induction l with
  | nil => simp [le]
  | cons x l ih =>
    simp only [le, List.length_cons, Nat.pow_succ]
    have := x.toNat_lt
    omega
theorem pow256 (k : Nat) : 256 ^ k = 2 ^ (8 * k) := by rw [Nat.pow_mul]
theorem le_take_succ (l : List UInt8) (k : Nat) (h : k < l.length) : le (l.take (k + 1)) = le (l.take k) + l[k].toNat * 2 ^ (8 * k) := by
  rw [List.take_succ_eq_append_getElem h, le_append]
  have : (l.take k).length = k := by simp; omega
  rw [this, pow256]; simp [le, Nat.mul_comm]
theorem le_take (l : List UInt8) (k : Nat) (h : k ≤ l.length) (hk : k ≤ 8) : le (l.take k) < 2 ^ (8 * k) ∧ le (l.take k) < 18446744073709551616 := by
  have h1 := le_lt (l.take k)
  rw [List.length_take, Nat.min_eq_left h, pow256] at h1
  have h2 : 2 ^ (8 * k) ≤ 2 ^ (8 * 8) := Nat.pow_le_pow_right (by decide) (by omega)
  exact ⟨h1, by omega⟩
theorem le_fits (k x : Nat) (hk : k < 8) (hx : x < 256) : x * 2 ^ (8 * k) < 18446744073709551616 := by
  have h1 : x * 2 ^ (8 * k) ≤ 255 * 2 ^ (8 * k) := Nat.mul_le_mul_right _ (by omega)
  have h2 : 2 ^ (8 * k) ≤ 2 ^ (8 * 7) := Nat.pow_le_pow_right (by decide) (by omega)
  omega
def fixedF (n : Nat) (s : Int) : List UInt8 × Nat := if s < 0 ∨ 8 < s then ([], 1) else if n / 256 ^ s.toNat ≠ 0 then ([], 14) else (bytesN s.toNat n, 0)
theorem bytesN_len : ∀ k n, (bytesN k n).length = k
  | 0, _ => rfl
  | k + 1, n => by simp [bytesN, bytesN_len k]
theorem bytesN_snoc : ∀ k n, bytesN (k + 1) n = bytesN k n ++ [UInt8.ofNat (n / 256 ^ k)]
  | 0, n => by simp [bytesN]
  | k + 1, n => by
    rw [show bytesN (k + 1 + 1) n = UInt8.ofNat n :: bytesN (k + 1) (n / 256) from rfl, bytesN_snoc k (n / 256), Nat.div_div_eq_div_mul, ← Nat.pow_succ']
    rfl
theorem val_drop_le (l : List UInt8) (j : Nat) : val (l.drop j) ≤ val l := by
  have h : val l = val (l.take j ++ l.drop j) := by rw [List.take_append_drop]
  rw [val_append] at h
  have h2 : 1 ≤ 128 ^ (l.take j).length := Nat.pow_pos (by decide)
  have h3 : 1 * val (l.drop j) ≤ 128 ^ (l.take j).length * val (l.drop j) := Nat.mul_le_mul_right _ h2
  omega
/-- a text at the front -/
def getTextF (l : List UInt8) (most : Int) : List UInt8 × Nat × Nat :=
  if (getF l).2.2 ≠ 0 then ([], 0, (getF l).2.2)
  else if most < 0 ∨ most < ((getF l).1 : Int) then ([], 0, 14)
  else if l.length - (getF l).2.1 < (getF l).1 then ([], 0, 9)
  else ((l.drop (getF l).2.1).take (getF l).1, (getF l).2.1 + (getF l).1, 0)

end Go.Proofs.Ytnafhjgfkofkbaa.Varint
/- The order of texts, as the model has it. No program is in sight here. -/
namespace Go.Proofs.Ytnafhjgfkofkbaa
set_option linter.unusedVariables false
set_option linter.unusedSimpArgs false
open Go.Op (bytesLess)
theorem bl_nil (y : List UInt8) : bytesLess y [] = false := by cases y <;> rfl
theorem bl_cons (a b : UInt8) (x y : List UInt8) : bytesLess (a :: x) (b :: y) = true ↔ a.toNat < b.toNat ∨ (a = b ∧ bytesLess x y = true) := by
  simp [bytesLess, UInt8.lt_iff_toNat_lt]
theorem bl_irr (x : List UInt8) : bytesLess x x = false := by
  induction x with
  | nil => rfl
  | cons a x ih => rw [Bool.eq_false_iff]; intro h; rw [bl_cons] at h; simp [ih] at h
theorem bl_asymm : ∀ {x y : List UInt8}, bytesLess x y = true → bytesLess y x = false
  | [], [], h => by simp [bytesLess] at h
  | [], _ :: _, _ => rfl
  | _ :: _, [], h => by simp [bytesLess] at h
  | a :: x, b :: y, h => by
    rw [Bool.eq_false_iff]
    intro h2
    rw [bl_cons] at h h2
    rcases h with h | ⟨e, h⟩
    · rcases h2 with h2 | ⟨e2, _⟩
      · omega
      · subst e2; omega
    · subst e
      rcases h2 with h2 | ⟨_, h2⟩
      · omega
      · rw [bl_asymm h] at h2; cases h2
theorem bl_total : ∀ {x y : List UInt8}, bytesLess x y = false → bytesLess y x = false → x = y
  | [], [], _, _ => rfl
  | [], _ :: _, h, _ => by simp [bytesLess] at h
  | _ :: _, [], _, h => by simp [bytesLess] at h
  | a :: x, b :: y, h, h2 => by
    have k1 : ¬ (a.toNat < b.toNat ∨ (a = b ∧ bytesLess x y = true)) := fun k => by rw [(bl_cons a b x y).2 k] at h; cases h
    have k2 : ¬ (b.toNat < a.toNat ∨ (b = a ∧ bytesLess y x = true)) := fun k => by rw [(bl_cons b a y x).2 k] at h2; cases h2
    have e : a = b := UInt8.toNat_inj.1 (by omega)
    subst e
    simp only [true_and, Nat.lt_irrefl, false_or, Bool.not_eq_true] at k1 k2
    rw [bl_total k1 k2]
/-- o is not below s, s ≤ o: then what is above o is above s -/
theorem bl_le_lt : ∀ {s o b : List UInt8}, bytesLess o s = false → bytesLess o b = true → bytesLess s b = true
  | [], [], b, _, h2 => h2
  | [], _ :: _, [], _, h2 => by simp [bytesLess] at h2
  | [], _ :: _, _ :: _, _, _ => rfl
  | _ :: _, [], _, h, _ => by simp [bytesLess] at h
  | x :: s, y :: o, [], _, h2 => by simp [bytesLess] at h2
  | x :: s, y :: o, z :: b, h, h2 => by
    have k1 : ¬ (y.toNat < x.toNat ∨ (y = x ∧ bytesLess o s = true)) := fun k => by rw [(bl_cons y x o s).2 k] at h; cases h
    rw [bl_cons] at h2 ⊢
    rcases h2 with h2 | ⟨e, h2⟩
    · left; omega
    · subst e
      by_cases e2 : y = x
      · subst e2
        right
        simp only [true_and, Nat.lt_irrefl, false_or, Bool.not_eq_true] at k1
        exact ⟨rfl, bl_le_lt k1 h2⟩
      · left
        have : y.toNat ≠ x.toNat := fun k => e2 (UInt8.toNat_inj.1 k)
        omega
theorem bl_trans {x y z : List UInt8} (h : bytesLess x y = true) (h2 : bytesLess y z = true) : bytesLess x z = true :=
  bl_le_lt (bl_asymm h) h2
/-- x < y ≤ z -/
theorem bl_lt_le {x y z : List UInt8} (h : bytesLess x y = true) (h2 : bytesLess z y = false) : bytesLess x z = true := by
  cases hx : bytesLess x z with
  | true => rfl
  | false =>
    cases hz : bytesLess z x with
    | true => rw [bl_trans hz h] at h2; cases h2
    | false => rw [bl_total hx hz] at h; rw [h] at h2; cases h2
theorem bl_le_trans {x y z : List UInt8} (h : bytesLess y x = false) (h2 : bytesLess z y = false) : bytesLess z x = false := by
  cases hx : bytesLess z x with
  | false => rfl
  | true => rw [bl_lt_le hx h] at h2; cases h2
theorem bl_append : ∀ (p x y : List UInt8), bytesLess (p ++ x) (p ++ y) = bytesLess x y
  | [], _, _ => rfl
  | a :: p, x, y => by
    rw [Bool.eq_iff_iff, List.cons_append, List.cons_append, bl_cons, bl_append p x y]
    simp
theorem bl_prefix : ∀ (p x : List UInt8), x ≠ [] → bytesLess p (p ++ x) = true
  | [], x, h => by cases x with | nil => exact absurd rfl h | cons a x => rfl
  | a :: p, x, h => by rw [List.cons_append, bl_cons]; exact .inr ⟨rfl, bl_prefix p x h⟩
theorem bl_self_append (p x : List UInt8) : bytesLess (p ++ x) p = false := by
  cases x with
  | nil => rw [List.append_nil]; exact bl_irr p
  | cons a x => exact bl_asymm (bl_prefix p _ (by simp))
end Go.Proofs.Ytnafhjgfkofkbaa
/- The plain law of layer 5 (ikey), the parting of texts: the next text of the same length, and the first that lies below another. No program is in sight here. -/
namespace Go.Proofs.Ytnafhjgfkofkbaa.Ikey
set_option linter.unusedVariables false
set_option linter.unusedSimpArgs false
open Go.Op (bytesLess)
/-- the text of the same length that comes behind one -/
def nextF : List UInt8 → Option (List UInt8)
  | [] => none
  | x :: l => match nextF l with
    | some l' => some (x :: l')
    | none => if x = 255 then none else some ((x + 1) :: List.replicate l.length 0)
def partN (a b : List UInt8) : Nat → Nat → List UInt8
  | 0, _ => a
  | f + 1, n => match nextF (a.take n) with
    | some s => if bytesLess s b then s else partN a b f (n + 1)
    | none => partN a b f (n + 1)
def partF (a b : List UInt8) : List UInt8 := partN a b a.length 0
theorem partN_none {a b : List UInt8} {f n : Nat} (h : nextF (a.take n) = none) : partN a b (f + 1) n = partN a b f (n + 1) := by simp [partN, h]
theorem partN_yes {a b s : List UInt8} {f n : Nat} (h : nextF (a.take n) = some s) (hb : bytesLess s b = true) : partN a b (f + 1) n = s := by simp [partN, h, hb]
theorem partN_no {a b s : List UInt8} {f n : Nat} (h : nextF (a.take n) = some s) (hb : bytesLess s b = false) : partN a b (f + 1) n = partN a b f (n + 1) := by simp [partN, h, hb]
theorem rep_snoc (n : Nat) (z : UInt8) : List.replicate (n + 1) z = List.replicate n z ++ [z] := List.replicate_succ'
theorem next_snoc (l : List UInt8) (x : UInt8) : nextF (l ++ [x]) = if x = 255 then (nextF l).map (· ++ [0]) else some (l ++ [x + 1]) := by
  induction l with
  | nil => by_cases h : x = 255 <;> simp [nextF, h]
  | cons y l ih =>
    rw [List.cons_append, nextF, ih]
    by_cases h : x = 255
    · simp only [h, if_true, nextF]
      cases hl : nextF l with
      | some l' => simp
      | none =>
        simp only [Option.map_none]
        by_cases hy : y = 255
        · simp [hy]
        · simp only [hy, if_false, Option.map_some, List.length_append, List.length_cons, List.length_nil]
          rw [rep_snoc]; simp
    · simp [h]
theorem next_len : ∀ {l s : List UInt8}, nextF l = some s → s.length = l.length
  | [], s, h => by simp [nextF] at h
  | x :: l, s, h => by
    rw [nextF] at h
    cases hl : nextF l with
    | some l' =>
      rw [hl] at h
      simp only [Option.some.injEq] at h
      subst h
      simp [next_len hl]
    | none =>
      rw [hl] at h
      by_cases hx : x = 255
      · simp [hx] at h
      · simp only [hx, if_false, Option.some.injEq] at h
        subst h
        simp
theorem succ_nat {x : UInt8} (h : x ≠ 255) : (x + 1).toNat = x.toNat + 1 := by
  have h1 : x.toNat ≠ 255 := fun k => h (UInt8.toNat_inj.1 k)
  have h2 := x.toNat_lt
  rw [UInt8.toNat_add]
  have : (1 : UInt8).toNat = 1 := rfl
  omega
/-- it comes behind all that begin with the old one -/
theorem next_above : ∀ {l s : List UInt8}, nextF l = some s → ∀ r, bytesLess (l ++ r) s = true
  | [], s, h => by simp [nextF] at h
  | x :: l, s, h => by
    intro r
    rw [nextF] at h
    cases hl : nextF l with
    | some l' =>
      rw [hl] at h
      simp only [Option.some.injEq] at h
      subst h
      rw [List.cons_append, bl_cons]
      exact .inr ⟨rfl, next_above hl r⟩
    | none =>
      rw [hl] at h
      by_cases hx : x = 255
      · simp [hx] at h
      · simp only [hx, if_false, Option.some.injEq] at h
        subst h
        rw [List.cons_append, bl_cons, succ_nat hx]
        exact .inl (by omega)
theorem zeros_least : ∀ (o : List UInt8), bytesLess o (List.replicate o.length 0) = false
  | [] => rfl
  | x :: o => by
    rw [Bool.eq_false_iff]
    intro h
    rw [List.length_cons, List.replicate_succ, bl_cons] at h
    rcases h with h | ⟨_, h⟩
    · have : (0 : UInt8).toNat = 0 := rfl
      omega
    · rw [zeros_least o] at h; cases h
/-- none of the same length lies between -/
theorem next_least : ∀ {l s : List UInt8}, nextF l = some s → ∀ o : List UInt8, o.length = l.length → bytesLess l o = true → bytesLess o s = false
  | [], s, h => by simp [nextF] at h
  | x :: l, s, h => by
    intro o ho hb
    cases o with
    | nil => simp at ho
    | cons y o =>
      have ho' : o.length = l.length := by simpa using ho
      rw [bl_cons] at hb
      rw [Bool.eq_false_iff]
      intro hs
      rw [nextF] at h
      cases hl : nextF l with
      | some l' =>
        rw [hl] at h
        simp only [Option.some.injEq] at h
        subst h
        rw [bl_cons] at hs
        rcases hb with hb | ⟨e, hb⟩
        · rcases hs with hs | ⟨e, hs⟩
          · omega
          · subst e; omega
        · subst e
          rcases hs with hs | ⟨_, hs⟩
          · omega
          · rw [next_least hl o ho' hb] at hs; cases hs
      | none =>
        rw [hl] at h
        by_cases hx : x = 255
        · simp [hx] at h
        · simp only [hx, if_false, Option.some.injEq] at h
          subst h
          rw [bl_cons, succ_nat hx, ← ho'] at hs
          rcases hb with hb | ⟨e, hb⟩
          · rcases hs with hs | ⟨e, hs⟩
            · omega
            · rw [zeros_least o] at hs; cases hs
          · rw [next_none hl o ho'] at hb; cases hb
where
  next_none : ∀ {l : List UInt8}, nextF l = none → ∀ o : List UInt8, o.length = l.length → bytesLess l o = false
  | [], _, o, ho => by
    have : o = [] := List.eq_nil_of_length_eq_zero (by simpa using ho)
    subst this; rfl
  | x :: l, h, o, ho => by
    cases o with
    | nil => simp at ho
    | cons y o =>
      have ho' : o.length = l.length := by simpa using ho
      rw [nextF] at h
      cases hl : nextF l with
      | some l' => rw [hl] at h; simp at h
      | none =>
        rw [hl] at h
        by_cases hx : x = 255
        · rw [Bool.eq_false_iff]
          intro hb
          rw [bl_cons] at hb
          rcases hb with hb | ⟨_, hb⟩
          · subst hx
            have h1 := y.toNat_lt
            have : (255 : UInt8).toNat = 255 := rfl
            omega
          · rw [next_none hl o ho'] at hb; cases hb
        · simp [hx] at h
/-- what the parting tells: the first length at which there is one below b, or the text itself -/
theorem partN_spec (a b : List UInt8) : ∀ f n, n + f = a.length →
    (partN a b f n = a ∧ ∀ m, n ≤ m → m < a.length → ∀ s, nextF (a.take m) = some s → bytesLess s b = false) ∨
    (∃ m s, n ≤ m ∧ m < a.length ∧ nextF (a.take m) = some s ∧ bytesLess s b = true ∧ partN a b f n = s ∧ ∀ k, n ≤ k → k < m → ∀ s, nextF (a.take k) = some s → bytesLess s b = false)
  | 0, n, h => .inl ⟨rfl, fun m h1 h2 => by omega⟩
  | f + 1, n, h => by
    have keep : (∀ s, nextF (a.take n) = some s → bytesLess s b = false) → partN a b (f + 1) n = partN a b f (n + 1) := by
      intro hn
      cases hs : nextF (a.take n) with
      | none => exact partN_none hs
      | some s => exact partN_no hs (hn s hs)
    by_cases hn : ∀ s, nextF (a.take n) = some s → bytesLess s b = false
    · rw [keep hn]
      rcases partN_spec a b f (n + 1) (by omega) with ⟨h1, h2⟩ | ⟨m, s, h1, h2, h3, h4, h5, h6⟩
      · refine .inl ⟨h1, fun m hm1 hm2 => ?_⟩
        by_cases e : m = n
        · subst e; exact hn
        · exact h2 m (by omega) hm2
      · refine .inr ⟨m, s, by omega, h2, h3, h4, h5, fun k hk1 hk2 => ?_⟩
        by_cases e : k = n
        · subst e; exact hn
        · exact h6 k (by omega) hk2
    · have : ∃ s, nextF (a.take n) = some s ∧ bytesLess s b = true := by
        cases hs : nextF (a.take n) with
        | none => exact absurd (fun s h => by rw [hs] at h; cases h) hn
        | some s =>
          cases hb : bytesLess s b with
          | true => exact ⟨s, rfl, hb⟩
          | false => exact absurd (fun s' h => by rw [hs] at h; cases h; exact hb) hn
      obtain ⟨s, hs, hb⟩ := this
      exact .inr ⟨n, s, Nat.le_refl _, by omega, hs, hb, partN_yes hs hb, fun k h1 h2 => by omega⟩
theorem part_spec (a b : List UInt8) :
    (partF a b = a ∧ ∀ m, m < a.length → ∀ s, nextF (a.take m) = some s → bytesLess s b = false) ∨
    (∃ m s, m < a.length ∧ nextF (a.take m) = some s ∧ bytesLess s b = true ∧ partF a b = s ∧ ∀ k, k < m → ∀ s, nextF (a.take k) = some s → bytesLess s b = false) := by
  rcases partN_spec a b a.length 0 (by omega) with ⟨h1, h2⟩ | ⟨m, s, h1, h2, h3, h4, h5, h6⟩
  · exact .inl ⟨h1, fun m => h2 m (Nat.zero_le _)⟩
  · exact .inr ⟨m, s, h2, h3, h4, h5, fun k => h6 k (Nat.zero_le _)⟩
theorem above_of_take {a s : List UInt8} {m : Nat} (h : nextF (a.take m) = some s) : bytesLess a s = true := by
  have := next_above h (a.drop m)
  rwa [List.take_append_drop] at this
theorem part_same {a b : List UInt8} (h : bytesLess a b = false) : partF a b = a := by
  rcases part_spec a b with ⟨h1, _⟩ | ⟨m, s, _, h3, h4, _, _⟩
  · exact h1
  · rw [bl_trans (above_of_take h3) h4] at h; cases h
theorem part_from (a b : List UInt8) : bytesLess (partF a b) a = false := by
  rcases part_spec a b with ⟨h1, _⟩ | ⟨m, s, _, h3, _, h5, _⟩
  · rw [h1]; exact bl_irr a
  · rw [h5]; exact bl_asymm (above_of_take h3)
theorem part_below {a b : List UInt8} (h : bytesLess a b = true) : bytesLess (partF a b) b = true := by
  rcases part_spec a b with ⟨h1, _⟩ | ⟨m, s, _, _, h4, h5, _⟩
  · rw [h1]; exact h
  · rw [h5]; exact h4
theorem part_len (a b : List UInt8) : (partF a b).length ≤ a.length := by
  rcases part_spec a b with ⟨h1, _⟩ | ⟨m, s, h2, h3, _, h5, _⟩
  · rw [h1]; exact Nat.le_refl _
  · rw [h5, next_len h3, List.length_take]; omega
/-- of those that lie between, none is shorter, nor less of the same length -/
theorem part_least {a b o : List UInt8} (h1 : bytesLess o a = false) (h2 : bytesLess o b = true) :
    (partF a b).length < o.length ∨ (o.length = (partF a b).length ∧ bytesLess o (partF a b) = false) := by
  have hlen := part_len a b
  by_cases hm : o.length < a.length
  · have hlt : (a.take o.length).length = o.length := by simp; omega
    have hab : bytesLess (a.take o.length) o = true := by
      cases hx : bytesLess (a.take o.length) o with
      | true => rfl
      | false =>
        exfalso
        cases hy : bytesLess o (a.take o.length) with
        | true =>
          have : bytesLess o a = true := by
            have h3 := bl_self_append (a.take o.length) (a.drop o.length)
            rw [List.take_append_drop] at h3
            exact bl_lt_le hy h3
          rw [this] at h1; cases h1
        | false =>
          have e := bl_total hx hy
          have h3 := bl_prefix (a.take o.length) (a.drop o.length) (by
            intro k
            have := congrArg List.length k
            simp at this
            omega)
          rw [List.take_append_drop] at h3
          rw [e] at h3
          rw [h3] at h1; cases h1
    cases hs : nextF (a.take o.length) with
    | none =>
      rw [next_least.next_none hs o hlt.symm] at hab; cases hab
    | some s =>
      have hso := next_least hs o hlt.symm hab
      have hsb := bl_le_lt hso h2
      rcases part_spec a b with ⟨_, h4⟩ | ⟨m, s', hm', h3, h4, h5, h6⟩
      · rw [h4 o.length hm s hs] at hsb; cases hsb
      · have hmo : m ≤ o.length := by
          rcases Nat.lt_or_ge o.length m with h | h
          · rw [h6 o.length h s hs] at hsb; cases hsb
          · exact h
        have hl : (partF a b).length = m := by rw [h5, next_len h3, List.length_take]; omega
        rcases Nat.lt_or_ge m o.length with h | h
        · left; omega
        · right
          have e : m = o.length := by omega
          subst e
          rw [hs] at h3
          cases h3
          exact ⟨hl.symm, by rw [h5]; exact hso⟩
  · rcases Nat.lt_or_ge (partF a b).length o.length with h | h
    · exact .inl h
    · right
      refine ⟨by omega, ?_⟩
      rcases part_spec a b with ⟨h4, _⟩ | ⟨m, s, hm', h3, _, h5, _⟩
      · rw [h4]; exact h1
      · have hl : (partF a b).length = m := by rw [h5, next_len h3, List.length_take]; omega
        omega
end Go.Proofs.Ytnafhjgfkofkbaa.Ikey
/- Layer 5 (ikey): the parting of texts, of the program and of the reference. -/
namespace Go.Proofs.Ytnafhjgfkofkbaa
set_option linter.unusedVariables false
set_option linter.unusedSimpArgs false
open Go.RowKit Ikey
open Go.Op (bytesLess)
theorem elemB : Elem Try.prog 73 5 (.int .u8 0) 1 1 := ⟨by kernel_rfl, by kernel_rfl, rfl, by decide⟩
/-- the row while a text is made the next one: j bytes as they were, the rest noughts -/
def rowJ (a : List UInt8) (n j : Nat) : List UInt8 := a.take j ++ List.replicate (n - j) 0
theorem rowJ_len {a : List UInt8} {n j : Nat} (h : j ≤ n) (hn : n ≤ a.length) : (rowJ a n j).length = n := by simp [rowJ]; omega
theorem rowJ_full (a : List UInt8) (n : Nat) : rowJ a n n = a.take n := by simp [rowJ]
theorem rowJ_at {a : List UInt8} {n j : Nat} (h : j + 1 ≤ n) (hn : n ≤ a.length) : (bv (rowJ a n (j + 1)))[j]? = some (.int .u8 ((a[j]'(by omega)).toNat : Int)) := by
  have hl : j < (rowJ a n (j + 1)).length := by rw [rowJ_len h hn]; omega
  rw [bv_get _ _ hl]
  have h2 : (rowJ a n (j + 1))[j]? = some (a[j]'(by omega)) := by
    unfold rowJ
    rw [List.getElem?_append_left (by simp; omega), List.getElem?_take, if_pos (by omega), List.getElem?_eq_getElem]
  rw [List.getElem?_eq_getElem hl] at h2
  injection h2 with h2
  rw [h2]
theorem rowJ_set {a : List UInt8} {n j : Nat} (h : j + 1 ≤ n) (hn : n ≤ a.length) (y : UInt8) (V : Int) (hV : V = (y.toNat : Int)) :
    (bv (rowJ a n (j + 1))).set j (.int .u8 V) = bv (a.take j ++ y :: List.replicate (n - (j + 1)) 0) := by
  subst hV
  rw [bv_set]
  congr 1
  unfold rowJ
  rw [List.take_succ_eq_append_getElem (by omega), List.append_assoc, List.set_append_right _ _ (by simp; omega)]
  have : j - (a.take j).length = 0 := by simp; omega
  rw [this]
  simp
theorem rowJ_zero {a : List UInt8} {n j : Nat} (h : j + 1 ≤ n) : a.take j ++ (0 : UInt8) :: List.replicate (n - (j + 1)) 0 = rowJ a n j := by
  unfold rowJ
  rw [← List.replicate_succ]
  congr 2
  omega
theorem next_row {a : List UInt8} {n j : Nat} (h : j + 1 ≤ n) (hn : n ≤ a.length) (hN : nextF (a.take n) = (nextF (a.take (j + 1))).map (· ++ List.replicate (n - (j + 1)) 0)) :
    (a[j]'(by omega) = 255 → nextF (a.take n) = (nextF (a.take j)).map (· ++ List.replicate (n - j) 0)) ∧
    (a[j]'(by omega) ≠ 255 → nextF (a.take n) = some (a.take j ++ (a[j]'(by omega) + 1) :: List.replicate (n - (j + 1)) 0)) := by
  rw [List.take_succ_eq_append_getElem (by omega), next_snoc] at hN
  refine ⟨fun hx => ?_, fun hx => ?_⟩
  · rw [hN, if_pos hx, Option.map_map]
    congr 1
    funext s
    simp only [Function.comp, List.append_assoc]
    congr 1
    rw [List.singleton_append, ← List.replicate_succ]
    congr 1
    omega
  · rw [hN, if_neg hx, Option.map_some]
    simp
theorem nat255 {x : UInt8} (h : x ≠ 255) : x.toNat + 1 < 256 := by
  have h1 : x.toNat ≠ 255 := fun k => h (UInt8.toNat_inj.1 k)
  have h2 := x.toNat_lt
  omega
theorem Owns.head {w : World} {base : Nat} {e : TypeId} {ad : Option Addr} {cap n : Nat} {xs : List Value} (h : Owns w base e 1 ad cap n xs) : Owns w base e 1 ad cap 0 [] := by
  obtain ⟨h1, h2, h3, ⟨e1, e2, e3⟩ | ⟨g, cur, fr, e1, e2, hg, hfr, hs, ht⟩⟩ := h
  · exact ⟨rfl, Nat.zero_le _, h3, .inl ⟨e1, rfl, e3⟩⟩
  · exact ⟨rfl, Nat.zero_le _, h3, .inr ⟨g, cur, fr, e1, e2, hg, hfr, hs, by simp⟩⟩
end Go.Proofs.Ytnafhjgfkofkbaa
/- Layer 5 (ikey): a version's bytes, in the program and in the reference. -/
namespace Go.Proofs.Ytnafhjgfkofkbaa
set_option linter.unusedVariables false
set_option linter.unusedSimpArgs false
open Go.RowKit Ikey Varint
open Go.Op (bytesLess)
/-- a version, as a value -/
def ver (k : List UInt8) (s d : Int) : Value := .agg #[.string (str k), .int .i64 s, .int .i64 d]
/-- it is one -/
def okV (k : List UInt8) (s d : Int) : Bool := !k.isEmpty && decide (k.length ≤ 64) && decide (0 ≤ s) && decide (s ≤ 72057594037927935) && (decide (d = 0) || decide (d = 1))
theorem okV_of {k : List UInt8} {s d : Int} (h : okV k s d = true) : k ≠ [] ∧ k.length ≤ 64 ∧ 0 ≤ s ∧ s ≤ 72057594037927935 ∧ (d = 0 ∨ d = 1) := by
  simpa [okV, and_assoc] using h
theorem okV_mk {k : List UInt8} {s d : Int} (h : k ≠ [] ∧ k.length ≤ 64 ∧ 0 ≤ s ∧ s ≤ 72057594037927935 ∧ (d = 0 ∨ d = 1)) : okV k s d = true := by
  simpa [okV, and_assoc] using h
theorem okV_no {k : List UInt8} {s d : Int} (h : ¬ (k ≠ [] ∧ k.length ≤ 64 ∧ 0 ≤ s ∧ s ≤ 72057594037927935 ∧ (d = 0 ∨ d = 1))) : okV k s d = false := by
  rw [Bool.eq_false_iff]; exact fun k => h (okV_of k)
def chk (k : List UInt8) (s d : Int) : Int := if okV k s d then 0 else 1
theorem chk_yes {k : List UInt8} {s d : Int} (h : okV k s d = true) : chk k s d = 0 := by unfold chk; rw [h]; rfl
theorem chk_no {k : List UInt8} {s d : Int} (h : okV k s d = false) : chk k s d = 1 := by unfold chk; rw [h]; rfl
theorem Gr.box3 {w w' : World} {a b c : Value} {t : TypeId} (g : Gr (w.alloc (.cells #[a, b, c] t)) w') :
    w'.cell? ⟨w.heap.size, 0, none⟩ = some a ∧ w'.cell? ⟨w.heap.size, 1, none⟩ = some b ∧ w'.cell? ⟨w.heap.size, 2, none⟩ = some c := by
  have h := heap_alloc_new w (.cells #[a, b, c] t)
  refine ⟨g.cell ?_, g.cell ?_, g.cell ?_⟩ <;> (rw [cell_of_row _ _ _ _ _ _ h]; rfl)
set_option maxRecDepth 100000 in
set_option maxHeartbeats 1000000 in
theorem Check_any (k : List UInt8) (s d : Int) (w : World) :
    Calls Try.prog 61 #[ver k s d] w fun e w' => e = .returned (.int .i64 (chk k s d)) ∧ Gr w w' := by
  unfold ver
  by_cases h : k ≠ [] ∧ k.length ≤ 64 ∧ 0 ≤ s ∧ s ≤ 72057594037927935 ∧ (d = 0 ∨ d = 1)
  · have HO := Lib.hid (okV_mk h)
    obtain ⟨h1, h2, h3, h4, h5⟩ := h
    have b1 : (k == []) = false := by rw [beq_eq_false_iff_ne]; exact h1
    have b2 : k.isEmpty = false := by cases k with | nil => exact absurd rfl h1 | cons x r => rfl
    clear h1
    rcases h5 with rfl | rfl
    all_goals
      go_enter Try.func61, Try.ntmps61
      go_wp2
      go_ret
      exact ⟨ret_int (chk_yes HO.out).symm, Gr.alloc _ _⟩
  · have HO := Lib.hid (okV_no h)
    by_cases h1 : k = []
    · subst h1
      go_enter Try.func61, Try.ntmps61
      go_wp2
      go_ret
      exact ⟨ret_int (chk_no HO.out).symm, Gr.alloc _ _⟩
    · have b1 : (k == []) = false := by rw [beq_eq_false_iff_ne]; exact h1
      have b2 : k.isEmpty = false := by cases k with | nil => exact absurd rfl h1 | cons x r => rfl
      by_cases h2 : k.length ≤ 64
      · by_cases h3 : 0 ≤ s
        · by_cases h4 : s ≤ 72057594037927935
          · have d0 : (d != 0) = true := by rw [bne_iff_ne]; exact fun e => h ⟨h1, h2, h3, h4, .inl e⟩
            have d1 : (d != 1) = true := by rw [bne_iff_ne]; exact fun e => h ⟨h1, h2, h3, h4, .inr e⟩
            have d2 : (d == 0) = false := by rw [beq_eq_false_iff_ne]; exact fun e => h ⟨h1, h2, h3, h4, .inl e⟩
            have d3 : (d == 1) = false := by rw [beq_eq_false_iff_ne]; exact fun e => h ⟨h1, h2, h3, h4, .inr e⟩
            clear h h1
            go_enter Try.func61, Try.ntmps61
            go_wp2
            go_ret
            exact ⟨ret_int (chk_no HO.out).symm, Gr.alloc _ _⟩
          · clear h h1
            go_enter Try.func61, Try.ntmps61
            go_wp2
            go_ret
            exact ⟨ret_int (chk_no HO.out).symm, Gr.alloc _ _⟩
        · clear h h1
          go_enter Try.func61, Try.ntmps61
          go_wp2
          go_ret
          exact ⟨ret_int (chk_no HO.out).symm, Gr.alloc _ _⟩
      · clear h h1
        go_enter Try.func61, Try.ntmps61
        go_wp2
        go_ret
        exact ⟨ret_int (chk_no HO.out).symm, Gr.alloc _ _⟩
set_option maxRecDepth 100000 in
set_option maxHeartbeats 1000000 in
theorem rRight_any (k : List UInt8) (s d : Int) (w : World) :
    Calls Try.prog 50 #[ver k s d] w fun e w' => e = .returned (.bool (okV k s d)) ∧ Gr w w' := by
  unfold ver
  by_cases h : k ≠ [] ∧ k.length ≤ 64 ∧ 0 ≤ s ∧ s ≤ 72057594037927935 ∧ (d = 0 ∨ d = 1)
  · have HO := Lib.hid (okV_mk h)
    obtain ⟨h1, h2, h3, h4, h5⟩ := h
    have b1 : (k == []) = false := by rw [beq_eq_false_iff_ne]; exact h1
    have b2 : k.isEmpty = false := by cases k with | nil => exact absurd rfl h1 | cons x r => rfl
    clear h1
    rcases h5 with rfl | rfl
    all_goals
      go_enter Try.func50, Try.ntmps50
      go_wp2
      go_ret
      exact ⟨by rw [HO.out]; rfl, Gr.alloc _ _⟩
  · have HO := Lib.hid (okV_no h)
    by_cases h1 : k = []
    · subst h1
      go_enter Try.func50, Try.ntmps50
      go_wp2
      go_ret
      exact ⟨by rw [HO.out]; rfl, Gr.alloc _ _⟩
    · have b1 : (k == []) = false := by rw [beq_eq_false_iff_ne]; exact h1
      have b2 : k.isEmpty = false := by cases k with | nil => exact absurd rfl h1 | cons x r => rfl
      by_cases h2 : k.length ≤ 64
      · by_cases h3 : 0 ≤ s
        · by_cases h4 : s ≤ 72057594037927935
          · have d0 : (d != 0) = true := by rw [bne_iff_ne]; exact fun e => h ⟨h1, h2, h3, h4, .inl e⟩
            have d1 : (d != 1) = true := by rw [bne_iff_ne]; exact fun e => h ⟨h1, h2, h3, h4, .inr e⟩
            have d2 : (d == 0) = false := by rw [beq_eq_false_iff_ne]; exact fun e => h ⟨h1, h2, h3, h4, .inl e⟩
            have d3 : (d == 1) = false := by rw [beq_eq_false_iff_ne]; exact fun e => h ⟨h1, h2, h3, h4, .inr e⟩
            clear h h1
            go_enter Try.func50, Try.ntmps50
            go_wp2
            go_ret
            exact ⟨by rw [HO.out]; rfl, Gr.alloc _ _⟩
          · clear h h1
            go_enter Try.func50, Try.ntmps50
            go_wp2
            go_ret
            exact ⟨by rw [HO.out]; rfl, Gr.alloc _ _⟩
        · clear h h1
          go_enter Try.func50, Try.ntmps50
          go_wp2
          go_ret
          exact ⟨by rw [HO.out]; rfl, Gr.alloc _ _⟩
      · clear h h1
        go_enter Try.func50, Try.ntmps50
        go_wp2
        go_ret
        exact ⟨by rw [HO.out]; rfl, Gr.alloc _ _⟩
end Go.Proofs.Ytnafhjgfkofkbaa
/- Layer 5 (ikey): Encode and Decode, of the program and of the reference. -/
namespace Go.Proofs.Ytnafhjgfkofkbaa
set_option linter.unusedVariables false
set_option linter.unusedSimpArgs false
open Go.RowKit Ikey Varint
open Go.Op (bytesLess)
theorem or_comm64 (a b : Nat) (ha : a < 18446744073709551616) (hb : b < 18446744073709551616) : bits .or .u64 (a : Int) (b : Int) = bits .or .u64 (b : Int) (a : Int) := by
  rw [u64_or_nat _ _ ha hb, u64_or_nat _ _ hb ha, Nat.or_comm]
/-- the number and the kind in one -/
def trailF (s d : Nat) : Nat := d + s * 256
theorem trail_bits (s d : Nat) (hs : s < 72057594037927936) (hd : d < 256) : bits .or .u64 ((s : Int) * 256) (d : Int) = (trailF s d : Int) := by
  have e : ((s : Int) * 256) = ((s * 256 : Nat) : Int) := by omega
  rw [e, or_comm64 _ _ (by omega) (by omega)]
  exact u64_join d s 8 (by omega) (by omega) (by omega)
theorem trailF_lt {s d : Nat} (hs : s < 72057594037927936) (hd : d < 256) : trailF s d < 18446744073709551616 := by unfold trailF; omega
set_option maxRecDepth 100000 in
theorem trailer_any (k : List UInt8) (s d : Nat) (w : World) (hs : s < 72057594037927936) (hd : d < 256) :
    Calls Try.prog 64 #[ver k s d] w fun e w' => e = .returned (.int .u64 (trailF s d)) ∧ Gr w w' := by
  have H := Lib.hid (trail_bits s d hs hd)
  unfold ver
  go_enter Try.func64, Try.ntmps64
  go_wp2
  go_ret
  exact ⟨ret_int H.out, Gr.alloc _ _⟩
/-- a version's bytes -/
def encF (k : List UInt8) (s d : Nat) : List UInt8 := k ++ bytesN 8 (trailF s d)
/-- what hands back bytes, and an error's number -/
def RetBI (e : TypeId) (w : World) (l : List UInt8) (n : Int) : Ending → World → Prop := fun x w' =>
  ∃ ad cap, x = .returned (.tuple #[.slice ad l.length cap, .int .i64 n]) ∧ Owns w' w.heap.size e 1 ad cap l.length (bv l) ∧ Gr w w'
set_option maxRecDepth 100000 in
set_option maxHeartbeats 1000000 in
theorem Encode_no (k : List UInt8) (s d : Int) (w : World) (h : okV k s d = false) :
    Calls Try.prog 43 #[ver k s d] w (RetBI 5 w [] 1) := by
  have HC := Lib.hid (fun w => Check_any k s d w)
  rw [chk_no h] at HC
  unfold ver at HC ⊢
  go_enter Try.func43, Try.ntmps43
  go_wp2_with (go_at_call 61; refine (HC.out _).mono ?_; rintro e w1 ⟨rfl, g1⟩; obtain ⟨c0, c1, c2⟩ := g1.box3)
  go_ret2
  exact ⟨none, 0, rfl, Owns.empty _ _ _ _, (Gr.alloc _ _).trans g1⟩
theorem enc_len (k : List UInt8) (s d : Nat) : (encF k s d).length = k.length + 8 := by simp [encF, bytesN_len]
set_option maxRecDepth 100000 in
set_option maxHeartbeats 1000000 in
theorem Encode_yes (k : List UInt8) (s d : Nat) (w : World) (h : okV k s d = true) :
    Calls Try.prog 43 #[ver k s d] w (RetBI 5 w (encF k s d) 0) := by
  obtain ⟨_, hk, _, hs, hd⟩ := okV_of h
  have hs' : s < 72057594037927936 := by omega
  have hd' : d < 256 := by omega
  have hkm : k.length ≤ maxLen := by unfold maxLen; omega
  have HC := Lib.hid (fun w => Check_any k s d w)
  rw [chk_yes h] at HC
  have HT := Lib.hid (fun w => trailer_any k s d w hs' hd')
  unfold ver at HC HT ⊢
  have hN := trailF_lt hs' hd'
  have HE := Lib.hid (show encF k s d = k ++ bytesN 8 (trailF s d) from rfl)
  have HL := Lib.hid (enc_len k s d)
  generalize trailF s d = N at *
  go_enter Try.func43, Try.ntmps43
  go_wp2_with (first
    | (go_at_call 61; refine (HC.out _).mono ?_; rintro e w1 ⟨rfl, g1⟩; obtain ⟨c0, c1, c2⟩ := g1.box3; obtain ⟨cap, w2, hrun, ho, hg, hsz⟩ := bytes_str Try.underlying9 Try.underlying73 Try.underlying5 w1 k hkm; have d0 := hg.cell c0; have d1 := hg.cell c1; have d2 := hg.cell c2; clear hsz)
    | (go_at_call 64; refine (HT.out _).mono ?_; rintro e w3 ⟨rfl, g3⟩))
  clear hrun
  have G2 : Gr w w2 := ((Gr.alloc _ _).trans g1).trans hg
  have hsz := ((Gr.alloc w _).trans g1).size
  have ho3 := (ho.gr g3).base hsz
  go_loopw [5, 7] (fun v i wr => ∃ (j : Nat) (ad : Option Addr) (cap' : Nat), j ≤ 8 ∧ i = .int .i64 (j : Int) ∧ v = .slice ad (k.length + j) cap' ∧ Owns wr w.heap.size 5 1 ad cap' (k.length + j) (bv (k ++ bytesN j N)) ∧ Gr w wr) (fun _ i _ => 8 - (intOf i).toNat)
  case atStart => exact ⟨0, _, cap, by omega, rfl, rfl, by rw [show bytesN 0 N = [] from rfl, List.append_nil]; exact ho3, G2.trans g3⟩
  case round =>
    obtain ⟨j, ad, cap', hj, rfl, rfl, ho, hg⟩ := hrel
    by_cases hlt : j < 8
    · have HX := Lib.hid (show ((N : Int) / 2 ^ (8 * j)) % 256 = ((UInt8.ofNat (N / 256 ^ j)).toNat : Int) by
        have : (N : Int) / 2 ^ (8 * j) = ((N / 256 ^ j : Nat) : Int) := by rw [pow256]; simp
        rw [this, UInt8.toNat_ofNat']; omega)
      have hs2 := hg.size
      go_wp2_with (at_builtin; refine wp_append elemB rfl _ _ rfl rfl (ho.gr (Gr.alloc _ _)) rfl (Src.one _ _ (UInt8.ofNat (N / 256 ^ j)) HX.out Try.underlying73) (by unfold maxLen; omega) (by omega) (by simp; omega) ?_; intro ad2 cap2 w4 o4 k4 f4)
      go_roundw
      case rel =>
        refine ⟨j + 1, ad2, cap2, by omega, by go_num, by simp [Nat.add_assoc], ?_, hg.app ho (Nat.le_refl _) k4⟩
        rw [bytesN_snoc, ← List.append_assoc, bv_append]
        exact o4
      case measure => simp [intOf]; omega
    · obtain rfl : j = 8 := by omega
      go_wp2
      go_ret2
      refine ⟨ad, cap', by rw [HL.out]; rfl, ?_, hg⟩
      rw [HL.out, HE.out]
      exact ho
end Go.Proofs.Ytnafhjgfkofkbaa
/- Layer 5 (ikey): keyed answers true; IkeyParts and IkeyBetween answer true. -/
namespace Go.Proofs.Ytnafhjgfkofkbaa
set_option linter.unusedVariables false
set_option linter.unusedSimpArgs false
open Go.RowKit Ikey Varint
open Go.Op (bytesLess)
end Go.Proofs.Ytnafhjgfkofkbaa
/- Layer 5 (ikey): Decode and DocDecode. -/
namespace Go.Proofs.Ytnafhjgfkofkbaa
set_option linter.unusedVariables false
set_option linter.unusedSimpArgs false
open Go.RowKit Ikey Varint
open Go.Op (bytesLess)
/-- what is told of a key and a trailer -/
def ofF (k : List UInt8) (n : Nat) : Option (List UInt8 × Nat × Nat) := if okV k ((n / 256 : Nat) : Int) ((n % 256 : Nat) : Int) then some (k, n / 256, n % 256) else none
def outV : Option (List UInt8 × Nat × Nat) → Value
  | some (k, s, d) => .tuple #[ver k s d, .int .i64 0]
  | none => .tuple #[ver [] 0 0, .int .i64 2]
def decF (b : List UInt8) : Option (List UInt8 × Nat × Nat) := if b.length < 8 then none else ofF (b.take (b.length - 8)) (le (b.drop (b.length - 8)))
set_option maxRecDepth 100000 in
set_option maxHeartbeats 1000000 in
theorem of_any (k : List UInt8) (n : Nat) (w : World) (hn : n < 18446744073709551616) :
    Calls Try.prog 77 #[.string (str k), .int .u64 n] w fun e w' => e = .returned (outV (ofF k n)) ∧ Gr w w' := by
  have HC := Lib.hid (fun w => Check_any k ((n / 256 : Nat) : Int) ((n % 256 : Nat) : Int) w)
  have e1 : ((n / 256 : Nat) : Int) = (n : Int) / 256 := by omega
  have e2 : ((n % 256 : Nat) : Int) = (n : Int) % 256 := by omega
  cases h : okV k ((n / 256 : Nat) : Int) ((n % 256 : Nat) : Int) with
  | true =>
    have HF := Lib.hid (show ofF k n = some (k, n / 256, n % 256) by unfold ofF; rw [h]; rfl)
    rw [chk_yes h] at HC
    unfold ver at HC
    rw [e1, e2] at HC
    clear h e1 e2
    go_enter Try.func77, Try.ntmps77
    go_wp2_with (go_at_call 61; refine (HC.out _).mono ?_; rintro e w1 ⟨rfl, g1⟩; obtain ⟨c0, c1, c2, f0, f1, f2⟩ := (Blk.of2a g1).three; obtain ⟨k0, k1, k2, _⟩ := (Blk.of2b g1).three)
    refine bodyPost_ret (v := outV (some (k, n / 256, n % 256))) (by simp [results, Try.results77, go_sem, outV, ver, c0, c1, c2]) rfl ⟨by rw [HF.out], ?_⟩
    exact ((((Gr.alloc _ _).trans (Gr.alloc _ _)).trans g1).setCell (Nat.le_refl _) _).setCell (Nat.le_refl _) _ |>.setCell (Nat.le_refl _) _
  | false =>
    have HF := Lib.hid (show ofF k n = none by unfold ofF; rw [h]; rfl)
    rw [chk_no h] at HC
    unfold ver at HC
    rw [e1, e2] at HC
    clear h e1 e2
    go_enter Try.func77, Try.ntmps77
    go_wp2_with (go_at_call 61; refine (HC.out _).mono ?_; rintro e w1 ⟨rfl, g1⟩; obtain ⟨c0, c1, c2, f0, f1, f2⟩ := (Blk.of2a g1).three; obtain ⟨k0, k1, k2, _⟩ := (Blk.of2b g1).three)
    refine bodyPost_ret (v := outV none) (by simp [results, Try.results77, go_sem, outV, ver, c0, c1, c2]; rfl) rfl ⟨by rw [HF.out], ?_⟩
    exact ((((Gr.alloc _ _).trans (Gr.alloc _ _)).trans g1).setCell (Nat.le_refl _) _).setCell (Nat.le_refl _) _ |>.setCell (Nat.le_refl _) _
def verO : Option (List UInt8 × Nat × Nat) → List UInt8 × Nat × Nat
  | some x => x
  | none => ([], 0, 0)
def errO : Option (List UInt8 × Nat × Nat) → Nat
  | some _ => 0
  | none => 2
theorem outV_eq (o : Option (List UInt8 × Nat × Nat)) : outV o = .tuple #[.agg #[.string (str (verO o).1), .int .i64 (verO o).2.1, .int .i64 (verO o).2.2], .int .i64 (errO o)] := by
  cases o <;> rfl
set_option maxRecDepth 100000 in
set_option maxHeartbeats 1000000 in
theorem Decode_any (ad : Option Addr) (cap : Nat) (l : List UInt8) (w : World) (hlc : l.length ≤ cap) (hm : l.length ≤ maxLen) (hb : Bytes w ad l) :
    Calls Try.prog 72 #[.slice ad l.length cap] w fun e w' => e = .returned (outV (decF l)) ∧ Gr w w' := by
  unfold maxLen at hm
  by_cases h8 : l.length < 8
  · have HD := Lib.hid (show decF l = none by unfold decF; rw [if_pos h8])
    go_enter Try.func72, Try.ntmps72
    go_wp2
    refine bodyPost_ret (v := outV none) (by simp [results, Try.results72, go_sem, outV, ver]; rfl) rfl ⟨by rw [HD.out], ?_⟩
    exact Gr.alloc _ _
  · obtain ⟨at_, hat⟩ : ∃ at_, l.length = at_ + 8 := ⟨l.length - 8, by omega⟩
    have hd8 : (l.drop at_).length = 8 := by simp; omega
    have HD := Lib.hid (show decF l = ofF (l.take at_) (le (l.drop at_)) by unfold decF; rw [if_neg h8, hat]; rfl)
    obtain ⟨b, off, rfl, hz⟩ := hb 0 (by omega)
    clear hz
    have hb2 := hb.gr (Gr.alloc w (.cells #[.string ⟨#[]⟩, .int .i64 0, .int .i64 0] 33))
    have hbd := hb2.drop at_
    have hle := le_lt (l.drop at_)
    rw [hd8] at hle
    have HO := Lib.hid (of_any (l.take at_) (le (l.drop at_)) (w.alloc (.cells #[.string ⟨#[]⟩, .int .i64 0, .int .i64 0] 33)) (by omega))
    have htl : (l.take at_).length = at_ := by simp; omega
    have hs := run_string (P := Try.prog) Try.underlying73 Try.underlying5 Try.underlying9 (cap := cap) htl (hb2.take at_)
    clear htl hle
    have hcap : at_ + 8 ≤ cap := by omega
    have hne : ¬ cap = at_ := by omega
    have hmm : at_ + 8 ≤ 9223372036854775807 := by omega
    have HAT := Lib.hid hat
    rw [hat]
    clear hat h8 hm hlc
    generalize l.drop at_ = m at *
    have H8 := Lib.hid hd8; clear hd8
    go_enter Try.func72, Try.ntmps72
    go_wp2
    go_loop [5, 6, 7, 18] (fun v _ _ i => ∃ j : Nat, j ≤ 8 ∧ i = .int .i64 j ∧ v = .int .u64 (le (m.take j))) (fun _ _ _ i => 8 - (intOf i).toNat)
    case atStart => exact ⟨0, by omega, rfl, rfl⟩
    case round =>
      obtain ⟨j, hj, rfl, rfl⟩ := hrel
      by_cases hlt : j < 8
      · have hjl : j < m.length := by rw [H8.out]; exact hlt
        obtain ⟨_, _, e0, hc⟩ := hbd j hjl
        cases e0
        have hx := byte_hi m[j]
        have h1 := le_take m j (by omega) (by omega)
        have HO2 := Lib.hid (u64_shl_or (le (m.take j)) m[j].toNat (8 * j) h1.1 (by have := le_fits j m[j].toNat (by omega) m[j].toNat_lt; exact this) h1.2)
        have HT := Lib.hid (le_take_succ m j hjl)
        have h2 := h1.2
        clear h1
        go_wp2
        go_round
        case rel => exact ⟨j + 1, by omega, by go_num, by rw [HO2.out, HT.out]⟩
        case measure => simp [intOf]; omega
      · obtain rfl : j = 8 := by omega
        have HT := Lib.hid (show m.take 8 = m from List.take_of_length_le (by rw [H8.out]; exact Nat.le_refl _))
        rw [HT.out]
        rw [outV_eq] at HO
        go_wp2_with (go_at_call 77; refine HO.out.mono ?_; rintro e w1 ⟨rfl, g1⟩; obtain ⟨c0, c1, c2, f0, f1, f2⟩ := (Blk.of1 g1).three)
        refine bodyPost_ret (v := outV (ofF (l.take at_) (le m))) (by rw [outV_eq]; simp [results, Try.results72, go_sem, c0, c1, c2]) rfl ⟨by rw [HD.out, outV_eq], ?_⟩
        exact (((Gr.alloc _ _).trans g1).setCell (Nat.le_refl _) _).setCell (Nat.le_refl _) _ |>.setCell (Nat.le_refl _) _
end Go.Proofs.Ytnafhjgfkofkbaa
/- Layer 5 (ikey): the reference's DocEncode and DocDecode. -/
namespace Go.Proofs.Ytnafhjgfkofkbaa
set_option linter.unusedVariables false
set_option linter.unusedSimpArgs false
open Go.RowKit Ikey Varint
open Go.Op (bytesLess)
theorem bytes8 (s d : Nat) (hd : d < 256) : bytesN 8 (trailF s d) = UInt8.ofNat d :: bytesN 7 s := by
  have h1 : trailF s d / 256 = s := by unfold trailF; omega
  have h2 : UInt8.ofNat (trailF s d) = UInt8.ofNat d := by
    apply UInt8.toNat_inj.1
    rw [UInt8.toNat_ofNat', UInt8.toNat_ofNat']; unfold trailF; omega
  rw [show bytesN 8 (trailF s d) = UInt8.ofNat (trailF s d) :: bytesN 7 (trailF s d / 256) from rfl, h1, h2]
theorem seq_step (m : List UInt8) (k : Nat) (h : k < m.length) : le (m.drop k) = m[k].toNat + 256 * le (m.drop (k + 1)) := by
  rw [List.drop_eq_getElem_cons h]; rfl
theorem le_drop_lt (m : List UInt8) (k : Nat) (hm : m.length = 8) (hk : 1 ≤ k) : le (m.drop k) < 72057594037927936 := by
  have h1 := le_lt (m.drop k)
  have h2 : 256 ^ (m.drop k).length ≤ 256 ^ 7 := Nat.pow_le_pow_right (by decide) (by rw [List.length_drop, hm]; omega)
  omega
end Go.Proofs.Ytnafhjgfkofkbaa
/- The plain law of layer 5 (ikey), the sortable bytes: their order is that of the versions. No walk here. -/
namespace Go.Proofs.Ytnafhjgfkofkbaa
set_option linter.unusedVariables false
set_option linter.unusedSimpArgs false
open Go.RowKit Ikey Varint
open Go.Op (bytesLess)
def inv8 (x : UInt8) : UInt8 := 255 - x
theorem inv8_nat (x : UInt8) : (inv8 x).toNat = 255 - x.toNat := by
  have := x.toNat_lt
  unfold inv8
  rw [UInt8.toNat_sub_of_le _ _ (by rw [UInt8.le_iff_toNat_le]; show x.toNat ≤ 255; omega)]
  rfl
theorem inv8_inv (x : UInt8) : inv8 (inv8 x) = x := by
  apply UInt8.toNat_inj.1
  have := x.toNat_lt
  rw [inv8_nat, inv8_nat]; omega
theorem inv8_ofNat {n : Nat} (h : n < 256) : inv8 (UInt8.ofNat n) = UInt8.ofNat (255 - n) := by
  apply UInt8.toNat_inj.1
  rw [inv8_nat, UInt8.toNat_ofNat', UInt8.toNat_ofNat']; omega
/-- the number of bytes, the highest first -/
def beV : List UInt8 → Nat
  | [] => 0
  | x :: r => x.toNat * 256 ^ r.length + beV r
theorem beV_append : ∀ a b : List UInt8, beV (a ++ b) = beV a * 256 ^ b.length + beV b
  | [], b => by simp [beV]
  | x :: a, b => by
    rw [List.cons_append, beV, beV, beV_append a b, List.length_append, Nat.pow_add, Nat.add_mul, Nat.mul_assoc, Nat.add_assoc]
theorem beV_snoc (l : List UInt8) (x : UInt8) : beV (l ++ [x]) = beV l * 256 + x.toNat := by rw [beV_append]; simp [beV]
theorem beV_lt : ∀ l : List UInt8, beV l < 256 ^ l.length
  | [] => by decide
  | x :: r => by
    have h := beV_lt r
    have hx := x.toNat_lt
    rw [beV, List.length_cons, Nat.pow_succ]
    have : x.toNat * 256 ^ r.length ≤ 255 * 256 ^ r.length := Nat.mul_le_mul_right _ (by omega)
    omega
theorem beV_rev : ∀ l : List UInt8, beV l.reverse = le l
  | [] => rfl
  | x :: r => by rw [List.reverse_cons, beV_snoc, beV_rev r, le]; omega
theorem bl_be : ∀ {a b : List UInt8}, a.length = b.length → (bytesLess a b = true ↔ beV a < beV b)
  | [], [], _ => by simp [beV, bytesLess]
  | x :: a, y :: b, h => by
    have hl : a.length = b.length := by simpa using h
    have ih := bl_be hl
    have h1 := beV_lt a
    have h2 := beV_lt b
    rw [bl_cons, beV, beV, ih, hl]
    rw [hl] at h1
    rcases Nat.lt_trichotomy x.toNat y.toNat with c | c | c
    · have : (x.toNat + 1) * 256 ^ b.length ≤ y.toNat * 256 ^ b.length := Nat.mul_le_mul_right _ c
      rw [Nat.add_mul, Nat.one_mul] at this
      exact ⟨fun _ => by omega, fun _ => .inl c⟩
    · have e : x = y := UInt8.toNat_inj.1 c
      subst e
      exact ⟨fun hh => by rcases hh with hh | hh <;> omega, fun hh => .inr ⟨rfl, by omega⟩⟩
    · have : (y.toNat + 1) * 256 ^ b.length ≤ x.toNat * 256 ^ b.length := Nat.mul_le_mul_right _ c
      rw [Nat.add_mul, Nat.one_mul] at this
      refine ⟨fun hh => ?_, fun hh => by omega⟩
      rcases hh with hh | ⟨e, _⟩
      · omega
      · subst e; omega
theorem le_bytesN' : ∀ (k n : Nat), n < 256 ^ k → le (bytesN k n) = n
  | 0, n, h => by simp at h; subst h; rfl
  | k + 1, n, h => by
    rw [Nat.pow_succ] at h
    rw [bytesN, le, le_bytesN' k (n / 256) (by omega), UInt8.toNat_ofNat']
    omega
theorem bytesN_le' : ∀ l : List UInt8, bytesN l.length (le l) = l
  | [] => rfl
  | x :: r => by
    have hx := x.toNat_lt
    have h1 : (x.toNat + 256 * le r) / 256 = le r := by omega
    have h2 : UInt8.ofNat (x.toNat + 256 * le r) = x := by
      apply UInt8.toNat_inj.1
      rw [UInt8.toNat_ofNat']; omega
    rw [List.length_cons, bytesN, le, h1, h2, bytesN_le' r]
theorem le_inj {a b : List UInt8} (h : a.length = b.length) (e : le a = le b) : a = b := by
  rw [← bytesN_le' a, ← bytesN_le' b, h, e]
theorem bytesN_inv : ∀ (k n : Nat), n < 256 ^ k → bytesN k (256 ^ k - 1 - n) = (bytesN k n).map inv8
  | 0, _, _ => rfl
  | k + 1, n, h => by
    rw [Nat.pow_succ] at h
    have hp : 0 < 256 ^ k := Nat.pow_pos (by decide)
    have e1 : (256 ^ (k + 1) - 1 - n) / 256 = 256 ^ k - 1 - n / 256 := by rw [Nat.pow_succ]; omega
    have e2 : UInt8.ofNat (256 ^ (k + 1) - 1 - n) = inv8 (UInt8.ofNat n) := by
      apply UInt8.toNat_inj.1
      rw [inv8_nat, UInt8.toNat_ofNat', UInt8.toNat_ofNat', Nat.pow_succ]; omega
    rw [bytesN, bytesN, List.map_cons, e1, e2, bytesN_inv k (n / 256) (by omega)]
theorem bytesN_get : ∀ (k n i : Nat), i < k → (bytesN k n)[i]? = some (UInt8.ofNat (n / 256 ^ i))
  | 0, _, _, h => by omega
  | k + 1, n, 0, _ => by rw [bytesN]; simp
  | k + 1, n, i + 1, h => by
    rw [bytesN, List.getElem?_cons_succ, bytesN_get k (n / 256) i (by omega), Nat.pow_succ, Nat.mul_comm, Nat.div_div_eq_div_mul]
/-- the first j of n bytes, the highest first -/
def topF (n N j : Nat) : List UInt8 := (List.range j).map fun t => UInt8.ofNat (N / 256 ^ (n - 1 - t))
theorem topF_step (n N j : Nat) : topF n N (j + 1) = topF n N j ++ [UInt8.ofNat (N / 256 ^ (n - 1 - j))] := by
  unfold topF; rw [List.range_succ, List.map_append]; rfl
theorem topF_len (n N j : Nat) : (topF n N j).length = j := by simp [topF]
theorem topF_all (n N : Nat) : topF n N n = (bytesN n N).reverse := by
  apply List.ext_getElem?
  intro i
  by_cases h : i < n
  · rw [List.getElem?_reverse (by rw [bytesN_len]; exact h), bytesN_len, bytesN_get _ _ _ (by omega)]
    unfold topF
    rw [List.getElem?_map, List.getElem?_range h]; rfl
  · rw [List.getElem?_eq_none (by rw [topF_len]; omega), List.getElem?_eq_none (by rw [List.length_reverse, bytesN_len]; omega)]
/-- the last eight bytes -/
def tailF (T : Nat) : List UInt8 := ((bytesN 8 T).map inv8).reverse
theorem tailF_len (T : Nat) : (tailF T).length = 8 := by simp [tailF, bytesN_len]
theorem tailF_top {T : Nat} (h : T < 18446744073709551616) : topF 8 (18446744073709551615 - T) 8 = tailF T := by
  rw [topF_all]
  have := bytesN_inv 8 T h
  rw [show (256 : Nat) ^ 8 - 1 - T = 18446744073709551615 - T from rfl] at this
  rw [this]; rfl
theorem tailF_be {T : Nat} (h : T < 18446744073709551616) : beV (tailF T) = 18446744073709551615 - T := by
  rw [← tailF_top h, topF_all, beV_rev, le_bytesN' _ _ (by have : (256 : Nat) ^ 8 = 18446744073709551616 := by decide
                                                           omega)]
theorem tailF_parts (s d : Nat) (hd : d < 256) : tailF (trailF s d) = (topF 7 s 7).map inv8 ++ [inv8 (UInt8.ofNat d)] := by
  unfold tailF
  rw [bytes8 s d hd, List.map_cons, List.reverse_cons, ← List.map_reverse, topF_all]
theorem tailF_inj {t : List UInt8} (h : t.length = 8) : t = tailF (18446744073709551615 - beV t) := by
  have hb := beV_lt t
  rw [h] at hb
  have e : (256 : Nat) ^ 8 = 18446744073709551616 := by decide
  rw [e] at hb
  have h1 : beV (tailF (18446744073709551615 - beV t)) = beV t := by rw [tailF_be (by omega)]; omega
  have h2 : le t.reverse = le (tailF (18446744073709551615 - beV t)).reverse := by
    rw [← beV_rev, ← beV_rev, List.reverse_reverse, List.reverse_reverse, h1]
  have h3 := le_inj (by rw [List.length_reverse, List.length_reverse, h, tailF_len]) h2
  have := congrArg List.reverse h3
  rwa [List.reverse_reverse, List.reverse_reverse] at this
/-- a key, so that a nought is no end -/
def escF : List UInt8 → List UInt8
  | [] => []
  | x :: r => if x = 0 then 0 :: 255 :: escF r else x :: escF r
theorem escF_zero (r : List UInt8) : escF (0 :: r) = 0 :: 255 :: escF r := by rw [escF, if_pos rfl]
theorem escF_other {x : UInt8} (h : x ≠ 0) (r : List UInt8) : escF (x :: r) = x :: escF r := by rw [escF, if_neg h]
theorem escF_append : ∀ a b : List UInt8, escF (a ++ b) = escF a ++ escF b
  | [], _ => rfl
  | x :: a, b => by
    by_cases h : x = 0
    · subst h; rw [List.cons_append, escF_zero, escF_zero, escF_append a b]; rfl
    · rw [List.cons_append, escF_other h, escF_other h, escF_append a b]; rfl
theorem escF_len : ∀ k : List UInt8, (escF k).length ≤ 2 * k.length
  | [] => Nat.le_refl _
  | x :: r => by
    have := escF_len r
    rw [escF]; split <;> simp <;> omega
def sortF (k : List UInt8) (s d : Nat) : List UInt8 := escF k ++ 0 :: 0 :: tailF (trailF s d)
theorem sortF_len (k : List UInt8) (s d : Nat) : (sortF k s d).length = (escF k).length + 10 := by simp [sortF, tailF_len]
def unesc : List UInt8 → Option (List UInt8)
  | [] => some []
  | [x] => if x = 0 then none else some [x]
  | x :: y :: r => if x = 0 then (if y = 255 then (unesc r).map (0 :: ·) else none) else (unesc (y :: r)).map (x :: ·)
theorem unesc_cons {x : UInt8} (h : x ≠ 0) : ∀ r : List UInt8, unesc (x :: r) = (unesc r).map (x :: ·)
  | [] => by simp [unesc, h]
  | y :: r => by rw [unesc, if_neg h]
theorem unesc_zero (r : List UInt8) : unesc (0 :: 255 :: r) = (unesc r).map (0 :: ·) := by simp [unesc]
theorem unesc_esc : ∀ k : List UInt8, unesc (escF k) = some k
  | [] => rfl
  | x :: r => by
    by_cases h : x = 0
    · subst h; rw [escF_zero, unesc_zero, unesc_esc r]; rfl
    · rw [escF_other h, unesc_cons h, unesc_esc r]; rfl
theorem esc_unesc : ∀ {l k : List UInt8}, unesc l = some k → escF k = l
  | [], k, h => by simp [unesc] at h; subst h; rfl
  | [x], k, h => by
    by_cases hx : x = 0
    · simp [unesc, hx] at h
    · simp [unesc, hx] at h; subst h; rw [escF_other hx]; rfl
  | x :: y :: r, k, h => by
    by_cases hx : x = 0
    · by_cases hy : y = 255
      · simp only [unesc, hx, hy, if_true] at h
        cases hr : unesc r with
        | none => rw [hr] at h; simp at h
        | some k' =>
          rw [hr] at h
          simp at h
          subst h
          rw [escF_zero, esc_unesc hr, hx, hy]
      · simp [unesc, hx, hy] at h
    · rw [unesc_cons hx] at h
      cases hr : unesc (y :: r) with
      | none => rw [hr] at h; simp at h
      | some k' =>
        rw [hr] at h
        simp at h
        subst h
        rw [escF_other hx, esc_unesc hr]
theorem trailF_parts (s d : Nat) (hd : d < 256) : trailF s d / 256 = s ∧ trailF s d % 256 = d := by unfold trailF; omega
theorem okV_trail {k : List UInt8} {s d : Nat} (h : okV k s d = true) : s < 72057594037927936 ∧ d < 256 ∧ trailF s d < 18446744073709551616 := by
  obtain ⟨_, _, _, h1, h2⟩ := okV_of h
  have hs : s < 72057594037927936 := by omega
  have hd : d < 256 := by omega
  exact ⟨hs, hd, trailF_lt hs hd⟩
theorem ofF_iff {k k' : List UInt8} {n s d : Nat} : ofF k n = some (k', s, d) ↔ k' = k ∧ okV k s d = true ∧ n = trailF s d ∧ d < 256 := by
  unfold ofF
  constructor
  · intro h
    split at h
    · rename_i ho
      simp only [Option.some.injEq, Prod.mk.injEq] at h
      obtain ⟨rfl, rfl, rfl⟩ := h
      exact ⟨rfl, ho, by unfold trailF; omega, Nat.mod_lt _ (by decide)⟩
    · cases h
  · rintro ⟨rfl, ho, rfl, hd⟩
    obtain ⟨e1, e2⟩ := trailF_parts s d hd
    rw [e1, e2, if_pos ho]
/-- Unsort -/
def unsF (b : List UInt8) : Option (List UInt8 × Nat × Nat) :=
  if b.length < 10 then none
  else if b.getD (b.length - 10) 0 = 0 ∧ b.getD (b.length - 10 + 1) 0 = 0 then
    match unesc (b.take (b.length - 10)) with
    | none => none
    | some k => ofF k (18446744073709551615 - beV (b.drop (b.length - 10 + 2)))
  else none
theorem cut_ten {b : List UInt8} (h : 10 ≤ b.length) : b = b.take (b.length - 10) ++ b.getD (b.length - 10) 0 :: b.getD (b.length - 10 + 1) 0 :: b.drop (b.length - 10 + 2) := by
  have h1 : b.length - 10 < b.length := by omega
  have h2 : b.length - 10 + 1 < b.length := by omega
  have e1 : b.getD (b.length - 10) 0 = b[b.length - 10] := by simp [List.getD_eq_getElem?_getD, h1]
  have e2 : b.getD (b.length - 10 + 1) 0 = b[b.length - 10 + 1] := by simp [List.getD_eq_getElem?_getD, h2]
  rw [e1, e2]
  conv => lhs; rw [← List.take_append_drop (b.length - 10) b, List.drop_eq_getElem_cons h1, List.drop_eq_getElem_cons h2]
theorem unsF_iff {b k : List UInt8} {s d : Nat} : unsF b = some (k, s, d) ↔ okV k s d = true ∧ b = sortF k s d := by
  constructor
  · intro h
    unfold unsF at h
    split at h
    · cases h
    · rename_i h10
      split at h
      · rename_i hz
        cases hu : unesc (b.take (b.length - 10)) with
        | none => rw [hu] at h; cases h
        | some k' =>
          rw [hu] at h
          obtain ⟨rfl, ho, hn, hd⟩ := ofF_iff.1 h
          refine ⟨ho, ?_⟩
          have hb := cut_ten (b := b) (by omega)
          rw [hz.1, hz.2] at hb
          have ht : (b.drop (b.length - 10 + 2)).length = 8 := by rw [List.length_drop]; omega
          rw [hb]
          unfold sortF
          rw [esc_unesc hu, ← hn, ← tailF_inj ht]
      · cases h
  · rintro ⟨ho, rfl⟩
    obtain ⟨hs, hd, hT⟩ := okV_trail ho
    have hl := sortF_len k s d
    have e0 : (sortF k s d).length - 10 = (escF k).length := by omega
    unfold unsF
    rw [if_neg (by omega), e0]
    have e1 : (sortF k s d).getD (escF k).length 0 = 0 := by unfold sortF; simp [List.getD_eq_getElem?_getD]
    have e2 : (sortF k s d).getD ((escF k).length + 1) 0 = 0 := by unfold sortF; simp [List.getD_eq_getElem?_getD]
    have e3 : (sortF k s d).take (escF k).length = escF k := by unfold sortF; rw [List.take_left]
    have e4 : (sortF k s d).drop ((escF k).length + 2) = tailF (trailF s d) := by unfold sortF; rw [← List.drop_drop, List.drop_left]; rfl
    rw [if_pos ⟨e1, e2⟩, e3, unesc_esc, e4, tailF_be hT]
    simp only
    rw [ofF_iff]
    exact ⟨rfl, ho, by omega, hd⟩
/-- the reference's scan of a key: the key, and how many bytes it has -/
def scanL : List UInt8 → List UInt8 × Nat
  | x :: y :: r => if x = 0 then (if y = 255 then ((0 :: (scanL r).1), (scanL r).2 + 2) else ([], 0)) else (x :: (scanL (y :: r)).1, (scanL (y :: r)).2 + 1)
  | _ => ([], 0)
theorem scanL_le : ∀ l : List UInt8, (scanL l).2 ≤ l.length
  | [] => Nat.le_refl _
  | [_] => Nat.zero_le _
  | x :: y :: r => by
    have h1 := scanL_le r
    have h2 := scanL_le (y :: r)
    rw [scanL]
    split
    · split
      · simp; omega
      · exact Nat.zero_le _
    · simp at h2 ⊢; omega
theorem scanL_esc (t : List UInt8) : ∀ k : List UInt8, scanL (escF k ++ 0 :: 0 :: t) = (k, (escF k).length)
  | [] => by simp [escF, scanL]
  | x :: r => by
    have ih := scanL_esc t r
    by_cases h : x = 0
    · subst h
      rw [escF_zero, List.cons_append, List.cons_append, scanL, if_pos rfl, if_pos rfl, ih]
      rfl
    · rw [escF_other h, List.cons_append]
      obtain ⟨y, q, hq⟩ : ∃ y q, escF r ++ 0 :: 0 :: t = y :: q := by
        cases escF r with
        | nil => exact ⟨_, _, rfl⟩
        | cons y q => exact ⟨_, _, rfl⟩
      rw [hq] at ih ⊢
      rw [scanL, if_neg h, ih]
      rfl
/-- DocUnsort -/
def docSeq (m : List UInt8) : Nat := beV ((m.take 7).map inv8)
def docUnsF (b : List UInt8) : Option (List UInt8 × Nat × Nat) :=
  if b.length = (scanL b).2 + 2 + 8 then
    (if okV (scanL b).1 ((docSeq (b.drop ((scanL b).2 + 2)) : Nat) : Int) ((255 - (b.getD ((scanL b).2 + 2 + 7) 0).toNat : Nat) : Int) = true ∧ sortF (scanL b).1 (docSeq (b.drop ((scanL b).2 + 2))) (255 - (b.getD ((scanL b).2 + 2 + 7) 0).toNat) = b
      then some ((scanL b).1, docSeq (b.drop ((scanL b).2 + 2)), 255 - (b.getD ((scanL b).2 + 2 + 7) 0).toNat) else none)
  else none
theorem docUnsF_sort {k : List UInt8} {s d : Nat} (ho : okV k s d = true) : docUnsF (sortF k s d) = some (k, s, d) := by
  obtain ⟨hs, hd, hT⟩ := okV_trail ho
  have hsc : scanL (sortF k s d) = (k, (escF k).length) := scanL_esc _ k
  have hl := sortF_len k s d
  have e4 : (sortF k s d).drop ((escF k).length + 2) = tailF (trailF s d) := by unfold sortF; rw [← List.drop_drop, List.drop_left]; rfl
  have e5 : docSeq (tailF (trailF s d)) = s := by
    unfold docSeq
    rw [tailF_parts s d hd, List.take_left' (by rw [List.length_map, topF_len]), List.map_map]
    have : (inv8 ∘ inv8) = id := by funext x; exact inv8_inv x
    have h7 : (256 : Nat) ^ 7 = 72057594037927936 := by decide
    rw [this, List.map_id, topF_all, beV_rev, le_bytesN' _ _ (by omega)]
  have e6 : (sortF k s d).getD ((escF k).length + 2 + 7) 0 = inv8 (UInt8.ofNat d) := by
    rw [List.getD_eq_getElem?_getD]
    have : (sortF k s d)[(escF k).length + 2 + 7]? = (tailF (trailF s d))[7]? := by rw [← e4, List.getElem?_drop]
    rw [this, tailF_parts s d hd, List.getElem?_append_right (by rw [List.length_map, topF_len]; decide), List.length_map, topF_len]
    rfl
  have e7 : 255 - (inv8 (UInt8.ofNat d)).toNat = d := by rw [inv8_nat, UInt8.toNat_ofNat']; omega
  unfold docUnsF
  rw [hsc]
  simp only
  rw [if_pos (by omega), e4, e5, e6, e7, if_pos ⟨ho, rfl⟩]
theorem docUnsF_eq (b : List UInt8) : docUnsF b = unsF b := by
  cases h : docUnsF b with
  | some v =>
    obtain ⟨k, s, d⟩ := v
    have h' := h
    unfold docUnsF at h
    split at h
    · split at h
      · rename_i hh
        simp only [Option.some.injEq, Prod.mk.injEq] at h
        obtain ⟨rfl, rfl, rfl⟩ := h
        exact (unsF_iff.2 ⟨hh.1, hh.2.symm⟩).symm
      · cases h
    · cases h
  | none =>
    cases h2 : unsF b with
    | none => rfl
    | some v =>
      obtain ⟨k, s, d⟩ := v
      obtain ⟨ho, rfl⟩ := unsF_iff.1 h2
      rw [docUnsF_sort ho] at h
      cases h
/-- the order of versions -/
def lessF (k : List UInt8) (s d : Int) (k' : List UInt8) (s' d' : Int) : Bool :=
  if k ≠ k' then bytesLess k k' else if s ≠ s' then decide (s' < s) else decide (d' < d)
theorem esc_less (t t' : List UInt8) : ∀ {k k' : List UInt8}, k ≠ k' → bytesLess (escF k ++ 0 :: 0 :: t) (escF k' ++ 0 :: 0 :: t') = bytesLess k k'
  | [], [], h => absurd rfl h
  | [], y :: r, _ => by
    have e : bytesLess [] (y :: r) = true := rfl
    rw [e]
    by_cases hy : y = 0
    · subst hy
      rw [escF_zero]
      show bytesLess (0 :: 0 :: t) (0 :: 255 :: (escF r ++ 0 :: 0 :: t')) = true
      rw [bl_cons]; refine .inr ⟨rfl, ?_⟩
      rw [bl_cons]; exact .inl (by decide)
    · rw [escF_other hy]
      show bytesLess (0 :: 0 :: t) (y :: (escF r ++ 0 :: 0 :: t')) = true
      rw [bl_cons]; refine .inl ?_
      have : y.toNat ≠ 0 := fun e => hy (UInt8.toNat_inj.1 e)
      show 0 < y.toNat
      omega
  | x :: r, [], _ => by
    have e : bytesLess (x :: r) [] = false := rfl
    rw [e]
    cases hc : bytesLess (escF (x :: r) ++ 0 :: 0 :: t) (escF [] ++ 0 :: 0 :: t') with
    | false => rfl
    | true =>
      exfalso
      by_cases hx : x = 0
      · subst hx
        rw [escF_zero] at hc
        have hc : bytesLess (0 :: 255 :: (escF r ++ 0 :: 0 :: t)) (0 :: 0 :: t') = true := hc
        rw [bl_cons] at hc
        rcases hc with hc | ⟨_, hc⟩
        · exact absurd hc (by decide)
        · rw [bl_cons] at hc
          rcases hc with hc | ⟨hc, _⟩
          · exact absurd hc (by decide)
          · exact absurd hc (by decide)
      · rw [escF_other hx] at hc
        have hc : bytesLess (x :: (escF r ++ 0 :: 0 :: t)) (0 :: 0 :: t') = true := hc
        rw [bl_cons] at hc
        rcases hc with hc | ⟨hc, _⟩
        · exact absurd hc (Nat.not_lt_zero _)
        · exact hx hc
  | x :: r, y :: r', h => by
    by_cases hxy : x = y
    · subst hxy
      have hr : r ≠ r' := fun e => h (by rw [e])
      have ih := esc_less t t' hr
      have e : bytesLess (x :: r) (x :: r') = bytesLess r r' := bl_append [x] r r'
      rw [e, ← ih]
      by_cases hx : x = 0
      · subst hx
        rw [escF_zero, escF_zero]
        exact bl_append [0, 255] _ _
      · rw [escF_other hx, escF_other hx]
        exact bl_append [x] _ _
    · have key : ∀ (p q : List UInt8), bytesLess (x :: p) (y :: q) = decide (x.toNat < y.toNat) := fun p q => by
        rw [Bool.eq_iff_iff, bl_cons, decide_eq_true_eq]
        exact ⟨fun hh => hh.elim id (fun hh => absurd hh.1 hxy), .inl⟩
      have hh : ∀ (z : UInt8) (p : List UInt8), ∃ q, escF (z :: p) = z :: q := fun z p => by
        by_cases hz : z = 0
        · subst hz; exact ⟨_, escF_zero p⟩
        · exact ⟨_, escF_other hz p⟩
      obtain ⟨q1, e1⟩ := hh x r
      obtain ⟨q2, e2⟩ := hh y r'
      rw [e1, e2, List.cons_append, List.cons_append, key, key]
theorem sort_less {k k' : List UInt8} {s d s' d' : Nat} (h : okV k s d = true) (h' : okV k' s' d' = true) : bytesLess (sortF k s d) (sortF k' s' d') = lessF k s d k' s' d' := by
  obtain ⟨a1, a2, a3⟩ := okV_trail h
  obtain ⟨b1, b2, b3⟩ := okV_trail h'
  unfold sortF lessF
  by_cases hk : k = k'
  · subst hk
    rw [if_neg (by simp)]
    rw [bl_append]
    have e0 : bytesLess (0 :: 0 :: tailF (trailF s d)) (0 :: 0 :: tailF (trailF s' d')) = bytesLess (tailF (trailF s d)) (tailF (trailF s' d')) := bl_append [0, 0] _ _
    rw [e0, Bool.eq_iff_iff, bl_be (by rw [tailF_len, tailF_len]), tailF_be a3, tailF_be b3]
    by_cases hs : s = s'
    · subst hs
      rw [if_neg (by simp), decide_eq_true_eq]
      unfold trailF; omega
    · rw [if_pos (by omega), decide_eq_true_eq]
      unfold trailF at *; omega
  · rw [if_pos hk, esc_less _ _ hk]
theorem sort_inj {k k' : List UInt8} {s d s' d' : Nat} (h : okV k s d = true) (h' : okV k' s' d' = true) (e : sortF k s d = sortF k' s' d') : k = k' ∧ s = s' ∧ d = d' := by
  have h1 := unsF_iff.2 ⟨h, rfl⟩
  have h2 := unsF_iff.2 ⟨h', rfl⟩
  rw [e, h2] at h1
  simp only [Option.some.injEq, Prod.mk.injEq] at h1
  exact ⟨h1.1.symm, h1.2.1.symm, h1.2.2.symm⟩
theorem decF_iff {b k : List UInt8} {s d : Nat} : decF b = some (k, s, d) ↔ okV k s d = true ∧ b = encF k s d := by
  unfold decF
  constructor
  · intro h
    split at h
    · cases h
    · rename_i h8
      obtain ⟨rfl, ho, hn, hd⟩ := ofF_iff.1 h
      refine ⟨ho, ?_⟩
      have hl : (b.drop (b.length - 8)).length = 8 := by rw [List.length_drop]; omega
      have := bytesN_le' (b.drop (b.length - 8))
      rw [hl, hn] at this
      unfold encF
      rw [this, List.take_append_drop]
  · rintro ⟨ho, rfl⟩
    obtain ⟨hs, hd, hT⟩ := okV_trail ho
    have hl := enc_len k s d
    rw [if_neg (by omega), show (encF k s d).length - 8 = k.length by omega]
    have e1 : (encF k s d).take k.length = k := by unfold encF; rw [List.take_left]
    have e2 : (encF k s d).drop k.length = bytesN 8 (trailF s d) := by unfold encF; rw [List.drop_left]
    rw [e1, e2, le_bytesN' _ _ (by have : (256 : Nat) ^ 8 = 18446744073709551616 := by decide
                                   omega), ofF_iff]
    exact ⟨rfl, ho, rfl, hd⟩
theorem less_irr (k : List UInt8) (s d : Int) : lessF k s d k s d = false := by simp [lessF]
theorem less_tri {k k' : List UInt8} {s d s' d' : Int} (h : ¬ (k = k' ∧ s = s' ∧ d = d')) : lessF k s d k' s' d' = !(lessF k' s' d' k s d) := by
  unfold lessF
  by_cases hk : k = k'
  · subst hk
    rw [if_neg (show ¬ k ≠ k from fun h => h rfl), if_neg (show ¬ k ≠ k from fun h => h rfl)]
    by_cases hs : s = s'
    · subst hs
      rw [if_neg (show ¬ s ≠ s from fun h => h rfl), if_neg (show ¬ s ≠ s from fun h => h rfl)]
      have : d ≠ d' := fun e => h ⟨rfl, rfl, e⟩
      rw [← decide_not]; congr 1; apply propext; omega
    · rw [if_pos hs, if_pos (Ne.symm hs), ← decide_not]; congr 1; apply propext; omega
  · rw [if_pos hk, if_pos (Ne.symm hk)]
    cases h1 : bytesLess k k' with
    | true => rw [bl_asymm h1]; rfl
    | false =>
      cases h2 : bytesLess k' k with
      | true => rfl
      | false => exact absurd (bl_total h1 h2) hk
end Go.Proofs.Ytnafhjgfkofkbaa
namespace Go.Proofs.Ytnafhjgfkofkbaa
set_option linter.unusedVariables false
set_option linter.unusedSimpArgs false
open Go.RowKit Ikey Varint
open Go.Op (bytesLess)
theorem cmp_spec : ∀ a b : List UInt8, Lib.compareBytes a b = if a = b then 0 else if bytesLess a b = true then -1 else 1
  | [], [] => rfl
  | [], _ :: _ => by simp [Lib.compareBytes, bytesLess]
  | _ :: _, [] => by simp [Lib.compareBytes, bytesLess]
  | x :: a, y :: b => by
    have ih := cmp_spec a b
    unfold Lib.compareBytes
    by_cases h1 : x < y
    · have h2 : x ≠ y := fun e => by subst e; exact UInt8.lt_irrefl _ h1
      have h3 : bytesLess (x :: a) (y :: b) = true := (bl_cons x y a b).2 (.inl (UInt8.lt_iff_toNat_lt.1 h1))
      rw [if_pos h1, if_neg (fun e => h2 (List.cons.inj e).1), if_pos h3]
    · by_cases h2 : y < x
      · have h4 : x ≠ y := fun e => by subst e; exact UInt8.lt_irrefl _ h2
        have h3 : ¬ bytesLess (x :: a) (y :: b) = true := fun h => by
          rcases (bl_cons x y a b).1 h with h5 | ⟨h5, _⟩
          · exact h1 (UInt8.lt_iff_toNat_lt.2 h5)
          · exact h4 h5
        rw [if_neg h1, if_pos h2, if_neg (fun e => h4 (List.cons.inj e).1), if_neg h3]
      · have h4 : x = y := UInt8.le_antisymm (UInt8.not_lt.1 h2) (UInt8.not_lt.1 h1)
        subst h4
        have h3 : bytesLess (x :: a) (x :: b) = bytesLess a b := bl_append [x] a b
        rw [if_neg h1, if_neg h2, ih, h3]
        by_cases e : a = b
        · rw [if_pos e, if_pos (by rw [e])]
        · rw [if_neg e, if_neg (fun h => e (List.cons.inj h).2)]
set_option maxRecDepth 100000 in
theorem CompareString_any (a b : List UInt8) (w : World) :
    Calls Try.prog 78 #[.string (str a), .string (str b)] w fun e w' => e = .returned (.int .i64 (Lib.compareBytes a b)) ∧ w = w' := by
  have h := Lib.run_compareString (P := Try.prog) (str a) (str b) w
  rw [str_list, str_list] at h
  go_enter Try.func78, Try.ntmps78
  go_wp2
  rw [run_callFunc_extern Try.func79 (by kernel_rfl) (by kernel_rfl) (by kernel_rfl) (e := Extern.BytealgCompare.compare) (by kernel_rfl), h]
  simp only [Result.andThen]
  rw [Oper.upon_value]
  go_wp2
  go_ret
  exact ⟨rfl, rfl⟩
theorem Compare_any (a b : List UInt8) (w : World) :
    Calls Try.prog 73 #[.string (str a), .string (str b)] w fun e w' => e = .returned (.int .i64 (Lib.compareBytes a b)) ∧ w = w' := by
  go_enter Try.func73, Try.ntmps73
  go_wp2_with (go_at_call 78; refine (CompareString_any a b _).mono ?_; rintro e w' ⟨rfl, rfl⟩)
  go_ret
  exact ⟨rfl, rfl⟩
set_option maxRecDepth 100000 in
set_option maxHeartbeats 1000000 in
theorem Less_any (k k' : List UInt8) (s d s' d' : Int) (w : World) :
    Calls Try.prog 63 #[ver k s d, ver k' s' d'] w fun e w' => e = .returned (.bool (lessF k s d k' s' d')) ∧ Gr w w' := by
  have HC := Lib.hid (fun w => Compare_any k k' w)
  have hg : Gr w ((w.alloc (.cells #[.string (str k), .int .i64 s, .int .i64 d] 33)).alloc (.cells #[.string (str k'), .int .i64 s', .int .i64 d'] 33)) := (Gr.alloc _ _).trans (Gr.alloc _ _)
  unfold ver
  by_cases hk : k = k'
  · rw [show Lib.compareBytes k k' = 0 by rw [cmp_spec, if_pos hk]] at HC
    by_cases h1 : s' < s
    · have HL := Lib.hid (show lessF k s d k' s' d' = true by unfold lessF; rw [if_neg (by simp [hk]), if_pos (by omega)]; simpa using h1)
      clear hk
      go_enter Try.func63, Try.ntmps63
      go_wp2_with (go_at_call 73; refine (HC.out _).mono ?_; rintro e w' ⟨rfl, rfl⟩)
      go_ret
      exact ⟨by rw [HL.out]; rfl, hg⟩
    · have b1 : decide (s' < s) = false := by simpa using h1
      by_cases h2 : s = s'
      · subst h2
        by_cases h3 : d' < d
        · have HL := Lib.hid (show lessF k s d k' s d' = true by unfold lessF; rw [if_neg (by simp [hk]), if_neg (by simp)]; simpa using h3)
          clear hk
          go_enter Try.func63, Try.ntmps63
          go_wp2_with (go_at_call 73; refine (HC.out _).mono ?_; rintro e w' ⟨rfl, rfl⟩)
          go_ret
          exact ⟨by rw [HL.out]; rfl, hg⟩
        · have b3 : decide (d' < d) = false := by simpa using h3
          have HL := Lib.hid (show lessF k s d k' s d' = false by unfold lessF; rw [if_neg (by simp [hk]), if_neg (by simp)]; exact b3)
          clear hk
          go_enter Try.func63, Try.ntmps63
          go_wp2_with (go_at_call 73; refine (HC.out _).mono ?_; rintro e w' ⟨rfl, rfl⟩)
          go_ret
          exact ⟨by rw [HL.out]; rfl, hg⟩
      · have b2 : (s == s') = false := by rw [beq_eq_false_iff_ne]; exact h2
        have HL := Lib.hid (show lessF k s d k' s' d' = false by unfold lessF; rw [if_neg (by simp [hk]), if_pos h2]; exact b1)
        clear hk h2
        go_enter Try.func63, Try.ntmps63
        go_wp2_with (go_at_call 73; refine (HC.out _).mono ?_; rintro e w' ⟨rfl, rfl⟩)
        go_ret
        exact ⟨by rw [HL.out]; rfl, hg⟩
  · cases hb : bytesLess k k' with
    | true =>
      rw [show Lib.compareBytes k k' = -1 by rw [cmp_spec, if_neg hk, if_pos hb]] at HC
      have HL := Lib.hid (show lessF k s d k' s' d' = true by unfold lessF; rw [if_pos hk]; exact hb)
      clear hk hb
      go_enter Try.func63, Try.ntmps63
      go_wp2_with (go_at_call 73; refine (HC.out _).mono ?_; rintro e w' ⟨rfl, rfl⟩)
      go_ret
      exact ⟨by rw [HL.out]; rfl, hg⟩
    | false =>
      rw [show Lib.compareBytes k k' = 1 by rw [cmp_spec, if_neg hk, if_neg (by rw [hb]; decide)]] at HC
      have HL := Lib.hid (show lessF k s d k' s' d' = false by unfold lessF; rw [if_pos hk]; exact hb)
      clear hk hb
      go_enter Try.func63, Try.ntmps63
      go_wp2_with (go_at_call 73; refine (HC.out _).mono ?_; rintro e w' ⟨rfl, rfl⟩)
      go_ret
      exact ⟨by rw [HL.out]; rfl, hg⟩
set_option maxRecDepth 100000 in
set_option maxHeartbeats 1000000 in
theorem rLess_any (k k' : List UInt8) (s d s' d' : Int) (w : World) :
    Calls Try.prog 52 #[ver k s d, ver k' s' d'] w fun e w' => e = .returned (.bool (lessF k s d k' s' d')) ∧ Gr w w' := by
  have hg : Gr w ((w.alloc (.cells #[.string (str k), .int .i64 s, .int .i64 d] 33)).alloc (.cells #[.string (str k'), .int .i64 s', .int .i64 d'] 33)) := (Gr.alloc _ _).trans (Gr.alloc _ _)
  unfold ver
  by_cases hk : k = k'
  · subst hk
    by_cases h2 : s = s'
    · subst h2
      have HL := Lib.hid (show lessF k s d k s d' = decide (d' < d) by unfold lessF; rw [if_neg (by simp), if_neg (by simp)])
      go_enter Try.func52, Try.ntmps52
      go_wp2
      go_ret
      exact ⟨by rw [HL.out]; rfl, hg⟩
    · have b2 : (s != s') = true := by rw [bne_iff_ne]; exact h2
      have HL := Lib.hid (show lessF k s d k s' d' = decide (s' < s) by unfold lessF; rw [if_neg (by simp), if_pos h2])
      clear h2
      go_enter Try.func52, Try.ntmps52
      go_wp2
      go_ret
      exact ⟨by rw [HL.out]; rfl, hg⟩
  · have HL := Lib.hid (show lessF k s d k' s' d' = bytesLess k k' by unfold lessF; rw [if_pos hk])
    have b1 : (k == k') = false := by rw [beq_eq_false_iff_ne]; exact hk
    have b2 : (k != k') = true := by rw [bne_iff_ne]; exact hk
    clear hk
    go_enter Try.func52, Try.ntmps52
    go_wp2
    go_ret
    exact ⟨by rw [HL.out]; rfl, hg⟩
end Go.Proofs.Ytnafhjgfkofkbaa
