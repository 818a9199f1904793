/- The order of texts, as the model has it. No program is in sight here. -/
import Derived.Test.YtnjnehegfdimaaaDoorStr
namespace Go.Proofs.YtnjnehegfdimaaaDoor
set_option linter.unusedVariables false
set_option linter.unusedSimpArgs false
open Go.Op (bytesLess)
theorem bl_nil (y : List UInt8) : bytesLess y [] = false := by cases y <;> rfl
theorem bl_cons (a b : UInt8) (x y : List UInt8) : bytesLess (a :: x) (b :: y) = true ↔ a.toNat < b.toNat ∨ (a = b ∧ bytesLess x y = true) := by
  simp [bytesLess, UInt8.lt_iff_toNat_lt]
theorem bl_irr (x : List UInt8) : bytesLess x x = false := by
  induction x with
  | nil => rfl
  | cons a x ih => rw [Bool.eq_false_iff]; intro h; rw [bl_cons] at h; simp [ih] at h
theorem bl_asymm : ∀ {x y : List UInt8}, bytesLess x y = true → bytesLess y x = false
  | [], [], h => by simp [bytesLess] at h
  | [], _ :: _, _ => rfl
  | _ :: _, [], h => by simp [bytesLess] at h
  | a :: x, b :: y, h => by
    rw [Bool.eq_false_iff]
    intro h2
    rw [bl_cons] at h h2
    rcases h with h | ⟨e, h⟩
    · rcases h2 with h2 | ⟨e2, _⟩
      · omega
      · subst e2; omega
    · subst e
      rcases h2 with h2 | ⟨_, h2⟩
      · omega
      · rw [bl_asymm h] at h2; cases h2
theorem bl_total : ∀ {x y : List UInt8}, bytesLess x y = false → bytesLess y x = false → x = y
  | [], [], _, _ => rfl
  | [], _ :: _, h, _ => by simp [bytesLess] at h
  | _ :: _, [], _, h => by simp [bytesLess] at h
  | a :: x, b :: y, h, h2 => by
    have k1 : ¬ (a.toNat < b.toNat ∨ (a = b ∧ bytesLess x y = true)) := fun k => by rw [(bl_cons a b x y).2 k] at h; cases h
    have k2 : ¬ (b.toNat < a.toNat ∨ (b = a ∧ bytesLess y x = true)) := fun k => by rw [(bl_cons b a y x).2 k] at h2; cases h2
    have e : a = b := UInt8.toNat_inj.1 (by omega)
    subst e
    simp only [true_and, Nat.lt_irrefl, false_or, Bool.not_eq_true] at k1 k2
    rw [bl_total k1 k2]
/-- o is not below s, s ≤ o: then what is above o is above s -/
theorem bl_le_lt : ∀ {s o b : List UInt8}, bytesLess o s = false → bytesLess o b = true → bytesLess s b = true
  | [], [], b, _, h2 => h2
  | [], _ :: _, [], _, h2 => by simp [bytesLess] at h2
  | [], _ :: _, _ :: _, _, _ => rfl
  | _ :: _, [], _, h, _ => by simp [bytesLess] at h
  | x :: s, y :: o, [], _, h2 => by simp [bytesLess] at h2
  | x :: s, y :: o, z :: b, h, h2 => by
    have k1 : ¬ (y.toNat < x.toNat ∨ (y = x ∧ bytesLess o s = true)) := fun k => by rw [(bl_cons y x o s).2 k] at h; cases h
    rw [bl_cons] at h2 ⊢
    rcases h2 with h2 | ⟨e, h2⟩
    · left; omega
    · subst e
      by_cases e2 : y = x
      · subst e2
        right
        simp only [true_and, Nat.lt_irrefl, false_or, Bool.not_eq_true] at k1
        exact ⟨rfl, bl_le_lt k1 h2⟩
      · left
        have : y.toNat ≠ x.toNat := fun k => e2 (UInt8.toNat_inj.1 k)
        omega
theorem bl_trans {x y z : List UInt8} (h : bytesLess x y = true) (h2 : bytesLess y z = true) : bytesLess x z = true :=
  bl_le_lt (bl_asymm h) h2
/-- x < y ≤ z -/
theorem bl_lt_le {x y z : List UInt8} (h : bytesLess x y = true) (h2 : bytesLess z y = false) : bytesLess x z = true := by
  cases hx : bytesLess x z with
  | true => rfl
  | false =>
    cases hz : bytesLess z x with
    | true => rw [bl_trans hz h] at h2; cases h2
    | false => rw [bl_total hx hz] at h; rw [h] at h2; cases h2
theorem bl_le_trans {x y z : List UInt8} (h : bytesLess y x = false) (h2 : bytesLess z y = false) : bytesLess z x = false := by
  cases hx : bytesLess z x with
  | false => rfl
  | true => rw [bl_lt_le hx h] at h2; cases h2
theorem bl_append : ∀ (p x y : List UInt8), bytesLess (p ++ x) (p ++ y) = bytesLess x y
  | [], _, _ => rfl
  | a :: p, x, y => by
    rw [Bool.eq_iff_iff, List.cons_append, List.cons_append, bl_cons, bl_append p x y]
    simp
theorem bl_prefix : ∀ (p x : List UInt8), x ≠ [] → bytesLess p (p ++ x) = true
  | [], x, h => by cases x with | nil => exact absurd rfl h | cons a x => rfl
  | a :: p, x, h => by rw [List.cons_append, bl_cons]; exact .inr ⟨rfl, bl_prefix p x h⟩
theorem bl_self_append (p x : List UInt8) : bytesLess (p ++ x) p = false := by
  cases x with
  | nil => rw [List.append_nil]; exact bl_irr p
  | cons a x => exact bl_asymm (bl_prefix p _ (by simp))
end Go.Proofs.YtnjnehegfdimaaaDoor
