/- Layer 1 (region): where the reference's Alloc begins, in plain words. No program is in sight here. -/
import Derived.Test.YtfnimpgphagnfaaRegionOk
import Derived.Test.YtfnimpgphagnfaaRegionBits
namespace Go.Proofs.Ytfnimpgphagnfaa
set_option linter.unusedVariables false
set_option linter.unusedSimpArgs false
open Go.RowKit
theorem upTo_mod {x a : Nat} (h : 1 ≤ a) : upTo x a % a = 0 := by
  unfold upTo
  exact Nat.mul_mod_left _ _
theorem upTo_least {x a y : Nat} (h : 1 ≤ a) (hx : x ≤ y) (hy : y < upTo x a) : y % a ≠ 0 := by
  intro h0
  obtain ⟨q, hq⟩ : ∃ q, y = q * a := ⟨y / a, by have := Nat.div_add_mod y a; rw [h0, Nat.add_zero, Nat.mul_comm] at this; exact this.symm⟩
  unfold upTo at hy
  rw [hq] at hy
  have h1 : q < (x + a - 1) / a := Nat.lt_of_mul_lt_mul_right hy
  have h2 : q + 1 ≤ (x + a - 1) / a := h1
  have h3 : (q + 1) * a ≤ x + a - 1 := by
    have := (Nat.le_div_iff_mul_le (by omega : 0 < a)).1 h2
    exact this
  rw [Nat.add_mul, Nat.one_mul] at h3
  omega
/-- the loop's end -/
theorem from_end {p : PoolF} (hp : PoolOk p) {i a : Nat} (hi : i < 256) (ha : 1 ≤ a) :
    ∃ T, (landAt p i).fill ≤ T ∧ (∀ y, (landAt p i).fill ≤ y → y < T → y % p.size % a ≠ 0) ∧ T % p.size % a = 0 ∧ T ≤ (landAt p i).slabs.length * p.size ∧
      ∀ n, 1 ≤ n → ((landAt p i).slabs = [] ∨ p.size < upTo (inF p i) a + n ↔ (landAt p i).slabs.length * p.size ≤ T ∨ p.size < T % p.size + n) ∧
        (¬ ((landAt p i).slabs.length * p.size ≤ T ∨ p.size < T % p.size + n) → T = ((landAt p i).slabs.length - 1) * p.size + upTo (inF p i) a) := by
  obtain ⟨hb, hf⟩ := inF_bounds hp hi
  have hz := hp.s1
  by_cases hs : (landAt p i).slabs = []
  · have hfl := (hp.ld i hi).fill_le
    rw [hs, List.length_nil, Nat.zero_mul] at hfl
    refine ⟨0, by omega, fun y h1 h2 => by omega, by simp, by omega, fun n hn => ⟨⟨fun _ => .inl (by rw [hs]; simp), fun _ => .inl hs⟩, fun h => absurd (.inl (by rw [hs]; simp)) h⟩⟩
  · obtain ⟨h1, h2⟩ := hf hs
    have hu := upTo_bounds (x := inF p i) ha
    have hlen : 1 ≤ (landAt p i).slabs.length := by
      cases h : (landAt p i).slabs with
      | nil => exact absurd h hs
      | cons x l => simp
    obtain ⟨m, hm⟩ : ∃ m, m = (landAt p i).slabs.length - 1 := ⟨_, rfl⟩
    have hlm : (landAt p i).slabs.length = m + 1 := by omega
    rw [← hm] at h1 ⊢
    rw [hlm]
    generalize (landAt p i).slabs = L at *
    generalize inF p i = f at *
    generalize hU : upTo f a = U at *
    generalize p.size = z at *
    rw [h1]
    have hmul : (m + 1) * z = m * z + z := by rw [Nat.add_mul, Nat.one_mul]
    have hmod : ∀ x, x < z → (m * z + x) % z = x := fun x hx => by rw [Nat.mul_comm, Nat.mul_add_mod, Nat.mod_eq_of_lt hx]
    have hmz : (m * z + z) % z = 0 := by rw [← hmul]; exact Nat.mul_mod_left _ _
    refine ⟨m * z + min U z, by omega, fun y g1 g2 => ?_, ?_, by omega, fun n hn => ⟨?_, fun h => ?_⟩⟩
    · obtain ⟨x, rfl⟩ : ∃ x, y = m * z + x := ⟨y - m * z, by omega⟩
      rw [hmod x (by omega)]
      exact upTo_least ha (x := f) (by omega) (by rw [hU]; omega)
    · by_cases hc : U < z
      · rw [Nat.min_eq_left (by omega), hmod U hc, ← hU]
        exact upTo_mod ha
      · rw [Nat.min_eq_right (by omega), hmz]
        exact Nat.zero_mod _
    · by_cases hc : U < z
      · rw [Nat.min_eq_left (by omega), hmod U hc]
        constructor
        · rintro (h | h)
          · exact absurd h hs
          · exact .inr h
        · rintro (h | h)
          · omega
          · exact .inr h
      · rw [Nat.min_eq_right (by omega), hmul]
        exact ⟨fun _ => .inl (by omega), fun _ => .inr (by omega)⟩
    · by_cases hc : U < z
      · rw [Nat.min_eq_left (by omega)]
      · exact absurd (.inl (by rw [hmul]; omega)) h
end Go.Proofs.Ytfnimpgphagnfaa
