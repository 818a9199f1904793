/- The plain law of layer 6 (bloom): how many bits a filter has. No program is in sight here. -/
import Derived.Test.YtpkbifaeofcckaaBloomBits
namespace Go.Proofs.Ytpkbifaeofcckaa.Bloom
set_option linter.unusedVariables false
set_option linter.unusedSimpArgs false
def popR (x : Nat) : Nat → Nat
  | 0 => 0
  | m + 1 => popR x m + (x.testBit m).toNat
def pop (x : UInt8) : Nat := popR x.toNat 8
theorem pop_fin : ∀ x : Fin 256, x.val ≠ 0 → popR (x.val &&& (x.val - 1)) 8 + 1 = popR x.val 8 ∧ x.val &&& (x.val - 1) < x.val := by decide +kernel
theorem sub_one {x : UInt8} (h : x.toNat ≠ 0) : (x - 1).toNat = x.toNat - 1 := by
  rw [UInt8.toNat_sub]
  have h1 := x.toNat_lt
  have : (1 : UInt8).toNat = 1 := rfl
  omega
theorem pop_step {x : UInt8} (h : x.toNat ≠ 0) : pop (x &&& (x - 1)) + 1 = pop x ∧ (x &&& (x - 1)).toNat < x.toNat := by
  unfold pop
  rw [UInt8.toNat_and, sub_one h]
  exact pop_fin ⟨x.toNat, x.toNat_lt⟩ h
theorem pop_zero {x : UInt8} (h : x.toNat = 0) : pop x = 0 := by unfold pop; rw [h]; decide
def cntB (on : Nat → Bool) : Nat → Nat
  | 0 => 0
  | m + 1 => cntB on m + (on m).toNat
theorem pop_byte (on : Nat → Bool) (q : Nat) : ∀ m, m ≤ 8 → cntB on (8 * q) + popR (byteN on q 8) m = cntB on (8 * q + m)
  | 0, _ => rfl
  | m + 1, h => by
    have ih := pop_byte on q m (by omega)
    rw [popR, byteN_bit, ← Nat.add_assoc, ← Nat.add_assoc, ih, cntB]
    have : m < 8 := by omega
    simp [this]
def popL (l : List UInt8) : Nat := (l.map pop).sum
theorem popL_snoc (l : List UInt8) (x : UInt8) : popL (l ++ [x]) = popL l + pop x := by simp [popL]
theorem popL_append (l m : List UInt8) : popL (l ++ m) = popL l + popL m := by simp [popL]
theorem row_snoc (on : Nat → Bool) (n : Nat) : rowF on (n + 1) = rowF on n ++ [byteF on n] := by simp [rowF, List.range_succ]
theorem popL_row (on : Nat → Bool) : ∀ n, popL (rowF on n) = cntB on (8 * n)
  | 0 => rfl
  | n + 1 => by
    rw [row_snoc, popL_snoc, popL_row on n]
    unfold pop
    rw [byteF_nat, pop_byte on n 8 (Nat.le_refl _)]
    rfl
theorem cnt_or (f g : Nat → Bool) : ∀ m, cntB (fun p => f p || g p) m ≤ cntB f m + cntB g m
  | 0 => Nat.le_refl _
  | m + 1 => by
    have := cnt_or f g m
    simp only [cntB]
    cases f m <;> cases g m <;> simp <;> omega
theorem cnt_one (c : Nat) : ∀ m, cntB (fun p => p == c) m ≤ 1 ∧ (m ≤ c → cntB (fun p => p == c) m = 0)
  | 0 => ⟨Nat.zero_le _, fun _ => rfl⟩
  | m + 1 => by
    obtain ⟨h1, h2⟩ := cnt_one c m
    simp only [cntB]
    by_cases e : m = c
    · subst e
      rw [h2 (Nat.le_refl _)]
      exact ⟨by simp [Bool.toNat_le], fun h => absurd h (by omega)⟩
    · have : (m == c) = false := by rw [beq_eq_false_iff_ne]; exact e
      rw [this]
      exact ⟨by simpa using h1, fun h => by rw [h2 (by omega)]; rfl⟩
theorem cnt_congr {f g : Nat → Bool} (h : ∀ p, f p = g p) (m : Nat) : cntB f m = cntB g m := by
  rw [show f = g from funext h]
theorem cnt_none : ∀ m, cntB (fun _ => false) m = 0
  | 0 => rfl
  | m + 1 => by rw [cntB, cnt_none m]; rfl
theorem cnt_probes (h : BitVec 32) (b : Nat) (m : Nat) : ∀ k, cntB (probesF h b k) m ≤ k
  | 0 => by rw [cnt_congr (g := fun _ => false) (fun p => probesF_zero h b p), cnt_none]; exact Nat.le_refl _
  | k + 1 => by
    rw [cnt_congr (g := fun p => probesF h b k p || p == bitAt h b k) (fun p => probesF_succ h b k p)]
    have h1 := cnt_or (probesF h b k) (fun p => p == bitAt h b k) m
    have h2 := cnt_probes h b m k
    have h3 := (cnt_one (bitAt h b k) m).1
    omega
theorem cnt_keys (b k m : Nat) : ∀ keys : List (List UInt8), cntB (onF keys b k) m ≤ keys.length * k
  | [] => by rw [show onF [] b k = fun _ => false from rfl, cnt_none]; exact Nat.zero_le _
  | key :: keys => by
    rw [show onF (key :: keys) b k = fun p => probesF (hashF key) b k p || onF keys b k p from rfl]
    have h1 := cnt_or (probesF (hashF key) b k) (onF keys b k) m
    have h2 := cnt_probes (hashF key) b m k
    have h3 := cnt_keys b k m keys
    rw [List.length_cons, Nat.add_mul, Nat.one_mul]
    omega
theorem cnt_pos {on : Nat → Bool} {p : Nat} (hp : on p = true) : ∀ {m : Nat}, p < m → 1 ≤ cntB on m
  | 0, h => by omega
  | m + 1, h => by
    rw [cntB]
    by_cases e : p = m
    · subst e; rw [hp]; simp
    · have := cnt_pos hp (m := m) (by omega)
      omega
end Go.Proofs.Ytpkbifaeofcckaa.Bloom
