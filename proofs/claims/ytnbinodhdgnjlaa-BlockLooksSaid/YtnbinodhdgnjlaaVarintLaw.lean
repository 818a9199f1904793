/- The plain law of layer 3 (varint): numbers come back; beginnings end too soon; what is got is put as it was; greater numbers have no fewer bytes. No program is in sight here. -/
import Derived.Test.YtnbinodhdgnjlaaVarintMath
namespace Go.Proofs.Ytnbinodhdgnjlaa.Varint
set_option linter.unusedVariables false
set_option linter.unusedSimpArgs false

theorem ofNat_small {n : Nat} (h : n < 256) : (UInt8.ofNat n).toNat = n := by rw [UInt8.toNat_ofNat', Nat.mod_eq_of_lt h]
theorem get_put_from (r : List UInt8) : ∀ (k n : Nat) (pre : List UInt8), n < 2 * 128 ^ k → pre.length + k = 9 → (0 < pre.length → 0 < n) →
    getAt (pre ++ putN k n ++ r) (k + 1) pre.length = (val pre + 128 ^ pre.length * n, pre.length + (putN k n).length, 0) := by
  intro k
  induction k with
  | zero =>
    intro n pre hn hp h0
    have hn2 : n < 2 := by simpa using hn
    have hx : (UInt8.ofNat n).toNat = n := ofNat_small (by omega)
    have hl : pre.length < (pre ++ putN 0 n ++ r).length := by simp [putN]
    have hb : (pre ++ putN 0 n ++ r)[pre.length] = UInt8.ofNat n := by simp [putN]
    rw [getAt_end hl (by rw [hb, hx]; omega), hb, hx, endAt_good (by omega)]
    have ht : (pre ++ putN 0 n ++ r).take (pre.length + 1) = pre ++ [UInt8.ofNat n] := by rw [show pre.length + 1 = (pre ++ [UInt8.ofNat n]).length by simp]; exact List.take_left
    rw [ht, val_append]
    simp [putN, val, hx]
    rw [Nat.mod_eq_of_lt (by omega)]
  | succ k ih =>
    intro n pre hn hp h0
    by_cases hs : n < 128
    · have hx : (UInt8.ofNat n).toNat = n := ofNat_small (by omega)
      rw [putN_small hs]
      have hl : pre.length < (pre ++ [UInt8.ofNat n] ++ r).length := by simp
      have hb : (pre ++ [UInt8.ofNat n] ++ r)[pre.length] = UInt8.ofNat n := by simp
      rw [getAt_end hl (by rw [hb, hx]; exact hs), hb, hx, endAt_good (by omega)]
      have ht : (pre ++ [UInt8.ofNat n] ++ r).take (pre.length + 1) = pre ++ [UInt8.ofNat n] := by rw [show pre.length + 1 = (pre ++ [UInt8.ofNat n]).length by simp]; exact List.take_left
      rw [ht, val_append]
      simp [val, hx]
      rw [Nat.mod_eq_of_lt hs]
    · rw [putN_big hs]
      have hx : (UInt8.ofNat (n % 128 + 128)).toNat = n % 128 + 128 := ofNat_small (by omega)
      generalize hy : UInt8.ofNat (n % 128 + 128) = y at *
      have hl : pre.length < (pre ++ (y :: putN k (n / 128)) ++ r).length := by simp
      have hb : (pre ++ (y :: putN k (n / 128)) ++ r)[pre.length] = y := by simp
      rw [getAt_on hl (by rw [hb, hx]; omega)]
      have e : pre ++ (y :: putN k (n / 128)) ++ r = (pre ++ [y]) ++ putN k (n / 128) ++ r := by simp
      have hlen : (pre ++ [y]).length = pre.length + 1 := by simp
      rw [Nat.pow_succ] at hn
      have := ih (n / 128) (pre ++ [y]) (by omega) (by rw [hlen]; omega) (by omega)
      rw [hlen] at this
      rw [e, this, val_append]
      simp only [val, hx, List.length_cons, Prod.mk.injEq, and_true]
      refine ⟨?_, by omega⟩
      rw [Nat.pow_succ, Nat.mul_assoc, Nat.add_assoc, ← Nat.mul_add]
      congr 2
      omega
theorem get_put (n : Nat) (r : List UInt8) (h : n < 18446744073709551616) : getF (putF n ++ r) = (n, (putF n).length, 0) := by
  have := get_put_from r 9 n [] (by omega) rfl (by simp)
  simpa [val, getF, putF] using this
theorem put_inj {a b : Nat} (ha : a < 18446744073709551616) (hb : b < 18446744073709551616) (h : putF a = putF b) : a = b := by
  have h1 := get_put a [] ha
  have h2 := get_put b [] hb
  rw [h, h2] at h1
  exact (congrArg Prod.fst h1).symm
theorem put_more : ∀ (k n i : Nat) (h : i + 1 < (putN k n).length), 128 ≤ ((putN k n)[i]).toNat
  | 0, n, i, h => by simp [putN] at h
  | k + 1, n, i, h => by
    by_cases hs : n < 128
    · rw [putN_small hs] at h; simp at h
    · simp only [putN_big hs] at h ⊢
      cases i with
      | zero => simp only [List.getElem_cons_zero]; rw [ofNat_small (by omega)]; omega
      | succ i => simpa using put_more k (n / 128) i (by simpa using h)
theorem put_last : ∀ (k n i : Nat) (h : i + 1 = (putN k n).length), n < 2 * 128 ^ k → ((putN k n)[i]).toNat < 128
  | 0, n, i, h, hn => by
    have : i = 0 := by simp [putN] at h; exact h
    subst this
    simp only [putN, List.getElem_cons_zero]
    rw [ofNat_small (by simp at hn; omega)]; simp at hn; omega
  | k + 1, n, i, h, hn => by
    by_cases hs : n < 128
    · simp only [putN_small hs] at h ⊢
      have : i = 0 := by simp at h; exact h
      subst this
      simp only [List.getElem_cons_zero]
      rw [ofNat_small (by omega)]; exact hs
    · simp only [putN_big hs] at h ⊢
      cases i with
      | zero => have := (putN_len k (n / 128)).2; simp only [List.length_cons] at h; omega
      | succ i =>
        rw [Nat.pow_succ] at hn
        simpa using put_last k (n / 128) i (by simpa using h) (by omega)
theorem getAt_all (l : List UInt8) (h : ∀ i (hi : i < l.length), 128 ≤ (l[i]).toNat) : ∀ f k, getAt l f k = short l
  | 0, _ => rfl
  | f + 1, k => by
    by_cases hk : k < l.length
    · rw [getAt_on hk (by have := h k hk; omega)]; exact getAt_all l h f (k + 1)
    · exact getAt_none (by omega)
theorem get_begin (n k : Nat) (h : k < (putF n).length) : getF ((putF n).take k) = (0, 0, 9) := by
  have hl := (putN_len 9 n).1
  unfold getF
  rw [getAt_all _ (fun i hi => by
    rw [List.getElem_take]
    have : i < k := by simp at hi; omega
    exact put_more 9 n i (by unfold putF at h; omega)) 10 0]
  unfold short
  rw [if_pos (by simp; unfold putF at h; omega)]

/-- bytes that are some number's -/
def Good : List UInt8 → Prop
  | [] => False
  | [x] => x.toNat < 128
  | x :: y :: l => 128 ≤ x.toNat ∧ Good (y :: l) ∧ val (y :: l) ≠ 0
theorem put_val : ∀ (k : Nat) (l : List UInt8), Good l → l.length ≤ k + 1 → putN k (val l) = l
  | _, [], h, _ => h.elim
  | k, [x], h, _ => by
    have hx : x.toNat < 128 := h
    have : val [x] = x.toNat := by simp [val]; omega
    rw [this, putN_small hx]; simp
  | 0, x :: y :: l, _, hl => by simp at hl
  | k + 1, x :: y :: l, h, hl => by
    obtain ⟨h1, h2, h3⟩ := h
    have ih := put_val k (y :: l) h2 (by simp at hl ⊢; omega)
    have hx := x.toNat_lt
    have hv : val (x :: y :: l) = x.toNat % 128 + 128 * val (y :: l) := rfl
    generalize val (y :: l) = v at *
    rw [hv, putN_big (by omega)]
    have e1 : (x.toNat % 128 + 128 * v) / 128 = v := by omega
    have e2 : (x.toNat % 128 + 128 * v) % 128 + 128 = x.toNat := by omega
    rw [e1, e2, ih]; simp
theorem good_of (l : List UInt8) : ∀ (j : Nat), j < l.length → (∀ i (hi : i < l.length), i < j → 128 ≤ (l[i]).toNat) → (∀ hj : j < l.length, (l[j]).toNat < 128) → (0 < j → ∀ hj : j < l.length, (l[j]).toNat ≠ 0) → Good (l.take (j + 1)) ∧ ((∀ hj : j < l.length, (l[j]).toNat ≠ 0) → val (l.take (j + 1)) ≠ 0) := by
  induction l with
  | nil => intro j hj; simp at hj
  | cons x l ih =>
    intro j hj h1 h2 h3
    cases j with
    | zero =>
      have hx := h2 (by simp)
      simp at hx
      refine ⟨by simpa [Good] using hx, fun h => ?_⟩
      have := h (by simp)
      simp [val] at this ⊢
      omega
    | succ j =>
      have hj' : j < l.length := by simpa using hj
      have hx := h1 0 (by simp) (by omega)
      simp only [List.getElem_cons_zero] at hx
      have hi := ih j hj' (fun i hi hij => by have := h1 (i + 1) (by simpa using hi) (by omega); simpa only [List.getElem_cons_succ] using this) (fun hjj => by have := h2 (by simpa using hjj); simpa only [List.getElem_cons_succ] using this)
        (fun _ hjj => by have := h3 (by omega) (by simpa using hjj); simpa only [List.getElem_cons_succ] using this)
      have hnz := hi.2 (fun hjj => by have := h3 (by omega) (by simpa using hjj); simpa only [List.getElem_cons_succ] using this)
      cases l with
      | nil => simp at hj'
      | cons y l =>
        simp only [List.take_succ_cons] at hi hnz ⊢
        refine ⟨⟨hx, hi.1, hnz⟩, fun _ => ?_⟩
        simp only [val] at hnz ⊢
        omega
theorem get_good (l : List UInt8) : ∀ f k n m, k + f = 10 → (∀ i (hi : i < l.length), i < k → 128 ≤ (l[i]).toNat) → getAt l f k = (n, m, 0) → m ≤ l.length ∧ m ≤ 10 ∧ Good (l.take m) ∧ n = val (l.take m)
  | 0, k, n, m, _, _, h => by
    simp only [getAt, short] at h
    have := congrArg (fun p => p.2.2) h
    simp only at this
    split at this <;> cases this
  | f + 1, k, n, m, hf, hk, h => by
    by_cases hlt : k < l.length
    · by_cases hx : (l[k]).toNat < 128
      · rw [getAt_end hlt hx] at h
        by_cases hb : k = 9 ∧ 1 < (l[k]).toNat ∨ 0 < k ∧ (l[k]).toNat = 0
        · rw [endAt_bad hb] at h; cases h
        · rw [endAt_good hb] at h
          simp only [Prod.mk.injEq, and_true] at h
          obtain ⟨rfl, rfl⟩ := h
          exact ⟨by omega, by omega, (good_of l k hlt (fun i hi hik => hk i hi hik) (fun _ => hx) (fun h0 _ => by omega)).1, rfl⟩
      · rw [getAt_on hlt hx] at h
        exact get_good l f (k + 1) n m (by omega) (fun i hi hik => by
          by_cases hh : i = k
          · subst hh; omega
          · exact hk i hi (by omega)) h
    · rw [getAt_none (by omega)] at h
      have := congrArg (fun p => p.2.2) h
      simp only [short] at this
      split at this <;> cases this
theorem put_got {l : List UInt8} {n m : Nat} (h : getF l = (n, m, 0)) : m ≤ l.length ∧ putF n = l.take m := by
  obtain ⟨h1, h2, h3, rfl⟩ := get_good l 10 0 n m rfl (fun _ _ h => absurd h (by omega)) h
  exact ⟨h1, put_val 9 _ h3 (by simp; omega)⟩
theorem put_mono : ∀ (k a b : Nat), a ≤ b → (putN k a).length ≤ (putN k b).length
  | 0, _, _, _ => by simp [putN]
  | k + 1, a, b, h => by
    by_cases hb : b < 128
    · rw [putN_small hb, putN_small (show a < 128 by omega)]; simp
    · rw [putN_big hb]
      by_cases ha : a < 128
      · rw [putN_small ha]; simp
      · rw [putN_big ha]
        have := put_mono k (a / 128) (b / 128) (Nat.div_le_div_right h)
        simpa using this

theorem getAt_err (l : List UInt8) : ∀ f k, (getAt l f k).2.2 ≠ 0 → (getAt l f k).1 = 0 ∧ (getAt l f k).2.1 = 0
  | 0, k, _ => ⟨rfl, rfl⟩
  | f + 1, k, h => by
    by_cases hk : k < l.length
    · by_cases hx : l[k].toNat < 128
      · rw [getAt_end hk hx] at h ⊢
        by_cases hb : k = 9 ∧ 1 < l[k].toNat ∨ 0 < k ∧ l[k].toNat = 0
        · rw [endAt_bad hb]; exact ⟨rfl, rfl⟩
        · rw [endAt_good hb] at h; exact absurd rfl h
      · rw [getAt_on hk hx] at h ⊢; exact getAt_err l f (k + 1) h
    · rw [getAt_none (by omega)]; exact ⟨rfl, rfl⟩
theorem getF_err {l : List UInt8} {n k e : Nat} (h : getF l = (n, k, e)) (he : e ≠ 0) : n = 0 ∧ k = 0 := by
  have := getAt_err l 10 0
  unfold getF at h
  rw [h] at this
  exact this he

end Go.Proofs.Ytnbinodhdgnjlaa.Varint
