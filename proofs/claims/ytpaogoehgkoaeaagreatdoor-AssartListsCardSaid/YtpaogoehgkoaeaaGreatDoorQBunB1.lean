/- The plain law of layer 3 (varint): numbers come back; beginnings end too soon; what is got is put as it was; greater numbers have no fewer bytes. No program is in sight here. -/
import Derived.Test.YtpaogoehgkoaeaaGreatDoorQBunB0
import Derived.Shelf.Bytes.SlIndexAt
import Derived.Shelf.Bytes.SlCountOne
import Derived.Lib.Bytealg
import Derived.WalkLawsBesides
import Derived.Deep.DeepCutAuto
/- The plain law of layer 5 (ikey), the sortable bytes: their order is that of the versions. No walk here. -/
namespace Go.Proofs.YtpaogoehgkoaeaaGreatDoor
set_option linter.unusedVariables false
set_option linter.unusedSimpArgs false
open Go.RowKit Ikey Varint
open Go.Op (bytesLess)
def inv8 (x : UInt8) : UInt8 := 255 - x
theorem inv8_nat (x : UInt8) : (inv8 x).toNat = 255 - x.toNat := by
  have := x.toNat_lt
  unfold inv8
  rw [UInt8.toNat_sub_of_le _ _ (by rw [UInt8.le_iff_toNat_le]; show x.toNat ≤ 255; omega)]
  rfl
/-- the number of bytes, the highest first -/
def beV : List UInt8 → Nat
  | [] => 0
  | x :: r => x.toNat * 256 ^ r.length + beV r
theorem beV_append : ∀ a b : List UInt8, beV (a ++ b) = beV a * 256 ^ b.length + beV b
  | [], b => by simp [beV]
  | x :: a, b => by
    rw [List.cons_append, beV, beV, beV_append a b, List.length_append, Nat.pow_add, Nat.add_mul, Nat.mul_assoc, Nat.add_assoc]
theorem beV_snoc (l : List UInt8) (x : UInt8) : beV (l ++ [x]) = beV l * 256 + x.toNat := by rw [beV_append]; simp [beV]
theorem beV_lt : ∀ l : List UInt8, beV l < 256 ^ l.length
  | [] => by decide
  | x :: r => by
    have h := beV_lt r
    have hx := x.toNat_lt
    rw [beV, List.length_cons, Nat.pow_succ]
    have : x.toNat * 256 ^ r.length ≤ 255 * 256 ^ r.length := Nat.mul_le_mul_right _ (by omega)
    omega
theorem beV_rev : ∀ l : List UInt8, beV l.reverse = le l
  | [] => rfl
  | x :: r => by rw [List.reverse_cons, beV_snoc, beV_rev r, le]; omega
theorem bl_be : ∀ {a b : List UInt8}, a.length = b.length → (bytesLess a b = true ↔ beV a < beV b)
  | [], [], _ => by simp [beV, bytesLess]
  | x :: a, y :: b, h => by
    have hl : a.length = b.length := by simpa using h
    have ih := bl_be hl
    have h1 := beV_lt a
    have h2 := beV_lt b
    rw [bl_cons, beV, beV, ih, hl]
    rw [hl] at h1
    rcases Nat.lt_trichotomy x.toNat y.toNat with c | c | c
    · have : (x.toNat + 1) * 256 ^ b.length ≤ y.toNat * 256 ^ b.length := Nat.mul_le_mul_right _ c
      rw [Nat.add_mul, Nat.one_mul] at this
      exact ⟨fun _ => by omega, fun _ => .inl c⟩
    · have e : x = y := UInt8.toNat_inj.1 c
      subst e
      exact ⟨fun hh => by rcases hh with hh | hh <;> omega, fun hh => .inr ⟨rfl, by omega⟩⟩
    · have : (y.toNat + 1) * 256 ^ b.length ≤ x.toNat * 256 ^ b.length := Nat.mul_le_mul_right _ c
      rw [Nat.add_mul, Nat.one_mul] at this
      refine ⟨fun hh => ?_, fun hh => by omega⟩
      rcases hh with hh | ⟨e, _⟩
      · omega
      · subst e; omega
theorem le_bytesN' : ∀ (k n : Nat), n < 256 ^ k → le (bytesN k n) = n
  | 0, n, h => by simp at h; subst h; rfl
  | k + 1, n, h => by
    rw [Nat.pow_succ] at h
    rw [bytesN, le, le_bytesN' k (n / 256) (by omega), UInt8.toNat_ofNat']
    omega
theorem bytesN_le' : ∀ l : List UInt8, bytesN l.length (le l) = l
  | [] => rfl
  | x :: r => by
    have hx := x.toNat_lt
    have h1 : (x.toNat + 256 * le r) / 256 = le r := by omega
    have h2 : UInt8.ofNat (x.toNat + 256 * le r) = x := by
      apply UInt8.toNat_inj.1
      rw [UInt8.toNat_ofNat']; omega
    rw [List.length_cons, bytesN, le, h1, h2, bytesN_le' r]
theorem le_inj {a b : List UInt8} (h : a.length = b.length) (e : le a = le b) : a = b := by
  rw [← bytesN_le' a, ← bytesN_le' b, h, e]
theorem bytesN_inv : ∀ (k n : Nat), n < 256 ^ k → bytesN k (256 ^ k - 1 - n) = (bytesN k n).map inv8
  | 0, _, _ => rfl
  | k + 1, n, h => by
    rw [Nat.pow_succ] at h
    have hp : 0 < 256 ^ k := Nat.pow_pos (by decide)
    have e1 : (256 ^ (k + 1) - 1 - n) / 256 = 256 ^ k - 1 - n / 256 := by rw [Nat.pow_succ]; omega
    have e2 : UInt8.ofNat (256 ^ (k + 1) - 1 - n) = inv8 (UInt8.ofNat n) := by
      apply UInt8.toNat_inj.1
      rw [inv8_nat, UInt8.toNat_ofNat', UInt8.toNat_ofNat', Nat.pow_succ]; omega
    rw [bytesN, bytesN, List.map_cons, e1, e2, bytesN_inv k (n / 256) (by omega)]
theorem bytesN_get : ∀ (k n i : Nat), i < k → (bytesN k n)[i]? = some (UInt8.ofNat (n / 256 ^ i))
  | 0, _, _, h => by omega
  | k + 1, n, 0, _ => by rw [bytesN]; simp
  | k + 1, n, i + 1, h => by
    rw [bytesN, List.getElem?_cons_succ, bytesN_get k (n / 256) i (by omega), Nat.pow_succ, Nat.mul_comm, Nat.div_div_eq_div_mul]
/-- the first j of n bytes, the highest first -/
def topF (n N j : Nat) : List UInt8 := (List.range j).map fun t => UInt8.ofNat (N / 256 ^ (n - 1 - t))
theorem topF_step (n N j : Nat) : topF n N (j + 1) = topF n N j ++ [UInt8.ofNat (N / 256 ^ (n - 1 - j))] := by
  unfold topF; rw [List.range_succ, List.map_append]; rfl
theorem topF_len (n N j : Nat) : (topF n N j).length = j := by simp [topF]
theorem topF_all (n N : Nat) : topF n N n = (bytesN n N).reverse := by
  apply List.ext_getElem?
  intro i
  by_cases h : i < n
  · rw [List.getElem?_reverse (by rw [bytesN_len]; exact h), bytesN_len, bytesN_get _ _ _ (by omega)]
    unfold topF
    rw [List.getElem?_map, List.getElem?_range h]; rfl
  · rw [List.getElem?_eq_none (by rw [topF_len]; omega), List.getElem?_eq_none (by rw [List.length_reverse, bytesN_len]; omega)]
/-- the last eight bytes -/
def tailF (T : Nat) : List UInt8 := ((bytesN 8 T).map inv8).reverse
theorem tailF_len (T : Nat) : (tailF T).length = 8 := by simp [tailF, bytesN_len]
theorem tailF_top {T : Nat} (h : T < 18446744073709551616) : topF 8 (18446744073709551615 - T) 8 = tailF T := by
  rw [topF_all]
  have := bytesN_inv 8 T h
  rw [show (256 : Nat) ^ 8 - 1 - T = 18446744073709551615 - T from rfl] at this
  rw [this]; rfl
theorem tailF_be {T : Nat} (h : T < 18446744073709551616) : beV (tailF T) = 18446744073709551615 - T := by
  rw [← tailF_top h, topF_all, beV_rev, le_bytesN' _ _ (by have : (256 : Nat) ^ 8 = 18446744073709551616 := by decide
                                                           omega)]
theorem tailF_inj {t : List UInt8} (h : t.length = 8) : t = tailF (18446744073709551615 - beV t) := by
  have hb := beV_lt t
  rw [h] at hb
  have e : (256 : Nat) ^ 8 = 18446744073709551616 := by decide
  rw [e] at hb
  have h1 : beV (tailF (18446744073709551615 - beV t)) = beV t := by rw [tailF_be (by omega)]; omega
  have h2 : le t.reverse = le (tailF (18446744073709551615 - beV t)).reverse := by
    rw [← beV_rev, ← beV_rev, List.reverse_reverse, List.reverse_reverse, h1]
  have h3 := le_inj (by rw [List.length_reverse, List.length_reverse, h, tailF_len]) h2
  have := congrArg List.reverse h3
  rwa [List.reverse_reverse, List.reverse_reverse] at this
/-- a key, so that a nought is no end -/
def escF : List UInt8 → List UInt8
  | [] => []
  | x :: r => if x = 0 then 0 :: 255 :: escF r else x :: escF r
theorem escF_zero (r : List UInt8) : escF (0 :: r) = 0 :: 255 :: escF r := by rw [escF, if_pos rfl]
theorem escF_other {x : UInt8} (h : x ≠ 0) (r : List UInt8) : escF (x :: r) = x :: escF r := by rw [escF, if_neg h]
theorem escF_append : ∀ a b : List UInt8, escF (a ++ b) = escF a ++ escF b
  | [], _ => rfl
  | x :: a, b => by
    by_cases h : x = 0
    · subst h; rw [List.cons_append, escF_zero, escF_zero, escF_append a b]; rfl
    · rw [List.cons_append, escF_other h, escF_other h, escF_append a b]; rfl
theorem escF_len : ∀ k : List UInt8, (escF k).length ≤ 2 * k.length
  | [] => Nat.le_refl _
  | x :: r => by
    have := escF_len r
    rw [escF]; split <;> simp <;> omega
def sortF (k : List UInt8) (s d : Nat) : List UInt8 := escF k ++ 0 :: 0 :: tailF (trailF s d)
theorem sortF_len (k : List UInt8) (s d : Nat) : (sortF k s d).length = (escF k).length + 10 := by simp [sortF, tailF_len]
def unesc : List UInt8 → Option (List UInt8)
  | [] => some []
  | [x] => if x = 0 then none else some [x]
  | x :: y :: r => if x = 0 then (if y = 255 then (unesc r).map (0 :: ·) else none) else (unesc (y :: r)).map (x :: ·)
theorem unesc_cons {x : UInt8} (h : x ≠ 0) : ∀ r : List UInt8, unesc (x :: r) = (unesc r).map (x :: ·)
  | [] => by simp [unesc, h]
  | y :: r => by rw [unesc, if_neg h]
theorem unesc_zero (r : List UInt8) : unesc (0 :: 255 :: r) = (unesc r).map (0 :: ·) := by simp [unesc]
theorem unesc_esc : ∀ k : List UInt8, unesc (escF k) = some k
  | [] => rfl
  | x :: r => by
    by_cases h : x = 0
    · subst h; rw [escF_zero, unesc_zero, unesc_esc r]; rfl
    · rw [escF_other h, unesc_cons h, unesc_esc r]; rfl
theorem esc_unesc : ∀ {l k : List UInt8}, unesc l = some k → escF k = l
  | [], k, h => by simp [unesc] at h; subst h; rfl
  | [x], k, h => by
    by_cases hx : x = 0
    · simp [unesc, hx] at h
    · simp [unesc, hx] at h; subst h; rw [escF_other hx]; rfl
  | x :: y :: r, k, h => by
    by_cases hx : x = 0
    · by_cases hy : y = 255
      · simp only [unesc, hx, hy, if_true] at h
        cases hr : unesc r with
        | none => rw [hr] at h; simp at h
        | some k' =>
          rw [hr] at h
          simp at h
          subst h
          rw [escF_zero, esc_unesc hr, hx, hy]
      · simp [unesc, hx, hy] at h
    · rw [unesc_cons hx] at h
      cases hr : unesc (y :: r) with
      | none => rw [hr] at h; simp at h
      | some k' =>
        rw [hr] at h
        simp at h
        subst h
        rw [escF_other hx, esc_unesc hr]
theorem trailF_parts (s d : Nat) (hd : d < 256) : trailF s d / 256 = s ∧ trailF s d % 256 = d := by unfold trailF; omega
theorem okV_trail {k : List UInt8} {s d : Nat} (h : okV k s d = true) : s < 72057594037927936 ∧ d < 256 ∧ trailF s d < 18446744073709551616 := by
  obtain ⟨_, _, _, h1, h2⟩ := okV_of h
  have hs : s < 72057594037927936 := by omega
  have hd : d < 256 := by omega
  exact ⟨hs, hd, trailF_lt hs hd⟩
theorem ofF_iff {k k' : List UInt8} {n s d : Nat} : ofF k n = some (k', s, d) ↔ k' = k ∧ okV k s d = true ∧ n = trailF s d ∧ d < 256 := by
  unfold ofF
  constructor
  · intro h
    split at h
    · rename_i ho
      simp only [Option.some.injEq, Prod.mk.injEq] at h
      obtain ⟨rfl, rfl, rfl⟩ := h
      exact ⟨rfl, ho, by unfold trailF; omega, Nat.mod_lt _ (by decide)⟩
    · cases h
  · rintro ⟨rfl, ho, rfl, hd⟩
    obtain ⟨e1, e2⟩ := trailF_parts s d hd
    rw [e1, e2, if_pos ho]
/-- Unsort -/
def unsF (b : List UInt8) : Option (List UInt8 × Nat × Nat) :=
  if b.length < 10 then none
  else if b.getD (b.length - 10) 0 = 0 ∧ b.getD (b.length - 10 + 1) 0 = 0 then
    match unesc (b.take (b.length - 10)) with
    | none => none
    | some k => ofF k (18446744073709551615 - beV (b.drop (b.length - 10 + 2)))
  else none
theorem cut_ten {b : List UInt8} (h : 10 ≤ b.length) : b = b.take (b.length - 10) ++ b.getD (b.length - 10) 0 :: b.getD (b.length - 10 + 1) 0 :: b.drop (b.length - 10 + 2) := by
  have h1 : b.length - 10 < b.length := by omega
  have h2 : b.length - 10 + 1 < b.length := by omega
  have e1 : b.getD (b.length - 10) 0 = b[b.length - 10] := by simp [List.getD_eq_getElem?_getD, h1]
  have e2 : b.getD (b.length - 10 + 1) 0 = b[b.length - 10 + 1] := by simp [List.getD_eq_getElem?_getD, h2]
  rw [e1, e2]
  conv => lhs; rw [← List.take_append_drop (b.length - 10) b, List.drop_eq_getElem_cons h1, List.drop_eq_getElem_cons h2]
theorem unsF_iff {b k : List UInt8} {s d : Nat} : unsF b = some (k, s, d) ↔ okV k s d = true ∧ b = sortF k s d := by
  constructor
  · intro h
    unfold unsF at h
    split at h
    · cases h
    · rename_i h10
      split at h
      · rename_i hz
        cases hu : unesc (b.take (b.length - 10)) with
        | none => rw [hu] at h; cases h
        | some k' =>
          rw [hu] at h
          obtain ⟨rfl, ho, hn, hd⟩ := ofF_iff.1 h
          refine ⟨ho, ?_⟩
          have hb := cut_ten (b := b) (by omega)
          rw [hz.1, hz.2] at hb
          have ht : (b.drop (b.length - 10 + 2)).length = 8 := by rw [List.length_drop]; omega
          rw [hb]
          unfold sortF
          rw [esc_unesc hu, ← hn, ← tailF_inj ht]
      · cases h
  · rintro ⟨ho, rfl⟩
    obtain ⟨hs, hd, hT⟩ := okV_trail ho
    have hl := sortF_len k s d
    have e0 : (sortF k s d).length - 10 = (escF k).length := by omega
    unfold unsF
    rw [if_neg (by omega), e0]
    have e1 : (sortF k s d).getD (escF k).length 0 = 0 := by unfold sortF; simp [List.getD_eq_getElem?_getD]
    have e2 : (sortF k s d).getD ((escF k).length + 1) 0 = 0 := by unfold sortF; simp [List.getD_eq_getElem?_getD]
    have e3 : (sortF k s d).take (escF k).length = escF k := by unfold sortF; rw [List.take_left]
    have e4 : (sortF k s d).drop ((escF k).length + 2) = tailF (trailF s d) := by unfold sortF; rw [← List.drop_drop, List.drop_left]; rfl
    rw [if_pos ⟨e1, e2⟩, e3, unesc_esc, e4, tailF_be hT]
    simp only
    rw [ofF_iff]
    exact ⟨rfl, ho, by omega, hd⟩
/-- the order of versions -/
def lessF (k : List UInt8) (s d : Int) (k' : List UInt8) (s' d' : Int) : Bool :=
  if k ≠ k' then bytesLess k k' else if s ≠ s' then decide (s' < s) else decide (d' < d)
theorem esc_less (t t' : List UInt8) : ∀ {k k' : List UInt8}, k ≠ k' → bytesLess (escF k ++ 0 :: 0 :: t) (escF k' ++ 0 :: 0 :: t') = bytesLess k k'
  | [], [], h => absurd rfl h
  | [], y :: r, _ => by
    have e : bytesLess [] (y :: r) = true := rfl
    rw [e]
    by_cases hy : y = 0
    · subst hy
      rw [escF_zero]
      show bytesLess (0 :: 0 :: t) (0 :: 255 :: (escF r ++ 0 :: 0 :: t')) = true
      rw [bl_cons]; refine .inr ⟨rfl, ?_⟩
      rw [bl_cons]; exact .inl (by decide)
    · rw [escF_other hy]
      show bytesLess (0 :: 0 :: t) (y :: (escF r ++ 0 :: 0 :: t')) = true
      rw [bl_cons]; refine .inl ?_
      have : y.toNat ≠ 0 := fun e => hy (UInt8.toNat_inj.1 e)
      show 0 < y.toNat
      omega
  | x :: r, [], _ => by
    have e : bytesLess (x :: r) [] = false := rfl
    rw [e]
    cases hc : bytesLess (escF (x :: r) ++ 0 :: 0 :: t) (escF [] ++ 0 :: 0 :: t') with
    | false => rfl
    | true =>
      exfalso
      by_cases hx : x = 0
      · subst hx
        rw [escF_zero] at hc
        have hc : bytesLess (0 :: 255 :: (escF r ++ 0 :: 0 :: t)) (0 :: 0 :: t') = true := hc
        rw [bl_cons] at hc
        rcases hc with hc | ⟨_, hc⟩
        · exact absurd hc (by decide)
        · rw [bl_cons] at hc
          rcases hc with hc | ⟨hc, _⟩
          · exact absurd hc (by decide)
          · exact absurd hc (by decide)
      · rw [escF_other hx] at hc
        have hc : bytesLess (x :: (escF r ++ 0 :: 0 :: t)) (0 :: 0 :: t') = true := hc
        rw [bl_cons] at hc
        rcases hc with hc | ⟨hc, _⟩
        · exact absurd hc (Nat.not_lt_zero _)
        · exact hx hc
  | x :: r, y :: r', h => by
    by_cases hxy : x = y
    · subst hxy
      have hr : r ≠ r' := fun e => h (by rw [e])
      have ih := esc_less t t' hr
      have e : bytesLess (x :: r) (x :: r') = bytesLess r r' := bl_append [x] r r'
      rw [e, ← ih]
      by_cases hx : x = 0
      · subst hx
        rw [escF_zero, escF_zero]
        exact bl_append [0, 255] _ _
      · rw [escF_other hx, escF_other hx]
        exact bl_append [x] _ _
    · have key : ∀ (p q : List UInt8), bytesLess (x :: p) (y :: q) = decide (x.toNat < y.toNat) := fun p q => by
        rw [Bool.eq_iff_iff, bl_cons, decide_eq_true_eq]
        exact ⟨fun hh => hh.elim id (fun hh => absurd hh.1 hxy), .inl⟩
      have hh : ∀ (z : UInt8) (p : List UInt8), ∃ q, escF (z :: p) = z :: q := fun z p => by
        by_cases hz : z = 0
        · subst hz; exact ⟨_, escF_zero p⟩
        · exact ⟨_, escF_other hz p⟩
      obtain ⟨q1, e1⟩ := hh x r
      obtain ⟨q2, e2⟩ := hh y r'
      rw [e1, e2, List.cons_append, List.cons_append, key, key]
theorem sort_less {k k' : List UInt8} {s d s' d' : Nat} (h : okV k s d = true) (h' : okV k' s' d' = true) : bytesLess (sortF k s d) (sortF k' s' d') = lessF k s d k' s' d' := by
  obtain ⟨a1, a2, a3⟩ := okV_trail h
  obtain ⟨b1, b2, b3⟩ := okV_trail h'
  unfold sortF lessF
  by_cases hk : k = k'
  · subst hk
    rw [if_neg (by simp)]
    rw [bl_append]
    have e0 : bytesLess (0 :: 0 :: tailF (trailF s d)) (0 :: 0 :: tailF (trailF s' d')) = bytesLess (tailF (trailF s d)) (tailF (trailF s' d')) := bl_append [0, 0] _ _
    rw [e0, Bool.eq_iff_iff, bl_be (by rw [tailF_len, tailF_len]), tailF_be a3, tailF_be b3]
    by_cases hs : s = s'
    · subst hs
      rw [if_neg (by simp), decide_eq_true_eq]
      unfold trailF; omega
    · rw [if_pos (by omega), decide_eq_true_eq]
      unfold trailF at *; omega
  · rw [if_pos hk, esc_less _ _ hk]
theorem decF_iff {b k : List UInt8} {s d : Nat} : decF b = some (k, s, d) ↔ okV k s d = true ∧ b = encF k s d := by
  unfold decF
  constructor
  · intro h
    split at h
    · cases h
    · rename_i h8
      obtain ⟨rfl, ho, hn, hd⟩ := ofF_iff.1 h
      refine ⟨ho, ?_⟩
      have hl : (b.drop (b.length - 8)).length = 8 := by rw [List.length_drop]; omega
      have := bytesN_le' (b.drop (b.length - 8))
      rw [hl, hn] at this
      unfold encF
      rw [this, List.take_append_drop]
  · rintro ⟨ho, rfl⟩
    obtain ⟨hs, hd, hT⟩ := okV_trail ho
    have hl := enc_len k s d
    rw [if_neg (by omega), show (encF k s d).length - 8 = k.length by omega]
    have e1 : (encF k s d).take k.length = k := by unfold encF; rw [List.take_left]
    have e2 : (encF k s d).drop k.length = bytesN 8 (trailF s d) := by unfold encF; rw [List.drop_left]
    rw [e1, e2, le_bytesN' _ _ (by have : (256 : Nat) ^ 8 = 18446744073709551616 := by decide
                                   omega), ofF_iff]
    exact ⟨rfl, ho, rfl, hd⟩
theorem less_irr (k : List UInt8) (s d : Int) : lessF k s d k s d = false := by simp [lessF]
theorem less_tri {k k' : List UInt8} {s d s' d' : Int} (h : ¬ (k = k' ∧ s = s' ∧ d = d')) : lessF k s d k' s' d' = !(lessF k' s' d' k s d) := by
  unfold lessF
  by_cases hk : k = k'
  · subst hk
    rw [if_neg (show ¬ k ≠ k from fun h => h rfl), if_neg (show ¬ k ≠ k from fun h => h rfl)]
    by_cases hs : s = s'
    · subst hs
      rw [if_neg (show ¬ s ≠ s from fun h => h rfl), if_neg (show ¬ s ≠ s from fun h => h rfl)]
      have : d ≠ d' := fun e => h ⟨rfl, rfl, e⟩
      rw [← decide_not]; congr 1; apply propext; omega
    · rw [if_pos hs, if_pos (Ne.symm hs), ← decide_not]; congr 1; apply propext; omega
  · rw [if_pos hk, if_pos (Ne.symm hk)]
    cases h1 : bytesLess k k' with
    | true => rw [bl_asymm h1]; rfl
    | false =>
      cases h2 : bytesLess k' k with
      | true => rfl
      | false => exact absurd (bl_total h1 h2) hk
end Go.Proofs.YtpaogoehgkoaeaaGreatDoor
/- An append to a slice that the call owns, within a region that draws its order: whatever is done beside. No program is in sight here. -/
namespace Go.Proofs.YtpaogoehgkoaeaaGreatDoor
set_option linter.unusedVariables false
set_option linter.unusedSimpArgs false
open Go.RowKit
section
variable {P : Program}
/-- what append leaves of a block that has room -/
def appRow (n : Nat) (news : List Value) : Option Obj → Option Obj
  | some (.cells cur e fr) => some (.cells (cur.toList.take n ++ news ++ cur.toList.drop (n + news.length)).toArray e fr)
  | o => o
theorem appRow_idem (n : Nat) (news : List Value) (cur : Array Value) (e : TypeId) (fr : Nat × Nat) (h : n + news.length ≤ cur.size) :
    appRow n news (appRow n news (some (.cells cur e fr))) = appRow n news (some (.cells cur e fr)) := by
  simp only [appRow]
  have hn : (cur.toList.take n).length = n := by simp; omega
  have e1 : (cur.toList.take n ++ news ++ cur.toList.drop (n + news.length)).take n = cur.toList.take n := by
    rw [List.append_assoc]
    have := List.take_left (l₁ := cur.toList.take n) (l₂ := news ++ cur.toList.drop (n + news.length))
    rwa [hn] at this
  have e2 : (cur.toList.take n ++ news ++ cur.toList.drop (n + news.length)).drop (n + news.length) = cur.toList.drop (n + news.length) := by
    have := List.drop_left (l₁ := cur.toList.take n ++ news) (l₂ := cur.toList.drop (n + news.length))
    rwa [show (cur.toList.take n ++ news).length = n + news.length by rw [List.length_append, hn]] at this
  rw [e1, e2]
/-- a block may become another one, just once -/
def Once (row : Option Nat) (A B : Option Obj) (w w' : World) : Prop := w.grownBy w' row ∧ ∀ g, row = some g → w'.heap[g]? = w.heap[g]? ∨ (w.heap[g]? = A ∧ w'.heap[g]? = B)
section
variable {row : Option Nat} {A B : Option Obj}
theorem Once.refl (w : World) : Once row A B w w := ⟨(Gr.refl w).far, fun _ _ => .inl rfl⟩
theorem Once.trans {a b c : World} (h : Once row A B a b) (k : Once row A B b c) : Once row A B a c :=
  ⟨grown_trans h.1 k.1, fun g hg => by
    rcases h.2 g hg with h1 | ⟨h1, h2⟩ <;> rcases k.2 g hg with k1 | ⟨k1, k2⟩
    · exact .inl (k1.trans h1)
    · exact .inr ⟨h1 ▸ k1, k2⟩
    · exact .inr ⟨h1, k1.trans h2⟩
    · exact .inr ⟨h1, k2⟩⟩
theorem Once.drew (w : World) : Once row A B w w.drew := ⟨grown_drew w row, fun _ _ => .inl rfl⟩
theorem Gr.once {w w' : World} (h : Gr w w') (hr : ∀ g, row = some g → g < w.heap.size) : Once row A B w w' := ⟨h.far, fun g hg => .inl (h.block g (hr g hg))⟩
theorem Once.size {w w' : World} (h : Once row A B w w') : w.heap.size ≤ w'.heap.size := h.1.size
theorem Once.cell {w w' : World} (h : Once row A B w w') {p : Addr} {v : Value} (hp : w.cell? p = some v) (hne : some p.block ≠ row) : w'.cell? p = some v := by
  have := h.1.block p.block (World.block_lt_of_cell? w p hp) hne
  unfold World.cell? at hp ⊢
  rw [this]; exact hp
theorem Once.owns {w w' : World} (h : Once row A B w w') {base : Nat} {e : TypeId} {size : Nat} {ad : Option Addr} {cap n : Nat} {xs : List Value} (ho : Owns w base e size ad cap n xs)
    (hne : ∀ a, ad = some a → some a.block ≠ row) : Owns w' base e size ad cap n xs := ho.grown h.1 hne
theorem Once.bytes {w w' : World} (h : Once row A B w w') {ad : Option Addr} {l : List UInt8} (hb : Bytes w ad l) (hne : ∀ a, ad = some a → some a.block ≠ row) : Bytes w' ad l := fun i hi => by
  obtain ⟨b, off, e, hc⟩ := hb i hi
  exact ⟨b, off, e, h.cell hc (show some b ≠ row from hne ⟨b, off, none⟩ e)⟩
@[go_sem] theorem once_refl (w : World) : Once row A B w w ↔ True := ⟨fun _ => trivial, fun _ => Once.refl w⟩
theorem region_tail_once {id : Nat} {Q : Exit → Act → World → Prop} {a0 : Act} {w : World} {l : List Oper} (row : Option Nat) (A B : Option Obj) (n0 n : Nat) (Rs : List (Value → World → Prop))
    (hm : P.follows .mixedOrders = true) (hB : anyB (l.take n0) n = true) (hT : tailB l n0 = true) (hd : (l.take n0).all (·.dst.isSome) = true) (hlen : Rs.length = (l.take n0).length) (hn : a0.tmps.size = n) (hst : AllStable (Once row A B) Rs)
    (hs : AllShown P (Once row A B) (l.take n0) Rs a0 w (l.take n0) 0) (hfin : ∀ w1 val, Once row A B w w1 → Holds val w1 Rs 0 → wpList P l.toArray Q (l.drop n0) (putAll val (l.take n0) 0 a0) w1) : (Code.region id l.toArray true).wp P Q a0 w :=
  region_any_tail Once.refl (fun _ _ _ => Once.trans) Once.drew n0 n (nth Rs) hm hB hT hn (fun i v w1 w2 => hst.get i v w1 w2) (fun i o hi => by simpa using hs.get i o hi)
    (fun w1 val hg h => hfin w1 val hg (Holds.of fun i hi => by
      have hi' : i < (l.take n0).length := by omega
      rw [Nat.zero_add]
      exact h i (l.take n0)[i] (by rw [List.getElem?_eq_getElem hi']) (List.all_eq_true.1 hd _ (List.getElem_mem hi'))))
/-- bytes that were made since -/
def MadeB (base : Nat) (e : TypeId) (l : List UInt8) : Value → World → Prop := fun v w => ∃ ad cap, v = .slice ad l.length cap ∧ Owns w base e 1 ad cap l.length (bv l)
theorem MadeB.stable {base : Nat} {e : TypeId} {l : List UInt8} (h : ∀ g, row = some g → g < base) : Stable (Once row A B) (MadeB base e l) := by
  rintro v w1 w2 ⟨ad, cap, rfl, ho⟩ k
  exact ⟨ad, cap, rfl, k.owns ho fun a ha hr => by have := (ho.lt a ha).1; have := h _ hr.symm; omega⟩
/-- what the slice of the append is known to be -/
def Apd (row : Option Nat) (B : Option Obj) (base : Nat) (e : TypeId) (size n : Nat) (xs : List Value) : Value → World → Prop := fun v w =>
  ∃ ad cap, v = .slice ad n cap ∧ Owns w base e size ad cap n xs ∧ ∀ a, ad = some a → some a.block = row → w.heap[a.block]? = B
theorem Apd.stable (base : Nat) (e : TypeId) (size n : Nat) (xs : List Value) : Stable (Once row A B) (Apd row B base e size n xs) := by
  rintro v w1 w2 ⟨ad, cap, rfl, ho, hb⟩ h
  have key : ∀ g, ad = some ⟨g, 0, .none⟩ → w2.heap[g]? = w1.heap[g]? := by
    intro g hg
    by_cases hr : some g = row
    · have h1 := hb _ hg hr
      rcases h.2 g hr.symm with h2 | ⟨_, h2⟩
      · exact h2
      · rw [h2]; exact h1.symm
    · exact h.1.block g (ho.lt _ hg).2 hr
  refine ⟨ad, cap, rfl, ho.kept key, fun a ha hr => ?_⟩
  obtain ⟨_, _, _, ⟨e1, _⟩ | ⟨g, cur, fr, e1, _⟩⟩ := ho
  · rw [e1] at ha; cases ha
  · rw [e1] at ha; cases ha
    rw [key g e1]; exact hb _ e1 hr
/-- the same, and where it lies: in the row, or in a block that was made since -/
def Apn (row : Option Nat) (B : Option Obj) (base : Nat) (e : TypeId) (size n : Nat) (xs : List Value) (N : Nat) : Value → World → Prop := fun v w =>
  ∃ ad cap, v = .slice ad n cap ∧ Owns w base e size ad cap n xs ∧ (∀ a, ad = some a → some a.block = row → w.heap[a.block]? = B) ∧ ∀ a, ad = some a → some a.block = row ∨ N ≤ a.block
theorem Apn.stable (base : Nat) (e : TypeId) (size n : Nat) (xs : List Value) (N : Nat) : Stable (Once row A B) (Apn row B base e size n xs N) := by
  rintro v w1 w2 ⟨ad, cap, rfl, ho, hb, hn⟩ h
  obtain ⟨ad', cap', he, ho', hb'⟩ := Apd.stable (A := A) base e size n xs (.slice ad n cap) w1 w2 ⟨ad, cap, rfl, ho, hb⟩ h
  cases he
  exact ⟨ad, cap, rfl, ho', hb', hn⟩
end
/-- append, and what it does to the block itself -/
theorem run_append_at {t u ty e : TypeId} {z : Value} {size bytes : Nat} (E : Elem P t e z size bytes) {w : World} {base : Nat} {ad : Option Addr} {cap n : Nat} {xs : List Value}
    (hown : Owns w base e size ad cap n xs) {x : Value} {m : Nat} {news : List Value} (hx : Src P u w size x m news)
    (h63 : n + m ≤ maxLen) (hbytes : (n + m) * bytes ≤ 140737488355328) (hbase : base ≤ w.heap.size) :
    ∃ ad' cap' w', (Builtin.append_ #[t, u] ty #[.slice ad n cap, x]).run P w = .ok (.slice ad' (n + m) cap') w' ∧ Owns w' base e size ad' cap' (n + m) (xs ++ news) ∧
      w.grownBy w' (ad.map (·.block)) ∧ (∀ a, ad' = some a → ad = some a ∨ w.heap.size ≤ a.block) ∧
      (∀ g, ad = some ⟨g, 0, .none⟩ → (n + m ≤ cap ∧ w'.heap[g]? = appRow (n * size) news w.heap[g]?) ∨ (w'.heap[g]? = w.heap[g]? ∧ ∀ a, ad' = some a → a.block ≠ g)) := by
  obtain ⟨ad', cap', w', h1, h2, h3, h4⟩ := run_append (ty := ty) E hown hx h63 hbytes hbase
  refine ⟨ad', cap', w', h1, h2, h3, h4, fun g hg => ?_⟩
  have hglt := (hown.lt _ hg).2
  obtain ⟨ht, hinfo, hzs, hpos⟩ := E
  obtain ⟨i, hi, hz, hsize, hby⟩ := info_parts hinfo
  subst hsize
  subst hby
  obtain ⟨d, hd, hdd⟩ : ∃ d, P.underlying u = some d ∧ (d = .string ∨ ∃ e', d = .slice e') := by
    obtain ⟨_, _, ⟨_, _, e', _, _, hu⟩ | ⟨_, _, _, _, _, hu⟩⟩ := hx
    · exact ⟨_, hu, .inr ⟨e', rfl⟩⟩
    · exact ⟨_, hu, .inl rfl⟩
  have hlen := hx.lenOf (P := P) w
  have hfirst := hx.first
  have hxl := hx.1
  have h1c := hx.2.1
  obtain ⟨hl, hnc, hcm, hcase⟩ := hown
  subst hg
  by_cases hroom : n + m ≤ cap
  · left
    refine ⟨hroom, ?_⟩
    rcases hcase with ⟨h, _⟩ | ⟨g', cur, fr, e1, hbg, hg, hfr, hcs, htake⟩
    · cases h
    · cases e1
      have hfit : n * i.size + 0 + news.length ≤ cur.size := by rw [hxl, hcs, Nat.add_zero, ← Nat.add_mul]; exact Nat.mul_le_mul_right _ hroom
      have hst := run_storeCells_un (P := P) g (n * i.size) e fr news 0 cur w hg hfr hfit h1c
      simp only [Nat.add_zero] at hst
      have hr : (Builtin.append_ #[t, u] ty #[.slice (some ⟨g, 0, .none⟩) n cap, x]).run P w = .ok (.slice (some ⟨g, 0, .none⟩) (n + m) cap) (w.setRow g (cur.toList.take (n * i.size) ++ news ++ cur.toList.drop (n * i.size + news.length)).toArray) := by
        rcases hdd with rfl | ⟨e', rfl⟩ <;> simp [Builtin.append_, run_underlying ht, run_underlying hd, sizeOf, typeInfo, hi, hlen, hroom, hfirst, Addr.add_lit, hst]
      rw [hr] at h1
      cases h1
      rw [hg, setRow_heap w g cur _ e fr hg]
      rfl
  · right
    rcases hcase with ⟨h, _⟩ | ⟨g', cur, fr, e1, hbg, hg, hfr, hcs, htake⟩
    · cases h
    · cases e1
      have hold : (Builtin.firstCells i.size n (.slice (some ⟨g, 0, .none⟩) n cap)).run P w.drew = .ok xs.toArray w.drew := by
        have hrow : Row w (some ⟨g, 0, .none⟩) xs := Owns.row (base := base) (e := e) (size := i.size) (cap := cap) (n := n) ⟨hl, hnc, hcm, .inr ⟨g, cur, fr, rfl, hbg, hg, hfr, hcs, htake⟩⟩
        refine run_firstCells_some (P := P) w.drew i.size n _ n cap xs hl ?_
        intro j v hj
        obtain ⟨b, off, hh, hc⟩ := hrow j v hj
        cases hh
        have hadd : (⟨g, 0, none⟩ : Addr).add j = ⟨g, 0 + j, none⟩ := by unfold Addr.add; split <;> simp_all
        rw [hadd]; exact hc
      have hfirst' := (hx.gr (Gr.drew w)).first
      have hnr : ¬ (n + m ≤ cap) := hroom
      have h63' : ¬ (9223372036854775807 < ((n : Int) + (m : Int))) := by unfold maxLen at h63; omega
      have hfit := growslice_fits (need := n + m) (old := cap) (bytes := i.bytes) (by omega) hbytes
      have h48' : ¬ (281474976710656 < Builtin.nextslicecap (n + m) cap * i.bytes) := by omega
      have hr : ∃ o, (Builtin.append_ #[t, u] ty #[.slice (some ⟨g, 0, .none⟩) n cap, x]).run P w = .ok (.slice (some ⟨w.heap.size, 0, .none⟩) (n + m) (grownCap w (n + m) cap e)) (w.drew.alloc o) := by
        refine ⟨.cells (xs.toArray ++ news.toArray ++ Builtin.zeroCells z.cells (grownCap w (n + m) cap e - (n + m))) e, ?_⟩
        rcases hdd with rfl | ⟨e', rfl⟩ <;> simp [Builtin.append_, run_underlying ht, run_underlying hd, sizeOf, typeInfo, zeroValue, hi, hz, hlen, hnr, h63', h48', Question.forced, hfirst', hold, newRow, grownCap]
        all_goals (congr 2; apply Array.ext'; simp [List.append_assoc])
      obtain ⟨o, hr⟩ := hr
      rw [hr] at h1
      cases h1
      exact ⟨Below.heap_alloc w.drew _ g hglt, fun a ha => by cases ha; exact Nat.ne_of_gt hglt⟩
/-- THE STEP of such an append: whatever is done beside it -/
theorem append_once2 {t u e : TypeId} {z : Value} {size bytes : Nat} (E : Elem P t e z size bytes) {w0 w : World} {base : Nat} {ad : Option Addr} {cap n : Nat} {xs : List Value}
    (hown : Owns w0 base e size ad cap n xs) {x : Value} {m : Nat} {news : List Value} {row : Option Nat} (hrow : row = ad.map (·.block))
    {A B : Option Obj} (hA : ∀ g, row = some g → A = w0.heap[g]?) (hB : B = if n + m ≤ cap then appRow (n * size) news A else A)
    (hle : Once row A B w0 w) (hx : Src P u w size x m news)
    (h63 : n + m ≤ maxLen) (hbytes : (n + m) * bytes ≤ 140737488355328) (hbase : base ≤ w0.heap.size) {ty : TypeId} :
    ∃ v w', (Builtin.append_ #[t, u] ty #[.slice ad n cap, x]).run P w = .ok v w' ∧ Once row A B w w' ∧ Apn row B base e size (n + m) (xs ++ news) w0.heap.size v w' := by
  have hwOwn : Owns w base e size ad cap n xs ∧ ∀ g, row = some g → n + m ≤ cap → appRow (n * size) news w.heap[g]? = B := by
    obtain ⟨h1, h2, h3, ⟨e1, e2, e3⟩ | ⟨g, cur, fr, e1, e2, hg, hfr, hs, ht⟩⟩ := hown
    · subst e1
      exact ⟨⟨h1, h2, h3, .inl ⟨rfl, e2, e3⟩⟩, fun g hg => by rw [hrow] at hg; cases hg⟩
    · subst e1
      have hr : row = some g := hrow
      have hAg := hA g hr
      rw [hg] at hAg
      rcases hle.2 g hr with h | ⟨_, h⟩
      · rw [hg] at h
        refine ⟨⟨h1, h2, h3, .inr ⟨g, cur, fr, rfl, e2, h, hfr, hs, ht⟩⟩, fun g' hg' hrm => ?_⟩
        rw [hr] at hg'; cases hg'
        rw [h, hB, if_pos hrm, hAg]
      · have hnc : n * size ≤ cur.size := by rw [hs]; exact Nat.mul_le_mul_right _ h2
        have hlen : (cur.toList.take (n * size)).length = n * size := by simp; omega
        have htk : (cur.toList.take (n * size) ++ news ++ cur.toList.drop (n * size + news.length)).take (n * size) = xs := by
          rw [List.append_assoc]
          have := List.take_left (l₁ := cur.toList.take (n * size)) (l₂ := news ++ cur.toList.drop (n * size + news.length))
          rw [hlen] at this
          rw [this, ht]
        by_cases hroom : n + m ≤ cap
        · rw [hB, if_pos hroom, hAg] at h
          have hfit : n * size + news.length ≤ cur.size := by rw [hx.1, hs, ← Nat.add_mul]; exact Nat.mul_le_mul_right _ hroom
          have hsz : (cur.toList.take (n * size) ++ news ++ cur.toList.drop (n * size + news.length)).toArray.size = cur.size := by simp; omega
          refine ⟨⟨h1, h2, h3, .inr ⟨g, _, fr, rfl, e2, h, by rw [hsz]; exact hfr, by rw [hsz]; exact hs, htk⟩⟩, fun g' hg' _ => ?_⟩
          rw [hr] at hg'; cases hg'
          rw [h, hB, if_pos hroom, hAg]
          exact appRow_idem _ _ _ _ _ hfit
        · rw [hB, if_neg hroom, hAg] at h
          exact ⟨⟨h1, h2, h3, .inr ⟨g, cur, fr, rfl, e2, h, hfr, hs, ht⟩⟩, fun g' hg' hrm => absurd hrm hroom⟩
  obtain ⟨ho, hBw⟩ := hwOwn
  obtain ⟨ad', cap', w', r1, r2, r3, r4, r5⟩ := run_append_at (u := u) (ty := ty) E ho hx h63 hbytes (Nat.le_trans hbase hle.size)
  refine ⟨_, w', r1, ⟨hrow ▸ r3, ?_⟩, ad', cap', rfl, r2, ?_, fun a ha => ?_⟩
  · intro g hg
    have had : ad = some ⟨g, 0, .none⟩ := by
      rw [hrow] at hg
      obtain ⟨_, _, _, ⟨e1, _⟩ | ⟨g', cur, fr, e1, _⟩⟩ := ho
      · rw [e1] at hg; cases hg
      · rw [e1] at hg ⊢; cases hg; rfl
    rcases r5 g had with ⟨hrm, h⟩ | ⟨h, _⟩
    · rw [hBw g hg hrm] at h
      rcases hle.2 g hg with h2 | ⟨_, h2⟩
      · exact .inr ⟨h2.trans (hA g hg).symm, h⟩
      · exact .inl (h.trans h2.symm)
    · exact .inl h
  · intro a ha hg
    have had : ad = some ⟨a.block, 0, .none⟩ := by
      rw [hrow] at hg
      obtain ⟨_, _, _, ⟨e1, _⟩ | ⟨g', cur, fr, e1, _⟩⟩ := ho
      · rw [e1] at hg; cases hg
      · rw [e1] at hg ⊢; cases hg; rfl
    rcases r5 a.block had with ⟨hrm, h⟩ | ⟨_, h⟩
    · rw [h]; exact hBw _ hg.symm hrm
    · exact absurd rfl (h a ha)
  · rcases r4 a ha with h | h
    · exact .inl (by rw [hrow, h]; rfl)
    · exact .inr (Nat.le_trans hle.size h)
end
end Go.Proofs.YtpaogoehgkoaeaaGreatDoor
/- Appends to slices that a region which draws its order makes itself. No program is in sight here. -/
namespace Go.Proofs.YtpaogoehgkoaeaaGreatDoor
set_option linter.unusedVariables false
set_option linter.unusedSimpArgs false
open Go.RowKit
section
variable {P : Program}
def Roomy (k : Nat) : Option Obj → Prop
  | some (.cells cur _ _) => k ≤ cur.size
  | _ => False
/-- the blocks below N are what they were; a later one may have had its cells from n on overwritten by these, once -/
def Fresh (N n : Nat) (news : List Value) (w w' : World) : Prop := Below N w w' ∧ ∀ g, g < w.heap.size → w'.heap[g]? = w.heap[g]? ∨ (Roomy (n + news.length) w.heap[g]? ∧ w'.heap[g]? = appRow n news w.heap[g]?)
theorem Fresh.refl {N n : Nat} {news : List Value} (w : World) : Fresh N n news w w := ⟨Below.refl _ _, fun _ _ => .inl rfl⟩
theorem Fresh.size {N n : Nat} {news : List Value} {w w' : World} (h : Fresh N n news w w') : w.heap.size ≤ w'.heap.size := h.1.size
theorem Fresh.trans {N n : Nat} {news : List Value} {a b c : World} (h : Fresh N n news a b) (k : Fresh N n news b c) : Fresh N n news a c := by
  refine ⟨h.1.trans k.1, fun g hg => ?_⟩
  rcases h.2 g hg with h1 | ⟨hr, h1⟩ <;> rcases k.2 g (Nat.lt_of_lt_of_le hg h.size) with k1 | ⟨kr, k1⟩
  · exact .inl (k1.trans h1)
  · rw [h1] at kr k1; exact .inr ⟨kr, k1⟩
  · exact .inr ⟨hr, k1.trans h1⟩
  · rw [h1] at k1
    refine .inr ⟨hr, k1.trans ?_⟩
    generalize a.heap[g]? = o at hr ⊢
    match o, hr with
    | some (.cells cur e fr), hr => exact appRow_idem n news cur e fr hr
theorem Fresh.drew {N n : Nat} {news : List Value} (w : World) : Fresh N n news w w.drew := ⟨(Below.refl _ _).drew, fun _ _ => .inl rfl⟩
theorem Gr.fresh {N n : Nat} {news : List Value} {w w' : World} (h : Gr w w') (hN : N ≤ w.heap.size) : Fresh N n news w w' := ⟨Below.mono h hN, fun g hg => .inl (h.block g hg)⟩
theorem Fresh.gr {N n : Nat} {news : List Value} {w w' w0 : World} (h : Fresh N n news w w') (h0 : Gr w0 w) (hN : w0.heap.size ≤ N) : Gr w0 w' := Below.trans h0 (Below.mono h.1 hN)
theorem appRow_take {n : Nat} {news : List Value} {cur : Array Value} (hr : n + news.length ≤ cur.size) :
    (cur.toList.take n ++ news ++ cur.toList.drop (n + news.length)).toArray.size = cur.size ∧
    (∀ m, m ≤ n → (cur.toList.take n ++ news ++ cur.toList.drop (n + news.length)).toArray.toList.take m = cur.toList.take m) ∧
    (cur.toList.take n ++ news ++ cur.toList.drop (n + news.length)).toArray.toList.take (n + news.length) = cur.toList.take n ++ news := by
  have hn : (cur.toList.take n).length = n := by simp; omega
  refine ⟨by simp; omega, fun m hm => ?_, ?_⟩
  · show (cur.toList.take n ++ news ++ cur.toList.drop (n + news.length)).take m = _
    rw [List.append_assoc, List.take_append_of_le_length (by omega), List.take_take, Nat.min_eq_left hm]
  · show (cur.toList.take n ++ news ++ cur.toList.drop (n + news.length)).take (n + news.length) = _
    have := List.take_left (l₁ := cur.toList.take n ++ news) (l₂ := cur.toList.drop (n + news.length))
    rwa [show (cur.toList.take n ++ news).length = n + news.length by rw [List.length_append, hn]] at this
theorem Fresh.owns {N n : Nat} {news : List Value} {w w' : World} (h : Fresh N n news w w') {base : Nat} {e : TypeId} {size : Nat} {ad : Option Addr} {cap m : Nat} {xs : List Value} (ho : Owns w base e size ad cap m xs)
    (hx : xs.length ≤ n ∨ ∃ ys, xs = ys ++ news ∧ ys.length = n) : Owns w' base e size ad cap m xs := by
  obtain ⟨h1, h2, h3, h4 | ⟨g, cur, fr, e1, e2, hg, hfr, hs, ht⟩⟩ := ho
  · exact ⟨h1, h2, h3, .inl h4⟩
  · have hlt : g < w.heap.size := (Array.getElem?_eq_some_iff.1 hg).1
    rcases h.2 g hlt with hk | ⟨hr, hk⟩
    · exact ⟨h1, h2, h3, .inr ⟨g, cur, fr, e1, e2, hk.trans hg, hfr, hs, ht⟩⟩
    · rw [hg] at hk hr
      obtain ⟨t1, t2, t3⟩ := appRow_take hr
      refine ⟨h1, h2, h3, .inr ⟨g, _, fr, e1, e2, hk, by rw [t1]; exact hfr, by rw [t1]; exact hs, ?_⟩⟩
      rcases hx with hx | ⟨ys, rfl, hy⟩
      · rw [t2 _ (by omega)]; exact ht
      · have hm : m * size = n + news.length := by rw [← h1, List.length_append, hy]
        rw [hm] at ht ⊢
        rw [t3]
        have : cur.toList.take n = ys := by
          have h5 : (cur.toList.take (n + news.length)).take n = (ys ++ news).take n := by rw [ht]
          rw [List.take_take, Nat.min_eq_left (by omega), ← hy, List.take_left] at h5
          rw [← hy]; exact h5
        rw [this]
theorem Fresh.cell {N n : Nat} {news : List Value} {w w' : World} (h : Fresh N n news w w') {p : Addr} {v : Value} (hp : w.cell? p = some v) (hb : p.block < N) : w'.cell? p = some v := by
  have := h.1.block p.block hb
  unfold World.cell? at hp ⊢
  rw [this]; exact hp
theorem Fresh.row {N n : Nat} {news : List Value} {w w' : World} (h : Fresh N n news w w') {ad : Option Addr} {vs : List Value} (hr : Row w ad vs) (hN : w.heap.size ≤ N) : Row w' ad vs := fun i u hi => by
  obtain ⟨b, off, e, hc⟩ := hr i u hi
  exact ⟨b, off, e, h.cell hc (Nat.lt_of_lt_of_le (World.block_lt_of_cell? w _ hc) hN)⟩
theorem Owns.void (w : World) (B : Nat) (e : TypeId) (size : Nat) (hB : B ≤ w.heap.size) : Owns (w.alloc (.cells #[] e)) B e size (some ⟨w.heap.size, 0, none⟩) 0 0 [] :=
  Owns.made w B #[] e (0, 0) size 0 0 [] hB (Nat.zero_le _) (Nat.le_refl _) (by simp) (by simp) (by simp)
/-- a slice that was made since, of so many elements -/
def Made (N : Nat) (e : TypeId) (size m : Nat) (xs : List Value) : Value → World → Prop := fun v w => ∃ ad cap, v = .slice ad m cap ∧ Owns w N e size ad cap m xs
/-- an empty one -/
def Mt (N : Nat) (e : TypeId) (size : Nat) : Value → World → Prop := fun v w => ∃ ad, v = .slice ad 0 0 ∧ Owns w N e size ad 0 0 []
/-- one element, in a block of its own -/
def OneB (xs : List Value) : Value → World → Prop := fun v w => ∃ g e fr, v = .slice (some ⟨g, 0, none⟩) 1 1 ∧ w.heap[g]? = some (.cells xs.toArray e fr)
/-- a slice of what was there -/
def OldRow (N m : Nat) (xs : List Value) : Value → World → Prop := fun v w => ∃ ad cap, v = .slice ad m cap ∧ Row w ad xs ∧ ∀ a, ad = some a → a.block < N
variable {N n : Nat} {news : List Value}
theorem Made.stable (e : TypeId) (size m : Nat) (xs : List Value) (hx : xs.length ≤ n ∨ ∃ ys, xs = ys ++ news ∧ ys.length = n) : Stable (Fresh N n news) (Made N e size m xs) := by
  rintro v w1 w2 ⟨ad, cap, rfl, ho⟩ h
  exact ⟨ad, cap, rfl, h.owns ho hx⟩
theorem Mt.stable (e : TypeId) (size : Nat) : Stable (Fresh N n news) (Mt N e size) := by
  rintro v w1 w2 ⟨ad, rfl, ho⟩ h
  exact ⟨ad, rfl, h.owns ho (.inl (Nat.zero_le _))⟩
theorem OneB.stable : Stable (Fresh N n news) (OneB news) := by
  rintro v w1 w2 ⟨g, e, fr, rfl, hg⟩ h
  refine ⟨g, e, fr, rfl, ?_⟩
  rcases h.2 g (Array.getElem?_eq_some_iff.1 hg).1 with hk | ⟨hr, hk⟩
  · exact hk.trans hg
  · rw [hg] at hk hr
    have h0 : n + news.length ≤ news.length := by have h9 : n + news.length ≤ news.toArray.size := hr; simpa using h9
    obtain rfl : n = 0 := by omega
    rw [hk]
    simp [appRow]
theorem OneB.src {u e' : TypeId} {size : Nat} {xs : List Value} {v : Value} {w : World} (h : OneB xs v w) (hx : xs.length = size) (h1 : ∀ x ∈ xs, x.oneCell' = true) (hu : P.underlying u = some (.slice e')) : Src P u w size v 1 xs := by
  obtain ⟨g, e, fr, rfl, hg⟩ := h
  refine ⟨by omega, h1, .inl ⟨_, _, e', rfl, fun i y hi => ⟨g, 0, rfl, ?_⟩, hu⟩⟩
  unfold World.cell?
  simp only [Nat.zero_add, hg]
  simpa using hi
theorem OldRow.stable (m : Nat) (xs : List Value) : Stable (Fresh N n news) (OldRow N m xs) := by
  rintro v w1 w2 ⟨ad, cap, rfl, hr, hb⟩ h
  refine ⟨ad, cap, rfl, fun i u hi => ?_, hb⟩
  obtain ⟨b, off, e, hc⟩ := hr i u hi
  have := h.1.block b (hb _ e)
  refine ⟨b, off, e, ?_⟩
  unfold World.cell? at hc ⊢
  simp only at hc ⊢
  rw [this]; exact hc
theorem region_tail_fresh {id : Nat} {Q : Exit → Act → World → Prop} {a0 : Act} {w : World} {l : List Oper} (N n : Nat) (news : List Value) (n0 k : Nat) (Rs : List (Value → World → Prop))
    (hm : P.follows .mixedOrders = true) (hB : anyB (l.take n0) k = true) (hT : tailB l n0 = true) (hd : (l.take n0).all (·.dst.isSome) = true) (hlen : Rs.length = (l.take n0).length) (hn : a0.tmps.size = k) (hst : AllStable (Fresh N n news) Rs)
    (hs : AllShown P (Fresh N n news) (l.take n0) Rs a0 w (l.take n0) 0) (hfin : ∀ w1 val, Fresh N n news w w1 → Holds val w1 Rs 0 → wpList P l.toArray Q (l.drop n0) (putAll val (l.take n0) 0 a0) w1) : (Code.region id l.toArray true).wp P Q a0 w :=
  region_any_tail Fresh.refl (fun _ _ _ => Fresh.trans) Fresh.drew n0 k (nth Rs) hm hB hT hn (fun i v w1 w2 => hst.get i v w1 w2) (fun i o hi => by simpa using hs.get i o hi)
    (fun w1 val hg h => hfin w1 val hg (Holds.of fun i hi => by
      have hi' : i < (l.take n0).length := by omega
      rw [Nat.zero_add]
      exact h i (l.take n0)[i] (by rw [List.getElem?_eq_getElem hi']) (List.all_eq_true.1 hd _ (List.getElem_mem hi'))))
@[go_sem] theorem fresh_refl (w : World) : Fresh N n news w w ↔ True := ⟨fun _ => trivial, fun _ => Fresh.refl w⟩
/-- THE STEPS -/
theorem append_mt {t u e : TypeId} {z : Value} {size bytes : Nat} (E : Elem P t e z size bytes) {w : World} {ad : Option Addr} (ho : Owns w N e size ad 0 0 []) {x : Value} {m : Nat} {xs : List Value} (hx : Src P u w size x m xs)
    (h63 : m ≤ maxLen) (hbytes : m * bytes ≤ 140737488355328) (hN : N ≤ w.heap.size) {ty : TypeId} :
    ∃ v w', (Builtin.append_ #[t, u] ty #[.slice ad 0 0, x]).run P w = .ok v w' ∧ Fresh N n news w w' ∧ Made N e size m xs v w' := by
  obtain ⟨ad', cap', w', r1, r2, r3, r4, r5⟩ := run_append_at (u := u) (ty := ty) E ho hx (by omega) (by rw [Nat.zero_add]; exact hbytes) hN
  rw [Nat.zero_add, List.nil_append] at r2
  rw [Nat.zero_add] at r1
  have hbelow : Below N w w' := ⟨r3.os, r3.tape, r3.output, r3.size, fun g hg => by
    refine r3.block g (by omega) (fun hh => ?_)
    cases ad with
    | none => cases hh
    | some a => simp only [Option.map_some, Option.some.injEq] at hh; have := (ho.lt a rfl).1; omega⟩
  refine ⟨_, w', r1, ⟨hbelow, fun g hg => .inl ?_⟩, ad', cap', rfl, r2⟩
  by_cases hh : some g = ad.map (·.block)
  · have had : ad = some ⟨g, 0, .none⟩ := by
      obtain ⟨_, _, _, ⟨e1, _⟩ | ⟨g', cur, fr, e1, _⟩⟩ := ho
      · rw [e1] at hh; cases hh
      · rw [e1] at hh ⊢; cases hh; rfl
    rcases r5 g had with ⟨hm, h⟩ | ⟨h, _⟩
    · have hm0 : m = 0 := by omega
      subst hm0
      have hxs : xs = [] := List.eq_nil_of_length_eq_zero (by have := hx.1; omega)
      rw [h, hxs]
      cases hq : w.heap[g]? with
      | none => rfl
      | some o => cases o <;> simp [appRow]
    · exact h
  · exact r3.block g hg hh
theorem append_made {t u e : TypeId} {z : Value} {size bytes : Nat} (E : Elem P t e z size bytes) {w : World} {ad : Option Addr} {cap k m : Nat} {xs : List Value} (ho : Owns w N e size ad cap k xs) {x : Value} (hx : Src P u w size x m news) (hn : n = k * size)
    (h63 : k + m ≤ maxLen) (hbytes : (k + m) * bytes ≤ 140737488355328) (hN : N ≤ w.heap.size) {ty : TypeId} :
    ∃ v w', (Builtin.append_ #[t, u] ty #[.slice ad k cap, x]).run P w = .ok v w' ∧ Fresh N n news w w' ∧ Made N e size (k + m) (xs ++ news) v w' := by
  obtain ⟨ad', cap', w', r1, r2, r3, r4, r5⟩ := run_append_at (u := u) (ty := ty) E ho hx h63 hbytes hN
  have hbelow : Below N w w' := ⟨r3.os, r3.tape, r3.output, r3.size, fun g hg => by
    refine r3.block g (by omega) (fun hh => ?_)
    cases ad with
    | none => cases hh
    | some a => simp only [Option.map_some, Option.some.injEq] at hh; have := (ho.lt a rfl).1; omega⟩
  refine ⟨_, w', r1, ⟨hbelow, fun g hg => ?_⟩, ad', cap', rfl, r2⟩
  by_cases hh : some g = ad.map (·.block)
  · obtain ⟨_, _, _, ⟨e1, _⟩ | ⟨g', cur, fr, e1, _, hg', _, hs, _⟩⟩ := ho
    · rw [e1] at hh; cases hh
    · rw [e1] at hh; cases hh
      rcases r5 _ e1 with ⟨hm, h⟩ | ⟨h, _⟩
      · refine .inr ⟨?_, by rw [hn]; exact h⟩
        rw [hg']
        show n + news.length ≤ cur.size
        rw [hs, hn, hx.1, ← Nat.add_mul]; exact Nat.mul_le_mul_right _ hm
      · exact .inl h
  · exact .inl (r3.block g hg hh)
end
end Go.Proofs.YtpaogoehgkoaeaaGreatDoor
/- A region that draws its order, and stores somewhere on the way: what each operation shows is kept, a store's too. No program is in sight here. -/
namespace Go.Proofs.YtpaogoehgkoaeaaGreatDoor
set_option linter.unusedVariables false
set_option linter.unusedSimpArgs false
open Go.RowKit
section
variable {P : Program}
/-- what holds on the way -/
structure OnWayS (Le : World → World → Prop) (ops : List Oper) (R : Nat → Value → World → Prop) (a0 : Act) (w0 : World) (listed : Array Bool) (a : Act) (w : World) : Prop where
  size : listed.size = ops.length
  le : Le w0 w
  defers : a.defers = a0.defers
  tmps : a.tmps.size = a0.tmps.size
  closed : ∀ j o, ops[j]? = some o → listed.getD j false = true → ∀ d ∈ depsOf o, listed.getD d false = true
  known : ∀ j o, ops[j]? = some o → listed.getD j false = true → ∃ v, R j v w ∧ ∀ d, o.dst = some d → a.tmps.getD d undef = v
  rest : ∀ t, (∀ j o, ops[j]? = some o → listed.getD j false = true → o.dst ≠ some t) → a.tmps.getD t undef = a0.tmps.getD t undef

theorem region_any_store {Le : World → World → Prop} (hrefl : ∀ w, Le w w) (htrans : ∀ a b c, Le a b → Le b c → Le a c) (hdrew : ∀ w, Le w w.drew) {id : Nat} {Q : Exit → Act → World → Prop} {a0 : Act} {w : World} {l : List Oper} (n : Nat) (R : Nat → Value → World → Prop)
    (hm : P.follows .mixedOrders = true) (hB : anyB l n = true) (hn : a0.tmps.size = n) (hst : ∀ i v w1 w2, R i v w1 → Le w1 w2 → R i v w2)
    (hs : ∀ i o, l[i]? = some o → Shown P Le l R a0 w i o)
    (hfin : ∀ w1 val, Le w w1 → (∀ i o, l[i]? = some o → ∃ v, R i v w1 ∧ (o.dst.isSome = true → val i = v)) → Q .normal (putAll val l 0 a0) w1) : (Code.region id l.toArray true).wp P Q a0 w := by
  have hsize : l.toArray.size = l.length := by simp
  have allL : ∀ (listed : Array Bool), listed.size = l.length → Region.ready .any l.toArray listed = [] → ∀ k, k < l.length → listed.getD k false = true := by
    intro listed hls hr k
    induction k using Nat.strongRecOn with
    | _ k ih =>
      intro hk
      cases hc : listed.getD k false with
      | true => rfl
      | false =>
        exfalso
        have hok := opOk_of hB (i := k) (o := l[k]) (by simp [hk])
        have hmem : k ∈ Region.ready .any l.toArray listed := by
          rw [mem_ready]
          refine ⟨?_, l[k], by simp [hk], fun e he hb => ?_⟩
          · have : k < listed.size := by omega
            simp [this] at hc ⊢; exact hc
          · have hd : e.on ∈ depsOf l[k] := by
              unfold depsOf
              rw [List.mem_filterMap]
              exact ⟨e, by simpa using he, by rw [hb]; rfl⟩
            simp only [opOk, Bool.and_eq_true, List.all_eq_true, decide_eq_true_eq] at hok
            have hlt := hok.1.1.2 _ hd
            exact ih _ hlt (by omega)
        rw [hr] at hmem
        cases hmem
  have fin : ∀ (listed : Array Bool) (a : Act) (w1 : World), OnWayS Le l R a0 w listed a w1 → (∀ k, k < l.length → listed.getD k false = true) → Q .normal a w1 := by
    intro listed a w1 inv hall
    have hval := hfin w1 (fun j => match dstOf l j with | some d => a.tmps.getD d undef | none => undef) inv.le (fun i o hi => by
      obtain ⟨v, hv, he⟩ := inv.known i o hi (hall i (List.getElem?_eq_some_iff.1 hi).1)
      refine ⟨v, hv, fun hd => ?_⟩
      obtain ⟨d, hd⟩ := Option.isSome_iff_exists.1 hd
      have : dstOf l i = some d := by simp [dstOf, hi, hd]
      simp only [this]
      exact he d hd)
    have e : a = putAll (fun j => match dstOf l j with | some d => a.tmps.getD d undef | none => undef) l 0 a0 := by
      refine act_ext (by rw [putAll_size, inv.tmps]) (by rw [putAll_defers, inv.defers]) fun t => ?_
      by_cases ht : ∃ (j : Nat) (o : Oper), l[j]? = some o ∧ o.dst = some t
      · obtain ⟨j, o, hj, hd⟩ := ht
        have hok := opOk_of hB hj
        have htn : t < n := by
          simp only [opOk, hd, Bool.and_eq_true, decide_eq_true_eq] at hok
          exact hok.1.1.1.2.1
        rw [putAll_at _ t l 0 a0 j o hj hd (by rw [hn]; exact htn) (fun j' o' hj' hne hd' => by
          have hok' := opOk_of hB hj'
          simp only [opOk, Bool.and_eq_true, List.all_eq_true] at hok'
          have h2 := hok'.2 j (List.mem_range.2 (List.getElem?_eq_some_iff.1 hj).1)
          have hdj : dstOf l j = some t := by simp [dstOf, hj, hd]
          simp [hdj, hd', Ne.symm hne] at h2)]
        have hdj : dstOf l (0 + j) = some t := by simp [dstOf, hj, hd]
        simp only [hdj]
      · rw [putAll_other _ t l 0 a0 (fun o ho hd => ht (by
          obtain ⟨j, hj, e⟩ := List.getElem_of_mem ho
          exact ⟨j, o, by simp [hj, e], hd⟩))]
        exact inv.rest t (fun j o hj _ hd => ht ⟨j, o, hj, hd⟩)
    rw [e]; exact hval
  have key : ∀ (fuel : Nat) (listed : Array Bool) (a : Act) (w1 : World), OnWayS Le l R a0 w listed a w1 → cnt (fun k => listed.getD k false) l.length ≤ fuel → wpAny P .any l.toArray Q fuel listed a w1 := by
    intro fuel
    induction fuel with
    | zero =>
      intro listed a w1 inv hc
      have hall := cnt_zero (by omega : cnt (fun k => listed.getD k false) l.length = 0)
      refine ⟨?_, fin listed a w1 inv hall⟩
      rw [List.eq_nil_iff_forall_not_mem]
      intro j hj
      obtain ⟨h1, o, ho, _⟩ := mem_ready.1 hj
      have hlt : j < l.length := by
        have := (Array.getElem?_eq_some_iff.1 ho).1
        simpa using this
      have h2 := hall j hlt
      have : j < listed.size := by rw [inv.size]; exact hlt
      simp [this] at h1 h2
      rw [h1] at h2; cases h2
    | succ fuel ih =>
      intro listed a w1 inv hc
      refine ⟨fun hr => fin listed a w1 inv (allL listed inv.size hr), fun i hi => ?_⟩
      obtain ⟨h1, o, ho, hdeps⟩ := mem_ready.1 hi
      have hio : l[i]? = some o := by simpa using ho
      have hlt : i < l.length := (List.getElem?_eq_some_iff.1 hio).1
      have hls : i < listed.size := by rw [inv.size]; exact hlt
      have hun : listed.getD i false = false := by simp [hls] at h1 ⊢; exact h1
      have hok := opOk_of hB hio
      have hdl : ∀ d ∈ depsOf o, listed.getD d false = true := by
        intro d hd
        unfold depsOf at hd
        obtain ⟨e, he, hb⟩ := List.mem_filterMap.1 hd
        split at hb
        · rename_i hbb
          cases hb
          exact hdeps e (by simpa using he) hbb
        · cases hb
      have hcnt : cnt (fun k => (listed.setIfInBounds i true).getD k false) l.length ≤ fuel := by
        have := cnt_set (f := fun k => listed.getD k false) (g := fun k => (listed.setIfInBounds i true).getD k false) (i := i) (n := l.length) hlt hun (fun k => by
          by_cases hk : i = k
          · subst hk; simp [hls]
          · have hk' : (k == i) = false := by simp; omega
            simp only [getD_set_ne false hk, hk', Bool.or_false])
        omega
      have hkn : ∀ t ∈ readsOf l o, knownOf l R a0 o t (a.eval (.tmp t)) w1 := by
        intro t ht
        show knownOf l R a0 o t (a.tmps.getD t undef) w1
        unfold knownOf
        cases hsrc : srcOf l o t with
        | some j =>
          have hj := List.mem_of_find?_eq_some hsrc
          have hjt := List.find?_some hsrc
          have hjd : dstOf l j = some t := by simpa using hjt
          unfold dstOf at hjd
          cases hlj : l[j]? with
          | none => simp [hlj] at hjd
          | some oj =>
            simp [hlj] at hjd
            obtain ⟨v, hv, he⟩ := inv.known j oj hlj (hdl j hj)
            show R j (a.tmps.getD t undef) w1
            rw [he t hjd]; exact hv
        | none =>
          refine inv.rest t (fun j oj hlj hll hd => ?_)
          have hdj : dstOf l j = some t := by simp [dstOf, hlj, hd]
          have hne : j ≠ i := fun e => by subst e; rw [hun] at hll; cases hll
          simp only [opOk, Bool.and_eq_true, List.all_eq_true] at hok
          have h2 := hok.2 j (List.mem_range.2 (List.getElem?_eq_some_iff.1 hlj).1)
          simp only [hdj, hlj] at h2
          have ht' : (readsOf l o).contains t = true := by simpa using ht
          simp [hne, ht] at h2
          rcases h2.2 with h3 | h3
          · have := List.find?_eq_none.1 hsrc j h3
            simp [hdj] at this
          · have := inv.closed j oj hlj hll i h3
            rw [hun] at this; cases this
      have hsh := hs i o hio a.eval w1 ⟨fun _ => rfl, fun _ => rfl, fun _ => rfl⟩ inv.le (KnownAll.of hkn)
      have hwant : Region.wanted o (yielded l.toArray a.tmps) = wantedBy l o a.eval := by
        unfold Region.wanted wantedBy
        cases o.guard with
        | none => rfl
        | some g => simp only [yielded_eq]; rfl
      have step : ∀ v w2, Le w1 w2 → R i v w2 → wpAny P .any l.toArray Q fuel (listed.setIfInBounds i true) (a.put o.dst v) w2 := by
        intro v w2 hle hv
        refine ih _ _ _ ⟨by simp [inv.size], htrans _ _ _ inv.le hle, by rw [put_defers, inv.defers], by rw [put_size, inv.tmps], ?_, ?_, ?_⟩ hcnt
        · intro j oj hj hl d hd
          rcases listed_set hl with rfl | hl
          · rw [hio] at hj; cases hj
            exact getD_set_true (hdl d hd)
          · exact getD_set_true (inv.closed j oj hj hl d hd)
        · intro j oj hj hl
          rcases listed_set hl with rfl | hl2
          · rw [hio] at hj; cases hj
            refine ⟨v, hv, fun d hd => ?_⟩
            have hdn : d < n := by
              simp only [opOk, hd, Bool.and_eq_true, decide_eq_true_eq] at hok
              exact hok.1.1.1.2.1
            rw [hd, put_same _ _ _ (by rw [inv.tmps, hn]; exact hdn)]
          · by_cases hji : j = i
            · subst hji; rw [hun] at hl2; cases hl2
            · obtain ⟨v', hv', he'⟩ := inv.known j oj hj hl2
              refine ⟨v', hst j _ _ _ hv' hle, fun d hd => ?_⟩
              rw [put_other _ _ _ _ (fun hd' => by
                simp only [opOk, Bool.and_eq_true, List.all_eq_true] at hok
                have h2 := hok.2 j (List.mem_range.2 (List.getElem?_eq_some_iff.1 hj).1)
                have hdj : dstOf l j = some d := by simp [dstOf, hj, hd]
                simp [hdj, hd', hji] at h2)]
              exact he' d hd
        · intro t ht
          have h1 : o.dst ≠ some t := ht i o hio (by simp [hls])
          rw [put_other _ _ _ _ h1]
          exact inv.rest t (fun j oj hj hl => ht j oj hj (getD_set_true hl))
      unfold wpOp
      simp only [ho, hwant]
      split
      · rename_i hw
        rw [hw] at hsh
        simp only [if_true] at hsh
        left
        unfold Oper.wp
        generalize (execOp a.eval o).run P w1 = r at hsh
        cases r with
        | halt x w' => exact hsh.elim
        | ok nx w' =>
          cases nx with
          | value v => exact step v w' hsh.1 hsh.2
          | skip => exact step undef w' hsh.1 hsh.2
          | enter f args =>
            obtain ⟨h2, h3⟩ := hsh
            exact h3.mono fun e w'' ⟨v, he, hle, hv⟩ => by subst he; exact step v w'' (htrans _ _ _ h2 hle) hv
          | _ => exact hsh.elim
      · rename_i hw
        simp only [Bool.not_eq_true] at hw
        rw [hw] at hsh
        exact step undef w1 (hrefl _) (by simpa using hsh)
  refine wp_region_any hm ?_
  refine key l.toArray.size (Array.replicate l.toArray.size false) a0 w.drew ⟨by rw [Array.size_replicate, hsize], hdrew w, rfl, rfl, ?_, ?_, ?_⟩ ?_
  · intro j o _ hl; rw [getD_replicate_false'] at hl; cases hl
  · intro j o _ hl; rw [getD_replicate_false'] at hl; cases hl
  · intro t _; rfl
  · show cnt _ l.length ≤ l.toArray.size
    rw [hsize]; exact cnt_le _ _

theorem putAll_congr {f g : Nat → Value} : ∀ (l : List Oper) (k : Nat) (a : Act), (∀ i o, l[i]? = some o → o.dst.isSome = true → f (k + i) = g (k + i)) → putAll f l k a = putAll g l k a
  | [], _, _, _ => rfl
  | o :: r, k, a, h => by
    rw [putAll, putAll]
    have e : a.put o.dst (f k) = a.put o.dst (g k) := by
      cases hd : o.dst with
      | none => rfl
      | some d =>
        have := h 0 o rfl (by rw [hd]; rfl)
        rw [Nat.add_zero] at this
        rw [this]
    rw [e]
    exact putAll_congr r (k + 1) _ fun i o' hi hd => by
      have := h (i + 1) o' (by simpa using hi) hd
      rwa [show k + (i + 1) = k + 1 + i by omega] at this
/-- a store that was done -/
def StoredB (row : Option Nat) (B : Option Obj) : Value → World → Prop := fun _ w => ∀ g, row = some g → w.heap[g]? = B
theorem StoredB.stable {row : Option Nat} {A B : Option Obj} : Stable (Once row A B) (StoredB row B) := by
  intro v w1 w2 h k g hg
  rcases k.2 g hg with h1 | ⟨_, h1⟩
  · rw [h1]; exact h g hg
  · exact h1
theorem region_store_once {id : Nat} {Q : Exit → Act → World → Prop} {a0 : Act} {w : World} {l : List Oper} (row : Option Nat) (A B : Option Obj) (n : Nat) (Rs : List (Value → World → Prop))
    (hm : P.follows .mixedOrders = true) (hB : anyB l n = true) (_ : true = true) (hlen : Rs.length = l.length) (hn : a0.tmps.size = n) (hst : AllStable (Once row A B) Rs)
    (hs : AllShown P (Once row A B) l Rs a0 w l 0) (hfin : ∀ w1 val, Once row A B w w1 → Holds val w1 Rs 0 → Q .normal (putAll val l 0 a0) w1) : (Code.region id l.toArray true).wp P Q a0 w :=
  region_any_store Once.refl (fun _ _ _ => Once.trans) Once.drew n (nth Rs) hm hB hn (fun i v w1 w2 => hst.get i v w1 w2) (fun i o hi => by simpa using hs.get i o hi)
    (fun w1 val hg h => by
      have hex : ∀ i, ∃ v, (i < l.length → nth Rs i v w1) ∧ ∀ o, l[i]? = some o → o.dst.isSome = true → val i = v := by
        intro i
        by_cases hi : i < l.length
        · obtain ⟨v, hv, he⟩ := h i l[i] (by simp [hi])
          exact ⟨v, fun _ => hv, fun o ho hd => by rw [List.getElem?_eq_getElem hi] at ho; cases ho; exact he hd⟩
        · exact ⟨undef, fun h => absurd h hi, fun o ho => by rw [List.getElem?_eq_none (by omega)] at ho; cases ho⟩
      obtain ⟨val2, h2⟩ := Classical.axiomOfChoice hex
      rw [putAll_congr (f := val) (g := val2) l 0 a0 fun i o hi hd => by rw [Nat.zero_add]; exact (h2 i).2 o hi hd]
      exact hfin w1 val2 hg (Holds.of fun i hi => by rw [Nat.zero_add]; exact (h2 i).1 (by omega)))
end
end Go.Proofs.YtpaogoehgkoaeaaGreatDoor
/- The library's bytes.Count, Index at one byte; ReplaceAll of a nought by two bytes. -/
namespace Go.Proofs.YtpaogoehgkoaeaaGreatDoor
set_option linter.unusedVariables false
set_option linter.unusedSimpArgs false
open Go.RowKit Ikey Varint
/-- bytes as integers -/
def xv (l : List UInt8) : List Int := l.map fun x => (x.toNat : Int)
theorem xv_len (l : List UInt8) : (xv l).length = l.length := by simp [xv]
theorem bytesOf_xv (l : List UInt8) : Lib.bytesOf (xv l) = l := by
  unfold Lib.bytesOf xv
  rw [List.map_map]
  conv => rhs; rw [← List.map_id l]
  apply List.map_congr_left
  intro x _
  apply UInt8.toNat_inj.1
  simp
theorem cells_xv {w : World} {b off : Nat} {l : List UInt8} (h : Bytes w (some ⟨b, off, none⟩) l) : ∀ i, i < l.length → w.cell? ((⟨b, off, none⟩ : Addr).add i) = some (.int .u8 ((xv l).getD i 0)) := fun i hi => by
  obtain ⟨b', off', e, hc⟩ := h i hi
  cases e
  have hadd : (⟨b, off, none⟩ : Addr).add i = ⟨b, off + i, none⟩ := by unfold Addr.add; split <;> simp_all
  rw [hadd, hc]
  unfold xv
  simp [List.getD_eq_getElem?_getD, hi]
set_option maxRecDepth 100000 in
set_option maxHeartbeats 1000000 in
theorem Count_one (b off cap b2 o2 c2 : Nat) (l : List UInt8) (x : UInt8) (w : World) (hb : Bytes w (some ⟨b, off, none⟩) l) (hx : w.cell? ⟨b2, o2, none⟩ = some (.int .u8 (x.toNat : Int))) :
    Calls Tryz.prog 190 #[.slice (some ⟨b, off, none⟩) l.length cap, .slice (some ⟨b2, o2, none⟩) 1 c2] w fun e w' => e = .returned (.int .i64 ((Lib.countByte l x : Nat) : Int)) ∧ w = w' := by
  have h := Lib.run_countAt (P := Tryz.prog) w ⟨b, off, none⟩ l.length cap (xv l) (xv_len l) (cells_xv hb) (x.toNat : Int)
  rw [bytesOf_xv, show ((x.toNat : Int)).toNat.toUInt8 = x by simp] at h
  go_enter Tryz.func190, Tryz.ntmps190
  go_wp2
  rw [run_callFunc_extern Tryz.func194 (by kernel_rfl) (by kernel_rfl) (by kernel_rfl) (e := Extern.BytealgCount.count) (by kernel_rfl), h]
  simp only [Result.andThen]
  rw [Oper.upon_value]
  go_wp2
  go_ret
  exact ⟨rfl, rfl⟩
set_option maxRecDepth 100000 in
set_option maxHeartbeats 1000000 in
theorem IndexByte_any (b off cap : Nat) (l : List UInt8) (x : UInt8) (w : World) (hb : Bytes w (some ⟨b, off, none⟩) l) :
    Calls Tryz.prog 195 #[.slice (some ⟨b, off, none⟩) l.length cap, .int .u8 (x.toNat : Int)] w fun e w' => e = .returned (.int .i64 (Lib.indexByte l x)) ∧ w = w' := by
  have h := Lib.run_indexByteAt (P := Tryz.prog) w ⟨b, off, none⟩ l.length cap (xv l) (xv_len l) (cells_xv hb) (x.toNat : Int)
  rw [bytesOf_xv, show ((x.toNat : Int)).toNat.toUInt8 = x by simp] at h
  go_enter Tryz.func195, Tryz.ntmps195
  go_wp2
  rw [run_callFunc_extern Tryz.func201 (by kernel_rfl) (by kernel_rfl) (by kernel_rfl) (e := Extern.BytealgIndexByte.indexByte) (by kernel_rfl), h]
  simp only [Result.andThen]
  rw [Oper.upon_value]
  go_wp2
  go_ret
  exact ⟨rfl, rfl⟩
set_option maxRecDepth 100000 in
set_option maxHeartbeats 1000000 in
theorem Index_one (b off cap b2 o2 c2 : Nat) (l : List UInt8) (x : UInt8) (w : World) (hb : Bytes w (some ⟨b, off, none⟩) l) (hx : w.cell? ⟨b2, o2, none⟩ = some (.int .u8 (x.toNat : Int))) :
    Calls Tryz.prog 191 #[.slice (some ⟨b, off, none⟩) l.length cap, .slice (some ⟨b2, o2, none⟩) 1 c2] w fun e w' => e = .returned (.int .i64 (Lib.indexByte l x)) ∧ w = w' := by
  have HC := Lib.hid (IndexByte_any b off cap l x w hb)
  clear hb
  go_enter Tryz.func191, Tryz.ntmps191
  go_wp2_with (go_at_call 195; refine HC.out.mono ?_; rintro e w' ⟨rfl, rfl⟩)
  go_ret
  exact ⟨rfl, rfl⟩
/-- make of whole elements, of any size -/
theorem wp_makeB {P : Program} {t e : TypeId} {z : Value} {size bytes : Nat} (E : Elem P t e z size bytes) {w : World} {ops : Array Oper} {rest : List Oper} {o : Oper} {a : Act} {Q : Exit → Act → World → Prop} (hgd : o.guard = none) (l c : Operand)
    (ho : o.op = .makeSlice t l c) {kl kc : IntKind} {L C : Int} (n : Nat) (hl : a.eval l = .int kl L) (hc : a.eval c = .int kc C) (hL : L = (n : Int)) (hC : C = (n : Int)) (h63 : n ≤ maxLen) (hbytes : bytes * n ≤ 281474976710656)
    (h : ∀ w', Blk w' w.heap.size e (madeCells z.cells (n * size)).toList → Gr w w' → w'.heap.size = w.heap.size + 1 → wpList P ops Q rest (a.put o.dst (.slice (some ⟨w.heap.size, 0, none⟩) n n)) w') :
    wpList P ops Q (o :: rest) a w := by
  refine wpList_plain hgd fun K hK => ?_
  obtain ⟨ht, hinfo, hzs, hpos⟩ := E
  obtain ⟨i, hi, hz, hsize, hby⟩ := info_parts hinfo
  subst hL
  subst hC
  have h63' : (n : Int) ≤ 9223372036854775807 := by simp [maxLen] at h63; omega
  have hb' : (i.bytes : Int) * (n : Int) ≤ 281474976710656 := by
    have h : ((i.bytes * n : Nat) : Int) ≤ 281474976710656 := by rw [hby]; omega
    rwa [Int.natCast_mul] at h
  have hr := run_make (P := P) w t e i z ht hi hz kl kc n n (by omega) (by omega) hb' h63'
  simp only [Int.toNat_natCast] at hr
  unfold Oper.wp
  simp only [execOp, ho, hl, hc, Sem.run_bind, Sem.run_pure, hr, Result.andThen_ok]
  refine hK _ _ (h _ ?_ (Gr.alloc _ _) (by simp))
  rw [hsize]
  exact Blk.new w e _
section
variable {P : Program}
theorem Blk.setRow {w : World} {b : Nat} {e : TypeId} {cs : List Value} (h : Blk w b e cs) (ds : List Value) : Blk (w.setRow b ds.toArray) b e ds := setRow_heap w b cs.toArray ds.toArray e (0, 0) h
theorem grown_setRow (w : World) (b : Nat) (cs : Array Value) : w.grownBy (w.setRow b cs) (some b) := ⟨rfl, rfl, rfl, by simp, fun k _ hk => setRow_other w b k cs (fun e => hk (by rw [e]))⟩
theorem wp_copy {dT sT e : TypeId} {z : Value} {bytes : Nat} (E : Elem P dT e z 1 bytes) {w : World} {ops : Array Oper} {rest : List Oper} {o : Oper} {a : Act} {Q : Exit → Act → World → Prop} (hgd : o.guard = none) (x y : Operand)
    (ho : o.op = .call { callee := .builtin .copy, args := #[x, y], argTypes := #[dT, sT] }) {b off dl dc sl sc : Nat} {sa xa : Option Addr} {cur src : List Value} (hx : a.eval x = .slice xa dl dc) (hxa : 0 < sl → xa = some ⟨b, off, none⟩) (hy : a.eval y = .slice sa sl sc)
    (hb : Blk w b e cur) (hs : Row w sa src) (hsl : src.length = sl) (hle : sl ≤ dl) (hfit : off + sl ≤ cur.length) (h1 : ∀ v ∈ src, v.oneCell' = true)
    (h : ∀ w', Blk w' b e (cur.take off ++ src ++ cur.drop (off + sl)) → w.grownBy w' (some b) → wpList P ops Q rest (a.put o.dst (goInt sl)) w') : wpList P ops Q (o :: rest) a w := by
  subst hsl
  refine wpList_plain hgd fun K hK => ?_
  obtain ⟨ht, hinfo, _, _⟩ := E
  obtain ⟨i, hi, _, hsize, _⟩ := info_parts hinfo
  have hsz : (P.info? e).map (·.size) = some 1 := by rw [hi]; simp [hsize]
  unfold Oper.wp execOp
  by_cases h0 : src.length = 0
  · have hr := run_copy_none (P := P) w dT sT o.type e xa sa dl dc src.length sc ht hsz (by rw [h0]; exact Nat.zero_min _)
    simp only [ho, resolve, invoke, builtin, Sem.run_bind, Sem.run_pure, Result.andThen_ok, List.map_toArray, List.map_cons, List.map_nil, hx, hy, hr]
    have := h w (by
      have : src = [] := List.eq_nil_of_length_eq_zero h0
      subst this
      simpa using hb) ((Gr.refl w).far)
    rw [h0] at this
    exact hK _ _ this
  · obtain rfl := hxa (by omega)
    cases sa with
    | none =>
      exfalso
      cases src with
      | nil => exact h0 rfl
      | cons v r => obtain ⟨_, _, hh, _⟩ := hs 0 v rfl; cases hh
    | some ad =>
      have hr := run_copy_row (P := P) w dT sT o.type e b off dl dc ad src.length sc cur.toArray e src ht hsz hb (by exact (Nat.min_eq_left hle).symm) (fun j v hj => by
        obtain ⟨bb, oo, hh, hc⟩ := hs j v hj
        cases hh
        have hadd : (⟨bb, oo, none⟩ : Addr).add j = ⟨bb, oo + j, none⟩ := by unfold Addr.add; split <;> simp_all
        rw [hadd]; exact hc) (by simpa using hfit) h1
      simp only [ho, resolve, invoke, builtin, Sem.run_bind, Sem.run_pure, Result.andThen_ok, List.map_toArray, List.map_cons, List.map_nil, hx, hy, hr]
      exact hK _ _ (h _ (hb.setRow _) (grown_setRow _ _ _))
/-- copy, into a block that is known whole -/
theorem copy_run {dT sT ty e : TypeId} {z : Value} {bytes : Nat} (E : Elem P dT e z 1 bytes) {w : World} {b off dl dc sl sc : Nat} {sa xa : Option Addr} {cur src : List Value} (hxa : 0 < sl → xa = some ⟨b, off, none⟩)
    (hb : Blk w b e cur) (hs : Row w sa src) (hsl : src.length = sl) (hle : sl ≤ dl) (hfit : off + sl ≤ cur.length) (h1 : ∀ v ∈ src, v.oneCell' = true) :
    ∃ w', (Builtin.copy_ #[dT, sT] ty #[.slice xa dl dc, .slice sa sl sc]).run P w = .ok (.int .i64 (sl : Int)) w' ∧ Blk w' b e (cur.take off ++ src ++ cur.drop (off + sl)) ∧ w.grownBy w' (some b) := by
  subst hsl
  obtain ⟨ht, hinfo, _, _⟩ := E
  obtain ⟨i, hi, _, hsize, _⟩ := info_parts hinfo
  have hsz : (P.info? e).map (·.size) = some 1 := by rw [hi]; simp [hsize]
  by_cases h0 : src.length = 0
  · have hr := run_copy_none (P := P) w dT sT ty e xa sa dl dc src.length sc ht hsz (by rw [h0]; exact Nat.zero_min _)
    refine ⟨w, by rw [hr, h0]; rfl, ?_, (Gr.refl w).far⟩
    have : src = [] := List.eq_nil_of_length_eq_zero h0
    subst this
    simpa using hb
  · obtain rfl := hxa (by omega)
    cases sa with
    | none =>
      exfalso
      cases src with
      | nil => exact h0 rfl
      | cons v r => obtain ⟨_, _, hh, _⟩ := hs 0 v rfl; cases hh
    | some ad =>
      have hr := run_copy_row (P := P) w dT sT ty e b off dl dc ad src.length sc cur.toArray e src ht hsz hb (by exact (Nat.min_eq_left hle).symm) (fun j v hj => by
        obtain ⟨bb, oo, hh, hc⟩ := hs j v hj
        cases hh
        have hadd : (⟨bb, oo, none⟩ : Addr).add j = ⟨bb, oo + j, none⟩ := by unfold Addr.add; split <;> simp_all
        rw [hadd]; exact hc) (by simpa using hfit) h1
      exact ⟨_, hr, hb.setRow _, grown_setRow _ _ _⟩
end
/-- a value, and what the row has become -/
def CopiedB (x : Value) (row : Option Nat) (B : Option Obj) : Value → World → Prop := fun v w => v = x ∧ ∀ g, row = some g → w.heap[g]? = B
theorem CopiedB.stable {x : Value} {row : Option Nat} {A B : Option Obj} : Stable (Once row A B) (CopiedB x row B) := fun v _ _ ⟨e, h⟩ k => ⟨e, StoredB.stable v _ _ h k⟩
/-- where the next nought is -/
theorem index_split : ∀ {pre : List UInt8} (post : List UInt8), (0 : UInt8) ∉ pre → Lib.indexByte (pre ++ 0 :: post) 0 = (pre.length : Int)
  | [], post, _ => by simp [Lib.indexByte]
  | y :: r, post, h => by
    have hy : (y == (0 : UInt8)) = false := by rw [beq_eq_false_iff_ne]; exact fun e => h (by rw [e]; exact List.mem_cons_self ..)
    have ih := index_split post (pre := r) (fun e => h (List.mem_cons_of_mem _ e))
    rw [List.cons_append, Lib.indexByte, hy, ih]
    have h2 : (((r.length : Nat) : Int) == -1) = false := by rw [beq_eq_false_iff_ne]; omega
    rw [h2]
    simp
theorem zero_split : ∀ {l : List UInt8}, 0 < Lib.countByte l 0 → ∃ pre post, l = pre ++ 0 :: post ∧ (0 : UInt8) ∉ pre
  | [], h => by simp [Lib.countByte] at h
  | y :: r, h => by
    by_cases hy : y = 0
    · exact ⟨[], r, by rw [hy]; rfl, by simp⟩
    · have : 0 < Lib.countByte r 0 := by
        unfold Lib.countByte at h ⊢
        rwa [List.count_cons_of_ne (fun e => hy e)] at h
      obtain ⟨pre, post, e, hn⟩ := zero_split this
      exact ⟨y :: pre, post, by rw [e]; rfl, fun hm => by
        rcases List.mem_cons.1 hm with e | e
        · exact hy e.symm
        · exact hn e⟩
theorem count_app (a b : List UInt8) : Lib.countByte (a ++ b) 0 = Lib.countByte a 0 + Lib.countByte b 0 := by unfold Lib.countByte; exact List.count_append
theorem count_none {l : List UInt8} (h : (0 : UInt8) ∉ l) : Lib.countByte l 0 = 0 := by unfold Lib.countByte; exact List.count_eq_zero.2 h
theorem none_count {l : List UInt8} (h : Lib.countByte l 0 = 0) : (0 : UInt8) ∉ l := by unfold Lib.countByte at h; exact List.count_eq_zero.1 h
theorem escF_none : ∀ {l : List UInt8}, (0 : UInt8) ∉ l → escF l = l
  | [], _ => rfl
  | x :: r, h => by
    have hx : x ≠ 0 := fun e => h (by rw [e]; exact List.mem_cons_self ..)
    rw [escF_other hx, escF_none (fun e => h (List.mem_cons_of_mem _ e))]
theorem escF_count : ∀ l : List UInt8, (escF l).length = l.length + Lib.countByte l 0
  | [] => rfl
  | x :: r => by
    have ih := escF_count r
    by_cases hx : x = 0
    · subst hx
      rw [escF_zero]
      unfold Lib.countByte at ih ⊢
      rw [List.count_cons_self]
      simp only [List.length_cons]
      omega
    · rw [escF_other hx]
      unfold Lib.countByte at ih ⊢
      rw [List.count_cons_of_ne (fun e => hx e)]
      simp only [List.length_cons]
      omega
/-- what is laid so far, and noughts -/
def rowE (E : List UInt8) (N : Nat) : List Value := bv E ++ List.replicate (N - E.length) (.int .u8 0)
theorem rowE_len {E : List UInt8} {N : Nat} (h : E.length ≤ N) : (rowE E N).length = N := by simp [rowE, bv_length]; omega
theorem rowE_step {E x : List UInt8} {N : Nat} (h : E.length + x.length ≤ N) : (rowE E N).take E.length ++ bv x ++ (rowE E N).drop (E.length + x.length) = rowE (E ++ x) N := by
  unfold rowE
  have h1 : (bv E).length = E.length := bv_length E
  rw [← h1, List.take_left, List.drop_append, List.drop_eq_nil_of_le (by omega), List.nil_append, List.drop_replicate, bv_append, h1, List.length_append]
  congr 2
  omega
theorem rowE_again {E x : List UInt8} {N : Nat} : (rowE (E ++ x) N).take E.length ++ bv x ++ (rowE (E ++ x) N).drop (E.length + x.length) = rowE (E ++ x) N := by
  unfold rowE
  have h1 : (bv E).length = E.length := bv_length E
  have h2 : (bv x).length = x.length := bv_length x
  generalize List.replicate (N - (E ++ x).length) (Value.int .u8 0) = Z
  rw [bv_append, List.append_assoc, ← h1, ← h2, List.append_assoc, List.take_left, ← List.drop_drop, List.drop_left, List.drop_left]
/-- one more copy into what is laid -/
theorem once_copy {dT sT ty : TypeId} {z : Value} {bytes : Nat} (EE : Elem Tryz.prog dT 5 z 1 bytes) {w : World} {bt dl dc sc N : Nat} {sa xa : Option Addr} {E x : List UInt8} (hxa : 0 < x.length → xa = some ⟨bt, E.length, none⟩)
    (hcs : w.heap[bt]? = some (.cells (rowE E N).toArray 5 (0, 0)) ∨ w.heap[bt]? = some (.cells (rowE (E ++ x) N).toArray 5 (0, 0))) (hs : Row w sa (bv x)) (hle : x.length ≤ dl) (hfit : E.length + x.length ≤ N) :
    ∃ w', (Builtin.copy_ #[dT, sT] ty #[.slice xa dl dc, .slice sa x.length sc]).run Tryz.prog w = .ok (.int .i64 (x.length : Int)) w' ∧ Once (some bt) (some (.cells (rowE E N).toArray 5 (0, 0))) (some (.cells (rowE (E ++ x) N).toArray 5 (0, 0))) w w' ∧ w'.heap[bt]? = some (.cells (rowE (E ++ x) N).toArray 5 (0, 0)) := by
  rcases hcs with h | h
  · obtain ⟨w', r1, r2, r3⟩ := copy_run (ty := ty) (sT := sT) (dc := dc) (sc := sc) EE hxa (show Blk w bt 5 (rowE E N) from h) hs (bv_length x) hle (by rw [rowE_len (by omega)]; exact hfit) (bv_one x)
    rw [rowE_step hfit] at r2
    exact ⟨w', r1, ⟨r3, fun g hg => by cases hg; exact .inr ⟨h, r2⟩⟩, r2⟩
  · obtain ⟨w', r1, r2, r3⟩ := copy_run (ty := ty) (sT := sT) (dc := dc) (sc := sc) EE hxa (show Blk w bt 5 (rowE (E ++ x) N) from h) hs (bv_length x) hle (by rw [rowE_len (by rw [List.length_append]; exact hfit)]; exact hfit) (bv_one x)
    rw [rowE_again] at r2
    exact ⟨w', r1, ⟨r3, fun g hg => by cases hg; exact .inl (Eq.trans r2 h.symm)⟩, r2⟩
theorem Owns.of_blk {w : World} {b base n : Nat} {e : TypeId} {xs : List Value} (h : Blk w b e xs) (hb : base ≤ b) (hn : xs.length = n) (hm : n ≤ maxLen) : Owns w base e 1 (some ⟨b, 0, none⟩) n n xs := by
  refine ⟨by omega, Nat.le_refl _, hm, .inr ⟨b, xs.toArray, (0, 0), rfl, hb, h, by simp, by simp [hn], ?_⟩⟩
  simp [← hn]
theorem rowE_all (E : List UInt8) : rowE E E.length = bv E := by simp [rowE]
set_option maxRecDepth 100000 in
set_option maxHeartbeats 4000000 in
theorem Replace_zero (b off cap b2 o2 c2 b3 o3 c3 : Nat) (l : List UInt8) (w : World) (hl : l.length ≤ 1000000) (hl1 : 1 ≤ l.length) (hlc : l.length ≤ cap) (hb : Bytes w (some ⟨b, off, none⟩) l) (hx : w.cell? ⟨b2, o2, none⟩ = some (.int .u8 0)) (hy : Bytes w (some ⟨b3, o3, none⟩) [0, 255]) :
    Calls Tryz.prog 186 #[.slice (some ⟨b, off, none⟩) l.length cap, .slice (some ⟨b2, o2, none⟩) 1 c2, .slice (some ⟨b3, o3, none⟩) 2 c3, .int .i64 (-1)] w (RetB 5 w (escF l)) := by
  have HC := Lib.hid (Count_one b off cap b2 o2 c2 l 0 w hb hx)
  have HB := Lib.hid hb; have HX := Lib.hid hx; have HY := Lib.hid hy
  by_cases h0 : Lib.countByte l 0 = 0
  · have HE := Lib.hid (escF_none (none_count h0))
    rw [h0] at HC
    have m1 : 0 + l.length ≤ maxLen := by unfold maxLen; omega
    have m2 : (0 + l.length) * 1 ≤ 140737488355328 := by omega
    clear h0 hb hx hy
    go_enter Tryz.func186, Tryz.ntmps186
    go_wp2_with (first
      | (go_at_call 190; refine HC.out.mono ?_; rintro e w' ⟨rfl, rfl⟩)
      | (at_builtin; go_must (refine wp_append elemB rfl _ _ rfl rfl (Owns.empty w w.heap.size 5 1) rfl (Src.bytes HB.out rfl Tryz.underlying31) m1 m2 (Nat.le_refl _) ?_); intro ad8 cap8 w8 o8 k8 f8))
    go_ret
    rw [Nat.zero_add] at o8
    exact ⟨ad8, cap8, by rw [HE.out]; simp, by rw [HE.out]; exact o8, (Gr.refl w).grown k8 (fun k h => by cases h)⟩
  · obtain ⟨c, hc⟩ : ∃ c, c = Lib.countByte l 0 := ⟨_, rfl⟩
    have hN := escF_count l
    have hcl : c ≤ l.length := by rw [hc]; unfold Lib.countByte; exact List.count_le_length
    rw [← hc] at HC h0 hN
    have HN := Lib.hid hN
    have HCC := Lib.hid hc
    have hc0 : ((c : Int) == 0) = false := by rw [beq_eq_false_iff_ne]; omega
    have hc1 : 0 < c := by omega
    have e1 : IntKind.i64.wrap ((c : Int) * 1) = (c : Int) := by rw [IntKind.wrap_i64]; omega
    clear hb hx hy h0 hN hc
    go_enter Tryz.func186, Tryz.ntmps186
    go_wp2_with (first
      | (go_at_call 190; refine HC.out.mono ?_; rintro e w' ⟨rfl, rfl⟩)
      | (at_make; go_must (refine wp_makeB elemB rfl _ _ rfl (l.length + c) rfl rfl (by omega) (by omega) (by unfold maxLen; omega) (by omega) ?_); intro w1 o1 g1 z1))
    have HBk := Lib.hid (show Blk w1 w.heap.size 5 (rowE [] (l.length + c)) by
      have : (madeCells (Value.int IntKind.u8 0).cells ((l.length + c) * 1)).toList = rowE [] (l.length + c) := by
        rw [Nat.mul_one]
        unfold rowE
        rw [show (Value.int IntKind.u8 0).cells = #[.int .u8 0] from rfl, toList_madeCells_one]
        simp [bv]
      rw [← this]; exact o1)
    have HG1 := Lib.hid g1
    clear o1 g1 z1
    obtain ⟨bt, hbt⟩ : ∃ bt, bt = w.heap.size := ⟨_, rfl⟩
    rw [← hbt] at HBk ⊢
    have HBT := Lib.hid hbt
    obtain ⟨N, hNe⟩ : ∃ N, N = l.length + c := ⟨_, rfl⟩
    have hNc : (l.length : Int) + (c : Int) = (N : Int) := by omega
    rw [hNc]
    rw [← hNe] at HBk HN ⊢
    have HNE := Lib.hid hNe
    have hN2 : N ≤ 2000000 := by omega
    clear hbt hNc hNe
    go_loopw [11, 12, 49] (fun vw vs vk wr => ∃ k st : Nat, k ≤ c ∧ st ≤ l.length ∧ vk = .int .i64 (k : Int) ∧ vs = .int .i64 (st : Int) ∧ vw = .int .i64 ((escF (l.take st)).length : Int) ∧ Lib.countByte (l.take st) 0 = k ∧ Blk wr bt 5 (rowE (escF (l.take st)) N) ∧ Gr w wr) (fun _ _ vk _ => c - (intOf vk).toNat)
    case atStart => exact ⟨0, 0, Nat.zero_le _, Nat.zero_le _, rfl, rfl, rfl, rfl, HBk.out, HG1.out⟩
    case round =>
      clear HBk HG1
      obtain ⟨k, st, hk, hst, rfl, rfl, rfl, hct, hBk, hg⟩ := hrel
      have hsum : Lib.countByte (l.take st) 0 + Lib.countByte (l.drop st) 0 = c := by rw [← count_app, List.take_append_drop]; exact HCC.out.symm
      by_cases hkc : k < c
      · obtain ⟨pre, post, hsp, hpn⟩ := zero_split (l := l.drop st) (by omega)
        have hln : (l.drop st).length = l.length - st := List.length_drop
        have hln2 : l.length - st = pre.length + 1 + post.length := by rw [← hln, hsp]; simp; omega
        have htk : l.take (st + pre.length + 1) = l.take st ++ pre ++ [0] := by
          have h1 : l = l.take st ++ (pre ++ [0]) ++ post := by
            conv => lhs; rw [← List.take_append_drop st l, hsp]
            simp
          have h2 : (l.take st ++ (pre ++ [0])).length = st + pre.length + 1 := by simp; omega
          conv => lhs; rw [h1, ← h2, List.take_left]
          simp
        have hE2 : escF (l.take (st + pre.length + 1)) = escF (l.take st) ++ pre ++ [0, 255] := by
          rw [htk, escF_append, escF_append, escF_none hpn]; rfl
        have hct2 : Lib.countByte (l.take (st + pre.length + 1)) 0 = k + 1 := by
          rw [htk, count_app, count_app, count_none hpn, hct]; rfl
        have hlen2 : (escF (l.take st)).length + pre.length + 2 ≤ N := by
          have h1 := escF_count (l.take (st + pre.length + 1))
          rw [hE2, hct2, List.length_append, List.length_append] at h1
          have h2 : (l.take (st + pre.length + 1)).length ≤ l.length := List.length_take_le' _ _
          have h3 := HNE.out
          simp at h1
          rw [List.length_take] at h2
          omega
        have HIx := Lib.hid (fun (w' : World) (h : Gr w w') => by
          have := Index_one b (off + st) (cap - st) b2 o2 c2 (l.drop st) 0 w' ((HB.out.gr h).drop st) (h.cell HX.out)
          rw [hsp, index_split post hpn, ← hsp, hln] at this
          exact this)
        have hrowp : ∀ w', Gr w w' → Row w' (some ⟨b, off + st, none⟩) (bv pre) := fun w' h => by
          have h1 := ((HB.out.gr h).drop st).take pre.length
          rw [hsp, List.take_left] at h1
          exact h1.row
        have HRP := Lib.hid hrowp
        have HE2 := Lib.hid hE2; have HC2 := Lib.hid hct2
        obtain ⟨i, hi⟩ : ∃ i, i = pre.length := ⟨_, rfl⟩
        have HI := Lib.hid hi
        rw [← hi] at HIx hlen2 hln2 HE2 HC2
        have hln3 : st + i + 1 ≤ l.length := by omega
        clear hln2
        have hcne : ¬ cap = st := by omega
        generalize hEe : escF (l.take st) = E at *
        have HBk := Lib.hid hBk; have HG := Lib.hid hg
        clear hBk hg hct hsum hsp hln htk hE2 hct2 hrowp hi hEe
        have hNE : ¬ N = E.length := by omega
        have hNE2 : ¬ N = E.length + i := by omega
        go_wp2_with (first
          | (go_at_call 191; refine (HIx.out _ HG.out).mono ?_; rintro e w' ⟨rfl, rfl⟩))
        have HW15 := Lib.hid HBk.out.drew
        have e2 : IntKind.i64.wrap ((E.length : Int) + (i : Int)) = (E.length : Int) + (i : Int) := by rw [IntKind.wrap_i64]; omega
        refine region_store_once (some bt) (some (.cells (rowE E N).toArray 5 (0, 0))) (some (.cells (rowE (E ++ pre) N).toArray 5 (0, 0))) _ [Is (.int .i64 (E.length : Int)), Is (.slice (some ⟨bt, 0, none⟩) N N), Is (.int .i64 (E.length : Int)), Is (.slice (some ⟨bt, E.length, none⟩) (N - E.length) (N - E.length)), Is (.slice (some ⟨b, off, none⟩) l.length cap), Is (.int .i64 (st : Int)), Is (.int .i64 ((st : Int) + (i : Int))), Is (.slice (some ⟨b, off + st, none⟩) i (cap - st)), CopiedB (.int .i64 (i : Int)) (some bt) (some (.cells (rowE (E ++ pre) N).toArray 5 (0, 0))), Is (.int .i64 ((E.length : Int) + (i : Int))), Is (.int .i64 ((E.length : Int) + (i : Int)))] (by kernel_rfl) (by kernel_rfl) (by kernel_rfl) rfl rfl ⟨Is.stable _, Is.stable _, Is.stable _, Is.stable _, Is.stable _, Is.stable _, Is.stable _, Is.stable _, CopiedB.stable, Is.stable _, Is.stable _, trivial⟩ ⟨?s0, ?s1, ?s2, ?s3, ?s4, ?s5, ?s6, ?s7, ?s8, ?s9, ?s10, trivial⟩ ?fin
        case' s0 | s1 | s2 | s3 | s4 | s5 | s6 | s7 | s9 | s10 =>
          intro ρ wr hρ hg hK
          simp [readsOf, slotsOf, Op.operands, Call.operands, tmpOf, List.filterMap_cons, List.filterMap_nil, KnownAll, knownOf, srcOf, depsOf, dstOf, Region.binds, nth, Is] at hK
          obtain ⟨hc, hf, hgl⟩ := hρ
          try simp only [wantedBy, dstOf, boolOf, nth, List.getD_cons_zero, List.getD_cons_succ, List.getElem?_cons_zero, List.getElem?_cons_succ, Option.bind_some, if_true, hK, BEq.rfl]
          try go_simp
          first | exact rfl | (rw [if_pos (by omega)]; exact is_here rfl) | (rw [dif_pos (by omega)]; exact is_here rfl) | exact congrArg (Value.int _) (IntWalk.i64_in _ ⟨by omega, by omega⟩) | skip
        case' s8 =>
          intro ρ wr hρ hg hK
          simp [readsOf, slotsOf, Op.operands, Call.operands, tmpOf, List.filterMap_cons, List.filterMap_nil, KnownAll, knownOf, srcOf, depsOf, dstOf, Region.binds, nth, Is] at hK
          obtain ⟨hc, hf, hgl⟩ := hρ
          try simp only [wantedBy, dstOf, boolOf, nth, List.getD_cons_zero, List.getD_cons_succ, List.getElem?_cons_zero, List.getElem?_cons_succ, Option.bind_some, if_true, hK, BEq.rfl]
        case s8 =>
          obtain ⟨k0, k1⟩ := hK
          have hcs : wr.heap[bt]? = some (.cells (rowE E N).toArray 5 (0, 0)) ∨ wr.heap[bt]? = some (.cells (rowE (E ++ pre) N).toArray 5 (0, 0)) := by
            rcases hg.2 bt rfl with h | ⟨_, h⟩
            · exact .inl (Eq.trans h HBk.out)
            · exact .inr h
          have hrp : Row wr (some ⟨b, off + st, none⟩) (bv pre) := HRP.out _ (HG.out.grown hg.1 (fun k hk => by cases hk; rw [HBT.out]; exact Nat.le_refl _))
          obtain ⟨w9, r1, r2, r3⟩ := once_copy (dT := 31) (sT := 31) (ty := 3) elemB (xa := some ⟨bt, E.length, none⟩) (dl := N - E.length) (dc := N - E.length) (sc := cap - st) (fun _ => rfl) hcs hrp (by rw [← HI.out]; omega) (by rw [← HI.out]; omega)
          rw [← HI.out] at r1
          simp only [execOp, resolve, invoke, builtin, Sem.run_bind, Sem.run_pure, Result.andThen_ok, List.map_toArray, List.map_cons, List.map_nil, k0, k1]
          rw [r1]
          exact ⟨r2, rfl, fun g hg' => by cases hg'; exact r3⟩
        case s3 =>
          rw [if_pos (by omega)]
          exact ⟨Once.refl _, rfl⟩
        case s7 =>
          rw [if_pos ⟨by omega, by omega⟩, if_pos (by omega)]
          refine ⟨Once.refl _, ?_⟩
          rw [show ((st : Int) + (i : Int)).toNat - st = i by omega]
          exact rfl
        case s9 =>
          rw [hK.2.1]
          go_simp
          exact rfl
        case fin =>
          intro w1 val hg hH
          simp only [Holds, Is, Nat.zero_add, Nat.reduceAdd] at hH
          obtain ⟨h0, h1, h2, h3, h4, h5, h6, h7, h8, h9, h10, _⟩ := hH
          simp only [List.take_succ_cons, List.take_zero, List.drop_succ_cons, List.drop_zero, putAll, h0, h1, h2, h3, h4, h5, h6, h7, h9, h10, Nat.zero_add, Nat.reduceAdd]
          simp only [h8.1]
          have hb9 : Blk w1 bt 5 (rowE (E ++ pre) N) := h8.2 bt rfl
          have hG9 := HG.out.grown hg.1 (fun k hk => by cases hk; rw [HBT.out]; exact Nat.le_refl _)
          have HB9 := Lib.hid hb9; have HG9 := Lib.hid hG9
          clear hb9 hG9 h8 hg HBk HG HW15
          have hNE3 : ¬ N = E.length + i := by omega
          go_simp
          go_wp2_with (first
            | ((with_reducible show Go.wpList _ _ _ (Oper.mk _ (Op.call (Call.mk (Callee.builtin Builtin.copy) _ _)) _ _ _ _ :: _) _ _)
               go_must (refine wp_copy elemB rfl _ _ rfl rfl (fun _ => rfl) rfl HB9.out (HY.out.gr HG9.out).row (by rw [bv_length]; rfl) (by omega) (by rw [rowE_len (by rw [List.length_append, ← HI.out]; omega)]; omega) (bv_one _) ?_); intro w10 o10 k10)
            | fail)
          have HB10 := Lib.hid (show Blk w10 bt 5 (rowE (E ++ pre ++ [0, 255]) N) by
            have := rowE_step (E := E ++ pre) (x := [0, 255]) (N := N) (by rw [List.length_append, ← HI.out]; simp; omega)
            rw [List.length_append, ← HI.out] at this
            rw [← this]; exact o10)
          have HG10 := Lib.hid (HG9.out.grown k10 (fun k hk => by cases hk; rw [HBT.out]; exact Nat.le_refl _))
          clear o10 k10 HB9 HG9
          go_wp2
          go_roundw
          case rel => exact ⟨k + 1, st + i + 1, hkc, hln3, by go_num, by go_num, by rw [HE2.out, List.length_append, List.length_append, ← HI.out]; go_num, HC2.out, by rw [HE2.out]; exact HB10.out, HG10.out⟩
          case measure => simp [intOf]; omega
      · obtain rfl : k = c := by omega
        have hz : Lib.countByte (l.drop st) 0 = 0 := by omega
        have hE2 : escF l = escF (l.take st) ++ l.drop st := by
          conv => lhs; rw [← List.take_append_drop st l]
          rw [escF_append, escF_none (none_count hz)]
        have hln : (l.drop st).length = l.length - st := List.length_drop
        have hNl : (escF (l.take st)).length + (l.length - st) = N := by rw [← HN.out, hE2, List.length_append, hln]
        have hrx : ∀ w', Gr w w' → Row w' (some ⟨b, off + st, none⟩) (bv (l.drop st)) := fun w' h => ((HB.out.gr h).drop st).row
        have HRX := Lib.hid hrx
        have HE2 := Lib.hid hE2
        generalize hEe : escF (l.take st) = E at *
        have HBk := Lib.hid hBk; have HG := Lib.hid hg
        clear hBk hg hct hsum hz hE2 hrx hEe
        by_cases hs1 : st < l.length
        · have hNE : ¬ N = E.length := by omega
          have hcne : ¬ cap = st := by omega
          have hEN : E.length < N := by omega
          generalize hx9 : l.drop st = x at *
          obtain ⟨i, hi⟩ : ∃ i, i = x.length := ⟨_, rfl⟩
          have hi2 : i = l.length - st := by rw [hi, hln]
          have HI := Lib.hid hi; have HI2 := Lib.hid hi2
          have hiN : E.length + i ≤ N := by omega
          have e2 : IntKind.i64.wrap ((E.length : Int) + (i : Int)) = (E.length : Int) + (i : Int) := by rw [IntKind.wrap_i64]; omega
          clear hln hNl hx9 hi hi2
          go_wp2
          refine region_store_once (some bt) (some (.cells (rowE E N).toArray 5 (0, 0))) (some (.cells (rowE (E ++ x) N).toArray 5 (0, 0))) _ [Is (.int .i64 (E.length : Int)), Is (.slice (some ⟨bt, 0, none⟩) N N), Is (.int .i64 (E.length : Int)), Is (.slice (some ⟨bt, E.length, none⟩) (N - E.length) (N - E.length)), Is (.slice (some ⟨b, off, none⟩) l.length cap), Is (.int .i64 (st : Int)), Is (.slice (some ⟨b, off + st, none⟩) i (cap - st)), CopiedB (.int .i64 (i : Int)) (some bt) (some (.cells (rowE (E ++ x) N).toArray 5 (0, 0))), Is (.int .i64 ((E.length : Int) + (i : Int))), Is (.int .i64 ((E.length : Int) + (i : Int)))] (by kernel_rfl) (by kernel_rfl) (by kernel_rfl) rfl rfl ⟨Is.stable _, Is.stable _, Is.stable _, Is.stable _, Is.stable _, Is.stable _, Is.stable _, CopiedB.stable, Is.stable _, Is.stable _, trivial⟩ ⟨?s0x1, ?s1x1, ?s2x1, ?s3x1, ?s4x1, ?s5x1, ?s6x1, ?s7x1, ?s8x1, ?s9x1, trivial⟩ ?finx1
          case' s0x1 | s1x1 | s2x1 | s3x1 | s4x1 | s5x1 | s6x1 | s8x1 | s9x1 =>
            intro ρ wr hρ hg hK
            simp [readsOf, slotsOf, Op.operands, Call.operands, tmpOf, List.filterMap_cons, List.filterMap_nil, KnownAll, knownOf, srcOf, depsOf, dstOf, Region.binds, nth, Is] at hK
            obtain ⟨hc, hf, hgl⟩ := hρ
            try simp only [wantedBy, dstOf, boolOf, nth, List.getD_cons_zero, List.getD_cons_succ, List.getElem?_cons_zero, List.getElem?_cons_succ, Option.bind_some, if_true, hK, BEq.rfl]
            try go_simp
            first | exact rfl | (rw [if_pos (by omega)]; exact is_here rfl) | (rw [dif_pos (by omega)]; exact is_here rfl) | exact congrArg (Value.int _) (IntWalk.i64_in _ ⟨by omega, by omega⟩) | skip
          case' s7x1 =>
            intro ρ wr hρ hg hK
            simp [readsOf, slotsOf, Op.operands, Call.operands, tmpOf, List.filterMap_cons, List.filterMap_nil, KnownAll, knownOf, srcOf, depsOf, dstOf, Region.binds, nth, Is] at hK
            obtain ⟨hc, hf, hgl⟩ := hρ
            try simp only [wantedBy, dstOf, boolOf, nth, List.getD_cons_zero, List.getD_cons_succ, List.getElem?_cons_zero, List.getElem?_cons_succ, Option.bind_some, if_true, hK, BEq.rfl]
          case s7x1 =>
            obtain ⟨k0, k1⟩ := hK
            have hcs : wr.heap[bt]? = some (.cells (rowE E N).toArray 5 (0, 0)) ∨ wr.heap[bt]? = some (.cells (rowE (E ++ x) N).toArray 5 (0, 0)) := by
              rcases hg.2 bt rfl with h | ⟨_, h⟩
              · exact .inl (Eq.trans h HBk.out)
              · exact .inr h
            have hrp : Row wr (some ⟨b, off + st, none⟩) (bv x) := HRX.out _ (HG.out.grown hg.1 (fun k hk => by cases hk; rw [HBT.out]; exact Nat.le_refl _))
            obtain ⟨w9, r1, r2, r3⟩ := once_copy (dT := 31) (sT := 31) (ty := 3) elemB (xa := some ⟨bt, E.length, none⟩) (dl := N - E.length) (dc := N - E.length) (sc := cap - st) (fun _ => rfl) hcs hrp (by rw [← HI.out]; omega) (by rw [← HI.out]; omega)
            rw [← HI.out] at r1
            simp only [execOp, resolve, invoke, builtin, Sem.run_bind, Sem.run_pure, Result.andThen_ok, List.map_toArray, List.map_cons, List.map_nil, k0, k1]
            rw [r1]
            exact ⟨r2, rfl, fun g hg' => by cases hg'; exact r3⟩
          case s3x1 =>
            rw [if_pos (by omega)]
            exact ⟨Once.refl _, rfl⟩
          case s6x1 => rw [HI2.out]; exact rfl
          case s8x1 =>
            rw [hK.2.1]
            go_simp
            exact rfl
          case finx1 =>
            intro w1 val hg hH
            simp only [Holds, Is, Nat.zero_add, Nat.reduceAdd] at hH
            obtain ⟨h0, h1, h2, h3, h4, h5, h6, h7, h8, h9, _⟩ := hH
            simp only [List.take_succ_cons, List.take_zero, List.drop_succ_cons, List.drop_zero, putAll, h0, h1, h2, h3, h4, h5, h6, h8, h9, Nat.zero_add, Nat.reduceAdd]
            simp only [h7.1]
            have hb9 : Blk w1 bt 5 (rowE (E ++ x) N) := h7.2 bt rfl
            have hG9 := HG.out.grown hg.1 (fun k hk => by cases hk; rw [HBT.out]; exact Nat.le_refl _)
            have hNx : N = (E ++ x).length := by rw [← HE2.out]; exact HN.out.symm
            have hEiN : (E.length : Int) + (i : Int) = (N : Int) := by rw [hNx, List.length_append, ← HI.out]; omega
            rw [hEiN]
            have HNX := Lib.hid hNx
            have HB9 := Lib.hid hb9; have HG9 := Lib.hid hG9
            clear hb9 hG9 h7 hg HBk HG hNx hEiN
            go_simp
            go_wp2
            go_ret
            refine ⟨some ⟨bt, 0, none⟩, N, by rw [HN.out]; rfl, ?_, HG9.out⟩
            rw [HN.out, HE2.out]
            have h9 := HB9.out
            rw [HNX.out, rowE_all] at h9
            exact Owns.of_blk h9 (by rw [HBT.out]; exact Nat.le_refl _) (by rw [bv_length]; exact HNX.out.symm) (by unfold maxLen; omega)
        · obtain rfl : st = l.length := by omega
          have hEN : E.length = N := by omega
          have HNX := Lib.hid hEN
          have HE3 := Lib.hid (show escF l = E by rw [HE2.out, List.drop_length, List.append_nil])
          clear HE2
          have HE2 := HE3
          clear HE3 hln hNl HRX
          rw [hEN]
          clear hEN
          by_cases hcp : cap = l.length
          · subst hcp
            go_wp2
            refine region_store_once (some bt) (some (.cells (rowE E N).toArray 5 (0, 0))) (some (.cells (rowE E N).toArray 5 (0, 0))) _ [Is (.int .i64 (N : Int)), Is (.slice (some ⟨bt, 0, none⟩) N N), Is (.int .i64 (N : Int)), Is (.slice (some ⟨bt, 0, none⟩) 0 0), Is (.slice (some ⟨b, off, none⟩) l.length l.length), Is (.int .i64 (l.length : Int)), Is (.slice (some ⟨b, off, none⟩) 0 (l.length - l.length)), CopiedB (.int .i64 0) (some bt) (some (.cells (rowE E N).toArray 5 (0, 0))), Is (.int .i64 (N : Int)), Is (.int .i64 (N : Int))] (by kernel_rfl) (by kernel_rfl) (by kernel_rfl) rfl rfl ⟨Is.stable _, Is.stable _, Is.stable _, Is.stable _, Is.stable _, Is.stable _, Is.stable _, CopiedB.stable, Is.stable _, Is.stable _, trivial⟩ ⟨?s0x2, ?s1x2, ?s2x2, ?s3x2, ?s4x2, ?s5x2, ?s6x2, ?s7x2, ?s8x2, ?s9x2, trivial⟩ ?finx2
            case' s0x2 | s1x2 | s2x2 | s3x2 | s4x2 | s5x2 | s6x2 | s8x2 | s9x2 =>
              intro ρ wr hρ hg hK
              simp [readsOf, slotsOf, Op.operands, Call.operands, tmpOf, List.filterMap_cons, List.filterMap_nil, KnownAll, knownOf, srcOf, depsOf, dstOf, Region.binds, nth, Is] at hK
              obtain ⟨hc, hf, hgl⟩ := hρ
              try simp only [wantedBy, dstOf, boolOf, nth, List.getD_cons_zero, List.getD_cons_succ, List.getElem?_cons_zero, List.getElem?_cons_succ, Option.bind_some, if_true, hK, BEq.rfl]
              try go_simp
              first | exact rfl | (rw [if_pos (by omega)]; exact is_here rfl) | (rw [dif_pos (by omega)]; exact is_here rfl) | exact congrArg (Value.int _) (IntWalk.i64_in _ ⟨by omega, by omega⟩) | skip
            case' s7x2 =>
              intro ρ wr hρ hg hK
              simp [readsOf, slotsOf, Op.operands, Call.operands, tmpOf, List.filterMap_cons, List.filterMap_nil, KnownAll, knownOf, srcOf, depsOf, dstOf, Region.binds, nth, Is] at hK
              obtain ⟨hc, hf, hgl⟩ := hρ
              try simp only [wantedBy, dstOf, boolOf, nth, List.getD_cons_zero, List.getD_cons_succ, List.getElem?_cons_zero, List.getElem?_cons_succ, Option.bind_some, if_true, hK, BEq.rfl]
            case s7x2 =>
              obtain ⟨k0, k1⟩ := hK
              have hcs : wr.heap[bt]? = some (.cells (rowE E N).toArray 5 (0, 0)) := by
                rcases hg.2 bt rfl with h | ⟨_, h⟩
                · exact Eq.trans h HBk.out
                · exact h
              have hr := run_copy_none (P := Tryz.prog) wr 31 31 3 5 (some ⟨bt, 0, none⟩) (some ⟨b, off, none⟩) 0 0 0 0 Tryz.underlying31 (by kernel_rfl) rfl
              simp only [execOp, resolve, invoke, builtin, Sem.run_bind, Sem.run_pure, Result.andThen_ok, List.map_toArray, List.map_cons, List.map_nil, k0, k1]
              rw [hr]
              exact ⟨Once.refl _, rfl, fun g hg' => by cases hg'; exact hcs⟩
            case s8x2 =>
              rw [hK.2.1]
              go_simp
              exact congrArg (Value.int _) (by rw [IntKind.wrap_i64]; omega)
            case finx2 =>
              intro w1 val hg hH
              simp only [Holds, Is, Nat.zero_add, Nat.reduceAdd] at hH
              obtain ⟨h0, h1, h2, h3, h4, h5, h6, h7, h8, h9, _⟩ := hH
              simp only [List.take_succ_cons, List.take_zero, List.drop_succ_cons, List.drop_zero, putAll, h0, h1, h2, h3, h4, h5, h6, h8, h9, Nat.zero_add, Nat.reduceAdd]
              simp only [h7.1]
              have hb9 : Blk w1 bt 5 (rowE E N) := h7.2 bt rfl
              have hG9 := HG.out.grown hg.1 (fun k hk => by cases hk; rw [HBT.out]; exact Nat.le_refl _)
              have HB9 := Lib.hid hb9; have HG9 := Lib.hid hG9
              clear hb9 hG9 h7 hg HBk HG
              go_simp
              go_wp2
              go_ret
              refine ⟨some ⟨bt, 0, none⟩, N, by rw [HN.out]; rfl, ?_, HG9.out⟩
              rw [HN.out, HE2.out]
              have h9 := HB9.out
              rw [← HNX.out, rowE_all] at h9
              exact Owns.of_blk h9 (by rw [HBT.out]; exact Nat.le_refl _) (by rw [bv_length]; exact HNX.out) (by unfold maxLen; omega)
          · go_wp2
            refine region_store_once (some bt) (some (.cells (rowE E N).toArray 5 (0, 0))) (some (.cells (rowE E N).toArray 5 (0, 0))) _ [Is (.int .i64 (N : Int)), Is (.slice (some ⟨bt, 0, none⟩) N N), Is (.int .i64 (N : Int)), Is (.slice (some ⟨bt, 0, none⟩) 0 0), Is (.slice (some ⟨b, off, none⟩) l.length cap), Is (.int .i64 (l.length : Int)), Is (.slice (some ⟨b, off + l.length, none⟩) 0 (cap - l.length)), CopiedB (.int .i64 0) (some bt) (some (.cells (rowE E N).toArray 5 (0, 0))), Is (.int .i64 (N : Int)), Is (.int .i64 (N : Int))] (by kernel_rfl) (by kernel_rfl) (by kernel_rfl) rfl rfl ⟨Is.stable _, Is.stable _, Is.stable _, Is.stable _, Is.stable _, Is.stable _, Is.stable _, CopiedB.stable, Is.stable _, Is.stable _, trivial⟩ ⟨?s0x3, ?s1x3, ?s2x3, ?s3x3, ?s4x3, ?s5x3, ?s6x3, ?s7x3, ?s8x3, ?s9x3, trivial⟩ ?finx3
            case' s0x3 | s1x3 | s2x3 | s3x3 | s4x3 | s5x3 | s6x3 | s8x3 | s9x3 =>
              intro ρ wr hρ hg hK
              simp [readsOf, slotsOf, Op.operands, Call.operands, tmpOf, List.filterMap_cons, List.filterMap_nil, KnownAll, knownOf, srcOf, depsOf, dstOf, Region.binds, nth, Is] at hK
              obtain ⟨hc, hf, hgl⟩ := hρ
              try simp only [wantedBy, dstOf, boolOf, nth, List.getD_cons_zero, List.getD_cons_succ, List.getElem?_cons_zero, List.getElem?_cons_succ, Option.bind_some, if_true, hK, BEq.rfl]
              try go_simp
              first | exact rfl | (rw [if_pos (by omega)]; exact is_here rfl) | (rw [dif_pos (by omega)]; exact is_here rfl) | exact congrArg (Value.int _) (IntWalk.i64_in _ ⟨by omega, by omega⟩) | skip
            case' s7x3 =>
              intro ρ wr hρ hg hK
              simp [readsOf, slotsOf, Op.operands, Call.operands, tmpOf, List.filterMap_cons, List.filterMap_nil, KnownAll, knownOf, srcOf, depsOf, dstOf, Region.binds, nth, Is] at hK
              obtain ⟨hc, hf, hgl⟩ := hρ
              try simp only [wantedBy, dstOf, boolOf, nth, List.getD_cons_zero, List.getD_cons_succ, List.getElem?_cons_zero, List.getElem?_cons_succ, Option.bind_some, if_true, hK, BEq.rfl]
            case s7x3 =>
              obtain ⟨k0, k1⟩ := hK
              have hcs : wr.heap[bt]? = some (.cells (rowE E N).toArray 5 (0, 0)) := by
                rcases hg.2 bt rfl with h | ⟨_, h⟩
                · exact Eq.trans h HBk.out
                · exact h
              have hr := run_copy_none (P := Tryz.prog) wr 31 31 3 5 (some ⟨bt, 0, none⟩) (some ⟨b, off + l.length, none⟩) 0 0 0 (cap - l.length) Tryz.underlying31 (by kernel_rfl) rfl
              simp only [execOp, resolve, invoke, builtin, Sem.run_bind, Sem.run_pure, Result.andThen_ok, List.map_toArray, List.map_cons, List.map_nil, k0, k1]
              rw [hr]
              exact ⟨Once.refl _, rfl, fun g hg' => by cases hg'; exact hcs⟩
            case s8x3 =>
              rw [hK.2.1]
              go_simp
              exact congrArg (Value.int _) (by rw [IntKind.wrap_i64]; omega)
            case finx3 =>
              intro w1 val hg hH
              simp only [Holds, Is, Nat.zero_add, Nat.reduceAdd] at hH
              obtain ⟨h0, h1, h2, h3, h4, h5, h6, h7, h8, h9, _⟩ := hH
              simp only [List.take_succ_cons, List.take_zero, List.drop_succ_cons, List.drop_zero, putAll, h0, h1, h2, h3, h4, h5, h6, h8, h9, Nat.zero_add, Nat.reduceAdd]
              simp only [h7.1]
              have hb9 : Blk w1 bt 5 (rowE E N) := h7.2 bt rfl
              have hG9 := HG.out.grown hg.1 (fun k hk => by cases hk; rw [HBT.out]; exact Nat.le_refl _)
              have HB9 := Lib.hid hb9; have HG9 := Lib.hid hG9
              clear hb9 hG9 h7 hg HBk HG
              go_simp
              go_wp2
              go_ret
              refine ⟨some ⟨bt, 0, none⟩, N, by rw [HN.out]; rfl, ?_, HG9.out⟩
              rw [HN.out, HE2.out]
              have h9 := HB9.out
              rw [← HNX.out, rowE_all] at h9
              exact Owns.of_blk h9 (by rw [HBT.out]; exact Nat.le_refl _) (by rw [bv_length]; exact HNX.out) (by unfold maxLen; omega)
end Go.Proofs.YtpaogoehgkoaeaaGreatDoor
/- Layer 5 (ikey): the order of versions, in the program and in the reference. -/
namespace Go.Proofs.YtpaogoehgkoaeaaGreatDoor
set_option linter.unusedVariables false
set_option linter.unusedSimpArgs false
open Go.RowKit Ikey Varint
open Go.Op (bytesLess)
theorem cmp_spec : ∀ a b : List UInt8, Lib.compareBytes a b = if a = b then 0 else if bytesLess a b = true then -1 else 1
  | [], [] => rfl
  | [], _ :: _ => by simp [Lib.compareBytes, bytesLess]
  | _ :: _, [] => by simp [Lib.compareBytes, bytesLess]
  | x :: a, y :: b => by
    have ih := cmp_spec a b
    unfold Lib.compareBytes
    by_cases h1 : x < y
    · have h2 : x ≠ y := fun e => by subst e; exact UInt8.lt_irrefl _ h1
      have h3 : bytesLess (x :: a) (y :: b) = true := (bl_cons x y a b).2 (.inl (UInt8.lt_iff_toNat_lt.1 h1))
      rw [if_pos h1, if_neg (fun e => h2 (List.cons.inj e).1), if_pos h3]
    · by_cases h2 : y < x
      · have h4 : x ≠ y := fun e => by subst e; exact UInt8.lt_irrefl _ h2
        have h3 : ¬ bytesLess (x :: a) (y :: b) = true := fun h => by
          rcases (bl_cons x y a b).1 h with h5 | ⟨h5, _⟩
          · exact h1 (UInt8.lt_iff_toNat_lt.2 h5)
          · exact h4 h5
        rw [if_neg h1, if_pos h2, if_neg (fun e => h4 (List.cons.inj e).1), if_neg h3]
      · have h4 : x = y := UInt8.le_antisymm (UInt8.not_lt.1 h2) (UInt8.not_lt.1 h1)
        subst h4
        have h3 : bytesLess (x :: a) (x :: b) = bytesLess a b := bl_append [x] a b
        rw [if_neg h1, if_neg h2, ih, h3]
        by_cases e : a = b
        · rw [if_pos e, if_pos (by rw [e])]
        · rw [if_neg e, if_neg (fun h => e (List.cons.inj h).2)]
set_option maxRecDepth 100000 in
theorem CompareString_any (a b : List UInt8) (w : World) :
    Calls Tryz.prog 166 #[.string (str a), .string (str b)] w fun e w' => e = .returned (.int .i64 (Lib.compareBytes a b)) ∧ w = w' := by
  have h := Lib.run_compareString (P := Tryz.prog) (str a) (str b) w
  rw [str_list, str_list] at h
  go_enter Tryz.func166, Tryz.ntmps166
  go_wp2
  rw [run_callFunc_extern Tryz.func184 (by kernel_rfl) (by kernel_rfl) (by kernel_rfl) (e := Extern.BytealgCompare.compare) (by kernel_rfl), h]
  simp only [Result.andThen]
  rw [Oper.upon_value]
  go_wp2
  go_ret
  exact ⟨rfl, rfl⟩
theorem Compare_any (a b : List UInt8) (w : World) :
    Calls Tryz.prog 127 #[.string (str a), .string (str b)] w fun e w' => e = .returned (.int .i64 (Lib.compareBytes a b)) ∧ w = w' := by
  go_enter Tryz.func127, Tryz.ntmps127
  go_wp2_with (go_at_call 166; refine (CompareString_any a b _).mono ?_; rintro e w' ⟨rfl, rfl⟩)
  go_ret
  exact ⟨rfl, rfl⟩
set_option maxRecDepth 100000 in
set_option maxHeartbeats 1000000 in
theorem Less_any (k k' : List UInt8) (s d s' d' : Int) (w : World) :
    Calls Tryz.prog 83 #[ver k s d, ver k' s' d'] w fun e w' => e = .returned (.bool (lessF k s d k' s' d')) ∧ Gr w w' := by
  have HC := Lib.hid (fun w => Compare_any k k' w)
  have hg : Gr w ((w.alloc (.cells #[.string (str k), .int .i64 s, .int .i64 d] 40)).alloc (.cells #[.string (str k'), .int .i64 s', .int .i64 d'] 40)) := (Gr.alloc _ _).trans (Gr.alloc _ _)
  unfold ver
  by_cases hk : k = k'
  · rw [show Lib.compareBytes k k' = 0 by rw [cmp_spec, if_pos hk]] at HC
    by_cases h1 : s' < s
    · have HL := Lib.hid (show lessF k s d k' s' d' = true by unfold lessF; rw [if_neg (by simp [hk]), if_pos (by omega)]; simpa using h1)
      clear hk
      go_enter Tryz.func83, Tryz.ntmps83
      go_wp2_with (go_at_call 127; refine (HC.out _).mono ?_; rintro e w' ⟨rfl, rfl⟩)
      go_ret
      exact ⟨by rw [HL.out]; rfl, hg⟩
    · have b1 : decide (s' < s) = false := by simpa using h1
      by_cases h2 : s = s'
      · subst h2
        by_cases h3 : d' < d
        · have HL := Lib.hid (show lessF k s d k' s d' = true by unfold lessF; rw [if_neg (by simp [hk]), if_neg (by simp)]; simpa using h3)
          clear hk
          go_enter Tryz.func83, Tryz.ntmps83
          go_wp2_with (go_at_call 127; refine (HC.out _).mono ?_; rintro e w' ⟨rfl, rfl⟩)
          go_ret
          exact ⟨by rw [HL.out]; rfl, hg⟩
        · have b3 : decide (d' < d) = false := by simpa using h3
          have HL := Lib.hid (show lessF k s d k' s d' = false by unfold lessF; rw [if_neg (by simp [hk]), if_neg (by simp)]; exact b3)
          clear hk
          go_enter Tryz.func83, Tryz.ntmps83
          go_wp2_with (go_at_call 127; refine (HC.out _).mono ?_; rintro e w' ⟨rfl, rfl⟩)
          go_ret
          exact ⟨by rw [HL.out]; rfl, hg⟩
      · have b2 : (s == s') = false := by rw [beq_eq_false_iff_ne]; exact h2
        have HL := Lib.hid (show lessF k s d k' s' d' = false by unfold lessF; rw [if_neg (by simp [hk]), if_pos h2]; exact b1)
        clear hk h2
        go_enter Tryz.func83, Tryz.ntmps83
        go_wp2_with (go_at_call 127; refine (HC.out _).mono ?_; rintro e w' ⟨rfl, rfl⟩)
        go_ret
        exact ⟨by rw [HL.out]; rfl, hg⟩
  · cases hb : bytesLess k k' with
    | true =>
      rw [show Lib.compareBytes k k' = -1 by rw [cmp_spec, if_neg hk, if_pos hb]] at HC
      have HL := Lib.hid (show lessF k s d k' s' d' = true by unfold lessF; rw [if_pos hk]; exact hb)
      clear hk hb
      go_enter Tryz.func83, Tryz.ntmps83
      go_wp2_with (go_at_call 127; refine (HC.out _).mono ?_; rintro e w' ⟨rfl, rfl⟩)
      go_ret
      exact ⟨by rw [HL.out]; rfl, hg⟩
    | false =>
      rw [show Lib.compareBytes k k' = 1 by rw [cmp_spec, if_neg hk, if_neg (by rw [hb]; decide)]] at HC
      have HL := Lib.hid (show lessF k s d k' s' d' = false by unfold lessF; rw [if_pos hk]; exact hb)
      clear hk hb
      go_enter Tryz.func83, Tryz.ntmps83
      go_wp2_with (go_at_call 127; refine (HC.out _).mono ?_; rintro e w' ⟨rfl, rfl⟩)
      go_ret
      exact ⟨by rw [HL.out]; rfl, hg⟩
set_option maxRecDepth 100000 in
set_option maxHeartbeats 1000000 in
theorem rLess_any (k k' : List UInt8) (s d s' d' : Int) (w : World) :
    Calls Tryz.prog 36 #[ver k s d, ver k' s' d'] w fun e w' => e = .returned (.bool (lessF k s d k' s' d')) ∧ Gr w w' := by
  have hg : Gr w ((w.alloc (.cells #[.string (str k), .int .i64 s, .int .i64 d] 40)).alloc (.cells #[.string (str k'), .int .i64 s', .int .i64 d'] 40)) := (Gr.alloc _ _).trans (Gr.alloc _ _)
  unfold ver
  by_cases hk : k = k'
  · subst hk
    by_cases h2 : s = s'
    · subst h2
      have HL := Lib.hid (show lessF k s d k s d' = decide (d' < d) by unfold lessF; rw [if_neg (by simp), if_neg (by simp)])
      go_enter Tryz.func36, Tryz.ntmps36
      go_wp2
      go_ret
      exact ⟨by rw [HL.out]; rfl, hg⟩
    · have b2 : (s != s') = true := by rw [bne_iff_ne]; exact h2
      have HL := Lib.hid (show lessF k s d k s' d' = decide (s' < s) by unfold lessF; rw [if_neg (by simp), if_pos h2])
      clear h2
      go_enter Tryz.func36, Tryz.ntmps36
      go_wp2
      go_ret
      exact ⟨by rw [HL.out]; rfl, hg⟩
  · have HL := Lib.hid (show lessF k s d k' s' d' = bytesLess k k' by unfold lessF; rw [if_pos hk])
    have b1 : (k == k') = false := by rw [beq_eq_false_iff_ne]; exact hk
    have b2 : (k != k') = true := by rw [bne_iff_ne]; exact hk
    clear hk
    go_enter Tryz.func36, Tryz.ntmps36
    go_wp2
    go_ret
    exact ⟨by rw [HL.out]; rfl, hg⟩
end Go.Proofs.YtpaogoehgkoaeaaGreatDoor
/- Layer 5 (ikey): Sortable and Unsort of the program. -/
namespace Go.Proofs.YtpaogoehgkoaeaaGreatDoor
set_option linter.unusedVariables false
set_option linter.unusedSimpArgs false
open Go.RowKit Ikey Varint
theorem bytes_new (w : World) (C : Array Value) (e : TypeId) (l : List UInt8) (h : C.toList = bv l) (gb : Nat) (hg : gb = w.heap.size) : Bytes (w.alloc (.cells C e)) (some ⟨gb, 0, none⟩) l := by
  subst hg; exact Bytes.alloc w C e (0, 0) l h
theorem ReplaceAll_zero (b off cap b2 o2 c2 b3 o3 c3 : Nat) (l : List UInt8) (w : World) (hl : l.length ≤ 1000000) (hl1 : 1 ≤ l.length) (hlc : l.length ≤ cap) (hb : Bytes w (some ⟨b, off, none⟩) l) (hx : w.cell? ⟨b2, o2, none⟩ = some (.int .u8 0)) (hy : Bytes w (some ⟨b3, o3, none⟩) [0, 255]) :
    Calls Tryz.prog 170 #[.slice (some ⟨b, off, none⟩) l.length cap, .slice (some ⟨b2, o2, none⟩) 1 c2, .slice (some ⟨b3, o3, none⟩) 2 c3] w (RetB 5 w (escF l)) := by
  have HC := Lib.hid (Replace_zero b off cap b2 o2 c2 b3 o3 c3 l w hl hl1 hlc hb hx hy)
  clear hb hx hy
  go_enter Tryz.func170, Tryz.ntmps170
  go_wp2_with (go_at_call 186; refine HC.out.mono ?_; rintro e w' ⟨ad, cp, rfl, o1, g1⟩)
  go_ret
  exact ⟨ad, cp, rfl, o1, g1⟩
set_option maxRecDepth 100000 in
set_option maxHeartbeats 1000000 in
theorem Sortable_no (k : List UInt8) (s d : Int) (w : World) (h : okV k s d = false) :
    Calls Tryz.prog 134 #[ver k s d] w (RetBI 5 w [] 1) := by
  have HC := Lib.hid (fun w => Check_any k s d w)
  rw [chk_no h] at HC
  unfold ver at HC ⊢
  go_enter Tryz.func134, Tryz.ntmps134
  go_wp2_with (go_at_call 87; refine (HC.out _).mono ?_; rintro e w1 ⟨rfl, g1⟩; obtain ⟨c0, c1, c2⟩ := g1.box3)
  go_ret2
  exact ⟨none, 0, rfl, Owns.empty _ _ _ _, (Gr.alloc _ _).trans g1⟩
theorem u64_not (x : Nat) (h : x < 18446744073709551616) : bits .xor .u64 IntKind.u64.max (x : Int) = ((18446744073709551615 - x : Nat) : Int) := by
  rw [← u64_xor_ones x h]
  show IntKind.u64.wrap ((BitVec.ofInt 64 IntKind.u64.max ^^^ BitVec.ofInt 64 (x : Int)).toNat : Int) = IntKind.u64.wrap ((BitVec.ofInt 64 (x : Int) ^^^ BitVec.ofInt 64 18446744073709551615).toNat : Int)
  rw [BitVec.xor_comm]
  rfl
/-- two bytes, laid in a block of their own -/
theorem Src.two {P : Program} {u e e' : TypeId} (w : World) (X Y : Int) (x y : UInt8) (hX : X = (x.toNat : Int)) (hY : Y = (y.toNat : Int)) (hu : P.underlying u = some (.slice e')) :
    Src P u (w.alloc (.cells #[.int .u8 X, .int .u8 Y] e)) 1 (.slice (some ⟨w.heap.size, 0, none⟩) 2 2) 2 (bv [x, y]) := by
  subst hX hY
  exact Src.bytes (Bytes.alloc w _ e (0, 0) [x, y] rfl) rfl hu
set_option maxRecDepth 100000 in
set_option maxHeartbeats 4000000 in
theorem Sortable_yes (k : List UInt8) (s d : Nat) (w : World) (h : okV k s d = true) :
    Calls Tryz.prog 134 #[ver k s d] w (RetBI 5 w (sortF k s d) 0) := by
  obtain ⟨hk0, hk, _, hs, hd⟩ := okV_of h
  obtain ⟨hs', hd', hT⟩ := okV_trail h
  have hkm : k.length ≤ maxLen := by unfold maxLen; omega
  have hk1 : 1 ≤ k.length := by cases k with | nil => exact absurd rfl hk0 | cons => simp
  have HC := Lib.hid (fun w => Check_any k s d w)
  rw [chk_yes h] at HC
  have HT := Lib.hid (fun w => trailer_any k s d w hs' hd')
  unfold ver at HC HT ⊢
  have hel := escF_len k
  have HE := Lib.hid (show sortF k s d = escF k ++ [0, 0] ++ topF 8 (18446744073709551615 - trailF s d) 8 by rw [tailF_top hT]; simp [sortF])
  generalize trailF s d = T at *
  generalize hEe : escF k = E at *
  have HEe := Lib.hid hEe
  have m1 : E.length + 2 ≤ maxLen := by unfold maxLen; omega
  have m2 : (E.length + 2) * 1 ≤ 140737488355328 := by omega
  clear hEe h hk0 hs hd hs' hd'
  go_enter Tryz.func134, Tryz.ntmps134
  go_wp2_with (first
    | (go_at_call 87; refine (HC.out _).mono ?_; rintro e w1 ⟨rfl, g1⟩; obtain ⟨c0, c1, c2⟩ := g1.box3; obtain ⟨cap, w2, hrun, ho, hg, hsz⟩ := bytes_str Tryz.underlying9 Tryz.underlying31 Tryz.underlying5 w1 k hkm; have d0 := hg.cell c0; have d1 := hg.cell c1; have d2 := hg.cell c2; clear hsz)
    | (go_at_call 170
       have G2 : Gr w2 ((w2.alloc (.cells #[.int .u8 0] 5)).alloc (.cells #[.int .u8 0, .int .u8 255] 5)) := (Gr.alloc _ _).trans (Gr.alloc _ _)
       go_must (have HRA := ReplaceAll_zero w1.heap.size 0 cap w2.heap.size 0 1 (w2.heap.size + 1) 0 2 k _ (by omega) hk1 ho.2.1 (ho.bytes.gr G2) ((Blk.new w2 5 #[.int .u8 0]).gr (Gr.alloc _ _) |>.cell rfl) (bytes_new (w2.alloc (.cells #[.int .u8 0] 5)) #[.int .u8 0, .int .u8 255] 5 [0, 255] rfl (w2.heap.size + 1) (by simp)))
       rw [HEe.out] at HRA
       go_must (refine HRA.mono ?_)
       clear HRA
       rintro e w3 ⟨ad3, cp3, rfl, o3, g3⟩
       have GG : Gr (w.alloc (.cells #[.string (str k), .int .i64 s, .int .i64 d] 40)) w3 := (g1.trans hg).trans (G2.trans g3)
       have hz3 : (w.alloc (.cells #[.string (str k), .int .i64 s, .int .i64 d] 40)).heap.size ≤ ((w2.alloc (.cells #[.int .u8 0] 5)).alloc (.cells #[.int .u8 0, .int .u8 255] 5)).heap.size := ((g1.trans hg).trans G2).size
       have o3' := o3.base hz3
       clear d0 d1 d2 c0 c1 c2 hrun)
    | (at_builtin; go_must (have hbs : (w.alloc (.cells #[.string (str k), .int .i64 s, .int .i64 d] 40)).heap.size ≤ (w3.alloc (.cells #[.int .u8 0, .int .u8 0] 5)).heap.size := (Nat.le_trans GG.size (Gr.alloc _ _).size)); go_must (refine wp_append elemB rfl _ _ rfl rfl (o3'.gr (Gr.alloc _ _)) rfl (Src.two _ _ _ 0 0 rfl rfl Tryz.underlying31) m1 m2 hbs ?_); intro ad4 cp4 w4 o4 k4 f4
       have GG4 := GG.app o3' (Nat.le_refl _) k4
       obtain ⟨e0, e1, e2⟩ := GG4.box3)
    | (go_at_call 110; go_must (refine (HT.out _).mono ?_); rintro e w5 ⟨rfl, g5⟩)
    | fail)
  obtain ⟨N, hN⟩ : ∃ N, N = 18446744073709551615 - T := ⟨_, rfl⟩
  have hN2 : N < 18446744073709551616 := by omega
  rw [u64_not T hT, ← hN]
  rw [← hN] at HE
  have G5 : Gr w w5 := ((Gr.alloc _ _).trans GG4).trans g5
  have o5 : Owns w5 w.heap.size 5 1 ad4 cp4 (E.length + 2) (bv (E ++ [0, 0] ++ topF 8 N 0)) := by
    rw [show topF 8 N 0 = [] from rfl, List.append_nil, bv_append]
    exact (o4.gr g5).base (Gr.alloc w _).size
  have HO5 := Lib.hid o5; have HG5 := Lib.hid G5
  clear hN o5 G5 o4 k4 f4 GG4 GG o3' o3 g1 hg g3 g5 ho G2 hz3 e0 e1 e2
  go_loopw [5, 7] (fun v i wr => ∃ (m : Nat) (ad : Option Addr) (cap' : Nat), m ≤ 8 ∧ i = .int .i64 (8 * (m : Int) - 8) ∧ v = .slice ad (E.length + 2 + (8 - m)) cap' ∧ Owns wr w.heap.size 5 1 ad cap' (E.length + 2 + (8 - m)) (bv (E ++ [0, 0] ++ topF 8 N (8 - m))) ∧ Gr w wr) (fun _ i _ => (intOf i + 8).toNat)
  case atStart => exact ⟨8, ad4, cp4, Nat.le_refl _, rfl, rfl, HO5.out, HG5.out⟩
  case round =>
    clear HO5 HG5
    obtain ⟨m, ad, cap', hm, rfl, rfl, ho, hg⟩ := hrel
    by_cases h1 : 1 ≤ m
    · obtain ⟨q, rfl⟩ : ∃ q, m = q + 1 := ⟨m - 1, by omega⟩
      have eq1 : 8 * ((q + 1 : Nat) : Int) - 8 = ((8 * q : Nat) : Int) := by omega
      rw [eq1]
      have HX := Lib.hid (show ((N : Int) / 2 ^ (8 * q)) % 256 = ((UInt8.ofNat (N / 256 ^ q)).toNat : Int) by
        have : (N : Int) / 2 ^ (8 * q) = ((N / 256 ^ q : Nat) : Int) := by rw [pow256]; simp
        rw [this, UInt8.toNat_ofNat']; omega)
      have hlen : E.length + 2 + (8 - (q + 1)) + 1 = E.length + 2 + (8 - q) := by omega
      have htop : topF 8 N (8 - q) = topF 8 N (8 - (q + 1)) ++ [UInt8.ofNat (N / 256 ^ q)] := by
        rw [show 8 - q = (8 - (q + 1)) + 1 by omega, topF_step, show 8 - 1 - (8 - (q + 1)) = q by omega]
      have HT2 := Lib.hid htop
      have m3 : E.length + 2 + (8 - (q + 1)) + 1 ≤ maxLen := by unfold maxLen; omega
      have m4 : (E.length + 2 + (8 - (q + 1)) + 1) * 1 ≤ 140737488355328 := by omega
      obtain ⟨nn, hnn⟩ : ∃ nn, nn = E.length + 2 + (8 - (q + 1)) := ⟨_, rfl⟩
      rw [← hnn] at ho hlen m3 m4 ⊢
      have hq0 : (0 : Int) ≤ ((8 * q : Nat) : Int) := by omega
      have hq1 : 8 * q < 64 := by omega
      have HL2 := Lib.hid hlen
      clear hnn htop hlen eq1
      have hbs : w.heap.size ≤ (wr.alloc (.cells #[.int .u8 ((N : Int) / 2 ^ (8 * q) % 256)] 5)).heap.size := Nat.le_trans hg.size (Gr.alloc _ _).size
      go_wp2_with (at_builtin; go_must (refine wp_append elemB rfl _ _ rfl rfl (ho.gr (Gr.alloc _ _)) rfl (Src.one _ _ (UInt8.ofNat (N / 256 ^ q)) HX.out Tryz.underlying31) m3 m4 hbs ?_); intro ad2 cap2 w4 o4 k4 f4)
      have o4' := o4
      rw [← bv_append, List.append_assoc, ← HT2.out, HL2.out] at o4'
      have HO4 := Lib.hid o4'
      have HG4 := Lib.hid (hg.app ho (Nat.le_refl _) k4)
      clear o4 o4' k4 f4 ho hg
      rw [HL2.out]
      go_roundw
      case rel => exact ⟨q, ad2, cap2, by omega, by go_num, rfl, HO4.out, HG4.out⟩
      case measure => simp [intOf]; omega
    · obtain rfl : m = 0 := by omega
      have hfin : bv (E ++ [0, 0] ++ topF 8 N (8 - 0)) = bv (sortF k s d) := by rw [HE.out]
      have hlf : E.length + 2 + (8 - 0) = (sortF k s d).length := by rw [HE.out, List.length_append, List.length_append, topF_len]; rfl
      rw [hfin, hlf] at ho
      rw [hlf]
      have HO := Lib.hid ho; have HG := Lib.hid hg
      clear ho hg hfin hlf
      go_wp2
      go_ret2
      exact ⟨ad, cap', rfl, HO.out, HG.out⟩
theorem unsF_at {l : List UInt8} {at_ : Nat} (h : l.length = at_ + 10) : unsF l = if l.getD at_ 0 = 0 ∧ l.getD (at_ + 1) 0 = 0 then (match unesc (l.take at_) with | none => none | some k => ofF k (18446744073709551615 - beV (l.drop (at_ + 2)))) else none := by
  unfold unsF
  rw [if_neg (by omega), show l.length - 10 = at_ by omega] <;> rfl
set_option maxRecDepth 100000 in
set_option maxHeartbeats 4000000 in
theorem Unsort_any (b off cap : Nat) (l : List UInt8) (w : World) (hlc : l.length ≤ cap) (hm : l.length ≤ 140737488351232) (hb : Bytes w (some ⟨b, off, none⟩) l) :
    Calls Tryz.prog 104 #[.slice (some ⟨b, off, none⟩) l.length cap] w fun e w' => e = .returned (outV (unsF l)) ∧ Gr w w' := by
  by_cases h10 : l.length < 10
  · have HD := Lib.hid (show unsF l = none by unfold unsF; rw [if_pos h10])
    have h10' : (l.length : Int) - 10 < 0 := by omega
    clear hb
    go_enter Tryz.func104, Tryz.ntmps104
    go_wp2
    refine bodyPost_ret (v := outV none) (by simp [results, Tryz.results104, go_sem, outV, ver]; rfl) rfl ⟨by rw [HD.out], ?_⟩
    exact Gr.alloc _ _
  · obtain ⟨at_, hat⟩ : ∃ at_, l.length = at_ + 10 := ⟨l.length - 10, by omega⟩
    have HU := Lib.hid (unsF_at hat)
    have hb1 := hb.gr (Gr.alloc w (.cells #[.string ⟨#[]⟩, .int .i64 0, .int .i64 0] 40))
    obtain ⟨_, _, e0, z0⟩ := hb1 at_ (by omega)
    cases e0
    obtain ⟨_, _, e0, z1⟩ := hb1 (at_ + 1) (by omega)
    cases e0
    have g0 : l.getD at_ 0 = l[at_]'(by omega) := by simp [List.getD_eq_getElem?_getD, show at_ < l.length by omega]
    have g1 : l.getD (at_ + 1) 0 = l[at_ + 1]'(by omega) := by simp [List.getD_eq_getElem?_getD, show at_ + 1 < l.length by omega]
    rw [g0, g1] at HU
    generalize l[at_]'(by omega) = x0 at *
    generalize l[at_ + 1]'(by omega) = x1 at *
    have HB := Lib.hid hb1
    have HAT := Lib.hid hat
    have hcap : at_ + 10 ≤ cap := by omega
    have hm2 : at_ + 10 ≤ 140737488351232 := by omega
    have q1 : (at_ : Int) + 10 - 8 = (at_ : Int) + 2 := by omega
    rw [hat]
    clear hb hb1 g0 g1 hlc hat h10
    by_cases h0 : x0 = 0
    · by_cases h1 : x1 = 0
      · subst h0 h1
        rw [if_pos ⟨rfl, rfl⟩] at HU
        have hk : (l.take at_).length = at_ := by rw [List.length_take, HAT.out]; omega
        have HK := Lib.hid hk
        clear hk
        have hd0 : decide ((at_ : Int) < 0) = false := by simp
        obtain ⟨KS, hKS⟩ : ∃ KS, KS = l.take at_ := ⟨_, rfl⟩
        rw [← hKS] at HU HK
        have HKS := Lib.hid hKS
        have HG1 := Lib.hid (Gr.refl (w.alloc (.cells #[.string ⟨#[]⟩, .int .i64 0, .int .i64 0] 40)))
        obtain ⟨W1, hW1⟩ : ∃ W1, W1 = w.alloc (.cells #[.string ⟨#[]⟩, .int .i64 0, .int .i64 0] 40) := ⟨_, rfl⟩
        clear hKS
        go_enter Tryz.func104, Tryz.ntmps104
        go_wp2
        rw [← hW1] at HB HG1 z0 z1 ⊢
        have HW1 := Lib.hid hW1
        clear hW1 z0 z1
        go_loopw [5, 6] (fun v i wr => ∃ (j : Nat) (K : List UInt8) (ad : Option Addr) (cp : Nat), j ≤ at_ ∧ K.length ≤ j ∧ i = .int .i64 (j : Int) ∧ v = .slice ad K.length cp ∧ Owns wr W1.heap.size 5 1 ad cp K.length (bv K) ∧ Gr W1 wr ∧ unesc KS = (unesc (KS.drop j)).map (K ++ ·)) (fun _ i _ => at_ - (intOf i).toNat)
        case atStart => exact ⟨0, [], none, 0, Nat.zero_le _, Nat.le_refl _, rfl, rfl, Owns.empty _ _ _ _, HG1.out, by simp⟩
        case round =>
          clear HG1
          obtain ⟨j, K, ad, cp, hj, hKj, rfl, rfl, ho, hg, hu⟩ := hrel
          have HUK := Lib.hid hu
          clear hu
          by_cases hja : j < at_
          · have hjl : j < l.length := by rw [HAT.out]; omega
            have hjk : j < KS.length := by rw [HK.out]; exact hja
            have hdr : KS.drop j = l[j] :: KS.drop (j + 1) := by
              rw [List.drop_eq_getElem_cons hjk]
              congr 1
              have := HKS.out
              subst this
              exact List.getElem_take
            have HDR := Lib.hid hdr
            obtain ⟨_, _, e0, zj⟩ := (HB.out.gr hg) j hjl
            cases e0
            generalize hxx : l[j] = x at *
            have hby := byte_hi x
            have m1 : K.length + 1 ≤ maxLen := by unfold maxLen; omega
            have m2 : (K.length + 1) * 1 ≤ 140737488355328 := by omega
            have hbs : W1.heap.size ≤ (wr.alloc (.cells #[.int .u8 (x.toNat : Int)] 5)).heap.size := Nat.le_trans hg.size (Gr.alloc _ _).size
            have HX := Lib.hid hxx
            clear hdr hxx hjk
            by_cases hx0 : x = 0
            · have hxb : ((x.toNat : Int) != 0) = false := by rw [hx0]; rfl
              have hxb2 : ((x.toNat : Int) == 0) = true := by rw [hx0]; rfl
              by_cases hend : j + 1 = at_
              · have HD := Lib.hid (show unsF l = none by
                  have h1 : KS.drop (j + 1) = [] := List.drop_eq_nil_of_le (by rw [HK.out]; omega)
                  have h2 : unesc KS = none := by rw [HUK.out, HDR.out, h1, hx0]; rfl
                  rw [HU.out, h2])
                have hje : (j : Int) + 1 = (at_ : Int) := by omega
                clear hx0
                go_wp2_with (first
                  | (at_builtin; go_must (refine wp_append elemB rfl _ _ rfl rfl (ho.gr (Gr.alloc _ _)) rfl (Src.one _ _ x rfl Tryz.underlying31) m1 m2 hbs ?_); intro ad2 cp2 w4 o4 k4 f4
                     have G4 := hg.app ho (Nat.le_refl _) k4
                     have o4' := o4
                     rw [← bv_append] at o4'
                     obtain ⟨_, _, e0, zj4⟩ := (HB.out.gr G4) j hjl
                     rw [HX.out] at zj4
                     cases e0
                     have G4' := G4
                     rw [HW1.out] at G4'
                     obtain ⟨r0, r1, r2, q0, q1, q2⟩ := (Blk.of1 G4').three
                     clear k4 f4 o4)
                  | fail)
                refine bodyPost_ret (v := outV none) (by simp [results, Tryz.results104, go_sem, outV, ver, r0, r1, r2]; rfl) rfl ⟨by rw [HD.out], ?_⟩
                exact (((Gr.alloc _ _).trans G4').setCell (Nat.le_refl _) _).setCell (Nat.le_refl _) _ |>.setCell (Nat.le_refl _) _
              · have hja2 : j + 1 < at_ := by omega
                have hjl2 : j + 1 < l.length := by rw [HAT.out]; omega
                have hjk2 : j + 1 < KS.length := by rw [HK.out]; exact hja2
                have hdr2 : KS.drop (j + 1) = l[j + 1] :: KS.drop (j + 1 + 1) := by
                  rw [List.drop_eq_getElem_cons hjk2]
                  congr 1
                  have := HKS.out
                  subst this
                  exact List.getElem_take
                have HDR2 := Lib.hid hdr2
                generalize hyy : l[j + 1] = y at *
                have hby2 := byte_hi y
                have HY := Lib.hid hyy
                have hne : (((j : Int) + 1) == (at_ : Int)) = false := by rw [beq_eq_false_iff_ne]; omega
                have hne2 : ¬ (j : Int) + 1 = (at_ : Int) := by omega
                have hmj : j + 1 ≤ 140737488351232 := by omega
                clear hdr2 hyy hjk2 hend
                by_cases hy : y = 255
                · have HN2 := Lib.hid (show unesc KS = (unesc (KS.drop (j + 2))).map ((K ++ [x]) ++ ·) by
                    rw [HUK.out, HDR.out, HDR2.out, hx0, hy, unesc_zero, Option.map_map]
                    congr 1
                    funext z
                    simp)
                  have hyb : ((y.toNat : Int) != 255) = false := by rw [hy]; rfl
                  clear hx0 hy
                  go_wp2_with (first
                    | (at_builtin; go_must (refine wp_append elemB rfl _ _ rfl rfl (ho.gr (Gr.alloc _ _)) rfl (Src.one _ _ x rfl Tryz.underlying31) m1 m2 hbs ?_); intro ad2 cp2 w4 o4 k4 f4
                       have G4 := hg.app ho (Nat.le_refl _) k4
                       have o4' := o4
                       rw [← bv_append] at o4'
                       obtain ⟨_, _, e0, zj4⟩ := (HB.out.gr G4) j hjl
                       rw [HX.out] at zj4
                       cases e0
                       obtain ⟨_, _, e0, zy4⟩ := (HB.out.gr G4) (j + 1) hjl2
                       rw [HY.out] at zy4
                       cases e0
                       have G4' := G4
                       rw [HW1.out] at G4'
                       obtain ⟨r0, r1, r2, q0, q1, q2⟩ := (Blk.of1 G4').three
                       clear k4 f4 o4)
                    | fail)
                  go_roundw
                  case rel => exact ⟨j + 2, K ++ [x], ad2, cp2, hja2, by simp; omega, by go_num, by simp, by rw [List.length_append]; exact o4', G4, HN2.out⟩
                  case measure => simp [intOf]; omega
                · have HD := Lib.hid (show unsF l = none by
                    have h2 : unesc KS = none := by rw [HUK.out, HDR.out, HDR2.out, hx0]; simp [unesc, hy]
                    rw [HU.out, h2])
                  have hyb : ((y.toNat : Int) != 255) = true := by rw [bne_iff_ne]; exact fun e => hy (UInt8.toNat_inj.1 (by exact_mod_cast e))
                  clear hx0 hy
                  go_wp2_with (first
                    | (at_builtin; go_must (refine wp_append elemB rfl _ _ rfl rfl (ho.gr (Gr.alloc _ _)) rfl (Src.one _ _ x rfl Tryz.underlying31) m1 m2 hbs ?_); intro ad2 cp2 w4 o4 k4 f4
                       have G4 := hg.app ho (Nat.le_refl _) k4
                       have o4' := o4
                       rw [← bv_append] at o4'
                       obtain ⟨_, _, e0, zj4⟩ := (HB.out.gr G4) j hjl
                       rw [HX.out] at zj4
                       cases e0
                       obtain ⟨_, _, e0, zy4⟩ := (HB.out.gr G4) (j + 1) hjl2
                       rw [HY.out] at zy4
                       cases e0
                       have G4' := G4
                       rw [HW1.out] at G4'
                       obtain ⟨r0, r1, r2, q0, q1, q2⟩ := (Blk.of1 G4').three
                       clear k4 f4 o4)
                    | fail)
                  refine bodyPost_ret (v := outV none) (by simp [results, Tryz.results104, go_sem, outV, ver, r0, r1, r2]; rfl) rfl ⟨by rw [HD.out], ?_⟩
                  exact (((Gr.alloc _ _).trans G4').setCell (Nat.le_refl _) _).setCell (Nat.le_refl _) _ |>.setCell (Nat.le_refl _) _
            · have hxb : ((x.toNat : Int) != 0) = true := by rw [bne_iff_ne]; exact fun e => hx0 (UInt8.toNat_inj.1 (by exact_mod_cast e))
              have HN2 := Lib.hid (show unesc KS = (unesc (KS.drop (j + 1))).map ((K ++ [x]) ++ ·) by
                rw [HUK.out, HDR.out, unesc_cons hx0, Option.map_map]
                congr 1
                funext y
                simp)
              clear hx0
              go_wp2_with (first
                | (at_builtin; go_must (refine wp_append elemB rfl _ _ rfl rfl (ho.gr (Gr.alloc _ _)) rfl (Src.one _ _ x rfl Tryz.underlying31) m1 m2 hbs ?_); intro ad2 cp2 w4 o4 k4 f4
                   have G4 := hg.app ho (Nat.le_refl _) k4
                   have o4' := o4
                   rw [← bv_append] at o4'
                   obtain ⟨_, _, e0, zj4⟩ := (HB.out.gr G4) j hjl
                   rw [HX.out] at zj4
                   cases e0
                   have G4' := G4
                   rw [HW1.out] at G4'
                   obtain ⟨r0, r1, r2, q0, q1, q2⟩ := (Blk.of1 G4').three
                   clear k4 f4 o4)
                | fail)
              go_roundw
              case rel => exact ⟨j + 1, K ++ [x], ad2, cp2, hja, by simp; omega, by go_num, by simp, by rw [List.length_append]; exact o4', G4, HN2.out⟩
              case measure => simp [intOf]; omega
          · obtain rfl : j = at_ := by omega
            have hk9 : unesc KS = some K := by
              rw [HUK.out, List.drop_eq_nil_of_le (by rw [HK.out]; exact Nat.le_refl _)]
              simp [unesc]
            obtain ⟨m, hm9⟩ : ∃ m, m = l.drop (j + 2) := ⟨_, rfl⟩
            have hml : m.length = 8 := by rw [hm9, List.length_drop, HAT.out]; omega
            have HD := Lib.hid (show unsF l = ofF K (18446744073709551615 - beV m) by rw [HU.out, hk9, hm9])
            have hmb : Bytes W1 (some ⟨b, off + (j + 2), none⟩) m := by rw [hm9]; exact HB.out.drop (j + 2)
            have HMB := Lib.hid hmb; have HML := Lib.hid hml
            have hbl := beV_lt m
            rw [hml] at hbl
            have HO := Lib.hid (fun w' => of_any K (18446744073709551615 - beV m) w' (by omega))
            have hcne : ¬ cap = j + 2 := by omega
            have hj8 : j + 10 - (j + 2) = 8 := by omega
            have hst := run_string (P := Tryz.prog) (cap := cp) Tryz.underlying31 Tryz.underlying5 Tryz.underlying9 rfl ho.bytes
            have HG := Lib.hid hg
            clear hk9 hm9 hmb hml hbl ho hg HUK hja
            go_wp2
            go_loop [7, 9, 67] (fun v _ i => ∃ q : Nat, q ≤ 8 ∧ i = .int .i64 (q : Int) ∧ v = .int .u64 (beV (m.take q) : Nat)) (fun _ _ i => 8 - (intOf i).toNat)
            case atStart => exact ⟨0, by omega, rfl, rfl⟩
            case round =>
              obtain ⟨q, hq, rfl, rfl⟩ := hrel
              by_cases hlt : q < 8
              · have hql : q < m.length := by rw [HML.out]; exact hlt
                obtain ⟨_, _, e0, hc9⟩ := (HMB.out.gr HG.out) q hql
                cases e0
                have hx := byte_hi m[q]
                have hbt := beV_lt (m.take q)
                have hb56 : beV (m.take q) < 72057594037927936 := by
                  have h1 : (m.take q).length ≤ 7 := by rw [List.length_take]; omega
                  have h2 : 256 ^ (m.take q).length ≤ 256 ^ 7 := Nat.pow_le_pow_right (by decide) h1
                  have h3 : (256 : Nat) ^ 7 = 72057594037927936 := by decide
                  omega
                have HT := Lib.hid (trail_bits (beV (m.take q)) m[q].toNat hb56 m[q].toNat_lt)
                have HS := Lib.hid (show trailF (beV (m.take q)) m[q].toNat = beV (m.take (q + 1)) by
                  rw [List.take_succ_eq_append_getElem hql, beV_snoc]; unfold trailF; omega)
                clear hbt
                go_wp2
                go_round
                case rel => exact ⟨q + 1, by omega, by go_num, by rw [HT.out, HS.out]⟩
                case measure => simp [intOf]; omega
              · obtain rfl : q = 8 := by omega
                have hbm : m.take 8 = m := List.take_of_length_le (by rw [HML.out]; exact Nat.le_refl _)
                rw [hbm]
                have hbl := beV_lt m
                rw [HML.out] at hbl
                have hnot := u64_not (beV m) (by have : (256 : Nat) ^ 8 = 18446744073709551616 := by decide
                                                 omega)
                generalize 18446744073709551615 - beV m = M at *
                rw [outV_eq] at HO
                clear hbm hbl
                have HO2 := Lib.hid (HO.out wr)
                clear HO
                go_wp2_with (go_at_call 139; (with_reducible refine HO2.out.mono ?_); rintro e w9 ⟨rfl, g9⟩
                             have G9 := HG.out.trans g9
                             rw [HW1.out] at G9
                             obtain ⟨r0, r1, r2, q0, q1, q2⟩ := (Blk.of1 G9).three)
                refine bodyPost_ret (v := outV (ofF K M)) (by rw [outV_eq]; simp [results, Tryz.results104, go_sem, r0, r1, r2]) rfl ⟨by rw [HD.out, outV_eq], ?_⟩
                exact (((Gr.alloc _ _).trans G9).setCell (Nat.le_refl _) _).setCell (Nat.le_refl _) _ |>.setCell (Nat.le_refl _) _
      · have HD := Lib.hid (show unsF l = none by rw [HU.out, if_neg (fun h => h1 h.2)])
        have hx1 : ((x1.toNat : Int) != 0) = true := by rw [bne_iff_ne]; exact fun e => h1 (UInt8.toNat_inj.1 (by exact_mod_cast e))
        subst h0
        clear HU h1
        go_enter Tryz.func104, Tryz.ntmps104
        go_wp2
        refine bodyPost_ret (v := outV none) (by simp [results, Tryz.results104, go_sem, outV, ver]; rfl) rfl ⟨by rw [HD.out], ?_⟩
        exact Gr.alloc _ _
    · have HD := Lib.hid (show unsF l = none by rw [HU.out, if_neg (fun h => h0 h.1)])
      have hx0 : ((x0.toNat : Int) != 0) = true := by rw [bne_iff_ne]; exact fun e => h0 (UInt8.toNat_inj.1 (by exact_mod_cast e))
      clear HU h0
      go_enter Tryz.func104, Tryz.ntmps104
      go_wp2
      refine bodyPost_ret (v := outV none) (by simp [results, Tryz.results104, go_sem, outV, ver]; rfl) rfl ⟨by rw [HD.out], ?_⟩
      exact Gr.alloc _ _
end Go.Proofs.YtpaogoehgkoaeaaGreatDoor
/- Layer 5 (ikey): IkeyOrders answers true. -/
namespace Go.Proofs.YtpaogoehgkoaeaaGreatDoor
set_option linter.unusedVariables false
set_option linter.unusedSimpArgs false
open Go.RowKit Ikey Varint
open Go.Op (bytesLess)
/-- Sortable's bytes, and its error -/
def sortG (k : List UInt8) (s d : Int) : List UInt8 × Int := if okV k s d = true then (sortF k s.toNat d.toNat, 0) else ([], 1)
theorem nat_of {k : List UInt8} {s d : Int} (h : okV k s d = true) : ((s.toNat : Nat) : Int) = s ∧ ((d.toNat : Nat) : Int) = d := by
  obtain ⟨_, _, h3, _, h5⟩ := okV_of h
  omega
theorem sortG_yes {k : List UInt8} {s d : Int} (h : okV k s d = true) : sortG k s d = (sortF k s.toNat d.toNat, 0) := by unfold sortG; rw [if_pos h]
theorem sortG_no {k : List UInt8} {s d : Int} (h : okV k s d = false) : sortG k s d = ([], 1) := by unfold sortG; rw [if_neg (by rw [h]; decide)]
theorem Sortable_any (k : List UInt8) (s d : Int) (w : World) : Calls Tryz.prog 134 #[ver k s d] w (RetBI 5 w (sortG k s d).1 (sortG k s d).2) := by
  cases h : okV k s d with
  | false => rw [sortG_no h]; exact Sortable_no k s d w h
  | true =>
    rw [sortG_yes h]
    obtain ⟨e1, e2⟩ := nat_of h
    have := Sortable_yes k s.toNat d.toNat w (by rw [e1, e2]; exact h)
    rw [e1, e2] at this
    exact this
theorem sortG_less {k k' : List UInt8} {s d s' d' : Int} (h : okV k s d = true) (h' : okV k' s' d' = true) : bytesLess (sortG k s d).1 (sortG k' s' d').1 = lessF k s d k' s' d' := by
  obtain ⟨e1, e2⟩ := nat_of h
  obtain ⟨e3, e4⟩ := nat_of h'
  rw [sortG_yes h, sortG_yes h']
  have := sort_less (s := s.toNat) (d := d.toNat) (s' := s'.toNat) (d' := d'.toNat) (by rw [e1, e2]; exact h) (by rw [e3, e4]; exact h')
  rw [e1, e2, e3, e4] at this
  exact this
end Go.Proofs.YtpaogoehgkoaeaaGreatDoor
/- Layer 5 (ikey): IkeyBack answers true. -/
namespace Go.Proofs.YtpaogoehgkoaeaaGreatDoor
set_option linter.unusedVariables false
set_option linter.unusedSimpArgs false
open Go.RowKit Ikey Varint
open Go.Op (bytesLess)
theorem Unsort_all (ad : Option Addr) (cap : Nat) (l : List UInt8) (w : World) (hlc : l.length ≤ cap) (hm : l.length ≤ 140737488351232) (hb : Bytes w ad l) :
    Calls Tryz.prog 104 #[.slice ad l.length cap] w fun e w' => e = .returned (outV (unsF l)) ∧ Gr w w' := by
  cases ad with
  | some a =>
    obtain ⟨b, off, sp⟩ := a
    cases l with
    | nil =>
      have HD := Lib.hid (show unsF [] = none from rfl)
      clear hb
      go_enter Tryz.func104, Tryz.ntmps104
      go_wp2
      refine bodyPost_ret (v := outV none) (by simp [results, Tryz.results104, go_sem, outV, ver]; rfl) rfl ⟨by rw [HD.out], ?_⟩
      exact Gr.alloc _ _
    | cons x r =>
      obtain ⟨_, _, e0, _⟩ := hb 0 (by simp)
      cases e0
      exact Unsort_any b off cap (x :: r) w hlc hm hb
  | none =>
    have hl : l = [] := by
      cases l with
      | nil => rfl
      | cons x r => obtain ⟨_, _, e0, _⟩ := hb 0 (by simp); cases e0
    subst hl
    have HD := Lib.hid (show unsF [] = none from rfl)
    clear hb
    go_enter Tryz.func104, Tryz.ntmps104
    go_wp2
    refine bodyPost_ret (v := outV none) (by simp [results, Tryz.results104, go_sem, outV, ver]; rfl) rfl ⟨by rw [HD.out], ?_⟩
    exact Gr.alloc _ _
theorem uns_sort {k : List UInt8} {s d : Int} (h : okV k s d = true) : unsF (sortG k s d).1 = some (k, s.toNat, d.toNat) := by
  obtain ⟨e1, e2⟩ := nat_of h
  rw [sortG_yes h]
  exact unsF_iff.2 ⟨by rw [e1, e2]; exact h, rfl⟩
theorem sortG_len (k : List UInt8) (s d : Int) : (sortG k s d).1.length ≤ 1000 := by
  unfold sortG
  split
  · rename_i h
    obtain ⟨_, h2, _⟩ := okV_of h
    have := escF_len k
    rw [sortF_len]; omega
  · exact Nat.zero_le _
end Go.Proofs.YtpaogoehgkoaeaaGreatDoor
/- Layer 5 (ikey): the reference's DocSortable and DocUnsort. -/
namespace Go.Proofs.YtpaogoehgkoaeaaGreatDoor
set_option linter.unusedVariables false
set_option linter.unusedSimpArgs false
open Go.RowKit Ikey Varint
open Go.Op (bytesLess)
end Go.Proofs.YtpaogoehgkoaeaaGreatDoor
/- Layer 5 (ikey): the reference's DocUnsort. -/
namespace Go.Proofs.YtpaogoehgkoaeaaGreatDoor
set_option linter.unusedVariables false
set_option linter.unusedSimpArgs false
open Go.RowKit Ikey Varint
open Go.Op (bytesLess)
end Go.Proofs.YtpaogoehgkoaeaaGreatDoor
/- Layer 13 (block): the bytes of pairs, in plain Lean. No program is in sight here. -/
namespace Go.Proofs.YtpaogoehgkoaeaaGreatDoor.Bk
set_option linter.unusedVariables false
set_option linter.unusedSimpArgs false
open Varint
open Go.Op (bytesLess)
abbrev Pr := List UInt8 × List UInt8
def noPr : Pr := ([], [])
/-- how many bytes two keys have in common at the front -/
def comF : List UInt8 → List UInt8 → Nat
  | a :: x, b :: y => if a = b then comF x y + 1 else 0
  | _, _ => 0
theorem comF_le : ∀ x y : List UInt8, comF x y ≤ x.length ∧ comF x y ≤ y.length
  | [], y => by simp [comF]
  | a :: x, [] => by simp [comF]
  | a :: x, b :: y => by
    have := comF_le x y
    simp only [comF, List.length_cons]
    split <;> omega
theorem comF_take : ∀ x y : List UInt8, x.take (comF x y) = y.take (comF x y)
  | [], y => by simp [comF]
  | a :: x, [] => by simp [comF]
  | a :: x, b :: y => by
    simp only [comF]
    split
    · rename_i h; subst h; rw [List.take_succ_cons, List.take_succ_cons, comF_take x y]
    · rfl
theorem comF_step {x y : List UInt8} {n : Nat} (h1 : n < x.length) (h2 : n < y.length) (he : x[n] = y[n]) : comF (x.drop n) (y.drop n) = comF (x.drop (n + 1)) (y.drop (n + 1)) + 1 := by
  rw [List.drop_eq_getElem_cons h1, List.drop_eq_getElem_cons h2, comF, if_pos he]
theorem comF_stop {x y : List UInt8} {n : Nat} (h1 : n < x.length) (h2 : n < y.length) (he : x[n] ≠ y[n]) : comF (x.drop n) (y.drop n) = 0 := by
  rw [List.drop_eq_getElem_cons h1, List.drop_eq_getElem_cons h2, comF, if_neg he]
theorem comF_end {x y : List UInt8} {n : Nat} (h : x.length ≤ n ∨ y.length ≤ n) : comF (x.drop n) (y.drop n) = 0 := by
  rcases h with h | h
  · rw [List.drop_of_length_le h]; cases y.drop n <;> rfl
  · rw [List.drop_of_length_le h]; cases x.drop n <;> rfl
def entF (n : Nat) (p : Pr) : List UInt8 := putF n ++ (putF (p.1.length - n) ++ (putF p.2.length ++ (p.1.drop n ++ p.2)))
def nAt (itv : Nat) (l : List Pr) (i : Nat) : Nat := if i % itv = 0 then 0 else comF (l.getD (i - 1) noPr).1 (l.getD i noPr).1
def dataN (itv : Nat) (l : List Pr) : Nat → List UInt8
  | 0 => []
  | i + 1 => dataN itv l i ++ entF (nAt itv l i) (l.getD i noPr)
def placeN (itv : Nat) (l : List Pr) : Nat → List UInt8
  | 0 => []
  | i + 1 => placeN itv l i ++ (if i % itv = 0 then bytesN 4 (dataN itv l i).length else [])
/-- a block's bytes -/
def buildF (itv : Nat) (l : List Pr) : List UInt8 := dataN itv l l.length ++ (placeN itv l l.length ++ (bytesN 2 itv ++ bytesN 4 l.length))
def longB (p : Pr) : Bool := decide (200 < p.1.length) || decide (2000 < p.2.length)
def riseB (l : List Pr) : Bool := (List.range (l.length - 1)).all fun i => bytesLess (l.getD i noPr).1 (l.getD (i + 1) noPr).1
theorem riseB_iff {l : List Pr} : riseB l = true ↔ ∀ i, i + 1 < l.length → bytesLess (l.getD i noPr).1 (l.getD (i + 1) noPr).1 = true := by
  unfold riseB
  rw [List.all_eq_true]
  constructor
  · intro h i hi; exact h i (by rw [List.mem_range]; omega)
  · intro h i hi; rw [List.mem_range] at hi; exact h i (by omega)
def chkF (l : List Pr) (itv : Int) : Nat := if itv < 1 ∨ 64 < itv then 1 else if 10000 < l.length ∨ l.any longB = true then 14 else if riseB l = true then 0 else 2
theorem putF_le (n : Nat) (h : n < 16384) : (putF n).length ≤ 2 ∧ 1 ≤ (putF n).length ∧ (n < 128 → (putF n).length = 1) := by
  unfold putF
  by_cases h1 : n < 128
  · rw [putN_small h1]; simp
  · rw [putN_big h1, putN_small (by omega)]; exact ⟨by simp, by simp, fun h => absurd h h1⟩
theorem putF_two {m n : Nat} (h : m ≤ n) (hn : n < 16384) : (putF m).length ≤ (putF n).length := by
  have a := putF_le m (by omega)
  have b := putF_le n hn
  by_cases h1 : n < 128
  · have := a.2.2 (by omega); omega
  · have : (putF n).length = 2 := by unfold putF; rw [putN_big h1, putN_small (by omega)]; rfl
    omega
theorem nAt_le (itv : Nat) (l : List Pr) (i : Nat) : nAt itv l i ≤ (l.getD i noPr).1.length := by
  unfold nAt; split
  · omega
  · exact (comF_le _ _).2
theorem entF_len (n : Nat) (p : Pr) (h1 : p.1.length ≤ 200) (h2 : p.2.length ≤ 2000) (hn : n ≤ p.1.length) : (entF n p).length ≤ 6 + p.1.length + p.2.length ∧ (entF n p).length ≤ (entF 0 p).length := by
  have a := putF_le n (by omega)
  have b := putF_le (p.1.length - n) (by omega)
  have c := putF_le p.2.length (by omega)
  have d := putF_two (m := p.1.length - n) (n := p.1.length) (by omega) (by omega)
  have e := putF_le 0 (by omega)
  have f := e.2.2 (by omega)
  simp only [entF, List.length_append, List.length_drop, Nat.sub_zero]
  by_cases h0 : n = 0
  · subst h0; simp only [Nat.sub_zero] at *; omega
  · omega
def okLens (l : List Pr) : Prop := ∀ i, (l.getD i noPr).1.length ≤ 200 ∧ (l.getD i noPr).2.length ≤ 2000
theorem okLens_of {l : List Pr} (h : l.any longB = false) : okLens l := by
  intro i
  rw [List.getD_eq_getElem?_getD]
  by_cases hi : i < l.length
  · rw [List.getElem?_eq_getElem hi, Option.getD_some]
    have := List.any_eq_false.1 h l[i] (List.getElem_mem hi)
    simp only [longB, Bool.or_eq_true, decide_eq_true_eq, not_or] at this
    omega
  · rw [List.getElem?_eq_none (by omega), Option.getD_none]; simp [noPr]
theorem dataN_len {itv : Nat} {l : List Pr} (h : okLens l) (i : Nat) : (dataN itv l i).length ≤ 2206 * i := by
  induction i with
  | zero => simp [dataN]
  | succ i ih =>
    have a := h i
    have b := entF_len (nAt itv l i) _ a.1 a.2 (nAt_le itv l i)
    rw [dataN, List.length_append]; omega
theorem placeN_len (itv : Nat) (l : List Pr) (i : Nat) : (placeN itv l i).length ≤ 4 * i := by
  induction i with
  | zero => simp [placeN]
  | succ i ih =>
    rw [placeN, List.length_append]
    split
    · rw [bytesN_len]; omega
    · simp only [List.length_nil]; omega
end Go.Proofs.YtpaogoehgkoaeaaGreatDoor.Bk
namespace Go.Proofs.YtpaogoehgkoaeaaGreatDoor.Varint
set_option linter.unusedVariables false
set_option linter.unusedSimpArgs false

theorem ofNat_small {n : Nat} (h : n < 256) : (UInt8.ofNat n).toNat = n := by rw [UInt8.toNat_ofNat', Nat.mod_eq_of_lt h]
theorem get_put_from (r : List UInt8) : ∀ (k n : Nat) (pre : List UInt8), n < 2 * 128 ^ k → pre.length + k = 9 → (0 < pre.length → 0 < n) →
    getAt (pre ++ putN k n ++ r) (k + 1) pre.length = (val pre + 128 ^ pre.length * n, pre.length + (putN k n).length, 0) := by
  intro k
  induction k with
  | zero =>
    intro n pre hn hp h0
    have hn2 : n < 2 := by simpa using hn
    have hx : (UInt8.ofNat n).toNat = n := ofNat_small (by omega)
    have hl : pre.length < (pre ++ putN 0 n ++ r).length := by simp [putN]
    have hb : (pre ++ putN 0 n ++ r)[pre.length] = UInt8.ofNat n := by simp [putN]
    rw [getAt_end hl (by rw [hb, hx]; omega), hb, hx, endAt_good (by omega)]
    have ht : (pre ++ putN 0 n ++ r).take (pre.length + 1) = pre ++ [UInt8.ofNat n] := by rw [show pre.length + 1 = (pre ++ [UInt8.ofNat n]).length by simp]; exact List.take_left
    rw [ht, val_append]
    simp [putN, val, hx]
    rw [Nat.mod_eq_of_lt (by omega)]
  | succ k ih =>
    intro n pre hn hp h0
    by_cases hs : n < 128
    · have hx : (UInt8.ofNat n).toNat = n := ofNat_small (by omega)
      rw [putN_small hs]
      have hl : pre.length < (pre ++ [UInt8.ofNat n] ++ r).length := by simp
      have hb : (pre ++ [UInt8.ofNat n] ++ r)[pre.length] = UInt8.ofNat n := by simp
      rw [getAt_end hl (by rw [hb, hx]; exact hs), hb, hx, endAt_good (by omega)]
      have ht : (pre ++ [UInt8.ofNat n] ++ r).take (pre.length + 1) = pre ++ [UInt8.ofNat n] := by rw [show pre.length + 1 = (pre ++ [UInt8.ofNat n]).length by simp]; exact List.take_left
      rw [ht, val_append]
      simp [val, hx]
      rw [Nat.mod_eq_of_lt hs]
    · rw [putN_big hs]
      have hx : (UInt8.ofNat (n % 128 + 128)).toNat = n % 128 + 128 := ofNat_small (by omega)
      generalize hy : UInt8.ofNat (n % 128 + 128) = y at *
      have hl : pre.length < (pre ++ (y :: putN k (n / 128)) ++ r).length := by simp
      have hb : (pre ++ (y :: putN k (n / 128)) ++ r)[pre.length] = y := by simp
      rw [getAt_on hl (by rw [hb, hx]; omega)]
      have e : pre ++ (y :: putN k (n / 128)) ++ r = (pre ++ [y]) ++ putN k (n / 128) ++ r := by simp
      have hlen : (pre ++ [y]).length = pre.length + 1 := by simp
      rw [Nat.pow_succ] at hn
      have := ih (n / 128) (pre ++ [y]) (by omega) (by rw [hlen]; omega) (by omega)
      rw [hlen] at this
      rw [e, this, val_append]
      simp only [val, hx, List.length_cons, Prod.mk.injEq, and_true]
      refine ⟨?_, by omega⟩
      rw [Nat.pow_succ, Nat.mul_assoc, Nat.add_assoc, ← Nat.mul_add]
      congr 2
      omega
theorem get_put (n : Nat) (r : List UInt8) (h : n < 18446744073709551616) : getF (putF n ++ r) = (n, (putF n).length, 0) := by
  have := get_put_from r 9 n [] (by omega) rfl (by simp)
  simpa [val, getF, putF] using this
/-- bytes that are some number's -/
def Good : List UInt8 → Prop
  | [] => False
  | [x] => x.toNat < 128
  | x :: y :: l => 128 ≤ x.toNat ∧ Good (y :: l) ∧ val (y :: l) ≠ 0
theorem good_of (l : List UInt8) : ∀ (j : Nat), j < l.length → (∀ i (hi : i < l.length), i < j → 128 ≤ (l[i]).toNat) → (∀ hj : j < l.length, (l[j]).toNat < 128) → (0 < j → ∀ hj : j < l.length, (l[j]).toNat ≠ 0) → Good (l.take (j + 1)) ∧ ((∀ hj : j < l.length, (l[j]).toNat ≠ 0) → val (l.take (j + 1)) ≠ 0) := by
  induction l with
  | nil => intro j hj; simp at hj
  | cons x l ih =>
    intro j hj h1 h2 h3
    cases j with
    | zero =>
      have hx := h2 (by simp)
      simp at hx
      refine ⟨by simpa [Good] using hx, fun h => ?_⟩
      have := h (by simp)
      simp [val] at this ⊢
      omega
    | succ j =>
      have hj' : j < l.length := by simpa using hj
      have hx := h1 0 (by simp) (by omega)
      simp only [List.getElem_cons_zero] at hx
      have hi := ih j hj' (fun i hi hij => by have := h1 (i + 1) (by simpa using hi) (by omega); simpa only [List.getElem_cons_succ] using this) (fun hjj => by have := h2 (by simpa using hjj); simpa only [List.getElem_cons_succ] using this)
        (fun _ hjj => by have := h3 (by omega) (by simpa using hjj); simpa only [List.getElem_cons_succ] using this)
      have hnz := hi.2 (fun hjj => by have := h3 (by omega) (by simpa using hjj); simpa only [List.getElem_cons_succ] using this)
      cases l with
      | nil => simp at hj'
      | cons y l =>
        simp only [List.take_succ_cons] at hi hnz ⊢
        refine ⟨⟨hx, hi.1, hnz⟩, fun _ => ?_⟩
        simp only [val] at hnz ⊢
        omega
end Go.Proofs.YtpaogoehgkoaeaaGreatDoor.Varint
