/- The plain law of layer 5 (ikey), the sortable bytes: their order is that of the versions. No walk here. -/
import Derived.Test.YtnjnehegfdimaaaDoorIkeyRef
namespace Go.Proofs.YtnjnehegfdimaaaDoor
set_option linter.unusedVariables false
set_option linter.unusedSimpArgs false
open Go.RowKit Ikey Varint
open Go.Op (bytesLess)
def inv8 (x : UInt8) : UInt8 := 255 - x
theorem inv8_nat (x : UInt8) : (inv8 x).toNat = 255 - x.toNat := by
  have := x.toNat_lt
  unfold inv8
  rw [UInt8.toNat_sub_of_le _ _ (by rw [UInt8.le_iff_toNat_le]; show x.toNat ≤ 255; omega)]
  rfl
theorem inv8_inv (x : UInt8) : inv8 (inv8 x) = x := by
  apply UInt8.toNat_inj.1
  have := x.toNat_lt
  rw [inv8_nat, inv8_nat]; omega
theorem inv8_ofNat {n : Nat} (h : n < 256) : inv8 (UInt8.ofNat n) = UInt8.ofNat (255 - n) := by
  apply UInt8.toNat_inj.1
  rw [inv8_nat, UInt8.toNat_ofNat', UInt8.toNat_ofNat']; omega
/-- the number of bytes, the highest first -/
def beV : List UInt8 → Nat
  | [] => 0
  | x :: r => x.toNat * 256 ^ r.length + beV r
theorem beV_append : ∀ a b : List UInt8, beV (a ++ b) = beV a * 256 ^ b.length + beV b
  | [], b => by simp [beV]
  | x :: a, b => by
    rw [List.cons_append, beV, beV, beV_append a b, List.length_append, Nat.pow_add, Nat.add_mul, Nat.mul_assoc, Nat.add_assoc]
theorem beV_snoc (l : List UInt8) (x : UInt8) : beV (l ++ [x]) = beV l * 256 + x.toNat := by rw [beV_append]; simp [beV]
theorem beV_lt : ∀ l : List UInt8, beV l < 256 ^ l.length
  | [] => by decide
  | x :: r => by
    have h := beV_lt r
    have hx := x.toNat_lt
    rw [beV, List.length_cons, Nat.pow_succ]
    have : x.toNat * 256 ^ r.length ≤ 255 * 256 ^ r.length := Nat.mul_le_mul_right _ (by omega)
    omega
theorem beV_rev : ∀ l : List UInt8, beV l.reverse = le l
  | [] => rfl
  | x :: r => by rw [List.reverse_cons, beV_snoc, beV_rev r, le]; omega
theorem bl_be : ∀ {a b : List UInt8}, a.length = b.length → (bytesLess a b = true ↔ beV a < beV b)
  | [], [], _ => by simp [beV, bytesLess]
  | x :: a, y :: b, h => by
    have hl : a.length = b.length := by simpa using h
    have ih := bl_be hl
    have h1 := beV_lt a
    have h2 := beV_lt b
    rw [bl_cons, beV, beV, ih, hl]
    rw [hl] at h1
    rcases Nat.lt_trichotomy x.toNat y.toNat with c | c | c
    · have : (x.toNat + 1) * 256 ^ b.length ≤ y.toNat * 256 ^ b.length := Nat.mul_le_mul_right _ c
      rw [Nat.add_mul, Nat.one_mul] at this
      exact ⟨fun _ => by omega, fun _ => .inl c⟩
    · have e : x = y := UInt8.toNat_inj.1 c
      subst e
      exact ⟨fun hh => by rcases hh with hh | hh <;> omega, fun hh => .inr ⟨rfl, by omega⟩⟩
    · have : (y.toNat + 1) * 256 ^ b.length ≤ x.toNat * 256 ^ b.length := Nat.mul_le_mul_right _ c
      rw [Nat.add_mul, Nat.one_mul] at this
      refine ⟨fun hh => ?_, fun hh => by omega⟩
      rcases hh with hh | ⟨e, _⟩
      · omega
      · subst e; omega
theorem le_bytesN' : ∀ (k n : Nat), n < 256 ^ k → le (bytesN k n) = n
  | 0, n, h => by simp at h; subst h; rfl
  | k + 1, n, h => by
    rw [Nat.pow_succ] at h
    rw [bytesN, le, le_bytesN' k (n / 256) (by omega), UInt8.toNat_ofNat']
    omega
theorem bytesN_le' : ∀ l : List UInt8, bytesN l.length (le l) = l
  | [] => rfl
  | x :: r => by
    have hx := x.toNat_lt
    have h1 : (x.toNat + 256 * le r) / 256 = le r := by omega
    have h2 : UInt8.ofNat (x.toNat + 256 * le r) = x := by
      apply UInt8.toNat_inj.1
      rw [UInt8.toNat_ofNat']; omega
    rw [List.length_cons, bytesN, le, h1, h2, bytesN_le' r]
theorem le_inj {a b : List UInt8} (h : a.length = b.length) (e : le a = le b) : a = b := by
  rw [← bytesN_le' a, ← bytesN_le' b, h, e]
theorem bytesN_inv : ∀ (k n : Nat), n < 256 ^ k → bytesN k (256 ^ k - 1 - n) = (bytesN k n).map inv8
  | 0, _, _ => rfl
  | k + 1, n, h => by
    rw [Nat.pow_succ] at h
    have hp : 0 < 256 ^ k := Nat.pow_pos (by decide)
    have e1 : (256 ^ (k + 1) - 1 - n) / 256 = 256 ^ k - 1 - n / 256 := by rw [Nat.pow_succ]; omega
    have e2 : UInt8.ofNat (256 ^ (k + 1) - 1 - n) = inv8 (UInt8.ofNat n) := by
      apply UInt8.toNat_inj.1
      rw [inv8_nat, UInt8.toNat_ofNat', UInt8.toNat_ofNat', Nat.pow_succ]; omega
    rw [bytesN, bytesN, List.map_cons, e1, e2, bytesN_inv k (n / 256) (by omega)]
theorem bytesN_get : ∀ (k n i : Nat), i < k → (bytesN k n)[i]? = some (UInt8.ofNat (n / 256 ^ i))
  | 0, _, _, h => by omega
  | k + 1, n, 0, _ => by rw [bytesN]; simp
  | k + 1, n, i + 1, h => by
    rw [bytesN, List.getElem?_cons_succ, bytesN_get k (n / 256) i (by omega), Nat.pow_succ, Nat.mul_comm, Nat.div_div_eq_div_mul]
/-- the first j of n bytes, the highest first -/
def topF (n N j : Nat) : List UInt8 := (List.range j).map fun t => UInt8.ofNat (N / 256 ^ (n - 1 - t))
theorem topF_step (n N j : Nat) : topF n N (j + 1) = topF n N j ++ [UInt8.ofNat (N / 256 ^ (n - 1 - j))] := by
  unfold topF; rw [List.range_succ, List.map_append]; rfl
theorem topF_len (n N j : Nat) : (topF n N j).length = j := by simp [topF]
theorem topF_all (n N : Nat) : topF n N n = (bytesN n N).reverse := by
  apply List.ext_getElem?
  intro i
  by_cases h : i < n
  · rw [List.getElem?_reverse (by rw [bytesN_len]; exact h), bytesN_len, bytesN_get _ _ _ (by omega)]
    unfold topF
    rw [List.getElem?_map, List.getElem?_range h]; rfl
  · rw [List.getElem?_eq_none (by rw [topF_len]; omega), List.getElem?_eq_none (by rw [List.length_reverse, bytesN_len]; omega)]
/-- the last eight bytes -/
def tailF (T : Nat) : List UInt8 := ((bytesN 8 T).map inv8).reverse
theorem tailF_len (T : Nat) : (tailF T).length = 8 := by simp [tailF, bytesN_len]
theorem tailF_top {T : Nat} (h : T < 18446744073709551616) : topF 8 (18446744073709551615 - T) 8 = tailF T := by
  rw [topF_all]
  have := bytesN_inv 8 T h
  rw [show (256 : Nat) ^ 8 - 1 - T = 18446744073709551615 - T from rfl] at this
  rw [this]; rfl
theorem tailF_be {T : Nat} (h : T < 18446744073709551616) : beV (tailF T) = 18446744073709551615 - T := by
  rw [← tailF_top h, topF_all, beV_rev, le_bytesN' _ _ (by have : (256 : Nat) ^ 8 = 18446744073709551616 := by decide
                                                           omega)]
theorem tailF_parts (s d : Nat) (hd : d < 256) : tailF (trailF s d) = (topF 7 s 7).map inv8 ++ [inv8 (UInt8.ofNat d)] := by
  unfold tailF
  rw [bytes8 s d hd, List.map_cons, List.reverse_cons, ← List.map_reverse, topF_all]
theorem tailF_inj {t : List UInt8} (h : t.length = 8) : t = tailF (18446744073709551615 - beV t) := by
  have hb := beV_lt t
  rw [h] at hb
  have e : (256 : Nat) ^ 8 = 18446744073709551616 := by decide
  rw [e] at hb
  have h1 : beV (tailF (18446744073709551615 - beV t)) = beV t := by rw [tailF_be (by omega)]; omega
  have h2 : le t.reverse = le (tailF (18446744073709551615 - beV t)).reverse := by
    rw [← beV_rev, ← beV_rev, List.reverse_reverse, List.reverse_reverse, h1]
  have h3 := le_inj (by rw [List.length_reverse, List.length_reverse, h, tailF_len]) h2
  have := congrArg List.reverse h3
  rwa [List.reverse_reverse, List.reverse_reverse] at this
/-- a key, so that a nought is no end -/
def escF : List UInt8 → List UInt8
  | [] => []
  | x :: r => if x = 0 then 0 :: 255 :: escF r else x :: escF r
theorem escF_zero (r : List UInt8) : escF (0 :: r) = 0 :: 255 :: escF r := by rw [escF, if_pos rfl]
theorem escF_other {x : UInt8} (h : x ≠ 0) (r : List UInt8) : escF (x :: r) = x :: escF r := by rw [escF, if_neg h]
theorem escF_append : ∀ a b : List UInt8, escF (a ++ b) = escF a ++ escF b
  | [], _ => rfl
  | x :: a, b => by
    by_cases h : x = 0
    · subst h; rw [List.cons_append, escF_zero, escF_zero, escF_append a b]; rfl
    · rw [List.cons_append, escF_other h, escF_other h, escF_append a b]; rfl
theorem escF_len : ∀ k : List UInt8, (escF k).length ≤ 2 * k.length
  | [] => Nat.le_refl _
  | x :: r => by
    have := escF_len r
    rw [escF]; split <;> simp <;> omega
def sortF (k : List UInt8) (s d : Nat) : List UInt8 := escF k ++ 0 :: 0 :: tailF (trailF s d)
theorem sortF_len (k : List UInt8) (s d : Nat) : (sortF k s d).length = (escF k).length + 10 := by simp [sortF, tailF_len]
def unesc : List UInt8 → Option (List UInt8)
  | [] => some []
  | [x] => if x = 0 then none else some [x]
  | x :: y :: r => if x = 0 then (if y = 255 then (unesc r).map (0 :: ·) else none) else (unesc (y :: r)).map (x :: ·)
theorem unesc_cons {x : UInt8} (h : x ≠ 0) : ∀ r : List UInt8, unesc (x :: r) = (unesc r).map (x :: ·)
  | [] => by simp [unesc, h]
  | y :: r => by rw [unesc, if_neg h]
theorem unesc_zero (r : List UInt8) : unesc (0 :: 255 :: r) = (unesc r).map (0 :: ·) := by simp [unesc]
theorem unesc_esc : ∀ k : List UInt8, unesc (escF k) = some k
  | [] => rfl
  | x :: r => by
    by_cases h : x = 0
    · subst h; rw [escF_zero, unesc_zero, unesc_esc r]; rfl
    · rw [escF_other h, unesc_cons h, unesc_esc r]; rfl
theorem esc_unesc : ∀ {l k : List UInt8}, unesc l = some k → escF k = l
  | [], k, h => by simp [unesc] at h; subst h; rfl
  | [x], k, h => by
    by_cases hx : x = 0
    · simp [unesc, hx] at h
    · simp [unesc, hx] at h; subst h; rw [escF_other hx]; rfl
  | x :: y :: r, k, h => by
    by_cases hx : x = 0
    · by_cases hy : y = 255
      · simp only [unesc, hx, hy, if_true] at h
        cases hr : unesc r with
        | none => rw [hr] at h; simp at h
        | some k' =>
          rw [hr] at h
          simp at h
          subst h
          rw [escF_zero, esc_unesc hr, hx, hy]
      · simp [unesc, hx, hy] at h
    · rw [unesc_cons hx] at h
      cases hr : unesc (y :: r) with
      | none => rw [hr] at h; simp at h
      | some k' =>
        rw [hr] at h
        simp at h
        subst h
        rw [escF_other hx, esc_unesc hr]
theorem trailF_parts (s d : Nat) (hd : d < 256) : trailF s d / 256 = s ∧ trailF s d % 256 = d := by unfold trailF; omega
theorem okV_trail {k : List UInt8} {s d : Nat} (h : okV k s d = true) : s < 72057594037927936 ∧ d < 256 ∧ trailF s d < 18446744073709551616 := by
  obtain ⟨_, _, _, h1, h2⟩ := okV_of h
  have hs : s < 72057594037927936 := by omega
  have hd : d < 256 := by omega
  exact ⟨hs, hd, trailF_lt hs hd⟩
theorem ofF_iff {k k' : List UInt8} {n s d : Nat} : ofF k n = some (k', s, d) ↔ k' = k ∧ okV k s d = true ∧ n = trailF s d ∧ d < 256 := by
  unfold ofF
  constructor
  · intro h
    split at h
    · rename_i ho
      simp only [Option.some.injEq, Prod.mk.injEq] at h
      obtain ⟨rfl, rfl, rfl⟩ := h
      exact ⟨rfl, ho, by unfold trailF; omega, Nat.mod_lt _ (by decide)⟩
    · cases h
  · rintro ⟨rfl, ho, rfl, hd⟩
    obtain ⟨e1, e2⟩ := trailF_parts s d hd
    rw [e1, e2, if_pos ho]
/-- Unsort -/
def unsF (b : List UInt8) : Option (List UInt8 × Nat × Nat) :=
  if b.length < 10 then none
  else if b.getD (b.length - 10) 0 = 0 ∧ b.getD (b.length - 10 + 1) 0 = 0 then
    match unesc (b.take (b.length - 10)) with
    | none => none
    | some k => ofF k (18446744073709551615 - beV (b.drop (b.length - 10 + 2)))
  else none
theorem cut_ten {b : List UInt8} (h : 10 ≤ b.length) : b = b.take (b.length - 10) ++ b.getD (b.length - 10) 0 :: b.getD (b.length - 10 + 1) 0 :: b.drop (b.length - 10 + 2) := by
  have h1 : b.length - 10 < b.length := by omega
  have h2 : b.length - 10 + 1 < b.length := by omega
  have e1 : b.getD (b.length - 10) 0 = b[b.length - 10] := by simp [List.getD_eq_getElem?_getD, h1]
  have e2 : b.getD (b.length - 10 + 1) 0 = b[b.length - 10 + 1] := by simp [List.getD_eq_getElem?_getD, h2]
  rw [e1, e2]
  conv => lhs; rw [← List.take_append_drop (b.length - 10) b, List.drop_eq_getElem_cons h1, List.drop_eq_getElem_cons h2]
theorem unsF_iff {b k : List UInt8} {s d : Nat} : unsF b = some (k, s, d) ↔ okV k s d = true ∧ b = sortF k s d := by
  constructor
  · intro h
    unfold unsF at h
    split at h
    · cases h
    · rename_i h10
      split at h
      · rename_i hz
        cases hu : unesc (b.take (b.length - 10)) with
        | none => rw [hu] at h; cases h
        | some k' =>
          rw [hu] at h
          obtain ⟨rfl, ho, hn, hd⟩ := ofF_iff.1 h
          refine ⟨ho, ?_⟩
          have hb := cut_ten (b := b) (by omega)
          rw [hz.1, hz.2] at hb
          have ht : (b.drop (b.length - 10 + 2)).length = 8 := by rw [List.length_drop]; omega
          rw [hb]
          unfold sortF
          rw [esc_unesc hu, ← hn, ← tailF_inj ht]
      · cases h
  · rintro ⟨ho, rfl⟩
    obtain ⟨hs, hd, hT⟩ := okV_trail ho
    have hl := sortF_len k s d
    have e0 : (sortF k s d).length - 10 = (escF k).length := by omega
    unfold unsF
    rw [if_neg (by omega), e0]
    have e1 : (sortF k s d).getD (escF k).length 0 = 0 := by unfold sortF; simp [List.getD_eq_getElem?_getD]
    have e2 : (sortF k s d).getD ((escF k).length + 1) 0 = 0 := by unfold sortF; simp [List.getD_eq_getElem?_getD]
    have e3 : (sortF k s d).take (escF k).length = escF k := by unfold sortF; rw [List.take_left]
    have e4 : (sortF k s d).drop ((escF k).length + 2) = tailF (trailF s d) := by unfold sortF; rw [← List.drop_drop, List.drop_left]; rfl
    rw [if_pos ⟨e1, e2⟩, e3, unesc_esc, e4, tailF_be hT]
    simp only
    rw [ofF_iff]
    exact ⟨rfl, ho, by omega, hd⟩
/-- the reference's scan of a key: the key, and how many bytes it has -/
def scanL : List UInt8 → List UInt8 × Nat
  | x :: y :: r => if x = 0 then (if y = 255 then ((0 :: (scanL r).1), (scanL r).2 + 2) else ([], 0)) else (x :: (scanL (y :: r)).1, (scanL (y :: r)).2 + 1)
  | _ => ([], 0)
theorem scanL_le : ∀ l : List UInt8, (scanL l).2 ≤ l.length
  | [] => Nat.le_refl _
  | [_] => Nat.zero_le _
  | x :: y :: r => by
    have h1 := scanL_le r
    have h2 := scanL_le (y :: r)
    rw [scanL]
    split
    · split
      · simp; omega
      · exact Nat.zero_le _
    · simp at h2 ⊢; omega
theorem scanL_esc (t : List UInt8) : ∀ k : List UInt8, scanL (escF k ++ 0 :: 0 :: t) = (k, (escF k).length)
  | [] => by simp [escF, scanL]
  | x :: r => by
    have ih := scanL_esc t r
    by_cases h : x = 0
    · subst h
      rw [escF_zero, List.cons_append, List.cons_append, scanL, if_pos rfl, if_pos rfl, ih]
      rfl
    · rw [escF_other h, List.cons_append]
      obtain ⟨y, q, hq⟩ : ∃ y q, escF r ++ 0 :: 0 :: t = y :: q := by
        cases escF r with
        | nil => exact ⟨_, _, rfl⟩
        | cons y q => exact ⟨_, _, rfl⟩
      rw [hq] at ih ⊢
      rw [scanL, if_neg h, ih]
      rfl
/-- DocUnsort -/
def docSeq (m : List UInt8) : Nat := beV ((m.take 7).map inv8)
def docUnsF (b : List UInt8) : Option (List UInt8 × Nat × Nat) :=
  if b.length = (scanL b).2 + 2 + 8 then
    (if okV (scanL b).1 ((docSeq (b.drop ((scanL b).2 + 2)) : Nat) : Int) ((255 - (b.getD ((scanL b).2 + 2 + 7) 0).toNat : Nat) : Int) = true ∧ sortF (scanL b).1 (docSeq (b.drop ((scanL b).2 + 2))) (255 - (b.getD ((scanL b).2 + 2 + 7) 0).toNat) = b
      then some ((scanL b).1, docSeq (b.drop ((scanL b).2 + 2)), 255 - (b.getD ((scanL b).2 + 2 + 7) 0).toNat) else none)
  else none
theorem docUnsF_sort {k : List UInt8} {s d : Nat} (ho : okV k s d = true) : docUnsF (sortF k s d) = some (k, s, d) := by
  obtain ⟨hs, hd, hT⟩ := okV_trail ho
  have hsc : scanL (sortF k s d) = (k, (escF k).length) := scanL_esc _ k
  have hl := sortF_len k s d
  have e4 : (sortF k s d).drop ((escF k).length + 2) = tailF (trailF s d) := by unfold sortF; rw [← List.drop_drop, List.drop_left]; rfl
  have e5 : docSeq (tailF (trailF s d)) = s := by
    unfold docSeq
    rw [tailF_parts s d hd, List.take_left' (by rw [List.length_map, topF_len]), List.map_map]
    have : (inv8 ∘ inv8) = id := by funext x; exact inv8_inv x
    have h7 : (256 : Nat) ^ 7 = 72057594037927936 := by decide
    rw [this, List.map_id, topF_all, beV_rev, le_bytesN' _ _ (by omega)]
  have e6 : (sortF k s d).getD ((escF k).length + 2 + 7) 0 = inv8 (UInt8.ofNat d) := by
    rw [List.getD_eq_getElem?_getD]
    have : (sortF k s d)[(escF k).length + 2 + 7]? = (tailF (trailF s d))[7]? := by rw [← e4, List.getElem?_drop]
    rw [this, tailF_parts s d hd, List.getElem?_append_right (by rw [List.length_map, topF_len]; decide), List.length_map, topF_len]
    rfl
  have e7 : 255 - (inv8 (UInt8.ofNat d)).toNat = d := by rw [inv8_nat, UInt8.toNat_ofNat']; omega
  unfold docUnsF
  rw [hsc]
  simp only
  rw [if_pos (by omega), e4, e5, e6, e7, if_pos ⟨ho, rfl⟩]
theorem docUnsF_eq (b : List UInt8) : docUnsF b = unsF b := by
  cases h : docUnsF b with
  | some v =>
    obtain ⟨k, s, d⟩ := v
    have h' := h
    unfold docUnsF at h
    split at h
    · split at h
      · rename_i hh
        simp only [Option.some.injEq, Prod.mk.injEq] at h
        obtain ⟨rfl, rfl, rfl⟩ := h
        exact (unsF_iff.2 ⟨hh.1, hh.2.symm⟩).symm
      · cases h
    · cases h
  | none =>
    cases h2 : unsF b with
    | none => rfl
    | some v =>
      obtain ⟨k, s, d⟩ := v
      obtain ⟨ho, rfl⟩ := unsF_iff.1 h2
      rw [docUnsF_sort ho] at h
      cases h
/-- the order of versions -/
def lessF (k : List UInt8) (s d : Int) (k' : List UInt8) (s' d' : Int) : Bool :=
  if k ≠ k' then bytesLess k k' else if s ≠ s' then decide (s' < s) else decide (d' < d)
theorem esc_less (t t' : List UInt8) : ∀ {k k' : List UInt8}, k ≠ k' → bytesLess (escF k ++ 0 :: 0 :: t) (escF k' ++ 0 :: 0 :: t') = bytesLess k k'
  | [], [], h => absurd rfl h
  | [], y :: r, _ => by
    have e : bytesLess [] (y :: r) = true := rfl
    rw [e]
    by_cases hy : y = 0
    · subst hy
      rw [escF_zero]
      show bytesLess (0 :: 0 :: t) (0 :: 255 :: (escF r ++ 0 :: 0 :: t')) = true
      rw [bl_cons]; refine .inr ⟨rfl, ?_⟩
      rw [bl_cons]; exact .inl (by decide)
    · rw [escF_other hy]
      show bytesLess (0 :: 0 :: t) (y :: (escF r ++ 0 :: 0 :: t')) = true
      rw [bl_cons]; refine .inl ?_
      have : y.toNat ≠ 0 := fun e => hy (UInt8.toNat_inj.1 e)
      show 0 < y.toNat
      omega
  | x :: r, [], _ => by
    have e : bytesLess (x :: r) [] = false := rfl
    rw [e]
    cases hc : bytesLess (escF (x :: r) ++ 0 :: 0 :: t) (escF [] ++ 0 :: 0 :: t') with
    | false => rfl
    | true =>
      exfalso
      by_cases hx : x = 0
      · subst hx
        rw [escF_zero] at hc
        have hc : bytesLess (0 :: 255 :: (escF r ++ 0 :: 0 :: t)) (0 :: 0 :: t') = true := hc
        rw [bl_cons] at hc
        rcases hc with hc | ⟨_, hc⟩
        · exact absurd hc (by decide)
        · rw [bl_cons] at hc
          rcases hc with hc | ⟨hc, _⟩
          · exact absurd hc (by decide)
          · exact absurd hc (by decide)
      · rw [escF_other hx] at hc
        have hc : bytesLess (x :: (escF r ++ 0 :: 0 :: t)) (0 :: 0 :: t') = true := hc
        rw [bl_cons] at hc
        rcases hc with hc | ⟨hc, _⟩
        · exact absurd hc (Nat.not_lt_zero _)
        · exact hx hc
  | x :: r, y :: r', h => by
    by_cases hxy : x = y
    · subst hxy
      have hr : r ≠ r' := fun e => h (by rw [e])
      have ih := esc_less t t' hr
      have e : bytesLess (x :: r) (x :: r') = bytesLess r r' := bl_append [x] r r'
      rw [e, ← ih]
      by_cases hx : x = 0
      · subst hx
        rw [escF_zero, escF_zero]
        exact bl_append [0, 255] _ _
      · rw [escF_other hx, escF_other hx]
        exact bl_append [x] _ _
    · have key : ∀ (p q : List UInt8), bytesLess (x :: p) (y :: q) = decide (x.toNat < y.toNat) := fun p q => by
        rw [Bool.eq_iff_iff, bl_cons, decide_eq_true_eq]
        exact ⟨fun hh => hh.elim id (fun hh => absurd hh.1 hxy), .inl⟩
      have hh : ∀ (z : UInt8) (p : List UInt8), ∃ q, escF (z :: p) = z :: q := fun z p => by
        by_cases hz : z = 0
        · subst hz; exact ⟨_, escF_zero p⟩
        · exact ⟨_, escF_other hz p⟩
      obtain ⟨q1, e1⟩ := hh x r
      obtain ⟨q2, e2⟩ := hh y r'
      rw [e1, e2, List.cons_append, List.cons_append, key, key]
theorem sort_less {k k' : List UInt8} {s d s' d' : Nat} (h : okV k s d = true) (h' : okV k' s' d' = true) : bytesLess (sortF k s d) (sortF k' s' d') = lessF k s d k' s' d' := by
  obtain ⟨a1, a2, a3⟩ := okV_trail h
  obtain ⟨b1, b2, b3⟩ := okV_trail h'
  unfold sortF lessF
  by_cases hk : k = k'
  · subst hk
    rw [if_neg (by simp)]
    rw [bl_append]
    have e0 : bytesLess (0 :: 0 :: tailF (trailF s d)) (0 :: 0 :: tailF (trailF s' d')) = bytesLess (tailF (trailF s d)) (tailF (trailF s' d')) := bl_append [0, 0] _ _
    rw [e0, Bool.eq_iff_iff, bl_be (by rw [tailF_len, tailF_len]), tailF_be a3, tailF_be b3]
    by_cases hs : s = s'
    · subst hs
      rw [if_neg (by simp), decide_eq_true_eq]
      unfold trailF; omega
    · rw [if_pos (by omega), decide_eq_true_eq]
      unfold trailF at *; omega
  · rw [if_pos hk, esc_less _ _ hk]
theorem sort_inj {k k' : List UInt8} {s d s' d' : Nat} (h : okV k s d = true) (h' : okV k' s' d' = true) (e : sortF k s d = sortF k' s' d') : k = k' ∧ s = s' ∧ d = d' := by
  have h1 := unsF_iff.2 ⟨h, rfl⟩
  have h2 := unsF_iff.2 ⟨h', rfl⟩
  rw [e, h2] at h1
  simp only [Option.some.injEq, Prod.mk.injEq] at h1
  exact ⟨h1.1.symm, h1.2.1.symm, h1.2.2.symm⟩
theorem decF_iff {b k : List UInt8} {s d : Nat} : decF b = some (k, s, d) ↔ okV k s d = true ∧ b = encF k s d := by
  unfold decF
  constructor
  · intro h
    split at h
    · cases h
    · rename_i h8
      obtain ⟨rfl, ho, hn, hd⟩ := ofF_iff.1 h
      refine ⟨ho, ?_⟩
      have hl : (b.drop (b.length - 8)).length = 8 := by rw [List.length_drop]; omega
      have := bytesN_le' (b.drop (b.length - 8))
      rw [hl, hn] at this
      unfold encF
      rw [this, List.take_append_drop]
  · rintro ⟨ho, rfl⟩
    obtain ⟨hs, hd, hT⟩ := okV_trail ho
    have hl := enc_len k s d
    rw [if_neg (by omega), show (encF k s d).length - 8 = k.length by omega]
    have e1 : (encF k s d).take k.length = k := by unfold encF; rw [List.take_left]
    have e2 : (encF k s d).drop k.length = bytesN 8 (trailF s d) := by unfold encF; rw [List.drop_left]
    rw [e1, e2, le_bytesN' _ _ (by have : (256 : Nat) ^ 8 = 18446744073709551616 := by decide
                                   omega), ofF_iff]
    exact ⟨rfl, ho, rfl, hd⟩
theorem less_irr (k : List UInt8) (s d : Int) : lessF k s d k s d = false := by simp [lessF]
theorem less_tri {k k' : List UInt8} {s d s' d' : Int} (h : ¬ (k = k' ∧ s = s' ∧ d = d')) : lessF k s d k' s' d' = !(lessF k' s' d' k s d) := by
  unfold lessF
  by_cases hk : k = k'
  · subst hk
    rw [if_neg (show ¬ k ≠ k from fun h => h rfl), if_neg (show ¬ k ≠ k from fun h => h rfl)]
    by_cases hs : s = s'
    · subst hs
      rw [if_neg (show ¬ s ≠ s from fun h => h rfl), if_neg (show ¬ s ≠ s from fun h => h rfl)]
      have : d ≠ d' := fun e => h ⟨rfl, rfl, e⟩
      rw [← decide_not]; congr 1; apply propext; omega
    · rw [if_pos hs, if_pos (Ne.symm hs), ← decide_not]; congr 1; apply propext; omega
  · rw [if_pos hk, if_pos (Ne.symm hk)]
    cases h1 : bytesLess k k' with
    | true => rw [bl_asymm h1]; rfl
    | false =>
      cases h2 : bytesLess k' k with
      | true => rfl
      | false => exact absurd (bl_total h1 h2) hk
end Go.Proofs.YtnjnehegfdimaaaDoor
