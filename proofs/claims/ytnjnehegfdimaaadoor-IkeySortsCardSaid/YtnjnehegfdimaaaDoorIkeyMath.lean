/- The plain law of layer 5 (ikey), the parting of texts: the next text of the same length, and the first that lies below another. No program is in sight here. -/
import Derived.Test.YtnjnehegfdimaaaDoorBytesOrd
namespace Go.Proofs.YtnjnehegfdimaaaDoor.Ikey
set_option linter.unusedVariables false
set_option linter.unusedSimpArgs false
open Go.Op (bytesLess)
/-- the text of the same length that comes behind one -/
def nextF : List UInt8 → Option (List UInt8)
  | [] => none
  | x :: l => match nextF l with
    | some l' => some (x :: l')
    | none => if x = 255 then none else some ((x + 1) :: List.replicate l.length 0)
def partN (a b : List UInt8) : Nat → Nat → List UInt8
  | 0, _ => a
  | f + 1, n => match nextF (a.take n) with
    | some s => if bytesLess s b then s else partN a b f (n + 1)
    | none => partN a b f (n + 1)
def partF (a b : List UInt8) : List UInt8 := partN a b a.length 0
theorem partN_none {a b : List UInt8} {f n : Nat} (h : nextF (a.take n) = none) : partN a b (f + 1) n = partN a b f (n + 1) := by simp [partN, h]
theorem partN_yes {a b s : List UInt8} {f n : Nat} (h : nextF (a.take n) = some s) (hb : bytesLess s b = true) : partN a b (f + 1) n = s := by simp [partN, h, hb]
theorem partN_no {a b s : List UInt8} {f n : Nat} (h : nextF (a.take n) = some s) (hb : bytesLess s b = false) : partN a b (f + 1) n = partN a b f (n + 1) := by simp [partN, h, hb]
theorem rep_snoc (n : Nat) (z : UInt8) : List.replicate (n + 1) z = List.replicate n z ++ [z] := List.replicate_succ'
theorem next_snoc (l : List UInt8) (x : UInt8) : nextF (l ++ [x]) = if x = 255 then (nextF l).map (· ++ [0]) else some (l ++ [x + 1]) := by
  induction l with
  | nil => by_cases h : x = 255 <;> simp [nextF, h]
  | cons y l ih =>
    rw [List.cons_append, nextF, ih]
    by_cases h : x = 255
    · simp only [h, if_true, nextF]
      cases hl : nextF l with
      | some l' => simp
      | none =>
        simp only [Option.map_none]
        by_cases hy : y = 255
        · simp [hy]
        · simp only [hy, if_false, Option.map_some, List.length_append, List.length_cons, List.length_nil]
          rw [rep_snoc]; simp
    · simp [h]
theorem next_len : ∀ {l s : List UInt8}, nextF l = some s → s.length = l.length
  | [], s, h => by simp [nextF] at h
  | x :: l, s, h => by
    rw [nextF] at h
    cases hl : nextF l with
    | some l' =>
      rw [hl] at h
      simp only [Option.some.injEq] at h
      subst h
      simp [next_len hl]
    | none =>
      rw [hl] at h
      by_cases hx : x = 255
      · simp [hx] at h
      · simp only [hx, if_false, Option.some.injEq] at h
        subst h
        simp
theorem succ_nat {x : UInt8} (h : x ≠ 255) : (x + 1).toNat = x.toNat + 1 := by
  have h1 : x.toNat ≠ 255 := fun k => h (UInt8.toNat_inj.1 k)
  have h2 := x.toNat_lt
  rw [UInt8.toNat_add]
  have : (1 : UInt8).toNat = 1 := rfl
  omega
/-- it comes behind all that begin with the old one -/
theorem next_above : ∀ {l s : List UInt8}, nextF l = some s → ∀ r, bytesLess (l ++ r) s = true
  | [], s, h => by simp [nextF] at h
  | x :: l, s, h => by
    intro r
    rw [nextF] at h
    cases hl : nextF l with
    | some l' =>
      rw [hl] at h
      simp only [Option.some.injEq] at h
      subst h
      rw [List.cons_append, bl_cons]
      exact .inr ⟨rfl, next_above hl r⟩
    | none =>
      rw [hl] at h
      by_cases hx : x = 255
      · simp [hx] at h
      · simp only [hx, if_false, Option.some.injEq] at h
        subst h
        rw [List.cons_append, bl_cons, succ_nat hx]
        exact .inl (by omega)
theorem zeros_least : ∀ (o : List UInt8), bytesLess o (List.replicate o.length 0) = false
  | [] => rfl
  | x :: o => by
    rw [Bool.eq_false_iff]
    intro h
    rw [List.length_cons, List.replicate_succ, bl_cons] at h
    rcases h with h | ⟨_, h⟩
    · have : (0 : UInt8).toNat = 0 := rfl
      omega
    · rw [zeros_least o] at h; cases h
/-- none of the same length lies between -/
theorem next_least : ∀ {l s : List UInt8}, nextF l = some s → ∀ o : List UInt8, o.length = l.length → bytesLess l o = true → bytesLess o s = false
  | [], s, h => by simp [nextF] at h
  | x :: l, s, h => by
    intro o ho hb
    cases o with
    | nil => simp at ho
    | cons y o =>
      have ho' : o.length = l.length := by simpa using ho
      rw [bl_cons] at hb
      rw [Bool.eq_false_iff]
      intro hs
      rw [nextF] at h
      cases hl : nextF l with
      | some l' =>
        rw [hl] at h
        simp only [Option.some.injEq] at h
        subst h
        rw [bl_cons] at hs
        rcases hb with hb | ⟨e, hb⟩
        · rcases hs with hs | ⟨e, hs⟩
          · omega
          · subst e; omega
        · subst e
          rcases hs with hs | ⟨_, hs⟩
          · omega
          · rw [next_least hl o ho' hb] at hs; cases hs
      | none =>
        rw [hl] at h
        by_cases hx : x = 255
        · simp [hx] at h
        · simp only [hx, if_false, Option.some.injEq] at h
          subst h
          rw [bl_cons, succ_nat hx, ← ho'] at hs
          rcases hb with hb | ⟨e, hb⟩
          · rcases hs with hs | ⟨e, hs⟩
            · omega
            · rw [zeros_least o] at hs; cases hs
          · rw [next_none hl o ho'] at hb; cases hb
where
  next_none : ∀ {l : List UInt8}, nextF l = none → ∀ o : List UInt8, o.length = l.length → bytesLess l o = false
  | [], _, o, ho => by
    have : o = [] := List.eq_nil_of_length_eq_zero (by simpa using ho)
    subst this; rfl
  | x :: l, h, o, ho => by
    cases o with
    | nil => simp at ho
    | cons y o =>
      have ho' : o.length = l.length := by simpa using ho
      rw [nextF] at h
      cases hl : nextF l with
      | some l' => rw [hl] at h; simp at h
      | none =>
        rw [hl] at h
        by_cases hx : x = 255
        · rw [Bool.eq_false_iff]
          intro hb
          rw [bl_cons] at hb
          rcases hb with hb | ⟨_, hb⟩
          · subst hx
            have h1 := y.toNat_lt
            have : (255 : UInt8).toNat = 255 := rfl
            omega
          · rw [next_none hl o ho'] at hb; cases hb
        · simp [hx] at h
/-- what the parting tells: the first length at which there is one below b, or the text itself -/
theorem partN_spec (a b : List UInt8) : ∀ f n, n + f = a.length →
    (partN a b f n = a ∧ ∀ m, n ≤ m → m < a.length → ∀ s, nextF (a.take m) = some s → bytesLess s b = false) ∨
    (∃ m s, n ≤ m ∧ m < a.length ∧ nextF (a.take m) = some s ∧ bytesLess s b = true ∧ partN a b f n = s ∧ ∀ k, n ≤ k → k < m → ∀ s, nextF (a.take k) = some s → bytesLess s b = false)
  | 0, n, h => .inl ⟨rfl, fun m h1 h2 => by omega⟩
  | f + 1, n, h => by
    have keep : (∀ s, nextF (a.take n) = some s → bytesLess s b = false) → partN a b (f + 1) n = partN a b f (n + 1) := by
      intro hn
      cases hs : nextF (a.take n) with
      | none => exact partN_none hs
      | some s => exact partN_no hs (hn s hs)
    by_cases hn : ∀ s, nextF (a.take n) = some s → bytesLess s b = false
    · rw [keep hn]
      rcases partN_spec a b f (n + 1) (by omega) with ⟨h1, h2⟩ | ⟨m, s, h1, h2, h3, h4, h5, h6⟩
      · refine .inl ⟨h1, fun m hm1 hm2 => ?_⟩
        by_cases e : m = n
        · subst e; exact hn
        · exact h2 m (by omega) hm2
      · refine .inr ⟨m, s, by omega, h2, h3, h4, h5, fun k hk1 hk2 => ?_⟩
        by_cases e : k = n
        · subst e; exact hn
        · exact h6 k (by omega) hk2
    · have : ∃ s, nextF (a.take n) = some s ∧ bytesLess s b = true := by
        cases hs : nextF (a.take n) with
        | none => exact absurd (fun s h => by rw [hs] at h; cases h) hn
        | some s =>
          cases hb : bytesLess s b with
          | true => exact ⟨s, rfl, hb⟩
          | false => exact absurd (fun s' h => by rw [hs] at h; cases h; exact hb) hn
      obtain ⟨s, hs, hb⟩ := this
      exact .inr ⟨n, s, Nat.le_refl _, by omega, hs, hb, partN_yes hs hb, fun k h1 h2 => by omega⟩
theorem part_spec (a b : List UInt8) :
    (partF a b = a ∧ ∀ m, m < a.length → ∀ s, nextF (a.take m) = some s → bytesLess s b = false) ∨
    (∃ m s, m < a.length ∧ nextF (a.take m) = some s ∧ bytesLess s b = true ∧ partF a b = s ∧ ∀ k, k < m → ∀ s, nextF (a.take k) = some s → bytesLess s b = false) := by
  rcases partN_spec a b a.length 0 (by omega) with ⟨h1, h2⟩ | ⟨m, s, h1, h2, h3, h4, h5, h6⟩
  · exact .inl ⟨h1, fun m => h2 m (Nat.zero_le _)⟩
  · exact .inr ⟨m, s, h2, h3, h4, h5, fun k => h6 k (Nat.zero_le _)⟩
theorem above_of_take {a s : List UInt8} {m : Nat} (h : nextF (a.take m) = some s) : bytesLess a s = true := by
  have := next_above h (a.drop m)
  rwa [List.take_append_drop] at this
theorem part_same {a b : List UInt8} (h : bytesLess a b = false) : partF a b = a := by
  rcases part_spec a b with ⟨h1, _⟩ | ⟨m, s, _, h3, h4, _, _⟩
  · exact h1
  · rw [bl_trans (above_of_take h3) h4] at h; cases h
theorem part_from (a b : List UInt8) : bytesLess (partF a b) a = false := by
  rcases part_spec a b with ⟨h1, _⟩ | ⟨m, s, _, h3, _, h5, _⟩
  · rw [h1]; exact bl_irr a
  · rw [h5]; exact bl_asymm (above_of_take h3)
theorem part_below {a b : List UInt8} (h : bytesLess a b = true) : bytesLess (partF a b) b = true := by
  rcases part_spec a b with ⟨h1, _⟩ | ⟨m, s, _, _, h4, h5, _⟩
  · rw [h1]; exact h
  · rw [h5]; exact h4
theorem part_len (a b : List UInt8) : (partF a b).length ≤ a.length := by
  rcases part_spec a b with ⟨h1, _⟩ | ⟨m, s, h2, h3, _, h5, _⟩
  · rw [h1]; exact Nat.le_refl _
  · rw [h5, next_len h3, List.length_take]; omega
/-- of those that lie between, none is shorter, nor less of the same length -/
theorem part_least {a b o : List UInt8} (h1 : bytesLess o a = false) (h2 : bytesLess o b = true) :
    (partF a b).length < o.length ∨ (o.length = (partF a b).length ∧ bytesLess o (partF a b) = false) := by
  have hlen := part_len a b
  by_cases hm : o.length < a.length
  · have hlt : (a.take o.length).length = o.length := by simp; omega
    have hab : bytesLess (a.take o.length) o = true := by
      cases hx : bytesLess (a.take o.length) o with
      | true => rfl
      | false =>
        exfalso
        cases hy : bytesLess o (a.take o.length) with
        | true =>
          have : bytesLess o a = true := by
            have h3 := bl_self_append (a.take o.length) (a.drop o.length)
            rw [List.take_append_drop] at h3
            exact bl_lt_le hy h3
          rw [this] at h1; cases h1
        | false =>
          have e := bl_total hx hy
          have h3 := bl_prefix (a.take o.length) (a.drop o.length) (by
            intro k
            have := congrArg List.length k
            simp at this
            omega)
          rw [List.take_append_drop] at h3
          rw [e] at h3
          rw [h3] at h1; cases h1
    cases hs : nextF (a.take o.length) with
    | none =>
      rw [next_least.next_none hs o hlt.symm] at hab; cases hab
    | some s =>
      have hso := next_least hs o hlt.symm hab
      have hsb := bl_le_lt hso h2
      rcases part_spec a b with ⟨_, h4⟩ | ⟨m, s', hm', h3, h4, h5, h6⟩
      · rw [h4 o.length hm s hs] at hsb; cases hsb
      · have hmo : m ≤ o.length := by
          rcases Nat.lt_or_ge o.length m with h | h
          · rw [h6 o.length h s hs] at hsb; cases hsb
          · exact h
        have hl : (partF a b).length = m := by rw [h5, next_len h3, List.length_take]; omega
        rcases Nat.lt_or_ge m o.length with h | h
        · left; omega
        · right
          have e : m = o.length := by omega
          subst e
          rw [hs] at h3
          cases h3
          exact ⟨hl.symm, by rw [h5]; exact hso⟩
  · rcases Nat.lt_or_ge (partF a b).length o.length with h | h
    · exact .inl h
    · right
      refine ⟨by omega, ?_⟩
      rcases part_spec a b with ⟨h4, _⟩ | ⟨m, s, hm', h3, _, h5, _⟩
      · rw [h4]; exact h1
      · have hl : (partF a b).length = m := by rw [h5, next_len h3, List.length_take]; omega
        omega
end Go.Proofs.YtnjnehegfdimaaaDoor.Ikey
