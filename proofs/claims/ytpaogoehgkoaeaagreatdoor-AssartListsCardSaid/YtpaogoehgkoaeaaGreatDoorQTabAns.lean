/- Layer 14 (table): what a table answers is what its cells say. No step of a program is taken here. -/
import Derived.Test.YtpaogoehgkoaeaaGreatDoorQTabRef
import Derived.Test.YtpaogoehgkoaeaaGreatDoorQBunB3
namespace Go.Proofs.YtpaogoehgkoaeaaGreatDoor
set_option linter.unusedVariables false
set_option linter.unusedSimpArgs false
open Go.RowKit Tab Bloom
open Go.Op (bytesLess)
theorem onF_mem {keys : List (List UInt8)} {key : List UInt8} (h : key ∈ keys) (b k j : Nat) (hj : j < k) : onF keys b k (bitAt (hashF key) b j) = true := by
  unfold onF
  rw [List.any_eq_true]
  refine ⟨key, h, ?_⟩
  unfold probesF
  rw [List.any_eq_true]
  exact ⟨j, List.mem_range.2 hj, by simp⟩
/-- each key of a filter may be there -/
theorem may_built {keys : List (List UInt8)} {b : Nat} {key : List UInt8} (h : key ∈ keys) : mayF (filterF keys b) (hashF key) = true := by
  have h1 := kF_le b
  have hn : 1 ≤ nF keys.length b := by unfold nF; omega
  unfold filterF
  rw [may_row _ _ _ _ hn h1.1 h1.2, List.all_eq_true]
  intro j hj
  exact onF_mem h _ _ _ (List.mem_range.1 hj)
theorem once_has : ∀ (l a : List (List UInt8)), (∀ s ∈ a, s ∈ l.foldl addK a) ∧ ∀ s ∈ l, s ∈ l.foldl addK a
  | [], a => ⟨fun s h => h, fun s h => by simp at h⟩
  | k :: l, a => by
    have ih := once_has l (addK a k)
    have h1 : ∀ s ∈ a, s ∈ addK a k := fun s h => by
      unfold addK; split
      · exact h
      · exact List.mem_append_left _ h
    have h2 : k ∈ addK a k := by
      unfold addK; split
      · rename_i e; exact List.mem_of_getLast? e
      · simp
    rw [List.foldl_cons]
    refine ⟨fun s h => ih.1 s (h1 s h), fun s h => ?_⟩
    rcases List.mem_cons.1 h with rfl | h
    · exact ih.1 _ h2
    · exact ih.2 s h
theorem keys_has {C : List Ci} {c : Ci} (h : c ∈ C) : c.key ∈ keysF C := (once_has (C.map (·.key)) []).2 _ (List.mem_map.2 ⟨c, h, rfl⟩)
/-- no cell's key is missed -/
def Sees (C : List Ci) (f : List UInt8) : Prop := ∀ c ∈ C, mayF f (Bloom.hashF c.key) = true
theorem sees_built {C : List Ci} {bits : Int} (h1 : 1 ≤ bits) (h2 : bits ≤ 64) (hl : C.length ≤ 5000) : Sees C (buildF (keysF C) bits).1 := by
  intro c hc
  have h := may_built (b := bits.toNat) (keys_has hc)
  have hk := keys_len C
  have e : (buildF (keysF C) bits).1 = filterF (keysF C) bits.toNat := by
    have := build_good (keys := keysF C) (b := bits.toNat) (by omega) (by omega) (by omega)
    rw [show ((bits.toNat : Nat) : Int) = bits by omega] at this
    rw [this]
  rw [e]; exact h
theorem mono_of {C : List Ci} (h : C.Pairwise AscI) (v : Vr) : MonoV v C := by
  intro i j hij hj hv hi
  rcases Nat.eq_or_lt_of_le hij with e | e
  · subst e; exact hv
  · exact vless_trans (List.pairwise_iff_getElem.1 h i j hi hj e) hv
theorem from_is {C : List Ci} (h : C.Pairwise AscI) (v : Vr) (most : Int) : fromF C v most = (C.filter (fun c => !vless c.vr v)).take most.toNat := by
  unfold fromF; rw [(ranks_filter v h).2]
theorem okC_kind {c : Ci} (h : okC c = true) : c.key ≠ [] ∧ 0 ≤ c.kind ∧ c.kind ≤ 1 ∧ 0 ≤ c.seq := by
  have := okV_of h
  refine ⟨this.1, ?_, ?_, this.2.2.1⟩ <;> rcases this.2.2.2.2 with h | h <;> omega
/-- a key's first up to a number -/
theorem not_less_hit {c : Ci} {key : List UInt8} {seq : Int} (hc : c.kind ≤ 1) (hk : c.key = key) : vless c.vr ⟨key, seq, 1⟩ = !decide (c.seq ≤ seq) := by
  rw [Bool.eq_iff_iff, vless_iff]
  simp only [Ci.vr, Bool.not_eq_true', decide_eq_false_iff_not]
  rw [hk, bl_irr]
  constructor
  · rintro (h | ⟨_, h | ⟨h1, h2⟩⟩)
    · cases h
    · omega
    · omega
  · intro h; exact .inr ⟨rfl, .inl (by omega)⟩
theorem get_is {C : List Ci} {f : List UInt8} (h : C.Pairwise AscI) (ho : ∀ c ∈ C, okC c = true) (hs : Sees C f) (key : List UInt8) (seq : Int) : getF C f key seq = rgetF C key seq := by
  unfold getF rgetF
  by_cases hm : mayF f (Bloom.hashF key) = false
  · rw [if_pos hm, List.find?_eq_none.2]
    intro c hc hh
    unfold hitF at hh
    rw [Bool.and_eq_true, beq_iff_eq] at hh
    have := hs c hc
    rw [hh.1, hm] at this; cases this
  · rw [if_neg hm]
    have hf := ranks_filter ⟨key, seq, 1⟩ h
    have hfind : C.find? (hitF key seq) = (C.drop (rankI ⟨key, seq, 1⟩ C)).find? (hitF key seq) := by
      conv => lhs; rw [← List.take_append_drop (rankI ⟨key, seq, 1⟩ C) C]
      rw [List.find?_append, List.find?_eq_none.2, Option.none_or]
      intro c hc hh
      have hl := rank_take _ _ c hc
      unfold hitF at hh
      rw [Bool.and_eq_true, beq_iff_eq, decide_eq_true_eq] at hh
      rw [not_less_hit (okC_kind (ho c (List.mem_of_mem_take hc))).2.2.1 hh.1, decide_eq_true hh.2] at hl
      cases hl
    rw [hfind, ← List.head?_drop]
    have hnl : ∀ c ∈ C.drop (rankI ⟨key, seq, 1⟩ C), vless c.vr ⟨key, seq, 1⟩ = false := fun c hc => by
      rw [hf.2] at hc
      simpa using (List.mem_filter.1 hc).2
    have hpw : (C.drop (rankI ⟨key, seq, 1⟩ C)).Pairwise AscI := h.sublist (List.drop_sublist _ _)
    have hok : ∀ c ∈ C.drop (rankI ⟨key, seq, 1⟩ C), okC c = true := fun c hc => ho c (List.mem_of_mem_drop hc)
    cases hd : C.drop (rankI ⟨key, seq, 1⟩ C) with
    | nil => rfl
    | cons c r =>
      rw [hd] at hnl hpw hok
      rw [List.head?_cons]
      simp only
      have h0 := hnl c List.mem_cons_self
      by_cases hk : c.key = key
      · rw [not_less_hit (okC_kind (hok c List.mem_cons_self)).2.2.1 hk] at h0
        rw [if_pos hk, List.find?_cons_of_pos]
        unfold hitF
        rw [hk, beq_self_eq_true, Bool.true_and]
        simpa using h0
      · rw [if_neg hk, List.find?_eq_none.2]
        intro x hx hh
        unfold hitF at hh
        rw [Bool.and_eq_true, beq_iff_eq] at hh
        rcases List.mem_cons.1 hx with rfl | hx
        · exact hk hh.1
        · have ha := (List.pairwise_cons.1 hpw).1 x hx
          have hb : vless c.vr ⟨key, seq, 1⟩ = true := by
            unfold AscI at ha
            rw [vless_iff] at ha ⊢
            simp only [Ci.vr] at ha ⊢
            rw [hh.1] at ha
            rcases ha with h1 | ⟨h1, _⟩
            · exact .inl h1
            · exact absurd h1 hk
          rw [h0] at hb; cases hb
/-- a table of cells that were built -/
structure Built (C : List Ci) (f : List UInt8) : Prop where
  ne : C ≠ []
  len : C.length ≤ 5000
  asc : C.Pairwise AscI
  ok : ∀ c ∈ C, okC c = true
  sees : Sees C f
  flen : f.length ≤ 50000
theorem built_of {C : List Ci} {size bits : Int} (h : chkT C size bits = 0) : Built C (buildF (keysF C) bits).1 := by
  obtain ⟨s1, s2, b1, b2, h5, hbig, hne, ho⟩ := chkT_ok h
  exact ⟨hne, h5, ord_asc ho, ord_ok ho, sees_built b1 b2 h5, (good_of h).2.2.1⟩
end Go.Proofs.YtpaogoehgkoaeaaGreatDoor
