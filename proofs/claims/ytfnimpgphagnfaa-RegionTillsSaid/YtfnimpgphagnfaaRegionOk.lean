/- Layer 1 (region): every call leaves the pool in order. No program is in sight here. -/
import Derived.Test.YtfnimpgphagnfaaRegionBits
namespace Go.Proofs.Ytfnimpgphagnfaa
set_option linter.unusedVariables false
set_option linter.unusedSimpArgs false
open Go.RowKit
theorem Land.eta (l : Land) : (⟨l.there, l.gen, l.slabs, l.fill⟩ : Land) = l := rfl
theorem getD_set_bool (l : List Bool) (s j : Nat) (b : Bool) (hs : s < l.length) : (l.set s b).getD j false = if s = j then b else l.getD j false := by
  simp only [List.getD_eq_getElem?_getD, List.getElem?_set]
  by_cases h : s = j
  · subst h; simp [hs]
  · simp [h]
theorem landAt_grow {p : PoolF} (h : PoolOk p) {i : Nat} (hi : i < 256) (s j : Nat) : landAt (growAt p i s) j = if i = j then ⟨(landAt p i).there, (landAt p i).gen, (landAt p i).slabs ++ [s], (landAt p i).slabs.length * p.size⟩ else landAt p j :=
  landAt_set { p with bytes := p.bytes.set s (List.replicate p.size 0), taken := p.taken.set s true } i j _ (by show i < p.lands.length; rw [h.ln]; exact hi)
theorem landAt_fill {p : PoolF} (h : p.lands.length = 256) {i : Nat} (hi : i < 256) (f j : Nat) : landAt (fillAt p i f) j = if i = j then ⟨(landAt p i).there, (landAt p i).gen, (landAt p i).slabs, f⟩ else landAt p j :=
  landAt_set p i j _ (by rw [h]; exact hi)
theorem grow_lands {p : PoolF} (h : PoolOk p) (i s : Nat) : (growAt p i s).lands.length = 256 := by show (p.lands.set i _).length = 256; rw [List.length_set]; exact h.ln
theorem mem_bytes_set {α : Type} {l : List α} {s : Nat} {x y : α} (h : y ∈ l.set s x) : y ∈ l ∨ y = x := List.mem_or_eq_of_mem_set h
/-- a region has a slab more, and is handed out so far -/
theorem growfill_ok {p : PoolF} (h : PoolOk p) {i s f : Nat} (hi : i < 256) (hth : (landAt p i).there = true) (hs : s < p.taken.length) (h0 : p.taken.getD s false = false) (f1 : (landAt p i).slabs.length * p.size < f) (f2 : f ≤ ((landAt p i).slabs.length + 1) * p.size) :
    PoolOk (fillAt (growAt p i s) i f) := by
  have hA : ∀ j, landAt (fillAt (growAt p i s) i f) j = if i = j then ⟨(landAt p i).there, (landAt p i).gen, (landAt p i).slabs ++ [s], f⟩ else landAt p j := fun j => by
    rw [landAt_fill (grow_lands h i s) hi, landAt_grow h hi, landAt_grow h hi, if_pos rfl]
    split <;> rfl
  have hsb : s < p.bytes.length := by rw [← h.tk]; exact hs
  have hbl : (fillAt (growAt p i s) i f).bytes.length = p.bytes.length := List.length_set
  have hnot : ∀ j, j < 256 → s ∉ (landAt p j).slabs := fun j hj hm => by
    have := (h.has s hsb).2 ⟨j, hj, hm⟩
    rw [h0] at this; cases this
  have hsl : ∀ j, (landAt (fillAt (growAt p i s) i f) j).slabs = if i = j then (landAt p i).slabs ++ [s] else (landAt p j).slabs := fun j => by rw [hA]; split <;> rfl
  refine ⟨h.s1, h.s2, h.s3, by rw [hbl]; exact h.n1, by rw [hbl]; exact h.n2, fun b hb => ?_, ?_, ?_, fun j hj => ?_, fun t ht => ?_, fun j k t hj hk m1 m2 => ?_⟩
  · rcases mem_bytes_set hb with h1 | h1
    · exact h.bl b h1
    · rw [h1]; exact List.length_replicate
  · rw [hbl]; show (p.taken.set s true).length = _; rw [List.length_set]; exact h.tk
  · show ((growAt p i s).lands.set i _).length = 256; rw [List.length_set]; exact grow_lands h i s
  · rw [hA]
    by_cases e : i = j
    · subst e
      rw [if_pos rfl]
      have hl := h.ld i hi
      refine ⟨?_, fun t ht => ?_, .inr ⟨by simp, ?_, ?_⟩, fun hf => ?_⟩
      · refine List.nodup_append.2 ⟨hl.nodup, by simp, fun a ha b hb e => ?_⟩
        rw [List.mem_singleton] at hb
        exact hnot i hi (by rw [← hb, ← e]; exact ha)
      · rw [hbl]
        rcases List.mem_append.1 ht with h1 | h1
        · exact hl.lt t h1
        · rw [List.mem_singleton] at h1; rw [h1]; exact hsb
      · show (((landAt p i).slabs ++ [s]).length - 1) * p.size < f
        simpa using f1
      · show f ≤ ((landAt p i).slabs ++ [s]).length * p.size
        simpa using f2
      · exact absurd (hth.symm.trans hf) (by simp)
    · rw [if_neg e]
      have hl := h.ld j hj
      exact ⟨hl.nodup, fun t ht => by rw [hbl]; exact hl.lt t ht, hl.fill, hl.away⟩
  · rw [hbl] at ht
    have hg : (fillAt (growAt p i s) i f).taken.getD t false = if s = t then true else p.taken.getD t false := getD_set_bool p.taken s t true hs
    rw [hg]
    by_cases e : s = t
    · subst e
      rw [if_pos rfl]
      exact ⟨fun _ => ⟨i, hi, by rw [hsl, if_pos rfl]; simp⟩, fun _ => rfl⟩
    · rw [if_neg e, h.has t ht]
      constructor
      · rintro ⟨j, hj, hm⟩
        refine ⟨j, hj, ?_⟩
        rw [hsl]
        split
        · rename_i e2; subst e2; exact List.mem_append_left _ hm
        · exact hm
      · rintro ⟨j, hj, hm⟩
        refine ⟨j, hj, ?_⟩
        rw [hsl] at hm
        split at hm
        · rename_i e2; subst e2
          rcases List.mem_append.1 hm with h1 | h1
          · exact h1
          · rw [List.mem_singleton] at h1; exact absurd h1.symm e
        · exact hm
  · rw [hsl] at m1 m2
    by_cases ej : i = j
    · subst ej
      by_cases ek : i = k
      · exact ek
      · rw [if_pos rfl] at m1
        rw [if_neg ek] at m2
        rcases List.mem_append.1 m1 with h1 | h1
        · exact h.apart i k t hi hk h1 m2
        · rw [List.mem_singleton] at h1; rw [h1] at m2; exact absurd m2 (hnot k hk)
    · rw [if_neg ej] at m1
      by_cases ek : i = k
      · subst ek
        rw [if_pos rfl] at m2
        rcases List.mem_append.1 m2 with h1 | h1
        · exact h.apart j i t hj hi m1 h1
        · rw [List.mem_singleton] at h1; rw [h1] at m1; exact absurd m1 (hnot j hj)
      · rw [if_neg ek] at m2
        exact h.apart j k t hj hk m1 m2
/-- a region is handed out further within its last slab -/
theorem fill_ok {p : PoolF} (h : PoolOk p) {i f : Nat} (hi : i < 256) (hne : (landAt p i).slabs ≠ []) (f1 : ((landAt p i).slabs.length - 1) * p.size < f) (f2 : f ≤ (landAt p i).slabs.length * p.size) : PoolOk (fillAt p i f) := by
  have hA := fun j => landAt_fill (p := p) h.ln hi f j
  have hsl : ∀ j, (landAt (fillAt p i f) j).slabs = (landAt p j).slabs := fun j => by
    rw [hA]; split
    · rename_i e; subst e; rfl
    · rfl
  refine ⟨h.s1, h.s2, h.s3, h.n1, h.n2, h.bl, h.tk, ?_, fun j hj => ?_, fun t ht => ?_, fun j k t hj hk m1 m2 => ?_⟩
  · show (p.lands.set i _).length = 256; rw [List.length_set]; exact h.ln
  · have hl := h.ld j hj
    rw [hA]
    by_cases e : i = j
    · subst e; rw [if_pos rfl]
      exact ⟨hl.nodup, hl.lt, .inr ⟨hne, f1, f2⟩, hl.away⟩
    · rw [if_neg e]; exact ⟨hl.nodup, hl.lt, hl.fill, hl.away⟩
  · simp only [hsl]; exact h.has t ht
  · rw [hsl] at m1 m2; exact h.apart j k t hj hk m1 m2
theorem inF_bounds {p : PoolF} (h : PoolOk p) {i : Nat} (hi : i < 256) : inF p i ≤ p.size ∧ ((landAt p i).slabs ≠ [] → (landAt p i).fill = ((landAt p i).slabs.length - 1) * p.size + inF p i ∧ 1 ≤ inF p i) := by
  have hl := h.ld i hi
  unfold inF
  refine ⟨Nat.sub_le _ _, fun hne => ?_⟩
  rcases hl.fill with ⟨h1, _⟩ | ⟨_, h2, h3⟩
  · exact absurd h1 hne
  · obtain ⟨k, hk⟩ : ∃ k, (landAt p i).slabs.length = k + 1 := ⟨(landAt p i).slabs.length - 1, by
      cases hsl : (landAt p i).slabs with
      | nil => exact absurd hsl hne
      | cons _ _ => simp⟩
    rw [hk] at h2 h3 ⊢
    simp only [Nat.add_sub_cancel] at h2 ⊢
    rw [Nat.add_mul] at h3 ⊢
    omega
theorem alloc_ok {p : PoolF} (h : PoolOk p) (r n a : Int) : PoolOk (allocF p r n a).2.2 := by
  unfold allocF
  cases hl : landF p r with
  | none => exact h
  | some i =>
    obtain ⟨_, hi, hth⟩ := landF_some hl
    simp only
    split
    · exact h
    · rename_i hb
      have hn1 : 1 ≤ n.toNat := by omega
      have hn2 : n.toNat ≤ p.size := by omega
      split
      · cases hid : idleF p with
        | none => exact h
        | some s =>
          obtain ⟨h1, h2, _⟩ := idleF_some hid
          simp only
          exact growfill_ok h hi hth h1 h2 (by omega) (by rw [Nat.add_mul]; omega)
      · rename_i hg
        have hne : (landAt p i).slabs ≠ [] := fun e => hg (.inl e)
        have hfit : ¬ p.size < upTo (inF p i) a.toNat + n.toNat := fun e => hg (.inr e)
        simp only
        refine fill_ok h hi hne (by omega) ?_
        obtain ⟨k, hk⟩ : ∃ k, (landAt p i).slabs.length = k + 1 := ⟨(landAt p i).slabs.length - 1, by
          cases hsl : (landAt p i).slabs with
          | nil => exact absurd hsl hne
          | cons _ _ => simp⟩
        rw [hk, Nat.add_sub_cancel, Nat.add_mul]
        omega
theorem setB_ok {p : PoolF} (h : PoolOk p) (s : Nat) (b : List UInt8) (hb : s < p.bytes.length → b.length = p.size) : PoolOk { p with bytes := p.bytes.set s b } := by
  have hl : ∀ j, landAt { p with bytes := p.bytes.set s b } j = landAt p j := fun _ => rfl
  have hbl : ({ p with bytes := p.bytes.set s b } : PoolF).bytes.length = p.bytes.length := List.length_set
  refine ⟨h.s1, h.s2, h.s3, by rw [hbl]; exact h.n1, by rw [hbl]; exact h.n2, fun y hy => ?_, by rw [hbl]; exact h.tk, h.ln, fun j hj => ?_, fun t ht => h.has t (by rw [hbl] at ht; exact ht), h.apart⟩
  · by_cases hs : s < p.bytes.length
    · rcases mem_bytes_set hy with h1 | h1
      · exact h.bl y h1
      · rw [h1]; exact hb hs
    · rw [List.set_eq_of_length_le (by omega)] at hy
      exact h.bl y hy
  · have := h.ld j hj
    exact ⟨this.nodup, fun t ht => by rw [hbl]; exact this.lt t ht, this.fill, this.away⟩
end Go.Proofs.Ytfnimpgphagnfaa
