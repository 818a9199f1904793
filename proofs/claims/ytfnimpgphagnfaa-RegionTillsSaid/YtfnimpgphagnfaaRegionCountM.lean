/- Layer 1 (region): idle slabs and those of all regions are all there are. No walk here. -/
import Derived.Test.YtfnimpgphagnfaaRegionHands
namespace Go.Proofs.Ytfnimpgphagnfaa
set_option linter.unusedVariables false
set_option linter.unusedSimpArgs false
open Go.RowKit
theorem filter_both {α : Type} (f : α → Bool) : ∀ l : List α, (l.filter f).length + (l.filter fun x => !f x).length = l.length
  | [] => rfl
  | x :: l => by
    have := filter_both f l
    cases h : f x <;> simp [h] <;> omega
/-- how many are taken: as many as are in a list that has just the taken ones -/
theorem count_list {p : PoolF} (hp : PoolOk p) {l : List Nat} (hn : l.Nodup) (hm : ∀ s, s < p.bytes.length → (s ∈ l ↔ p.taken.getD s false = true)) (hl : ∀ s ∈ l, s < p.bytes.length) : countF p + l.length = p.bytes.length := by
  have e1 : p.taken = (List.range p.taken.length).map fun s => p.taken.getD s false := by
    apply List.ext_getElem?
    intro i
    by_cases hi : i < p.taken.length
    · simp [hi]
    · rw [List.getElem?_eq_none (by omega), List.getElem?_eq_none (by simp; omega)]
  have e2 : countF p = ((List.range p.taken.length).filter fun s => !(p.taken.getD s false)).length := by
    unfold countF
    conv => lhs; rw [e1]
    rw [List.filter_map, List.length_map]
    rfl
  have e3 := filter_both (fun s => p.taken.getD s false) (List.range p.taken.length)
  have e4 : ((List.range p.taken.length).filter fun s => p.taken.getD s false).length = l.length := by
    apply List.Perm.length_eq
    refine (List.perm_ext_iff_of_nodup (List.nodup_range.filter _) hn).2 fun s => ?_
    rw [List.mem_filter, List.mem_range, hp.tk]
    constructor
    · rintro ⟨h1, h2⟩; exact (hm s h1).2 h2
    · intro h; exact ⟨hl s h, (hm s (hl s h)).1 h⟩
  rw [List.length_range, hp.tk] at e3
  rw [hp.tk] at e4 e2
  rw [e2]
  omega
/-- how many slabs the regions have behind an Alloc -/
theorem alloc_slabs {p p' : PoolF} {y : Hd} (hp : PoolOk p) {r n a : Int} (he : allocF p r n a = (y, 0, p')) : ∀ i, landF p r = some i → (landAt p' i).slabs.length ≤ (landAt p i).slabs.length + 1 ∧ ∀ j, j ≠ i → (landAt p' j).slabs.length = (landAt p j).slabs.length := by
  intro i hl
  obtain ⟨_, hi, _⟩ := landF_some hl
  unfold allocF at he
  rw [hl] at he
  simp only at he
  split at he
  · simp at he
  · split at he
    · cases hid : idleF p with
      | none => rw [hid] at he; simp at he
      | some s =>
        rw [hid] at he
        simp only [Prod.mk.injEq, true_and] at he
        have hA : ∀ j, landAt p' j = if i = j then ⟨(landAt p i).there, (landAt p i).gen, (landAt p i).slabs ++ [s], (landAt p i).slabs.length * p.size + n.toNat⟩ else landAt p j := fun j => by
          rw [← he.2, landAt_fill (grow_lands hp i s) hi, landAt_grow hp hi, landAt_grow hp hi, if_pos rfl]
          split <;> rfl
        refine ⟨by rw [hA, if_pos rfl]; simp, fun j hj => by rw [hA, if_neg (fun e => hj e.symm)]⟩
    · simp only [Prod.mk.injEq, true_and] at he
      have hA := fun j => landAt_fill (p := p) hp.ln hi (((landAt p i).slabs.length - 1) * p.size + upTo (inF p i) a.toNat + n.toNat) j
      rw [he.2] at hA
      exact ⟨by rw [hA, if_pos rfl]; exact Nat.le_succ _, fun j hj => by rw [hA, if_neg (fun e => hj e.symm)]⟩
/-- three regions are there, and no others -/
structure CI (p : PoolF) (G : Nat) : Prop where
  sz : p.size = 96
  bl : p.bytes.length = 7
  there : ∀ j, j < 256 → ((landAt p j).there = true ↔ j < 3)
  gen : ∀ j, j < 256 → (landAt p j).gen ≤ G
section
variable {p p' : PoolF} {G : Nat}
theorem CI.slabs (hp : PoolOk p) (h : CI p G) : countF p + (landAt p 0).slabs.length + (landAt p 1).slabs.length + (landAt p 2).slabs.length = 7 := by
  have hd : ∀ i j, i < 3 → j < 3 → i ≠ j → ∀ a ∈ (landAt p i).slabs, ∀ b ∈ (landAt p j).slabs, a ≠ b := fun i j hi hj hne a ha b hb e => hne (hp.apart i j a (by omega) (by omega) ha (e ▸ hb))
  have hnd : ((landAt p 0).slabs ++ (landAt p 1).slabs ++ (landAt p 2).slabs).Nodup := by
    rw [List.nodup_append]
    refine ⟨List.nodup_append.2 ⟨(hp.ld 0 (by omega)).nodup, (hp.ld 1 (by omega)).nodup, hd 0 1 (by omega) (by omega) (by omega)⟩, (hp.ld 2 (by omega)).nodup, fun a ha b hb => ?_⟩
    rcases List.mem_append.1 ha with h1 | h1
    · exact hd 0 2 (by omega) (by omega) (by omega) a h1 b hb
    · exact hd 1 2 (by omega) (by omega) (by omega) a h1 b hb
  have := count_list hp hnd (fun s hs => by
    rw [hp.has s hs, List.mem_append, List.mem_append]
    constructor
    · rintro ((h1 | h1) | h1)
      · exact ⟨0, by omega, h1⟩
      · exact ⟨1, by omega, h1⟩
      · exact ⟨2, by omega, h1⟩
    · rintro ⟨i, hi, hm⟩
      have hth : (landAt p i).there = true := by
        cases hc : (landAt p i).there with
        | true => rfl
        | false => rw [(hp.ld i hi).away hc] at hm; cases hm
      have hi3 := (h.there i hi).1 hth
      have : i = 0 ∨ i = 1 ∨ i = 2 := by omega
      rcases this with e | e | e
      · rw [e] at hm; exact .inl (.inl hm)
      · rw [e] at hm; exact .inl (.inr hm)
      · rw [e] at hm; exact .inr hm) (fun s hs => by
    rcases List.mem_append.1 hs with h1 | h1
    · rcases List.mem_append.1 h1 with h2 | h2
      · exact (hp.ld 0 (by omega)).lt s h2
      · exact (hp.ld 1 (by omega)).lt s h2
    · exact (hp.ld 2 (by omega)).lt s h1)
  rw [List.length_append, List.length_append, h.bl] at this
  omega
/-- a region is freed and made again -/
theorem CI.turn (hp : PoolOk p) (h : CI p G) {r : Nat} (hr : r < 3) : ∃ p1 p2, freeF p (r : Int) = (0, p1) ∧ makeR p1 = (r, 0, p2) ∧ CI p2 (G + 1) ∧ ∀ j, j < 256 → (landAt p1 j).gen ≤ G := by
  obtain ⟨p1, h1, h2, h3, h4, h5, _⟩ := free_pcs hp (r := r) (by omega) ((h.there r (by omega)).2 hr)
  have hp1 : PoolOk p1 := by have := free_ok hp (r : Int); rw [h1] at this; exact this
  have hm := makeF_is (p := p1) (i := r) (by omega) (by rw [h4]) (fun j hj => by rw [h5 j (by omega)]; exact (h.there j (by omega)).2 (by omega))
  have hmk : makeR p1 = (r, 0, makeAt p1 r) := by unfold makeR; rw [hm]
  obtain ⟨_, _, _, e1, e2, _, e4, e5, _⟩ := make_pcs hp1 hmk
  refine ⟨p1, _, h1, hmk, ⟨by rw [e1, h2]; exact h.sz, by rw [e2, h3]; exact h.bl, fun j hj => ?_, fun j hj => ?_⟩, fun j hj => ?_⟩
  · by_cases e : j = r
    · rw [e, e4]; simp [hr]
    · rw [e5 j e, h5 j e]; exact h.there j hj
  · by_cases e : j = r
    · rw [e, e4, h4]; have := h.gen r (by omega); show (landAt p r).gen + 1 ≤ G + 1; omega
    · rw [e5 j e, h5 j e]; have := h.gen j hj; omega
  · by_cases e : j = r
    · rw [e, h4]; exact h.gen r (by omega)
    · rw [h5 j e]; exact h.gen j hj
/-- what Alloc answers -/
theorem CI.alloc (hp : PoolOk p) (h : CI p G) {r n c : Nat} (hr : r < 3) (hn : 1 ≤ n) (hc : c < 7) :
    (∃ (y : Hd) (p' : PoolF) (o : Nat), allocF p (r : Int) (n : Int) ((2 ^ c : Nat) : Int) = (y, 0, p') ∧ CI p' G ∧ y.off = (o : Int) ∧ o % 96 % 2 ^ c = 0 ∧ o % 96 + n ≤ 96 ∧ o ≤ 1000000000 ∧ countF p ≤ countF p' + 1 ∧ countF p' ≤ countF p) ∨
    (allocF p (r : Int) (n : Int) ((2 ^ c : Nat) : Int) = (noHd, 5, p) ∧ countF p = 0) ∨ (allocF p (r : Int) (n : Int) ((2 ^ c : Nat) : Int) = (noHd, 1, p) ∧ 96 < n) := by
  have hth := (h.there r (by omega)).2 hr
  have hal : alignOk ((2 ^ c : Nat) : Int) = true := by
    have : ∀ c : Fin 7, alignOk ((2 ^ c.val : Nat) : Int) = true := by decide
    exact this ⟨c, hc⟩
  by_cases hb : 96 < n
  · right; right
    refine ⟨?_, hb⟩
    unfold allocF
    rw [landF_of (by omega) hth]
    simp only
    rw [if_pos (.inr (.inl (by rw [h.sz]; omega)))]
  · rcases alloc_cases (n := (n : Int)) (a := ((2 ^ c : Nat) : Int)) (landF_of (by omega) hth) (by omega) (by rw [h.sz]; omega) hal with ⟨y, p', he⟩ | ⟨he, hi⟩
    · left
      have hp' : PoolOk p' := by have := alloc_ok hp (r : Int) (n : Int) ((2 ^ c : Nat) : Int); rw [he] at this; exact this
      obtain ⟨i, o, hli, hpc, _, _, hs, hbl, hg, _, _, hal2⟩ := alloc_pcs hp he
      rw [landF_of (by omega) hth] at hli
      cases hli
      rw [Int.toNat_natCast] at hpc hal2
      rw [h.sz] at hal2
      have hins := hpc.ins
      rw [hs, h.sz] at hins
      have hI' : CI p' G := ⟨by rw [hs]; exact h.sz, by rw [hbl]; exact h.bl, fun j hj => by rw [(hg j hj).there]; exact h.there j hj, fun j hj => by rw [(hg j hj).gen]; exact h.gen j hj⟩
      have c1 := h.slabs hp
      have c2 := hI'.slabs hp'
      have hfit := hpc.fit
      have hcap := (hp'.ld r (by omega)).cap hp'
      have hfl := (hp'.ld r (by omega)).fill_le
      have hgr : ∀ j, j < 256 → (landAt p j).slabs.length ≤ (landAt p' j).slabs.length := fun j hj => by
        obtain ⟨t, ht⟩ := (hg j hj).slabs
        rw [ht, List.length_append]; omega
      have hone : (landAt p' 0).slabs.length + (landAt p' 1).slabs.length + (landAt p' 2).slabs.length ≤ (landAt p 0).slabs.length + (landAt p 1).slabs.length + (landAt p 2).slabs.length + 1 := by
        have hsl := alloc_slabs hp he
        rw [landF_of (by omega) hth] at hsl
        obtain ⟨s1, s2⟩ := hsl r rfl
        have : r = 0 ∨ r = 1 ∨ r = 2 := by omega
        rcases this with e | e | e
        · subst e; have := s2 1 (by omega); have := s2 2 (by omega); omega
        · subst e; have := s2 0 (by omega); have := s2 2 (by omega); omega
        · subst e; have := s2 0 (by omega); have := s2 1 (by omega); omega
      have g0 := hgr 0 (by omega)
      have g1 := hgr 1 (by omega)
      have g2 := hgr 2 (by omega)
      exact ⟨y, p', o, he, hI', hpc.off, hal2, hins, by omega, by omega, by omega⟩
    · right; left
      refine ⟨he, ?_⟩
      have hall := idleF_none hi
      unfold countF
      rw [List.length_eq_zero_iff, List.filter_eq_nil_iff]
      intro x hx
      obtain ⟨s, hs, e⟩ := List.getElem_of_mem hx
      have := hall s hs
      rw [List.getD_eq_getElem?_getD, List.getElem?_eq_getElem hs, e] at this
      simp only [Option.getD_some] at this
      rw [this]; simp
end
end Go.Proofs.Ytfnimpgphagnfaa
