/- Layer 1 (region): what is not handed out yet is all noughts. No walk here. -/
import Derived.Test.YtfnimpgphagnfaaRegionPcs
namespace Go.Proofs.Ytfnimpgphagnfaa
set_option linter.unusedVariables false
set_option linter.unusedSimpArgs false
open Go.RowKit
def ZeroOk (p : PoolF) : Prop := ∀ i, i < 256 → ∀ o, (landAt p i).fill ≤ o → o < (landAt p i).slabs.length * p.size → (bytesAt p (slabOf p i o))[o % p.size]? = some 0
theorem ZeroOk.new (size slabs : Nat) : ZeroOk (newF size slabs) := fun i _ o _ h => by rw [landAt_new] at h; simp [noLand] at h
section
variable {p p' : PoolF} {x y : Hd} {i j o l : Nat}
theorem slabOf_mem {p : PoolF} (hs : 1 ≤ p.size) {i o : Nat} (h : o < (landAt p i).slabs.length * p.size) : o / p.size < (landAt p i).slabs.length ∧ (landAt p i).slabs[o / p.size]? = some (slabOf p i o) := by
  have hlt : o / p.size < (landAt p i).slabs.length := by rw [Nat.div_lt_iff_lt_mul (by omega)]; exact h
  refine ⟨hlt, ?_⟩
  unfold slabOf
  rw [List.getD_eq_getElem?_getD, List.getElem?_eq_getElem hlt]; rfl
theorem make_zero (hp : PoolOk p) (hz : ZeroOk p) {r : Nat} (he : makeR p = (r, 0, p')) : ZeroOk p' := by
  obtain ⟨hr, _, _, h1, h2, _, h4, h5, _⟩ := make_pcs hp he
  intro i hi o ho1 ho2
  by_cases e : i = r
  · rw [e, h4] at ho2; simp at ho2
  · rw [h5 i e, h1] at ho2
    rw [h5 i e] at ho1
    have := hz i hi o ho1 ho2
    unfold slabOf bytesAt at this ⊢
    rw [h5 i e, h1, h2]; exact this
theorem free_zero (hp : PoolOk p) (hz : ZeroOk p) {r : Nat} (hr : r < 256) (hth : (landAt p r).there = true) (he : freeF p (r : Int) = (0, p')) : ZeroOk p' := by
  obtain ⟨q, h1, h2, h3, h4, h5, h6, h7, h8, h9⟩ := free_pcs hp hr hth
  rw [he] at h1
  cases h1
  intro i hi o ho1 ho2
  by_cases e : i = r
  · rw [e, h4] at ho2; simp at ho2
  · rw [h5 i e, h2] at ho2
    rw [h5 i e] at ho1
    have hm := slabOf_mem (by have := hp.s1; omega) ho2
    have := hz i hi o ho1 ho2
    have hs : slabOf p' i o = slabOf p i o := by unfold slabOf; rw [h5 i e, h2]
    rw [hs, h7 _ (fun hin => e (hp.apart i r _ hi hr (List.mem_of_getElem? hm.2) hin)), h2]
    exact this
theorem store_zero (hp : PoolOk p) (hz : ZeroOk p) (hx : Pc p x i o l) (t : Nat) (b : List UInt8) (h : t + b.length ≤ l) (he : storeF p x (t : Int) b = (0, p')) : ZeroOk p' := by
  obtain ⟨q1, q2, q3⟩ := hx.slab hp
  have hlen := hx.len
  have hins := hx.ins
  have hfit := hx.fit
  have hbl := bytesAt_len hp q3
  have hs1 := hp.s1
  have hb : ¬ ((t : Int) < 0 ∨ (t : Int) > x.len ∨ (b.length : Int) > x.len - (t : Int)) := by rw [hlen]; omega
  have he2 := storeF_ok hx.piece hb
  rw [Int.toNat_natCast] at he2
  rw [he] at he2
  simp only [Prod.mk.injEq, true_and] at he2
  intro j hj q hq1 hq2
  have hl : landAt p' j = landAt p j := by rw [he2]; rfl
  have hsz : p'.size = p.size := by rw [he2]; rfl
  rw [hl] at hq1
  rw [hl, hsz] at hq2
  have hsl : slabOf p' j q = slabOf p j q := by unfold slabOf; rw [hl, hsz]
  have hm := slabOf_mem (by omega) hq2
  have hold := hz j hj q hq1 hq2
  rw [hsl, hsz, he2, bytesAt_set _ _ _ _ q3]
  by_cases e : slabOf p i o = slabOf p j q
  · rw [if_pos e, splice_get _ _ _ 0 (by rw [hbl]; omega)]
    have hij : i = j := hp.apart i j _ hx.hi hj (List.mem_of_getElem? q2) (e ▸ List.mem_of_getElem? hm.2)
    subst hij
    have hd : o / p.size = q / p.size := by
      have h2 := hm.2
      rw [← e] at h2
      exact (List.getElem?_inj q1 (hp.ld i hx.hi).nodup).1 (q2.trans h2.symm)
    have d1 := Nat.div_add_mod o p.size
    have d2 := Nat.div_add_mod q p.size
    rw [hd] at d1
    rw [if_neg (by omega), e]
    exact hold
  · rw [if_neg e]; exact hold
/-- what Alloc hands out is all noughts -/
theorem alloc_zero (hp : PoolOk p) (hz : ZeroOk p) {r n a : Int} (he : allocF p r n a = (y, 0, p')) : ZeroOk p' ∧ loadF p' y = (List.replicate n.toNat 0, 0) := by
  obtain ⟨i, o0, hl, hpc, hn3, _, hsz, hbl, hgrew, hoth, _, _⟩ := alloc_pcs hp he
  have hok := alloc_ok hp r n a
  rw [he] at hok
  have hs1 := hp.s1
  unfold allocF at he
  obtain ⟨e0, hi, hth⟩ := landF_some hl
  rw [hl] at he
  simp only at he
  split at he
  · simp at he
  · rename_i hb
    have hn1 : 1 ≤ n.toNat := by omega
    have hn2 : n.toNat ≤ p.size := by omega
    split at he
    · cases hid : idleF p with
      | none => rw [hid] at he; simp at he
      | some s =>
        rw [hid] at he
        simp only [Prod.mk.injEq, true_and] at he
        obtain ⟨ey, ep⟩ := he
        obtain ⟨hst, h0, _⟩ := idleF_some hid
        have hsb : s < p.bytes.length := by rw [← hp.tk]; exact hst
        have hA : ∀ j, landAt p' j = if i = j then ⟨(landAt p i).there, (landAt p i).gen, (landAt p i).slabs ++ [s], (landAt p i).slabs.length * p.size + n.toNat⟩ else landAt p j := fun j => by
          rw [← ep, landAt_fill (grow_lands hp i s) hi, landAt_grow hp hi, landAt_grow hp hi, if_pos rfl]
          split <;> rfl
        have hby : ∀ t, bytesAt p' t = if s = t then List.replicate p.size 0 else bytesAt p t := fun t => by
          rw [← ep]
          exact bytesAt_set p s t (List.replicate p.size 0) hsb
        have hAi := hA i
        rw [if_pos rfl] at hAi
        have ho : o0 = (landAt p i).slabs.length * p.size := by
          have := hpc.off
          rw [← ey] at this
          simp only at this
          omega
        have hdiv : (landAt p i).slabs.length * p.size / p.size = (landAt p i).slabs.length := Nat.mul_div_cancel _ (by omega)
        have hmod : (landAt p i).slabs.length * p.size % p.size = 0 := Nat.mul_mod_left _ _
        refine ⟨fun j hj o ho1 ho2 => ?_, ?_⟩
        · by_cases e : i = j
          · subst e
            rw [hAi] at ho1 ho2
            simp only [List.length_append, List.length_cons, List.length_nil] at ho1 ho2
            rw [hsz] at ho2 ⊢
            have hd : o / p.size = (landAt p i).slabs.length := by
              rw [Nat.add_mul] at ho2
              obtain ⟨t, ht⟩ : ∃ t, o = t + (landAt p i).slabs.length * p.size := ⟨o - (landAt p i).slabs.length * p.size, by omega⟩
              have htl : t < p.size := by omega
              rw [ht, Nat.add_mul_div_right _ _ (by omega), Nat.div_eq_of_lt htl, Nat.zero_add]
            have hso : slabOf p' i o = s := by
              unfold slabOf
              rw [hAi, hsz, hd]
              simp
            rw [hso, hby, if_pos rfl, List.getElem?_replicate, if_pos (Nat.mod_lt _ (by omega))]
          · have hAj := hA j
            rw [if_neg e] at hAj
            rw [hAj] at ho1
            rw [hAj, hsz] at ho2
            have hso : slabOf p' j o = slabOf p j o := by unfold slabOf; rw [hAj, hsz]
            have hm := slabOf_mem (by omega) ho2
            have hne : s ≠ slabOf p j o := fun e => by
              have := (hp.has s hsb).2 ⟨j, hj, e ▸ List.mem_of_getElem? hm.2⟩
              rw [h0] at this; cases this
            rw [hso, hby, if_neg hne, hsz]
            exact hz j hj o ho1 ho2
        · rw [hpc.load, ho]
          have hso : slabOf p' i ((landAt p i).slabs.length * p.size) = s := by
            unfold slabOf
            rw [hAi, hsz, hdiv]
            simp
          rw [hso, hby, if_pos rfl, hsz, hmod, List.drop_zero, List.take_replicate, Nat.min_eq_left hn2]
    · rename_i hg
      have hne : (landAt p i).slabs ≠ [] := fun e => hg (.inl e)
      have hfit : ¬ p.size < upTo (inF p i) a.toNat + n.toNat := fun e => hg (.inr e)
      simp only [Prod.mk.injEq, true_and] at he
      obtain ⟨ey, ep⟩ := he
      obtain ⟨_, hin⟩ := inF_bounds hp hi
      obtain ⟨hfe, _⟩ := hin hne
      have ha := alignOk_range (a := a) (by cases hk : alignOk a with | true => rfl | false => exact absurd (.inr (.inr hk)) hb)
      have hup := (upTo_bounds (x := inF p i) (a := a.toNat) (by omega)).1
      have hA := fun j => landAt_fill (p := p) hp.ln hi (((landAt p i).slabs.length - 1) * p.size + upTo (inF p i) a.toNat + n.toNat) j
      rw [ep] at hA
      have hAi := hA i
      rw [if_pos rfl] at hAi
      have hby : ∀ t, bytesAt p' t = bytesAt p t := fun t => by rw [← ep]; rfl
      have hsl : ∀ j, (landAt p' j).slabs = (landAt p j).slabs := fun j => by
        rw [hA]; split
        · rename_i e; subst e; rfl
        · rfl
      have hso : ∀ j o, slabOf p' j o = slabOf p j o := fun j o => by unfold slabOf; rw [hsl, hsz]
      have hfl : ∀ j, (landAt p j).fill ≤ (landAt p' j).fill := fun j => by
        rw [hA]; split
        · rename_i e; subst e; show (landAt p i).fill ≤ _ + n.toNat; omega
        · exact Nat.le_refl _
      have ho : o0 = ((landAt p i).slabs.length - 1) * p.size + upTo (inF p i) a.toNat := by
        have := hpc.off
        rw [← ey] at this
        simp only at this
        omega
      refine ⟨fun j hj o ho1 ho2 => ?_, ?_⟩
      · rw [hsl, hsz] at ho2
        rw [hso, hby, hsz]
        exact hz j hj o (Nat.le_trans (hfl j) ho1) ho2
      · rw [hpc.load]
        obtain ⟨c1, c2, c3⟩ := hpc.slab hok
        have hlen := hpc.load_len hok
        rw [hpc.load] at hlen
        simp only at hlen
        congr 1
        apply List.ext_getElem?
        intro m
        rw [part_get, List.getElem?_replicate]
        by_cases hm : m < n.toNat
        · rw [if_pos hm, if_pos hm, hby, hso, hsz]
          obtain ⟨k, hk⟩ : ∃ k, (landAt p i).slabs.length = k + 1 := ⟨(landAt p i).slabs.length - 1, by
            cases hsl2 : (landAt p i).slabs with
            | nil => exact absurd hsl2 hne
            | cons _ _ => simp⟩
          rw [hk, Nat.add_sub_cancel] at ho
          obtain ⟨u, hu⟩ : ∃ u, u = upTo (inF p i) a.toNat := ⟨_, rfl⟩
          rw [← hu] at ho hfit hup
          have hmod : o0 % p.size = u := by rw [ho, Nat.add_comm, Nat.add_mul_mod_self_right, Nat.mod_eq_of_lt (by omega)]
          have hdiv : o0 / p.size = k := by rw [ho, Nat.add_comm, Nat.add_mul_div_right _ _ (by omega), Nat.div_eq_of_lt (by omega), Nat.zero_add]
          have hmod2 : (o0 + m) % p.size = u + m := by rw [ho, show k * p.size + u + m = (u + m) + k * p.size by omega, Nat.add_mul_mod_self_right, Nat.mod_eq_of_lt (by omega)]
          have hdiv2 : (o0 + m) / p.size = k := by rw [ho, show k * p.size + u + m = (u + m) + k * p.size by omega, Nat.add_mul_div_right _ _ (by omega), Nat.div_eq_of_lt (by omega), Nat.zero_add]
          have hh := hz i hi (o0 + m) (by rw [hfe, hk, Nat.add_sub_cancel, ho]; omega) (by rw [hk, Nat.add_mul, ho]; omega)
          have hs2 : slabOf p i (o0 + m) = slabOf p i o0 := by unfold slabOf; rw [hdiv, hdiv2]
          rw [hs2, hmod2] at hh
          rw [hmod]; exact hh
        · rw [if_neg hm, if_neg hm]
end
end Go.Proofs.Ytfnimpgphagnfaa
