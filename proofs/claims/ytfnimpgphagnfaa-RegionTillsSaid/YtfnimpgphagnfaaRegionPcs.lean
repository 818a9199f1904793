/- Layer 1 (region): pieces: what each holds, whatever is done to others. No walk here. -/
import Derived.Test.YtfnimpgphagnfaaRegionOk2
namespace Go.Proofs.Ytfnimpgphagnfaa
set_option linter.unusedVariables false
set_option linter.unusedSimpArgs false
open Go.RowKit
/-- a piece that is there -/
structure Pc (p : PoolF) (x : Hd) (i o l : Nat) : Prop where
  there : (landAt p i).there = true
  hi : i < 256
  reg : x.region = (i : Int)
  gen : x.gen = ((landAt p i).gen : Int)
  off : x.off = (o : Int)
  len : x.len = (l : Int)
  one : 1 ≤ l
  fit : o + l ≤ (landAt p i).fill
  ins : o % p.size + l ≤ p.size
def slabOf (p : PoolF) (i o : Nat) : Nat := (landAt p i).slabs.getD (o / p.size) 0
section
variable {p p' : PoolF} {x y : Hd} {i j o l o2 l2 s : Nat}
theorem Pc.piece (h : Pc p x i o l) : pieceF p x = ((slabOf p i o, o % p.size), 0) := by
  obtain ⟨r, gn, of, ln⟩ := x
  obtain ⟨h1, h2, e1, e2, e3, e4, h3, h4, h5⟩ := h
  simp only at e1 e2 e3 e4
  subst e1 e2 e3 e4
  unfold pieceF
  rw [landF_of h2 h1]
  simp only
  rw [if_neg (by simp), if_neg (by omega), Int.toNat_natCast, Int.toNat_natCast, if_neg (by omega)]
  rfl
theorem Pc.of (hp : PoolOk p) {s k : Nat} (h : pieceF p x = ((s, k), 0)) : ∃ i o l, Pc p x i o l := by
  obtain ⟨i, o, l, h1, hi, e2, e3, e4, e5, hl1, hf, h2, h3, h4, hkl, hs⟩ := pieceF_ok hp h
  exact ⟨i, o, l, (landF_some h1).2.2, hi, e4, e5, e2, e3, hl1, hf, by rw [← h4]; exact hkl⟩
theorem Pc.slab (hp : PoolOk p) (h : Pc p x i o l) : o / p.size < (landAt p i).slabs.length ∧ (landAt p i).slabs[o / p.size]? = some (slabOf p i o) ∧ slabOf p i o < p.bytes.length := by
  have hl := hp.ld i h.hi
  have h1 := hl.fill_le
  have h2 := h.fit
  have h3 := h.one
  have hs := hp.s1
  have hlt : o / p.size < (landAt p i).slabs.length := by rw [Nat.div_lt_iff_lt_mul (by omega)]; omega
  have he : (landAt p i).slabs[o / p.size]? = some (slabOf p i o) := by
    unfold slabOf; rw [List.getD_eq_getElem?_getD, List.getElem?_eq_getElem hlt]; rfl
  exact ⟨hlt, he, hl.lt _ (List.mem_of_getElem? he)⟩
theorem Pc.load (h : Pc p x i o l) : loadF p x = (((bytesAt p (slabOf p i o)).drop (o % p.size)).take l, 0) := by
  rw [loadF_ok h.piece, h.len, Int.toNat_natCast]
theorem Pc.load_len (hp : PoolOk p) (h : Pc p x i o l) : (loadF p x).1.length = l := by
  obtain ⟨_, _, hs⟩ := h.slab hp
  have h1 := bytesAt_len hp hs
  have h2 := h.ins
  rw [h.load, List.length_take, List.length_drop]; omega
/-- the lands stand as they stood, but that some have more slabs and are handed out further -/
structure Grew (p p' : PoolF) (i : Nat) : Prop where
  there : (landAt p' i).there = (landAt p i).there
  gen : (landAt p' i).gen = (landAt p i).gen
  slabs : ∃ t, (landAt p' i).slabs = (landAt p i).slabs ++ t
  fill : (landAt p i).fill ≤ (landAt p' i).fill
theorem Grew.refl (p : PoolF) (i : Nat) : Grew p p i := ⟨rfl, rfl, ⟨[], (List.append_nil _).symm⟩, Nat.le_refl _⟩
theorem Pc.grew (hp : PoolOk p) (h : Pc p x i o l) (g : Grew p p' i) (hs : p'.size = p.size) : Pc p' x i o l ∧ slabOf p' i o = slabOf p i o := by
  obtain ⟨t, ht⟩ := g.slabs
  obtain ⟨h1, h2, _⟩ := h.slab hp
  refine ⟨⟨g.there.trans h.there, h.hi, h.reg, by rw [h.gen, g.gen], h.off, h.len, h.one, Nat.le_trans h.fit g.fill, by rw [hs]; exact h.ins⟩, ?_⟩
  unfold slabOf
  rw [hs, ht, List.getD_eq_getElem?_getD, List.getElem?_append_left h1, ← List.getD_eq_getElem?_getD]
theorem Pc.kept (hp : PoolOk p) (h : Pc p x i o l) (g : Grew p p' i) (hs : p'.size = p.size) (hb : bytesAt p' (slabOf p i o) = bytesAt p (slabOf p i o)) : Pc p' x i o l ∧ loadF p' x = loadF p x := by
  obtain ⟨h1, h2⟩ := h.grew hp g hs
  refine ⟨h1, ?_⟩
  rw [h1.load, h.load, h2, hb, hs]
/-- Alloc that is answered -/
theorem alloc_pcs (hp : PoolOk p) {r n a : Int} (he : allocF p r n a = (y, 0, p')) :
    ∃ i o : Nat, landF p r = some i ∧ Pc p' y i o n.toNat ∧ (n.toNat : Int) = n ∧ (landAt p i).fill ≤ o ∧ p'.size = p.size ∧ p'.bytes.length = p.bytes.length ∧ (∀ j, j < 256 → Grew p p' j) ∧ (∀ x j o l, Pc p x j o l → Pc p' x j o l ∧ loadF p' x = loadF p x) ∧ (landAt p' i).fill = o + n.toNat ∧ o % p.size % a.toNat = 0 := by
  have hok := alloc_ok hp r n a
  have hs1 := hp.s1
  unfold allocF at he
  cases hl : landF p r with
  | none => rw [hl] at he; simp at he
  | some i =>
    obtain ⟨e0, hi, hth⟩ := landF_some hl
    rw [hl] at he
    simp only at he
    split at he
    · simp at he
    · rename_i hb
      have hn1 : 1 ≤ n.toNat := by omega
      have hn2 : n.toNat ≤ p.size := by omega
      have hn3 : ((n.toNat : Nat) : Int) = n := by omega
      split at he
      · cases hid : idleF p with
        | none => rw [hid] at he; simp at he
        | some s =>
          rw [hid] at he
          simp only [Prod.mk.injEq, true_and] at he
          obtain ⟨ey, ep⟩ := he
          obtain ⟨hst, h0, _⟩ := idleF_some hid
          have hsb : s < p.bytes.length := by rw [← hp.tk]; exact hst
          have hA : ∀ j, landAt p' j = if i = j then ⟨(landAt p i).there, (landAt p i).gen, (landAt p i).slabs ++ [s], (landAt p i).slabs.length * p.size + n.toNat⟩ else landAt p j := fun j => by
            rw [← ep, landAt_fill (grow_lands hp i s) hi, landAt_grow hp hi, landAt_grow hp hi, if_pos rfl]
            split <;> rfl
          have hsz : p'.size = p.size := by rw [← ep]; rfl
          have hbl : p'.bytes.length = p.bytes.length := by rw [← ep]; exact List.length_set
          have hfl := (hp.ld i hi).fill_le
          have hgrew : ∀ j, j < 256 → Grew p p' j := fun j _ => by
            by_cases e : i = j
            · subst e
              have := hA i
              rw [if_pos rfl] at this
              refine ⟨by rw [this], by rw [this], ⟨[s], by rw [this]⟩, by rw [this]; show (landAt p i).fill ≤ (landAt p i).slabs.length * p.size + n.toNat; omega⟩
            · have := hA j
              rw [if_neg e] at this
              exact ⟨by rw [this], by rw [this], ⟨[], by rw [this, List.append_nil]⟩, by rw [this]; exact Nat.le_refl _⟩
          have hAi := hA i
          rw [if_pos rfl] at hAi
          have hmod : (landAt p i).slabs.length * p.size % p.size = 0 := Nat.mul_mod_left _ _
          refine ⟨i, (landAt p i).slabs.length * p.size, rfl, ⟨by rw [hAi]; exact hth, hi, by rw [← ey], by rw [← ey, hAi], by rw [← ey], by rw [← ey]; exact hn3.symm, hn1, by rw [hAi]; exact Nat.le_refl _, by rw [hsz, hmod]; omega⟩, hn3, hfl, hsz, hbl, hgrew, fun x j o l hx => ?_, by rw [hAi], by rw [hmod]; exact Nat.zero_mod _⟩
          refine hx.kept hp (hgrew j hx.hi) hsz ?_
          obtain ⟨_, hm, _⟩ := hx.slab hp
          have hne : slabOf p j o ≠ s := fun e => by
            have := (hp.has s hsb).2 ⟨j, hx.hi, e ▸ List.mem_of_getElem? hm⟩
            rw [h0] at this; cases this
          rw [← ep]
          show (p.bytes.set s _).getD _ [] = p.bytes.getD _ []
          simp only [List.getD_eq_getElem?_getD, List.getElem?_set]
          rw [if_neg (fun e => hne e.symm)]
      · rename_i hg
        have hne : (landAt p i).slabs ≠ [] := fun e => hg (.inl e)
        have hfit : ¬ p.size < upTo (inF p i) a.toNat + n.toNat := fun e => hg (.inr e)
        simp only [Prod.mk.injEq, true_and] at he
        obtain ⟨ey, ep⟩ := he
        obtain ⟨_, hin⟩ := inF_bounds hp hi
        obtain ⟨hfe, _⟩ := hin hne
        have ha := alignOk_range (a := a) (by cases hk : alignOk a with | true => rfl | false => exact absurd (.inr (.inr hk)) hb)
        have hup := (upTo_bounds (x := inF p i) (a := a.toNat) (by omega)).1
        have hA := fun j => landAt_fill (p := p) hp.ln hi (((landAt p i).slabs.length - 1) * p.size + upTo (inF p i) a.toNat + n.toNat) j
        rw [ep] at hA
        have hsz : p'.size = p.size := by rw [← ep]; rfl
        have hAi := hA i
        rw [if_pos rfl] at hAi
        have hgrew : ∀ j, j < 256 → Grew p p' j := fun j _ => by
          by_cases e : i = j
          · subst e
            exact ⟨by rw [hAi], by rw [hAi], ⟨[], by rw [hAi, List.append_nil]⟩, by rw [hAi]; show (landAt p i).fill ≤ _ + n.toNat; omega⟩
          · have := hA j
            rw [if_neg e] at this
            exact ⟨by rw [this], by rw [this], ⟨[], by rw [this, List.append_nil]⟩, by rw [this]; exact Nat.le_refl _⟩
        have hmod : (((landAt p i).slabs.length - 1) * p.size + upTo (inF p i) a.toNat) % p.size = upTo (inF p i) a.toNat := by
          rw [Nat.add_comm, Nat.add_mul_mod_self_right, Nat.mod_eq_of_lt (by omega)]
        refine ⟨i, ((landAt p i).slabs.length - 1) * p.size + upTo (inF p i) a.toNat, rfl, ⟨by rw [hAi]; exact hth, hi, by rw [← ey], by rw [← ey, hAi], by rw [← ey], by rw [← ey]; exact hn3.symm, hn1, by rw [hAi]; exact Nat.le_refl _, by rw [hsz, hmod]; omega⟩, hn3, by omega, hsz, by rw [← ep]; rfl, hgrew, fun x j o l hx => hx.kept hp (hgrew j hx.hi) hsz (by rw [← ep]; rfl), by rw [hAi], ?_⟩
        rw [hmod]
        unfold upTo
        exact Nat.mul_mod_left _ _
end
theorem splice_get (B b : List UInt8) (k n : Nat) (h : k + b.length ≤ B.length) (m : Nat) : (B.take k ++ b ++ B.drop (k + b.length))[m]? = if k ≤ m ∧ m < k + b.length then b[m - k]? else B[m]? := by
  have h1 : (B.take k).length = k := by rw [List.length_take]; omega
  by_cases c1 : m < k
  · rw [if_neg (by omega), List.append_assoc, List.getElem?_append_left (by omega), List.getElem?_take, if_pos c1]
  · by_cases c2 : m < k + b.length
    · rw [if_pos ⟨by omega, c2⟩, List.append_assoc, List.getElem?_append_right (by omega), h1, List.getElem?_append_left (by omega)]
    · rw [if_neg (by omega), List.getElem?_append_right (by rw [List.length_append, h1]; omega), List.length_append, h1, List.getElem?_drop]
      congr 1; omega
theorem part_get (B : List UInt8) (k l m : Nat) : ((B.drop k).take l)[m]? = if m < l then B[k + m]? else none := by
  rw [List.getElem?_take, List.getElem?_drop]
theorem part_in (B b : List UInt8) (k t l : Nat) (h1 : t + b.length ≤ l) (h2 : k + l ≤ B.length) :
    ((B.take (k + t) ++ b ++ B.drop (k + t + b.length)).drop k).take l = ((B.drop k).take l).take t ++ b ++ ((B.drop k).take l).drop (t + b.length) := by
  have hlen : ((B.drop k).take l).length = l := by rw [List.length_take, List.length_drop]; omega
  apply List.ext_getElem?
  intro m
  rw [part_get, splice_get _ _ _ 0 (by omega), splice_get _ _ _ 0 (by omega), part_get]
  by_cases c : m < l
  · rw [if_pos c, if_pos c]
    by_cases c2 : t ≤ m ∧ m < t + b.length
    · rw [if_pos (by omega), if_pos c2]; congr 1; omega
    · rw [if_neg (by omega), if_neg c2]
  · rw [if_neg c, if_neg c, if_neg (by omega)]
theorem part_out (B b : List UInt8) (k k2 l2 : Nat) (h1 : k + b.length ≤ B.length) (h : k + b.length ≤ k2 ∨ k2 + l2 ≤ k) :
    ((B.take k ++ b ++ B.drop (k + b.length)).drop k2).take l2 = (B.drop k2).take l2 := by
  apply List.ext_getElem?
  intro m
  rw [part_get, part_get, splice_get _ _ _ 0 h1]
  by_cases c : m < l2
  · rw [if_pos c, if_pos c, if_neg (by omega)]
  · rw [if_neg c, if_neg c]
section
variable {p p' : PoolF} {x y : Hd} {i j o l o2 l2 s : Nat}
theorem Pc.same_slab (hp : PoolOk p) (h : Pc p x i o l) (k : Pc p y j o2 l2) (e : slabOf p i o = slabOf p j o2) : i = j ∧ o / p.size = o2 / p.size := by
  obtain ⟨a1, a2, a3⟩ := h.slab hp
  obtain ⟨b1, b2, b3⟩ := k.slab hp
  have hij : i = j := hp.apart i j _ h.hi k.hi (List.mem_of_getElem? a2) (e ▸ List.mem_of_getElem? b2)
  subst hij
  refine ⟨rfl, ?_⟩
  rw [← e] at b2
  exact (List.getElem?_inj a1 (hp.ld i h.hi).nodup).1 (a2.trans b2.symm)
/-- Store into a piece -/
theorem store_pcs (hp : PoolOk p) (hx : Pc p x i o l) (t : Nat) (b : List UInt8) (h : t + b.length ≤ l) : ∃ p', storeF p x (t : Int) b = (0, p') ∧ p'.size = p.size ∧ p'.bytes.length = p.bytes.length ∧ p'.taken = p.taken ∧ p'.lands = p.lands ∧
    loadF p' x = ((loadF p x).1.take t ++ b ++ (loadF p x).1.drop (t + b.length), 0) ∧ (∀ y j o2 l2, Pc p y j o2 l2 → Pc p' y j o2 l2 ∧ ((i ≠ j ∨ o + l ≤ o2 ∨ o2 + l2 ≤ o) → loadF p' y = loadF p y)) := by
  obtain ⟨q1, q2, q3⟩ := hx.slab hp
  have hlen := hx.len
  have hins := hx.ins
  have hbl := bytesAt_len hp q3
  have hb : ¬ ((t : Int) < 0 ∨ (t : Int) > x.len ∨ (b.length : Int) > x.len - (t : Int)) := by rw [hlen]; omega
  have he := storeF_ok hx.piece hb
  rw [Int.toNat_natCast] at he
  have hg : ∀ j, Grew p (setBytes p (slabOf p i o) ((bytesAt p (slabOf p i o)).take (o % p.size + t) ++ b ++ (bytesAt p (slabOf p i o)).drop (o % p.size + t + b.length))) j := fun j => ⟨rfl, rfl, ⟨[], (List.append_nil _).symm⟩, Nat.le_refl _⟩
  refine ⟨_, he, rfl, List.length_set, rfl, rfl, ?_, fun y j o2 l2 hy => ⟨(hy.grew hp (hg j) rfl).1, fun hd => ?_⟩⟩
  · obtain ⟨h1, h2⟩ := hx.grew hp (hg i) rfl
    rw [h1.load, h2, bytesAt_set _ _ _ _ q3, if_pos rfl, hx.load]
    show (((_ : List UInt8).drop (o % p.size)).take l, 0) = _
    rw [part_in _ _ _ _ _ h (by rw [hbl]; exact hins)]
  · obtain ⟨h1, h2⟩ := hy.grew hp (hg j) rfl
    rw [h1.load, h2, bytesAt_set _ _ _ _ q3, hy.load]
    by_cases e : slabOf p i o = slabOf p j o2
    · rw [if_pos e]
      obtain ⟨hij, hq⟩ := hx.same_slab hp hy e
      have d1 := Nat.div_add_mod o p.size
      have d2 := Nat.div_add_mod o2 p.size
      rw [hq] at d1
      show (((_ : List UInt8).drop (o2 % p.size)).take l2, 0) = _
      have hy2 := hy.one
      rw [part_out _ _ _ _ _ (by rw [hbl]; omega) (by
        rcases hd with hd | hd | hd
        · exact absurd hij hd
        · left; omega
        · right; omega), e]
    · rw [if_neg e]
      rfl
/-- Make -/
theorem make_pcs (hp : PoolOk p) {r : Nat} (he : makeR p = (r, 0, p')) : r < 256 ∧ (landAt p r).there = false ∧ (∀ j, j < r → (landAt p j).there = true) ∧ p'.size = p.size ∧ p'.bytes = p.bytes ∧ p'.taken = p.taken ∧ landAt p' r = ⟨true, (landAt p r).gen + 1, [], 0⟩ ∧ (∀ j, j ≠ r → landAt p' j = landAt p j) ∧
    ∀ x j o l, Pc p x j o l → j ≠ r ∧ Pc p' x j o l ∧ loadF p' x = loadF p x := by
  unfold makeR at he
  cases hm : makeF p with
  | none => rw [hm] at he; simp at he
  | some i =>
    rw [hm] at he
    simp only [Prod.mk.injEq, true_and] at he
    obtain ⟨rfl, ep⟩ := he
    obtain ⟨hi, h0, h1⟩ := makeF_some hm
    have hA : ∀ j, landAt p' j = if i = j then ⟨true, (landAt p i).gen + 1, [], 0⟩ else landAt p j := fun j => by rw [← ep]; exact landAt_set p i j _ (by rw [hp.ln]; exact hi)
    have hAj : ∀ j, j ≠ i → landAt p' j = landAt p j := fun j hj => by rw [hA, if_neg (fun e => hj e.symm)]
    refine ⟨hi, h0, h1, by rw [← ep]; rfl, by rw [← ep]; rfl, by rw [← ep]; rfl, by rw [hA, if_pos rfl], hAj, fun x j o l hx => ?_⟩
    have hj : j ≠ i := fun e => by have := hx.there; rw [e, h0] at this; cases this
    refine ⟨hj, hx.kept hp ⟨by rw [hAj j hj], by rw [hAj j hj], ⟨[], by rw [hAj j hj, List.append_nil]⟩, by rw [hAj j hj]; exact Nat.le_refl _⟩ (by rw [← ep]; rfl) (by rw [← ep]; rfl)⟩
/-- Free -/
theorem free_pcs (hp : PoolOk p) {r : Nat} (hr : r < 256) (hth : (landAt p r).there = true) : ∃ p', freeF p (r : Int) = (0, p') ∧ p'.size = p.size ∧ p'.bytes.length = p.bytes.length ∧ landAt p' r = ⟨false, (landAt p r).gen, [], 0⟩ ∧ (∀ j, j ≠ r → landAt p' j = landAt p j) ∧
    (∀ t, t ∈ (landAt p r).slabs → bytesAt p' t = List.replicate p.size 0xDD) ∧ (∀ t, t ∉ (landAt p r).slabs → bytesAt p' t = bytesAt p t) ∧ (∀ t, p'.taken.getD t false = if t ∈ (landAt p r).slabs then false else p.taken.getD t false) ∧
    ∀ x j o l, Pc p x j o l → j ≠ r → Pc p' x j o l ∧ loadF p' x = loadF p x := by
  have he : freeF p (r : Int) = (0, { freeSlabs p (landAt p r).slabs with lands := p.lands.set r ⟨false, (landAt p r).gen, [], 0⟩ }) := by unfold freeF; rw [landF_of hr hth]
  have hA := fun j => landAt_free hp hr (landAt p r).slabs ⟨false, (landAt p r).gen, [], 0⟩ j
  have hAj : ∀ j, j ≠ r → landAt { freeSlabs p (landAt p r).slabs with lands := p.lands.set r ⟨false, (landAt p r).gen, [], 0⟩ } j = landAt p j := fun j hj => by rw [hA, if_neg (fun e => hj e.symm)]
  have hlt := (hp.ld r hr).lt
  have hb2 : ∀ t, t ∉ (landAt p r).slabs → bytesAt { freeSlabs p (landAt p r).slabs with lands := p.lands.set r ⟨false, (landAt p r).gen, [], 0⟩ } t = bytesAt p t := fun t ht => by
    by_cases hl : t < p.bytes.length
    · have := foldl_set_get (List.replicate p.size (0xDD : UInt8)) [] (landAt p r).slabs p.bytes t hl
      rw [if_neg ht] at this
      exact this
    · unfold bytesAt
      rw [List.getD_eq_getElem?_getD, List.getD_eq_getElem?_getD, List.getElem?_eq_none (by rw [(freeSlabs_len p (landAt p r).slabs).1]; omega), List.getElem?_eq_none (by omega)]
  refine ⟨_, he, rfl, (freeSlabs_len p _).1, by rw [hA, if_pos rfl], hAj, fun t ht => ?_, hb2, fun t => foldl_set_bool _ _ _, fun x j o l hx hj => ?_⟩
  · have := foldl_set_get (List.replicate p.size (0xDD : UInt8)) [] (landAt p r).slabs p.bytes t (hlt t ht)
    rw [if_pos ht] at this
    exact this
  · obtain ⟨q1, q2, q3⟩ := hx.slab hp
    refine hx.kept hp ⟨by rw [hAj j hj], by rw [hAj j hj], ⟨[], by rw [hAj j hj, List.append_nil]⟩, by rw [hAj j hj]; exact Nat.le_refl _⟩ rfl (hb2 _ (fun hm => hj (hp.apart j r _ hx.hi hr (List.mem_of_getElem? q2) hm)))
theorem alloc_cases {r i : Nat} {n a : Int} (hl : landF p (r : Int) = some i) (h1 : 1 ≤ n) (h2 : n ≤ (p.size : Int)) (ha : alignOk a = true) : (∃ y p', allocF p (r : Int) n a = (y, 0, p')) ∨ (allocF p (r : Int) n a = (noHd, 5, p) ∧ idleF p = none) := by
  unfold allocF
  rw [hl]
  simp only
  rw [if_neg (by rw [ha]; simp; omega)]
  split
  · cases hid : idleF p with
    | none => exact .inr ⟨rfl, rfl⟩
    | some s => exact .inl ⟨_, _, rfl⟩
  · exact .inl ⟨_, _, rfl⟩
theorem stale_load (h : landF p x.region = none ∨ ∃ i, landF p x.region = some i ∧ ((landAt p i).gen : Int) ≠ x.gen) : pieceF p x = ((0, 0), 3) := by
  unfold pieceF
  rcases h with h | ⟨i, h, hg⟩
  · rw [h]
  · rw [h]; simp only; rw [if_pos hg]
end
end Go.Proofs.Ytfnimpgphagnfaa
