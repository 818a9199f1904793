/- Layer 1 (region): Alloc walked. -/
import Derived.Test.YtpaogoehgkoaeaaBunSt1
import Derived.Test.YtpaogoehgkoaeaaBunSt0
import Derived.Lib.Bytealg
import Derived.WalkLawsBesides
/- Layer 1 (region): pieces: what each holds, whatever is done to others. No walk here. -/
namespace Go.Proofs.Ytpaogoehgkoaeaa
set_option linter.unusedVariables false
set_option linter.unusedSimpArgs false
open Go.RowKit
/-- a piece that is there -/
structure Pc (p : PoolF) (x : Hd) (i o l : Nat) : Prop where
  there : (landAt p i).there = true
  hi : i < 256
  reg : x.region = (i : Int)
  gen : x.gen = ((landAt p i).gen : Int)
  off : x.off = (o : Int)
  len : x.len = (l : Int)
  one : 1 ≤ l
  fit : o + l ≤ (landAt p i).fill
  ins : o % p.size + l ≤ p.size
def slabOf (p : PoolF) (i o : Nat) : Nat := (landAt p i).slabs.getD (o / p.size) 0
section
variable {p p' : PoolF} {x y : Hd} {i j o l o2 l2 s : Nat}
theorem Pc.piece (h : Pc p x i o l) : pieceF p x = ((slabOf p i o, o % p.size), 0) := by
  obtain ⟨r, gn, of, ln⟩ := x
  obtain ⟨h1, h2, e1, e2, e3, e4, h3, h4, h5⟩ := h
  simp only at e1 e2 e3 e4
  subst e1 e2 e3 e4
  unfold pieceF
  rw [landF_of h2 h1]
  simp only
  rw [if_neg (by simp), if_neg (by omega), Int.toNat_natCast, Int.toNat_natCast, if_neg (by omega)]
  rfl
theorem Pc.of (hp : PoolOk p) {s k : Nat} (h : pieceF p x = ((s, k), 0)) : ∃ i o l, Pc p x i o l := by
  obtain ⟨i, o, l, h1, hi, e2, e3, e4, e5, hl1, hf, h2, h3, h4, hkl, hs⟩ := pieceF_ok hp h
  exact ⟨i, o, l, (landF_some h1).2.2, hi, e4, e5, e2, e3, hl1, hf, by rw [← h4]; exact hkl⟩
theorem Pc.slab (hp : PoolOk p) (h : Pc p x i o l) : o / p.size < (landAt p i).slabs.length ∧ (landAt p i).slabs[o / p.size]? = some (slabOf p i o) ∧ slabOf p i o < p.bytes.length := by
  have hl := hp.ld i h.hi
  have h1 := hl.fill_le
  have h2 := h.fit
  have h3 := h.one
  have hs := hp.s1
  have hlt : o / p.size < (landAt p i).slabs.length := by rw [Nat.div_lt_iff_lt_mul (by omega)]; omega
  have he : (landAt p i).slabs[o / p.size]? = some (slabOf p i o) := by
    unfold slabOf; rw [List.getD_eq_getElem?_getD, List.getElem?_eq_getElem hlt]; rfl
  exact ⟨hlt, he, hl.lt _ (List.mem_of_getElem? he)⟩
theorem Pc.load (h : Pc p x i o l) : loadF p x = (((bytesAt p (slabOf p i o)).drop (o % p.size)).take l, 0) := by
  rw [loadF_ok h.piece, h.len, Int.toNat_natCast]
theorem Pc.load_len (hp : PoolOk p) (h : Pc p x i o l) : (loadF p x).1.length = l := by
  obtain ⟨_, _, hs⟩ := h.slab hp
  have h1 := bytesAt_len hp hs
  have h2 := h.ins
  rw [h.load, List.length_take, List.length_drop]; omega
/-- the lands stand as they stood, but that some have more slabs and are handed out further -/
structure Grew (p p' : PoolF) (i : Nat) : Prop where
  there : (landAt p' i).there = (landAt p i).there
  gen : (landAt p' i).gen = (landAt p i).gen
  slabs : ∃ t, (landAt p' i).slabs = (landAt p i).slabs ++ t
  fill : (landAt p i).fill ≤ (landAt p' i).fill
theorem Grew.refl (p : PoolF) (i : Nat) : Grew p p i := ⟨rfl, rfl, ⟨[], (List.append_nil _).symm⟩, Nat.le_refl _⟩
theorem Pc.grew (hp : PoolOk p) (h : Pc p x i o l) (g : Grew p p' i) (hs : p'.size = p.size) : Pc p' x i o l ∧ slabOf p' i o = slabOf p i o := by
  obtain ⟨t, ht⟩ := g.slabs
  obtain ⟨h1, h2, _⟩ := h.slab hp
  refine ⟨⟨g.there.trans h.there, h.hi, h.reg, by rw [h.gen, g.gen], h.off, h.len, h.one, Nat.le_trans h.fit g.fill, by rw [hs]; exact h.ins⟩, ?_⟩
  unfold slabOf
  rw [hs, ht, List.getD_eq_getElem?_getD, List.getElem?_append_left h1, ← List.getD_eq_getElem?_getD]
theorem Pc.kept (hp : PoolOk p) (h : Pc p x i o l) (g : Grew p p' i) (hs : p'.size = p.size) (hb : bytesAt p' (slabOf p i o) = bytesAt p (slabOf p i o)) : Pc p' x i o l ∧ loadF p' x = loadF p x := by
  obtain ⟨h1, h2⟩ := h.grew hp g hs
  refine ⟨h1, ?_⟩
  rw [h1.load, h.load, h2, hb, hs]
/-- Alloc that is answered -/
theorem alloc_pcs (hp : PoolOk p) {r n a : Int} (he : allocF p r n a = (y, 0, p')) :
    ∃ i o : Nat, landF p r = some i ∧ Pc p' y i o n.toNat ∧ (n.toNat : Int) = n ∧ (landAt p i).fill ≤ o ∧ p'.size = p.size ∧ p'.bytes.length = p.bytes.length ∧ (∀ j, j < 256 → Grew p p' j) ∧ (∀ x j o l, Pc p x j o l → Pc p' x j o l ∧ loadF p' x = loadF p x) ∧ (landAt p' i).fill = o + n.toNat ∧ o % p.size % a.toNat = 0 := by
  have hok := alloc_ok hp r n a
  have hs1 := hp.s1
  unfold allocF at he
  cases hl : landF p r with
  | none => rw [hl] at he; simp at he
  | some i =>
    obtain ⟨e0, hi, hth⟩ := landF_some hl
    rw [hl] at he
    simp only at he
    split at he
    · simp at he
    · rename_i hb
      have hn1 : 1 ≤ n.toNat := by omega
      have hn2 : n.toNat ≤ p.size := by omega
      have hn3 : ((n.toNat : Nat) : Int) = n := by omega
      split at he
      · cases hid : idleF p with
        | none => rw [hid] at he; simp at he
        | some s =>
          rw [hid] at he
          simp only [Prod.mk.injEq, true_and] at he
          obtain ⟨ey, ep⟩ := he
          obtain ⟨hst, h0, _⟩ := idleF_some hid
          have hsb : s < p.bytes.length := by rw [← hp.tk]; exact hst
          have hA : ∀ j, landAt p' j = if i = j then ⟨(landAt p i).there, (landAt p i).gen, (landAt p i).slabs ++ [s], (landAt p i).slabs.length * p.size + n.toNat⟩ else landAt p j := fun j => by
            rw [← ep, landAt_fill (grow_lands hp i s) hi, landAt_grow hp hi, landAt_grow hp hi, if_pos rfl]
            split <;> rfl
          have hsz : p'.size = p.size := by rw [← ep]; rfl
          have hbl : p'.bytes.length = p.bytes.length := by rw [← ep]; exact List.length_set
          have hfl := (hp.ld i hi).fill_le
          have hgrew : ∀ j, j < 256 → Grew p p' j := fun j _ => by
            by_cases e : i = j
            · subst e
              have := hA i
              rw [if_pos rfl] at this
              refine ⟨by rw [this], by rw [this], ⟨[s], by rw [this]⟩, by rw [this]; show (landAt p i).fill ≤ (landAt p i).slabs.length * p.size + n.toNat; omega⟩
            · have := hA j
              rw [if_neg e] at this
              exact ⟨by rw [this], by rw [this], ⟨[], by rw [this, List.append_nil]⟩, by rw [this]; exact Nat.le_refl _⟩
          have hAi := hA i
          rw [if_pos rfl] at hAi
          have hmod : (landAt p i).slabs.length * p.size % p.size = 0 := Nat.mul_mod_left _ _
          refine ⟨i, (landAt p i).slabs.length * p.size, rfl, ⟨by rw [hAi]; exact hth, hi, by rw [← ey], by rw [← ey, hAi], by rw [← ey], by rw [← ey]; exact hn3.symm, hn1, by rw [hAi]; exact Nat.le_refl _, by rw [hsz, hmod]; omega⟩, hn3, hfl, hsz, hbl, hgrew, fun x j o l hx => ?_, by rw [hAi], by rw [hmod]; exact Nat.zero_mod _⟩
          refine hx.kept hp (hgrew j hx.hi) hsz ?_
          obtain ⟨_, hm, _⟩ := hx.slab hp
          have hne : slabOf p j o ≠ s := fun e => by
            have := (hp.has s hsb).2 ⟨j, hx.hi, e ▸ List.mem_of_getElem? hm⟩
            rw [h0] at this; cases this
          rw [← ep]
          show (p.bytes.set s _).getD _ [] = p.bytes.getD _ []
          simp only [List.getD_eq_getElem?_getD, List.getElem?_set]
          rw [if_neg (fun e => hne e.symm)]
      · rename_i hg
        have hne : (landAt p i).slabs ≠ [] := fun e => hg (.inl e)
        have hfit : ¬ p.size < upTo (inF p i) a.toNat + n.toNat := fun e => hg (.inr e)
        simp only [Prod.mk.injEq, true_and] at he
        obtain ⟨ey, ep⟩ := he
        obtain ⟨_, hin⟩ := inF_bounds hp hi
        obtain ⟨hfe, _⟩ := hin hne
        have ha := alignOk_range (a := a) (by cases hk : alignOk a with | true => rfl | false => exact absurd (.inr (.inr hk)) hb)
        have hup := (upTo_bounds (x := inF p i) (a := a.toNat) (by omega)).1
        have hA := fun j => landAt_fill (p := p) hp.ln hi (((landAt p i).slabs.length - 1) * p.size + upTo (inF p i) a.toNat + n.toNat) j
        rw [ep] at hA
        have hsz : p'.size = p.size := by rw [← ep]; rfl
        have hAi := hA i
        rw [if_pos rfl] at hAi
        have hgrew : ∀ j, j < 256 → Grew p p' j := fun j _ => by
          by_cases e : i = j
          · subst e
            exact ⟨by rw [hAi], by rw [hAi], ⟨[], by rw [hAi, List.append_nil]⟩, by rw [hAi]; show (landAt p i).fill ≤ _ + n.toNat; omega⟩
          · have := hA j
            rw [if_neg e] at this
            exact ⟨by rw [this], by rw [this], ⟨[], by rw [this, List.append_nil]⟩, by rw [this]; exact Nat.le_refl _⟩
        have hmod : (((landAt p i).slabs.length - 1) * p.size + upTo (inF p i) a.toNat) % p.size = upTo (inF p i) a.toNat := by
          rw [Nat.add_comm, Nat.add_mul_mod_self_right, Nat.mod_eq_of_lt (by omega)]
        refine ⟨i, ((landAt p i).slabs.length - 1) * p.size + upTo (inF p i) a.toNat, rfl, ⟨by rw [hAi]; exact hth, hi, by rw [← ey], by rw [← ey, hAi], by rw [← ey], by rw [← ey]; exact hn3.symm, hn1, by rw [hAi]; exact Nat.le_refl _, by rw [hsz, hmod]; omega⟩, hn3, by omega, hsz, by rw [← ep]; rfl, hgrew, fun x j o l hx => hx.kept hp (hgrew j hx.hi) hsz (by rw [← ep]; rfl), by rw [hAi], ?_⟩
        rw [hmod]
        unfold upTo
        exact Nat.mul_mod_left _ _
end
theorem splice_get (B b : List UInt8) (k n : Nat) (h : k + b.length ≤ B.length) (m : Nat) : (B.take k ++ b ++ B.drop (k + b.length))[m]? = if k ≤ m ∧ m < k + b.length then b[m - k]? else B[m]? := by
  have h1 : (B.take k).length = k := by rw [List.length_take]; omega
  by_cases c1 : m < k
  · rw [if_neg (by omega), List.append_assoc, List.getElem?_append_left (by omega), List.getElem?_take, if_pos c1]
  · by_cases c2 : m < k + b.length
    · rw [if_pos ⟨by omega, c2⟩, List.append_assoc, List.getElem?_append_right (by omega), h1, List.getElem?_append_left (by omega)]
    · rw [if_neg (by omega), List.getElem?_append_right (by rw [List.length_append, h1]; omega), List.length_append, h1, List.getElem?_drop]
      congr 1; omega
theorem part_get (B : List UInt8) (k l m : Nat) : ((B.drop k).take l)[m]? = if m < l then B[k + m]? else none := by
  rw [List.getElem?_take, List.getElem?_drop]
theorem part_in (B b : List UInt8) (k t l : Nat) (h1 : t + b.length ≤ l) (h2 : k + l ≤ B.length) :
    ((B.take (k + t) ++ b ++ B.drop (k + t + b.length)).drop k).take l = ((B.drop k).take l).take t ++ b ++ ((B.drop k).take l).drop (t + b.length) := by
  have hlen : ((B.drop k).take l).length = l := by rw [List.length_take, List.length_drop]; omega
  apply List.ext_getElem?
  intro m
  rw [part_get, splice_get _ _ _ 0 (by omega), splice_get _ _ _ 0 (by omega), part_get]
  by_cases c : m < l
  · rw [if_pos c, if_pos c]
    by_cases c2 : t ≤ m ∧ m < t + b.length
    · rw [if_pos (by omega), if_pos c2]; congr 1; omega
    · rw [if_neg (by omega), if_neg c2]
  · rw [if_neg c, if_neg c, if_neg (by omega)]
theorem part_out (B b : List UInt8) (k k2 l2 : Nat) (h1 : k + b.length ≤ B.length) (h : k + b.length ≤ k2 ∨ k2 + l2 ≤ k) :
    ((B.take k ++ b ++ B.drop (k + b.length)).drop k2).take l2 = (B.drop k2).take l2 := by
  apply List.ext_getElem?
  intro m
  rw [part_get, part_get, splice_get _ _ _ 0 h1]
  by_cases c : m < l2
  · rw [if_pos c, if_pos c, if_neg (by omega)]
  · rw [if_neg c, if_neg c]
section
variable {p p' : PoolF} {x y : Hd} {i j o l o2 l2 s : Nat}
theorem Pc.same_slab (hp : PoolOk p) (h : Pc p x i o l) (k : Pc p y j o2 l2) (e : slabOf p i o = slabOf p j o2) : i = j ∧ o / p.size = o2 / p.size := by
  obtain ⟨a1, a2, a3⟩ := h.slab hp
  obtain ⟨b1, b2, b3⟩ := k.slab hp
  have hij : i = j := hp.apart i j _ h.hi k.hi (List.mem_of_getElem? a2) (e ▸ List.mem_of_getElem? b2)
  subst hij
  refine ⟨rfl, ?_⟩
  rw [← e] at b2
  exact (List.getElem?_inj a1 (hp.ld i h.hi).nodup).1 (a2.trans b2.symm)
/-- Store into a piece -/
theorem store_pcs (hp : PoolOk p) (hx : Pc p x i o l) (t : Nat) (b : List UInt8) (h : t + b.length ≤ l) : ∃ p', storeF p x (t : Int) b = (0, p') ∧ p'.size = p.size ∧ p'.bytes.length = p.bytes.length ∧ p'.taken = p.taken ∧ p'.lands = p.lands ∧
    loadF p' x = ((loadF p x).1.take t ++ b ++ (loadF p x).1.drop (t + b.length), 0) ∧ (∀ y j o2 l2, Pc p y j o2 l2 → Pc p' y j o2 l2 ∧ ((i ≠ j ∨ o + l ≤ o2 ∨ o2 + l2 ≤ o) → loadF p' y = loadF p y)) := by
  obtain ⟨q1, q2, q3⟩ := hx.slab hp
  have hlen := hx.len
  have hins := hx.ins
  have hbl := bytesAt_len hp q3
  have hb : ¬ ((t : Int) < 0 ∨ (t : Int) > x.len ∨ (b.length : Int) > x.len - (t : Int)) := by rw [hlen]; omega
  have he := storeF_ok hx.piece hb
  rw [Int.toNat_natCast] at he
  have hg : ∀ j, Grew p (setBytes p (slabOf p i o) ((bytesAt p (slabOf p i o)).take (o % p.size + t) ++ b ++ (bytesAt p (slabOf p i o)).drop (o % p.size + t + b.length))) j := fun j => ⟨rfl, rfl, ⟨[], (List.append_nil _).symm⟩, Nat.le_refl _⟩
  refine ⟨_, he, rfl, List.length_set, rfl, rfl, ?_, fun y j o2 l2 hy => ⟨(hy.grew hp (hg j) rfl).1, fun hd => ?_⟩⟩
  · obtain ⟨h1, h2⟩ := hx.grew hp (hg i) rfl
    rw [h1.load, h2, bytesAt_set _ _ _ _ q3, if_pos rfl, hx.load]
    show (((_ : List UInt8).drop (o % p.size)).take l, 0) = _
    rw [part_in _ _ _ _ _ h (by rw [hbl]; exact hins)]
  · obtain ⟨h1, h2⟩ := hy.grew hp (hg j) rfl
    rw [h1.load, h2, bytesAt_set _ _ _ _ q3, hy.load]
    by_cases e : slabOf p i o = slabOf p j o2
    · rw [if_pos e]
      obtain ⟨hij, hq⟩ := hx.same_slab hp hy e
      have d1 := Nat.div_add_mod o p.size
      have d2 := Nat.div_add_mod o2 p.size
      rw [hq] at d1
      show (((_ : List UInt8).drop (o2 % p.size)).take l2, 0) = _
      have hy2 := hy.one
      rw [part_out _ _ _ _ _ (by rw [hbl]; omega) (by
        rcases hd with hd | hd | hd
        · exact absurd hij hd
        · left; omega
        · right; omega), e]
    · rw [if_neg e]
      rfl
/-- Make -/
theorem make_pcs (hp : PoolOk p) {r : Nat} (he : makeR p = (r, 0, p')) : r < 256 ∧ (landAt p r).there = false ∧ (∀ j, j < r → (landAt p j).there = true) ∧ p'.size = p.size ∧ p'.bytes = p.bytes ∧ p'.taken = p.taken ∧ landAt p' r = ⟨true, (landAt p r).gen + 1, [], 0⟩ ∧ (∀ j, j ≠ r → landAt p' j = landAt p j) ∧
    ∀ x j o l, Pc p x j o l → j ≠ r ∧ Pc p' x j o l ∧ loadF p' x = loadF p x := by
  unfold makeR at he
  cases hm : makeF p with
  | none => rw [hm] at he; simp at he
  | some i =>
    rw [hm] at he
    simp only [Prod.mk.injEq, true_and] at he
    obtain ⟨rfl, ep⟩ := he
    obtain ⟨hi, h0, h1⟩ := makeF_some hm
    have hA : ∀ j, landAt p' j = if i = j then ⟨true, (landAt p i).gen + 1, [], 0⟩ else landAt p j := fun j => by rw [← ep]; exact landAt_set p i j _ (by rw [hp.ln]; exact hi)
    have hAj : ∀ j, j ≠ i → landAt p' j = landAt p j := fun j hj => by rw [hA, if_neg (fun e => hj e.symm)]
    refine ⟨hi, h0, h1, by rw [← ep]; rfl, by rw [← ep]; rfl, by rw [← ep]; rfl, by rw [hA, if_pos rfl], hAj, fun x j o l hx => ?_⟩
    have hj : j ≠ i := fun e => by have := hx.there; rw [e, h0] at this; cases this
    refine ⟨hj, hx.kept hp ⟨by rw [hAj j hj], by rw [hAj j hj], ⟨[], by rw [hAj j hj, List.append_nil]⟩, by rw [hAj j hj]; exact Nat.le_refl _⟩ (by rw [← ep]; rfl) (by rw [← ep]; rfl)⟩
/-- Free -/
theorem free_pcs (hp : PoolOk p) {r : Nat} (hr : r < 256) (hth : (landAt p r).there = true) : ∃ p', freeF p (r : Int) = (0, p') ∧ p'.size = p.size ∧ p'.bytes.length = p.bytes.length ∧ landAt p' r = ⟨false, (landAt p r).gen, [], 0⟩ ∧ (∀ j, j ≠ r → landAt p' j = landAt p j) ∧
    (∀ t, t ∈ (landAt p r).slabs → bytesAt p' t = List.replicate p.size 0xDD) ∧ (∀ t, t ∉ (landAt p r).slabs → bytesAt p' t = bytesAt p t) ∧ (∀ t, p'.taken.getD t false = if t ∈ (landAt p r).slabs then false else p.taken.getD t false) ∧
    ∀ x j o l, Pc p x j o l → j ≠ r → Pc p' x j o l ∧ loadF p' x = loadF p x := by
  have he : freeF p (r : Int) = (0, { freeSlabs p (landAt p r).slabs with lands := p.lands.set r ⟨false, (landAt p r).gen, [], 0⟩ }) := by unfold freeF; rw [landF_of hr hth]
  have hA := fun j => landAt_free hp hr (landAt p r).slabs ⟨false, (landAt p r).gen, [], 0⟩ j
  have hAj : ∀ j, j ≠ r → landAt { freeSlabs p (landAt p r).slabs with lands := p.lands.set r ⟨false, (landAt p r).gen, [], 0⟩ } j = landAt p j := fun j hj => by rw [hA, if_neg (fun e => hj e.symm)]
  have hlt := (hp.ld r hr).lt
  have hb2 : ∀ t, t ∉ (landAt p r).slabs → bytesAt { freeSlabs p (landAt p r).slabs with lands := p.lands.set r ⟨false, (landAt p r).gen, [], 0⟩ } t = bytesAt p t := fun t ht => by
    by_cases hl : t < p.bytes.length
    · have := foldl_set_get (List.replicate p.size (0xDD : UInt8)) [] (landAt p r).slabs p.bytes t hl
      rw [if_neg ht] at this
      exact this
    · unfold bytesAt
      rw [List.getD_eq_getElem?_getD, List.getD_eq_getElem?_getD, List.getElem?_eq_none (by rw [(freeSlabs_len p (landAt p r).slabs).1]; omega), List.getElem?_eq_none (by omega)]
  refine ⟨_, he, rfl, (freeSlabs_len p _).1, by rw [hA, if_pos rfl], hAj, fun t ht => ?_, hb2, fun t => foldl_set_bool _ _ _, fun x j o l hx hj => ?_⟩
  · have := foldl_set_get (List.replicate p.size (0xDD : UInt8)) [] (landAt p r).slabs p.bytes t (hlt t ht)
    rw [if_pos ht] at this
    exact this
  · obtain ⟨q1, q2, q3⟩ := hx.slab hp
    refine hx.kept hp ⟨by rw [hAj j hj], by rw [hAj j hj], ⟨[], by rw [hAj j hj, List.append_nil]⟩, by rw [hAj j hj]; exact Nat.le_refl _⟩ rfl (hb2 _ (fun hm => hj (hp.apart j r _ hx.hi hr (List.mem_of_getElem? q2) hm)))
theorem alloc_cases {r i : Nat} {n a : Int} (hl : landF p (r : Int) = some i) (h1 : 1 ≤ n) (h2 : n ≤ (p.size : Int)) (ha : alignOk a = true) : (∃ y p', allocF p (r : Int) n a = (y, 0, p')) ∨ (allocF p (r : Int) n a = (noHd, 5, p) ∧ idleF p = none) := by
  unfold allocF
  rw [hl]
  simp only
  rw [if_neg (by rw [ha]; simp; omega)]
  split
  · cases hid : idleF p with
    | none => exact .inr ⟨rfl, rfl⟩
    | some s => exact .inl ⟨_, _, rfl⟩
  · exact .inl ⟨_, _, rfl⟩
theorem stale_load (h : landF p x.region = none ∨ ∃ i, landF p x.region = some i ∧ ((landAt p i).gen : Int) ≠ x.gen) : pieceF p x = ((0, 0), 3) := by
  unfold pieceF
  rcases h with h | ⟨i, h, hg⟩
  · rw [h]
  · rw [h]; simp only; rw [if_pos hg]
end
end Go.Proofs.Ytpaogoehgkoaeaa
/- The plain law of layer 11 (skip): versions in their order, and nodes; the link of a level is the first node behind that is that high. No program is in sight here. -/
namespace Go.Proofs.Ytpaogoehgkoaeaa
set_option linter.unusedVariables false
set_option linter.unusedSimpArgs false
open Go.RowKit Ikey Varint
open Go.Op (bytesLess)
/-- what is sought -/
structure Vr where
  key : List UInt8
  seq : Int
  kind : Int
/-- a version and its value -/
structure Ce where
  key : List UInt8
  seq : Nat
  kind : Nat
  val : List UInt8
def Ce.vr (c : Ce) : Vr := ⟨c.key, c.seq, c.kind⟩
def vless (a b : Vr) : Bool := lessF a.key a.seq a.kind b.key b.seq b.kind
theorem vless_iff (a b : Vr) : vless a b = true ↔ bytesLess a.key b.key = true ∨ (a.key = b.key ∧ (b.seq < a.seq ∨ (a.seq = b.seq ∧ b.kind < a.kind))) := by
  unfold vless lessF
  by_cases h1 : a.key = b.key
  · rw [if_neg (by simp [h1]), h1, bl_irr]
    by_cases h2 : a.seq = b.seq
    · rw [if_neg (by simp [h2])]
      simp [h2]
    · rw [if_pos h2]
      simp [h2]
  · rw [if_pos h1]
    simp [h1]
theorem vless_irr (a : Vr) : vless a a = false := less_irr _ _ _
theorem vless_trans {a b c : Vr} (h : vless a b = true) (k : vless b c = true) : vless a c = true := by
  rw [vless_iff] at *
  rcases h with h | ⟨h1, h2⟩
  · rcases k with k | ⟨k1, k2⟩
    · exact .inl (bl_trans h k)
    · exact .inl (k1 ▸ h)
  · rcases k with k | ⟨k1, k2⟩
    · exact .inl (h1 ▸ k)
    · exact .inr ⟨h1.trans k1, by omega⟩
theorem vless_tri {a b : Vr} (h : a ≠ b) : vless a b = !(vless b a) := less_tri (fun ⟨h1, h2, h3⟩ => h (by obtain ⟨_, _, _⟩ := a; obtain ⟨_, _, _⟩ := b; simp_all))
theorem vless_asymm {a b : Vr} (h : vless a b = true) : vless b a = false := by
  cases h2 : vless b a with
  | false => rfl
  | true => have := vless_trans h h2; rw [vless_irr] at this; cases this
/-- a node: where it lies, how many levels see it, how many links it has, its version and its value -/
structure Nd where
  off : Nat
  size : Nat
  h : Nat
  t : Nat
  c : Ce
/-- the first node of a row that has a level -/
def firstN (k : Nat) (r : List Nd) : Option Nd := r.find? fun n => decide (k < n.h)
/-- where it lies: a link of that level -/
def linkF : Option Nd → Nat × Nat
  | some n => (n.off, n.size)
  | none => (0, 0)
/-- the last node of a row that has a level -/
def lastN (k : Nat) (r : List Nd) : Option Nd := firstN k r.reverse
theorem firstN_append (k : Nat) (a b : List Nd) : firstN k (a ++ b) = (firstN k a).or (firstN k b) := by
  unfold firstN
  rw [List.find?_append]
theorem firstN_cons (k : Nat) (x : Nd) (b : List Nd) : firstN k (x :: b) = if k < x.h then some x else firstN k b := by
  unfold firstN
  rw [List.find?_cons]
  by_cases h : k < x.h <;> simp [h]
/-- a node that is put in: the link of a level is another one only where none of that level lies between -/
theorem firstN_put (k : Nat) (a b : List Nd) (x : Nd) : firstN k (a ++ x :: b) = if (firstN k a).isNone = true ∧ k < x.h then some x else firstN k (a ++ b) := by
  rw [firstN_append, firstN_append, firstN_cons]
  cases h : firstN k a with
  | some n => simp
  | none => by_cases hk : k < x.h <;> simp [hk]
theorem lastN_none {k : Nat} {r : List Nd} : lastN k r = none ↔ ∀ n ∈ r, n.h ≤ k := by
  unfold lastN firstN
  rw [List.find?_eq_none]
  simp
theorem firstN_none {k : Nat} {r : List Nd} : firstN k r = none ↔ ∀ n ∈ r, n.h ≤ k := by
  unfold firstN
  rw [List.find?_eq_none]
  simp
theorem firstN_some {k : Nat} {r : List Nd} {x : Nd} (h : firstN k r = some x) : ∃ a b, r = a ++ x :: b ∧ k < x.h ∧ ∀ n ∈ a, n.h ≤ k := by
  unfold firstN at h
  rw [List.find?_eq_some_iff_append] at h
  obtain ⟨h1, a, b, rfl, h2⟩ := h
  exact ⟨a, b, rfl, by simpa using h1, fun n hn => by simpa using h2 n hn⟩
theorem lastN_some {k : Nat} {r : List Nd} {x : Nd} (h : lastN k r = some x) : ∃ a b, r = a ++ x :: b ∧ k < x.h ∧ ∀ n ∈ b, n.h ≤ k := by
  obtain ⟨a, b, h1, h2, h3⟩ := firstN_some h
  refine ⟨b.reverse, a.reverse, ?_, h2, fun n hn => h3 n (by simpa using hn)⟩
  have := congrArg List.reverse h1
  simpa using this
theorem lastN_split {k : Nat} {a b : List Nd} {x : Nd} (h1 : k < x.h) (h2 : ∀ n ∈ b, n.h ≤ k) : lastN k (a ++ x :: b) = some x := by
  unfold lastN
  rw [List.reverse_append, List.reverse_cons, List.append_assoc, firstN_append, firstN_none.2 (fun n hn => h2 n (by simpa using hn))]
  simp [firstN_cons, h1]
/-- where a walk along a level stands: behind d, with nothing of that level left in r -/
theorem lastN_done {k : Nat} {d r : List Nd} (h : ∀ n ∈ r, n.h ≤ k) (hd : ∀ x, d.getLast? = some x → k < x.h) : lastN k (d ++ r) = d.getLast? := by
  rcases List.eq_nil_or_concat d with rfl | ⟨d', x, rfl⟩
  · exact lastN_none.2 (by simpa using h)
  · rw [List.concat_eq_append] at hd ⊢
    have hx := hd x (by simp)
    rw [List.append_assoc, List.singleton_append, lastN_split hx h]
    simp
/-- one step of such a walk -/
theorem step_done {k : Nat} {d r b : List Nd} {x : Nd} (p : Nd → Bool) (hr : ∀ n ∈ r, p n = true) (hb : ∀ n ∈ b, p n = false) (h : firstN k (r ++ b) = some x) :
    (p x = true → ∃ a c, r = a ++ x :: c ∧ k < x.h ∧ (d ++ a ++ [x]).getLast? = some x ∧ d ++ r = (d ++ a ++ [x]) ++ c) ∧ (p x = false → ∀ n ∈ r, n.h ≤ k) := by
  rw [firstN_append] at h
  cases hf : firstN k r with
  | some y =>
    rw [hf] at h
    obtain rfl : y = x := by simpa using h
    obtain ⟨a, c, rfl, h1, _⟩ := firstN_some hf
    refine ⟨fun _ => ⟨a, c, rfl, h1, by simp, by simp⟩, fun hp => ?_⟩
    rw [hr y (by simp)] at hp
    cases hp
  | none =>
    rw [hf] at h
    have hx : firstN k b = some x := by simpa using h
    obtain ⟨a, c, rfl, _, _⟩ := firstN_some hx
    refine ⟨fun hp => ?_, fun _ => firstN_none.1 hf⟩
    rw [hb x (by simp)] at hp
    cases hp
/-- a link's bytes, a node's links, a node's bytes -/
def ptrB (q : Nat × Nat) : List UInt8 := bytesN 4 q.1 ++ bytesN 4 q.2
def linksB (f : Nat → Nat × Nat) : Nat → List UInt8
  | 0 => []
  | n + 1 => linksB f n ++ ptrB (f n)
def headB (t : Nat) (c : Ce) : List UInt8 := UInt8.ofNat t :: (bytesN 2 (c.key.length + 8) ++ bytesN 2 c.val.length)
def restB (c : Ce) : List UInt8 := encF c.key c.seq c.kind ++ c.val
def nodeB (t : Nat) (f : Nat → Nat × Nat) (c : Ce) : List UInt8 := headB t c ++ (linksB f t ++ restB c)
theorem ptrB_len (q : Nat × Nat) : (ptrB q).length = 8 := by simp [ptrB, bytesN_len]
theorem linksB_len (f : Nat → Nat × Nat) : ∀ n, (linksB f n).length = 8 * n
  | 0 => rfl
  | n + 1 => by rw [linksB, List.length_append, linksB_len f n, ptrB_len]; omega
theorem headB_len (t : Nat) (c : Ce) : (headB t c).length = 5 := by simp [headB, bytesN_len]
theorem restB_len (c : Ce) : (restB c).length = c.key.length + 8 + c.val.length := by simp [restB, enc_len]
theorem nodeB_len (t : Nat) (f : Nat → Nat × Nat) (c : Ce) : (nodeB t f c).length = 5 + 8 * t + (c.key.length + 8 + c.val.length) := by
  rw [nodeB, List.length_append, List.length_append, headB_len, linksB_len, restB_len]; omega
theorem linksB_congr {f g : Nat → Nat × Nat} : ∀ n, (∀ k, k < n → f k = g k) → linksB f n = linksB g n
  | 0, _ => rfl
  | n + 1, h => by rw [linksB, linksB, linksB_congr n (fun k hk => h k (by omega)), h n (by omega)]
theorem nodeB_congr {f g : Nat → Nat × Nat} {t : Nat} (c : Ce) (h : ∀ k, k < t → f k = g k) : nodeB t f c = nodeB t g c := by
  unfold nodeB; rw [linksB_congr t h]
/-- the links, parted at one -/
theorem linksB_split (f : Nat → Nat × Nat) : ∀ n k, k < n → ∃ r, linksB f n = linksB f k ++ (ptrB (f k) ++ r) ∧ ∀ q, linksB (fun i => if i = k then q else f i) n = linksB f k ++ (ptrB q ++ r)
  | 0, k, h => by omega
  | n + 1, k, h => by
    by_cases e : k = n
    · subst e
      refine ⟨[], by rw [linksB, List.append_nil], fun q => ?_⟩
      rw [linksB, if_pos rfl, List.append_nil, linksB_congr k (fun i hi => by rw [if_neg (by omega)])]
    · obtain ⟨r, h1, h2⟩ := linksB_split f n k (by omega)
      refine ⟨r ++ ptrB (f n), by rw [linksB, h1]; simp, fun q => ?_⟩
      rw [linksB, h2, if_neg (fun e2 => e e2.symm)]
      simp
theorem cut_mid (a b c : List UInt8) {n m : Nat} (hn : a.length = n) (hm : b.length = m) : ((a ++ (b ++ c)).drop n).take m = b := by
  subst hn hm
  rw [List.drop_left, List.take_left]
theorem nodeB_link {t : Nat} (f : Nat → Nat × Nat) (c : Ce) {k : Nat} (h : k < t) :
    ((nodeB t f c).drop (5 + 8 * k)).take 4 = bytesN 4 (f k).1 ∧ ((nodeB t f c).drop (5 + 8 * k + 4)).take 4 = bytesN 4 (f k).2 := by
  obtain ⟨r, h1, _⟩ := linksB_split f t k h
  constructor
  · have e : nodeB t f c = (headB t c ++ linksB f k) ++ (bytesN 4 (f k).1 ++ (bytesN 4 (f k).2 ++ (r ++ restB c))) := by
      unfold nodeB; rw [h1, ptrB]; simp
    rw [e]
    exact cut_mid _ _ _ (by rw [List.length_append, headB_len, linksB_len]) (bytesN_len _ _)
  · have e : nodeB t f c = (headB t c ++ linksB f k ++ bytesN 4 (f k).1) ++ (bytesN 4 (f k).2 ++ (r ++ restB c)) := by
      unfold nodeB; rw [h1, ptrB]; simp
    rw [e]
    exact cut_mid _ _ _ (by rw [List.length_append, List.length_append, headB_len, linksB_len, bytesN_len]) (bytesN_len _ _)
theorem nodeB_put {t : Nat} (f : Nat → Nat × Nat) (c : Ce) {k : Nat} (h : k < t) (q : Nat × Nat) :
    (nodeB t f c).take (5 + 8 * k) ++ ptrB q ++ (nodeB t f c).drop (5 + 8 * k + (ptrB q).length) = nodeB t (fun i => if i = k then q else f i) c := by
  obtain ⟨r, h1, h2⟩ := linksB_split f t k h
  have e : nodeB t f c = (headB t c ++ linksB f k) ++ (ptrB (f k) ++ (r ++ restB c)) := by
    unfold nodeB; rw [h1]; simp
  have e2 : nodeB t (fun i => if i = k then q else f i) c = (headB t c ++ linksB f k) ++ (ptrB q ++ (r ++ restB c)) := by
    unfold nodeB; rw [h2]; simp
  have hl : (headB t c ++ linksB f k).length = 5 + 8 * k := by rw [List.length_append, headB_len, linksB_len]
  rw [e, e2, List.take_left' hl, ptrB_len]
  have : ((headB t c ++ linksB f k) ++ (ptrB (f k) ++ (r ++ restB c))).drop (5 + 8 * k + 8) = r ++ restB c := by
    rw [← List.append_assoc]
    exact List.drop_left' (by rw [List.length_append, hl, ptrB_len])
  rw [this]
  simp
theorem nodeB_parts (t : Nat) (f : Nat → Nat × Nat) (c : Ce) :
    (nodeB t f c)[0]? = some (UInt8.ofNat t) ∧ ((nodeB t f c).drop 1).take 2 = bytesN 2 (c.key.length + 8) ∧ ((nodeB t f c).drop 3).take 2 = bytesN 2 c.val.length ∧
    ((nodeB t f c).drop (5 + 8 * t)).take (c.key.length + 8) = encF c.key c.seq c.kind ∧ ((nodeB t f c).drop (5 + 8 * t + (c.key.length + 8))).take c.val.length = c.val := by
  refine ⟨by simp [nodeB, headB], ?_, ?_, ?_, ?_⟩
  · have e : nodeB t f c = [UInt8.ofNat t] ++ (bytesN 2 (c.key.length + 8) ++ (bytesN 2 c.val.length ++ (linksB f t ++ restB c))) := by unfold nodeB headB; simp
    rw [e]; exact cut_mid _ _ _ rfl (bytesN_len _ _)
  · have e : nodeB t f c = (UInt8.ofNat t :: bytesN 2 (c.key.length + 8)) ++ (bytesN 2 c.val.length ++ (linksB f t ++ restB c)) := by unfold nodeB headB; simp
    rw [e]; exact cut_mid _ _ _ (by simp [bytesN_len]) (bytesN_len _ _)
  · have e : nodeB t f c = (headB t c ++ linksB f t) ++ (encF c.key c.seq c.kind ++ c.val) := by unfold nodeB restB; simp
    rw [e]; exact cut_mid _ _ _ (by rw [List.length_append, headB_len, linksB_len]) (enc_len _ _ _)
  · have e : nodeB t f c = (headB t c ++ linksB f t ++ encF c.key c.seq c.kind) ++ (c.val ++ []) := by unfold nodeB restB; simp
    rw [e]; exact cut_mid _ _ _ (by rw [List.length_append, List.length_append, headB_len, linksB_len, enc_len]) rfl
end Go.Proofs.Ytpaogoehgkoaeaa
/- Layer 5 (ikey): the order of versions, in the program and in the reference. -/
namespace Go.Proofs.Ytpaogoehgkoaeaa
set_option linter.unusedVariables false
set_option linter.unusedSimpArgs false
open Go.RowKit Ikey Varint
open Go.Op (bytesLess)
theorem cmp_spec : ∀ a b : List UInt8, Lib.compareBytes a b = if a = b then 0 else if bytesLess a b = true then -1 else 1
  | [], [] => rfl
  | [], _ :: _ => by simp [Lib.compareBytes, bytesLess]
  | _ :: _, [] => by simp [Lib.compareBytes, bytesLess]
  | x :: a, y :: b => by
    have ih := cmp_spec a b
    unfold Lib.compareBytes
    by_cases h1 : x < y
    · have h2 : x ≠ y := fun e => by subst e; exact UInt8.lt_irrefl _ h1
      have h3 : bytesLess (x :: a) (y :: b) = true := (bl_cons x y a b).2 (.inl (UInt8.lt_iff_toNat_lt.1 h1))
      rw [if_pos h1, if_neg (fun e => h2 (List.cons.inj e).1), if_pos h3]
    · by_cases h2 : y < x
      · have h4 : x ≠ y := fun e => by subst e; exact UInt8.lt_irrefl _ h2
        have h3 : ¬ bytesLess (x :: a) (y :: b) = true := fun h => by
          rcases (bl_cons x y a b).1 h with h5 | ⟨h5, _⟩
          · exact h1 (UInt8.lt_iff_toNat_lt.2 h5)
          · exact h4 h5
        rw [if_neg h1, if_pos h2, if_neg (fun e => h4 (List.cons.inj e).1), if_neg h3]
      · have h4 : x = y := UInt8.le_antisymm (UInt8.not_lt.1 h2) (UInt8.not_lt.1 h1)
        subst h4
        have h3 : bytesLess (x :: a) (x :: b) = bytesLess a b := bl_append [x] a b
        rw [if_neg h1, if_neg h2, ih, h3]
        by_cases e : a = b
        · rw [if_pos e, if_pos (by rw [e])]
        · rw [if_neg e, if_neg (fun h => e (List.cons.inj h).2)]
set_option maxRecDepth 100000 in
theorem CompareString_any (a b : List UInt8) (w : World) :
    Calls Try.prog 55 #[.string (str a), .string (str b)] w fun e w' => e = .returned (.int .i64 (Lib.compareBytes a b)) ∧ w = w' := by
  have h := Lib.run_compareString (P := Try.prog) (str a) (str b) w
  rw [str_list, str_list] at h
  go_enter Try.func55, Try.ntmps55
  go_wp2
  rw [run_callFunc_extern Try.func56 (by kernel_rfl) (by kernel_rfl) (by kernel_rfl) (e := Extern.BytealgCompare.compare) (by kernel_rfl), h]
  simp only [Result.andThen]
  rw [Oper.upon_value]
  go_wp2
  go_ret
  exact ⟨rfl, rfl⟩
theorem Compare_any (a b : List UInt8) (w : World) :
    Calls Try.prog 50 #[.string (str a), .string (str b)] w fun e w' => e = .returned (.int .i64 (Lib.compareBytes a b)) ∧ w = w' := by
  go_enter Try.func50, Try.ntmps50
  go_wp2_with (go_at_call 55; refine (CompareString_any a b _).mono ?_; rintro e w' ⟨rfl, rfl⟩)
  go_ret
  exact ⟨rfl, rfl⟩
set_option maxRecDepth 100000 in
set_option maxHeartbeats 1000000 in
theorem Less_any (k k' : List UInt8) (s d s' d' : Int) (w : World) :
    Calls Try.prog 40 #[ver k s d, ver k' s' d'] w fun e w' => e = .returned (.bool (lessF k s d k' s' d')) ∧ Gr w w' := by
  have HC := Lib.hid (fun w => Compare_any k k' w)
  have hg : Gr w ((w.alloc (.cells #[.string (str k), .int .i64 s, .int .i64 d] 34)).alloc (.cells #[.string (str k'), .int .i64 s', .int .i64 d'] 34)) := (Gr.alloc _ _).trans (Gr.alloc _ _)
  unfold ver
  by_cases hk : k = k'
  · rw [show Lib.compareBytes k k' = 0 by rw [cmp_spec, if_pos hk]] at HC
    by_cases h1 : s' < s
    · have HL := Lib.hid (show lessF k s d k' s' d' = true by unfold lessF; rw [if_neg (by simp [hk]), if_pos (by omega)]; simpa using h1)
      clear hk
      go_enter Try.func40, Try.ntmps40
      go_wp2_with (go_at_call 50; refine (HC.out _).mono ?_; rintro e w' ⟨rfl, rfl⟩)
      go_ret
      exact ⟨by rw [HL.out]; rfl, hg⟩
    · have b1 : decide (s' < s) = false := by simpa using h1
      by_cases h2 : s = s'
      · subst h2
        by_cases h3 : d' < d
        · have HL := Lib.hid (show lessF k s d k' s d' = true by unfold lessF; rw [if_neg (by simp [hk]), if_neg (by simp)]; simpa using h3)
          clear hk
          go_enter Try.func40, Try.ntmps40
          go_wp2_with (go_at_call 50; refine (HC.out _).mono ?_; rintro e w' ⟨rfl, rfl⟩)
          go_ret
          exact ⟨by rw [HL.out]; rfl, hg⟩
        · have b3 : decide (d' < d) = false := by simpa using h3
          have HL := Lib.hid (show lessF k s d k' s d' = false by unfold lessF; rw [if_neg (by simp [hk]), if_neg (by simp)]; exact b3)
          clear hk
          go_enter Try.func40, Try.ntmps40
          go_wp2_with (go_at_call 50; refine (HC.out _).mono ?_; rintro e w' ⟨rfl, rfl⟩)
          go_ret
          exact ⟨by rw [HL.out]; rfl, hg⟩
      · have b2 : (s == s') = false := by rw [beq_eq_false_iff_ne]; exact h2
        have HL := Lib.hid (show lessF k s d k' s' d' = false by unfold lessF; rw [if_neg (by simp [hk]), if_pos h2]; exact b1)
        clear hk h2
        go_enter Try.func40, Try.ntmps40
        go_wp2_with (go_at_call 50; refine (HC.out _).mono ?_; rintro e w' ⟨rfl, rfl⟩)
        go_ret
        exact ⟨by rw [HL.out]; rfl, hg⟩
  · cases hb : bytesLess k k' with
    | true =>
      rw [show Lib.compareBytes k k' = -1 by rw [cmp_spec, if_neg hk, if_pos hb]] at HC
      have HL := Lib.hid (show lessF k s d k' s' d' = true by unfold lessF; rw [if_pos hk]; exact hb)
      clear hk hb
      go_enter Try.func40, Try.ntmps40
      go_wp2_with (go_at_call 50; refine (HC.out _).mono ?_; rintro e w' ⟨rfl, rfl⟩)
      go_ret
      exact ⟨by rw [HL.out]; rfl, hg⟩
    | false =>
      rw [show Lib.compareBytes k k' = 1 by rw [cmp_spec, if_neg hk, if_neg (by rw [hb]; decide)]] at HC
      have HL := Lib.hid (show lessF k s d k' s' d' = false by unfold lessF; rw [if_pos hk]; exact hb)
      clear hk hb
      go_enter Try.func40, Try.ntmps40
      go_wp2_with (go_at_call 50; refine (HC.out _).mono ?_; rintro e w' ⟨rfl, rfl⟩)
      go_ret
      exact ⟨by rw [HL.out]; rfl, hg⟩
set_option maxRecDepth 100000 in
set_option maxHeartbeats 1000000 in
theorem rLess_any (k k' : List UInt8) (s d s' d' : Int) (w : World) :
    Calls Try.prog 18 #[ver k s d, ver k' s' d'] w fun e w' => e = .returned (.bool (lessF k s d k' s' d')) ∧ Gr w w' := by
  have hg : Gr w ((w.alloc (.cells #[.string (str k), .int .i64 s, .int .i64 d] 34)).alloc (.cells #[.string (str k'), .int .i64 s', .int .i64 d'] 34)) := (Gr.alloc _ _).trans (Gr.alloc _ _)
  unfold ver
  by_cases hk : k = k'
  · subst hk
    by_cases h2 : s = s'
    · subst h2
      have HL := Lib.hid (show lessF k s d k s d' = decide (d' < d) by unfold lessF; rw [if_neg (by simp), if_neg (by simp)])
      go_enter Try.func18, Try.ntmps18
      go_wp2
      go_ret
      exact ⟨by rw [HL.out]; rfl, hg⟩
    · have b2 : (s != s') = true := by rw [bne_iff_ne]; exact h2
      have HL := Lib.hid (show lessF k s d k s' d' = decide (s' < s) by unfold lessF; rw [if_neg (by simp), if_pos h2])
      clear h2
      go_enter Try.func18, Try.ntmps18
      go_wp2
      go_ret
      exact ⟨by rw [HL.out]; rfl, hg⟩
  · have HL := Lib.hid (show lessF k s d k' s' d' = bytesLess k k' by unfold lessF; rw [if_pos hk])
    have b1 : (k == k') = false := by rw [beq_eq_false_iff_ne]; exact hk
    have b2 : (k != k') = true := by rw [bne_iff_ne]; exact hk
    clear hk
    go_enter Try.func18, Try.ntmps18
    go_wp2
    go_ret
    exact ⟨by rw [HL.out]; rfl, hg⟩
end Go.Proofs.Ytpaogoehgkoaeaa
/- Cells of the statements in memory: four values each; what the reference counts and places. -/
namespace Go.Proofs.Ytpaogoehgkoaeaa
set_option linter.unusedVariables false
set_option linter.unusedSimpArgs false
open Go.RowKit Ikey Varint
/-- a cell with any numbers -/
structure Ci where
  key : List UInt8
  seq : Int
  kind : Int
  val : List UInt8
def Ci.vr (c : Ci) : Vr := ⟨c.key, c.seq, c.kind⟩
def Ce.i (c : Ce) : Ci := ⟨c.key, c.seq, c.kind, c.val⟩
def c4 (c : Ci) : List Value := [.string (str c.key), .int .i64 c.seq, .int .i64 c.kind, .string (str c.val)]
def cv (l : List Ci) : List Value := l.flatMap c4
theorem cv_cons (c : Ci) (l : List Ci) : cv (c :: l) = c4 c ++ cv l := rfl
theorem cv_length (l : List Ci) : (cv l).length = l.length * 4 := by
  induction l with
  | nil => rfl
  | cons p l ih => rw [cv_cons, List.length_append, ih, List.length_cons, c4]; simp only [List.length_cons, List.length_nil]; omega
theorem cv_append (l m : List Ci) : cv (l ++ m) = cv l ++ cv m := by simp [cv]
theorem cv_drop (l : List Ci) (n : Nat) : cv (l.drop n) = (cv l).drop (n * 4) := by
  induction l generalizing n with
  | nil => simp [cv]
  | cons p l ih =>
    cases n with
    | zero => simp
    | succ n =>
      rw [List.drop_succ_cons, ih, cv_cons, show (n + 1) * 4 = 4 + n * 4 by omega, ← List.drop_drop]
      rfl
theorem cv_take (l : List Ci) (n : Nat) : cv (l.take n) = (cv l).take (n * 4) := by
  have h : cv l = cv (l.take n) ++ cv (l.drop n) := by rw [← cv_append, List.take_append_drop]
  by_cases hn : n ≤ l.length
  · rw [h]
    exact (List.take_left' (by rw [cv_length, List.length_take]; omega)).symm
  · rw [List.take_of_length_le (show l.length ≤ n by omega), List.take_of_length_le (by rw [cv_length]; omega)]
theorem cv_get (l : List Ci) (i : Nat) (h : i < l.length) (j : Nat) (hj : j < 4) : (cv l)[i * 4 + j]? = (c4 l[i])[j]? := by
  have e := cv_drop l i
  rw [List.drop_eq_getElem_cons h, cv_cons] at e
  have e2 := congrArg (·[j]?) e
  simp only [List.getElem?_drop] at e2
  rw [← e2, List.getElem?_append_left (by unfold c4; simp; omega)]
theorem cv_one (l : List Ci) : ∀ v ∈ cv l, v.oneCell' = true := by
  intro v hv
  simp only [cv, List.mem_flatMap] at hv
  obtain ⟨p, _, h⟩ := hv
  simp only [c4, List.mem_cons, List.not_mem_nil, or_false] at h
  rcases h with rfl | rfl | rfl | rfl <;> rfl
theorem elemC : Elem Try.prog 22 36 (.agg #[.string ⟨#[]⟩, .int .i64 0, .int .i64 0, .string ⟨#[]⟩]) 4 48 := ⟨by kernel_rfl, by kernel_rfl, rfl, by decide⟩
/-- where a cell of a row lies -/
theorem Row.ci {w : World} {ad : Option Addr} {l : List Ci} (h : Row w ad (cv l)) (i : Nat) (hi : i < l.length) :
    ∃ b off, ad = some ⟨b, off, none⟩ ∧ w.cell? ⟨b, off + i * 4, none⟩ = some (.string (str l[i].key)) ∧ w.cell? ⟨b, off + i * 4 + 1, none⟩ = some (.int .i64 l[i].seq) ∧ w.cell? ⟨b, off + i * 4 + 2, none⟩ = some (.int .i64 l[i].kind) ∧ w.cell? ⟨b, off + i * 4 + 3, none⟩ = some (.string (str l[i].val)) := by
  obtain ⟨b, off, e, c0⟩ := h (i * 4) _ (cv_get l i hi 0 (by omega))
  obtain ⟨b1, off1, e1, c1⟩ := h (i * 4 + 1) _ (cv_get l i hi 1 (by omega))
  obtain ⟨b2, off2, e2, c2⟩ := h (i * 4 + 2) _ (cv_get l i hi 2 (by omega))
  obtain ⟨b3, off3, e3, c3⟩ := h (i * 4 + 3) _ (cv_get l i hi 3 (by omega))
  rw [e] at e1 e2 e3
  cases e1; cases e2; cases e3
  exact ⟨b, off, e, c0, c1, c2, c3⟩
theorem Row.drop_ {w : World} {b off : Nat} {vs : List Value} (h : Row w (some ⟨b, off, none⟩) vs) (k : Nat) : Row w (some ⟨b, off + k, none⟩) (vs.drop k) := fun i u hi => by
  rw [List.getElem?_drop] at hi
  obtain ⟨b', off', e, hc⟩ := h (k + i) u hi
  cases e
  exact ⟨b, off + k, rfl, by rw [Nat.add_assoc]; exact hc⟩
/-- how many cells come ahead of a version -/
def rankI (v : Vr) : List Ci → Nat
  | [] => 0
  | c :: l => if vless c.vr v = true then rankI v l + 1 else 0
theorem rankI_le (v : Vr) : ∀ l, rankI v l ≤ l.length
  | [] => Nat.le_refl _
  | q :: l => by have := rankI_le v l; simp only [rankI, List.length_cons]; split <;> omega
theorem rankI_step {v : Vr} {l : List Ci} {i : Nat} (h : i < l.length) (hb : vless l[i].vr v = true) : rankI v (l.drop i) = rankI v (l.drop (i + 1)) + 1 := by
  rw [List.drop_eq_getElem_cons h, rankI, if_pos hb]
theorem rankI_stop {v : Vr} {l : List Ci} {i : Nat} (h : i < l.length) (hb : vless l[i].vr v = false) : rankI v (l.drop i) = 0 := by
  rw [List.drop_eq_getElem_cons h, rankI, if_neg (by rw [hb]; exact Bool.false_ne_true)]
theorem rankI_end {v : Vr} {l : List Ci} {i : Nat} (h : l.length ≤ i) : rankI v (l.drop i) = 0 := by
  rw [List.drop_of_length_le h]; rfl
def placeI (l : List Ci) (c : Ci) : List Ci := l.take (rankI c.vr l) ++ [c] ++ l.drop (rankI c.vr l)
theorem placeI_len (l : List Ci) (c : Ci) : (placeI l c).length = l.length + 1 := by
  have := rankI_le c.vr l
  unfold placeI
  simp only [List.length_append, List.length_take, List.length_drop, List.length_cons, List.length_nil]; omega
/-- the reference's cells -/
def ci (C : List Ce) : List Ci := C.map Ce.i
theorem ci_len (C : List Ce) : (ci C).length = C.length := by simp [ci]
theorem rank_ci (v : Vr) : ∀ C : List Ce, rankI v (ci C) = (C.takeWhile fun c => vless c.vr v).length
  | [] => rfl
  | c :: C => by
    have := rank_ci v C
    unfold ci at this ⊢
    rw [List.map_cons, rankI, List.takeWhile_cons]
    have e : c.i.vr = c.vr := rfl
    rw [e]
    cases h : vless c.vr v with
    | true => simp [this]
    | false => simp
end Go.Proofs.Ytpaogoehgkoaeaa
/- Cells laid one by one in their order, each version once. No program is in sight here. -/
namespace Go.Proofs.Ytpaogoehgkoaeaa
set_option linter.unusedVariables false
set_option linter.unusedSimpArgs false
open Go.RowKit Ikey Varint
def zeroC : Ci := ⟨[], 0, 0, []⟩
instance : DecidableEq Vr := fun a b => decidable_of_iff (a.key = b.key ∧ a.seq = b.seq ∧ a.kind = b.kind) ⟨fun ⟨h1, h2, h3⟩ => by cases a; cases b; simp_all, fun h => by rw [h]; exact ⟨rfl, rfl, rfl⟩⟩
def addC (o : List Ci) (c : Ci) : List Ci := if rankI c.vr o < o.length ∧ (o.getD (rankI c.vr o) zeroC).vr = c.vr then o else placeI o c
def gatherN (ok : Ci → Bool) (l : List Ci) : Nat → List Ci
  | 0 => []
  | i + 1 => if ok (l.getD i zeroC) = true then addC (gatherN ok l i) (l.getD i zeroC) else gatherN ok l i
def AscI (a b : Ci) : Prop := vless a.vr b.vr = true
theorem rank_take (v : Vr) : ∀ l : List Ci, ∀ x ∈ l.take (rankI v l), vless x.vr v = true
  | [], x, h => by simp at h
  | c :: l, x, h => by
    unfold rankI at h
    cases hb : vless c.vr v with
    | true =>
      rw [hb] at h
      simp only [if_true, List.take_succ_cons] at h
      rcases List.mem_cons.1 h with rfl | h
      · exact hb
      · exact rank_take v l x h
    | false => rw [hb] at h; simp at h
theorem rank_drop (v : Vr) : ∀ (l : List Ci) (x : Ci) (B : List Ci), l.drop (rankI v l) = x :: B → vless x.vr v = false
  | [], x, B, h => by simp at h
  | c :: l, x, B, h => by
    unfold rankI at h
    cases hb : vless c.vr v with
    | true =>
      rw [hb] at h
      simp only [if_true, List.drop_succ_cons] at h
      exact rank_drop v l x B h
    | false =>
      rw [hb] at h
      simp at h
      rw [← h.1]
      exact hb
theorem place_sorted {l : List Ci} {c : Ci} (hs : l.Pairwise AscI) (hn : ∀ x B, l.drop (rankI c.vr l) = x :: B → x.vr ≠ c.vr) : (placeI l c).Pairwise AscI := by
  have h1 := rank_take c.vr l
  have h2 := rank_drop c.vr l
  have hsp : l = l.take (rankI c.vr l) ++ l.drop (rankI c.vr l) := (List.take_append_drop _ _).symm
  unfold placeI
  generalize l.take (rankI c.vr l) = A at *
  generalize l.drop (rankI c.vr l) = B at *
  rw [hsp, List.pairwise_append] at hs
  obtain ⟨hA, hB, hAB⟩ := hs
  have hcB : ∀ y ∈ B, AscI c y := by
    cases B with
    | nil => intro y hy; simp at hy
    | cons x B =>
      have hx : AscI c x := by
        have := vless_tri (hn x B rfl)
        rw [h2 x B rfl] at this
        unfold AscI
        cases hb : vless c.vr x.vr with
        | true => rfl
        | false => rw [hb] at this; cases this
      intro y hy
      rcases List.mem_cons.1 hy with rfl | hy
      · exact hx
      · exact vless_trans hx ((List.pairwise_cons.1 hB).1 y hy)
  rw [List.append_assoc, List.pairwise_append]
  refine ⟨hA, ?_, fun x hx y hy => ?_⟩
  · rw [List.singleton_append, List.pairwise_cons]
    exact ⟨hcB, hB⟩
  · rcases List.mem_append.1 hy with hy | hy
    · obtain rfl := List.mem_singleton.1 hy
      exact h1 x hx
    · exact hAB x hx y hy
theorem add_sorted {o : List Ci} {c : Ci} (hs : o.Pairwise AscI) : (addC o c).Pairwise AscI := by
  unfold addC
  split
  · exact hs
  · rename_i h
    refine place_sorted hs fun x B e hx => h ?_
    have hlt : rankI c.vr o < o.length := by
      rcases Nat.lt_or_ge (rankI c.vr o) o.length with h | h
      · exact h
      · rw [List.drop_of_length_le h] at e; cases e
    refine ⟨hlt, ?_⟩
    have : o[rankI c.vr o]? = some x := by
      have := congrArg (fun l => l[0]?) e
      simpa [List.getElem?_drop] using this
    rw [List.getD_eq_getElem?_getD, this]
    exact hx
theorem gather_sorted (ok : Ci → Bool) (l : List Ci) : ∀ i, (gatherN ok l i).Pairwise AscI
  | 0 => List.Pairwise.nil
  | i + 1 => by
    rw [gatherN]
    split
    · exact add_sorted (gather_sorted ok l i)
    · exact gather_sorted ok l i
theorem add_len (o : List Ci) (c : Ci) : (addC o c).length ≤ o.length + 1 := by
  unfold addC
  split
  · omega
  · rw [placeI_len]; exact Nat.le_refl _
theorem gather_len (ok : Ci → Bool) (l : List Ci) : ∀ i, (gatherN ok l i).length ≤ i
  | 0 => Nat.le_refl _
  | i + 1 => by
    have h1 := gather_len ok l i
    rw [gatherN]
    split
    · have := add_len (gatherN ok l i) (l.getD i zeroC)
      omega
    · omega
theorem place_mem {l : List Ci} {c x : Ci} (h : x ∈ placeI l c) : x ∈ l ∨ x = c := by
  unfold placeI at h
  rcases List.mem_append.1 h with h | h
  · rcases List.mem_append.1 h with h | h
    · exact .inl (List.mem_of_mem_take h)
    · exact .inr (List.mem_singleton.1 h)
  · exact .inl (List.mem_of_mem_drop h)
theorem add_mem {o : List Ci} {c x : Ci} (h : x ∈ addC o c) : x ∈ o ∨ x = c := by
  unfold addC at h
  split at h
  · exact .inl h
  · exact place_mem h
theorem gather_mem (ok : Ci → Bool) (l : List Ci) : ∀ i, i ≤ l.length → ∀ x ∈ gatherN ok l i, x ∈ l ∧ ok x = true
  | 0, _, x, h => by simp [gatherN] at h
  | i + 1, hi, x, h => by
    have h1 := gather_mem ok l i (by omega)
    rw [gatherN] at h
    split at h
    · rename_i hok
      rcases add_mem h with h | rfl
      · exact h1 x h
      · refine ⟨?_, hok⟩
        rw [List.getD_eq_getElem?_getD, List.getElem?_eq_getElem (by omega), Option.getD_some]
        exact List.getElem_mem _
    · exact h1 x h
/-- where the search ends -/
theorem add_at {o : List Ci} {c : Ci} {a : Nat} (ha : a < o.length) (hr : rankI c.vr o = a) : addC o c = if o[a].vr = c.vr then o else placeI o c := by
  unfold addC
  rw [hr, List.getD_eq_getElem?_getD, List.getElem?_eq_getElem ha, Option.getD_some]
  by_cases h : o[a].vr = c.vr
  · rw [if_pos ⟨ha, h⟩, if_pos h]
  · rw [if_neg (fun e => h e.2), if_neg h]
theorem add_end {o : List Ci} {c : Ci} (hr : rankI c.vr o = o.length) : addC o c = placeI o c := by
  unfold addC
  rw [if_neg (fun e => by omega)]
end Go.Proofs.Ytpaogoehgkoaeaa
/- The reference of layer 11: a version's rank among the cells. -/
namespace Go.Proofs.Ytpaogoehgkoaeaa
set_option linter.unusedVariables false
set_option linter.unusedSimpArgs false
open Go.RowKit Ikey Varint
end Go.Proofs.Ytpaogoehgkoaeaa
/- The reference of layer 9: a cell is placed among cells. -/
namespace Go.Proofs.Ytpaogoehgkoaeaa
set_option linter.unusedVariables false
set_option linter.unusedSimpArgs false
open Go.RowKit Ikey Varint
theorem row_from {w : World} {B : Nat} {e : TypeId} {ad : Option Addr} {size cap n : Nat} {xs : List Value} (ho : Owns w B e size ad cap n xs) : ∀ k, ad.map (·.block) = some k → B ≤ k := by
  intro k hk
  cases ad with
  | none => cases hk
  | some x => cases hk; exact (ho.lt x rfl).1
/-- cells of the call's own -/
def RetC (w : World) (l : List Ci) : Ending → World → Prop := fun x w' => ∃ ad cap, x = .returned (.slice ad l.length cap) ∧ Owns w' w.heap.size 36 4 ad cap l.length (cv l) ∧ Gr w w'
set_option maxRecDepth 100000 in
set_option maxHeartbeats 4000000 in
theorem Place_any (ad : Option Addr) (cap : Nat) (l : List Ci) (c : Ci) (w : World) (hr : Row w ad (cv l)) (hcap : l.length ≤ cap) (had : (ad = none ∧ cap = 0) ∨ ∃ b off, ad = some ⟨b, off, none⟩ ∧ b < w.heap.size) (hl : l.length ≤ 1000000) :
    Calls Try.prog 19 #[.slice ad l.length cap, .agg (c4 c).toArray] w (RetC w (placeI l c)) := by
  have HL := Lib.hid (show ∀ (x : Ci) (w : World), Calls Try.prog 18 #[ver x.key x.seq x.kind, ver c.key c.seq c.kind] w fun e w' => e = .returned (.bool (vless x.vr c.vr)) ∧ Gr w w' from fun x w => rLess_any x.key c.key x.seq x.kind c.seq c.kind w)
  have HR := Lib.hid hr.ci
  have g1 : Gr w (w.alloc (.cells (c4 c).toArray 36)) := Gr.alloc _ _
  have HR1 := Lib.hid (hr.gr g1)
  have b4 := (Blk.new w 36 (c4 c).toArray).four
  have hpl := Lib.hid (placeI_len l c)
  have hpe := Lib.hid (show placeI l c = l.take (rankI c.vr l) ++ [c] ++ l.drop (rankI c.vr l) from rfl)
  unfold ver at HL
  unfold c4 at g1 HR1 b4 ⊢
  obtain ⟨c0, c1, c2, c3, _⟩ := b4
  clear hr
  obtain ⟨v, hv⟩ : ∃ v, v = c.vr := ⟨_, rfl⟩
  rw [← hv] at HL hpe
  have HV := Lib.hid hv
  clear hv
  go_enter Try.func19, Try.ntmps19
  go_wp2
  go_loopw [5] (fun va wa => ∃ a : Nat, a ≤ l.length ∧ va = .int .i64 (a : Int) ∧ Gr (w.alloc (.cells #[.string (str c.key), .int .i64 c.seq, .int .i64 c.kind, .string (str c.val)] 36)) wa ∧ rankI v l = a + rankI v (l.drop a)) (fun va _ => l.length - (intOf va).toNat)
  case atStart => exact ⟨0, Nat.zero_le _, rfl, Gr.refl _, by simp⟩
  case round =>
    obtain ⟨a, ha, rfl, hga, hp⟩ := hrel
    have d0 := hga.cell c0
    have d1 := hga.cell c1
    have d2 := hga.cell c2
    have d3 := hga.cell c3
    have HP := Lib.hid hp
    clear hp
    by_cases hlt : a < l.length
    · obtain ⟨b, off, rfl, e0, e1, e2, e3⟩ := HR.out a hlt
      have hbw : b < w.heap.size := World.block_lt_of_cell? w _ e0
      have f0 := hga.cell (g1.cell e0)
      have f1 := hga.cell (g1.cell e1)
      have f2 := hga.cell (g1.cell e2)
      have HS := Lib.hid (fun h => rankI_step (v := v) hlt h)
      have HT := Lib.hid (fun h => rankI_stop (v := v) hlt h)
      generalize l[a] = x at *
      have HC := Lib.hid (HL.out x)
      cases hb : vless x.vr v with
      | true =>
        rw [hb] at HC
        go_wp2
        refine region_any_gr _ [Is (.int .i64 (a : Int)), Is ?r1, Is (.int .i64 (l.length : Int)), Is (.bool true), Is (.bool true), Is ?r5, Is ?r6, Is (.pointer (some ⟨b, off + a * 4, none⟩)), Is ?r8, Is (.agg #[.string (str x.key), .int .i64 x.seq, .int .i64 x.kind]), Is ?r10, Is (.agg #[.string (str c.key), .int .i64 c.seq, .int .i64 c.kind]), Is (.bool true), Is (.bool true)] (by kernel_rfl) (by kernel_rfl) (by kernel_rfl) rfl rfl ⟨Is.stable _, Is.stable _, Is.stable _, Is.stable _, Is.stable _, Is.stable _, Is.stable _, Is.stable _, Is.stable _, Is.stable _, Is.stable _, Is.stable _, Is.stable _, Is.stable _, trivial⟩ ⟨?s0, ?s1, ?s2, ?s3, ?s4, ?s5, ?s6, ?s7, ?s8, ?s9, ?s10, ?s11, ?s12, ?s13, trivial⟩ ?fin
        case' s0 | s1 | s2 | s3 | s4 | s5 | s6 | s7 | s8 | s9 | s10 | s11 | s12 | s13 =>
          intro ρ wr hρ hg hK
          simp [readsOf, slotsOf, Op.operands, Call.operands, tmpOf, List.filterMap_cons, List.filterMap_nil, KnownAll, knownOf, srcOf, depsOf, dstOf, Region.binds, nth, Is] at hK
          obtain ⟨hc, hf, hgl⟩ := hρ
          try simp only [wantedBy, dstOf, boolOf, nth, List.getD_cons_zero, List.getD_cons_succ, List.getElem?_cons_zero, List.getElem?_cons_succ, Option.bind_some, if_true, hK, BEq.rfl]
          try go_simp
          first | exact rfl | (rw [if_pos (by omega)]; exact is_here rfl) | (rw [dif_pos (by omega)]; exact is_here rfl) | exact congrArg (Value.int _) (IntWalk.i64_in _ ⟨by omega, by omega⟩) | skip
        case s9 => have z0 := hg.cell f0; have z1 := hg.cell f1; have z2 := hg.cell f2; go_simp; exact rfl
        case s11 => have z0 := hg.cell d0; have z1 := hg.cell d1; have z2 := hg.cell d2; go_simp; exact rfl
        case s12 => exact any_gr (HC.out _)
        case fin =>
          intro w1 val hg hH
          simp only [Holds, Is, Nat.zero_add, Nat.reduceAdd] at hH
          obtain ⟨h0, h1, h2, h3, h4, h5, h6, h7, h8, h9, h10, h11, h12, h13, _⟩ := hH
          simp only [List.take_succ_cons, List.take_zero, List.drop_succ_cons, List.drop_zero, putAll, h0, h1, h2, h3, h4, h5, h6, h7, h8, h9, h10, h11, h12, h13, Nat.zero_add, Nat.reduceAdd]
          go_simp
          go_wp2
          go_roundw
          case rel => exact ⟨a + 1, hlt, by go_num, hga.trans hg, by rw [HP.out, HS.out hb]; omega⟩
          case measure => simp [intOf]; omega
      | false =>
        rw [hb] at HC
        have HE := Lib.hid (show placeI l c = l.take a ++ [c] ++ l.drop a by rw [hpe.out, HP.out, HT.out hb, Nat.add_zero])
        go_wp2
        refine region_any_gr _ [Is (.int .i64 (a : Int)), Is ?r1x1, Is (.int .i64 (l.length : Int)), Is (.bool true), Is (.bool true), Is ?r5x1, Is ?r6x1, Is (.pointer (some ⟨b, off + a * 4, none⟩)), Is ?r8x1, Is (.agg #[.string (str x.key), .int .i64 x.seq, .int .i64 x.kind]), Is ?r10x1, Is (.agg #[.string (str c.key), .int .i64 c.seq, .int .i64 c.kind]), Is (.bool false), Is (.bool false)] (by kernel_rfl) (by kernel_rfl) (by kernel_rfl) rfl rfl ⟨Is.stable _, Is.stable _, Is.stable _, Is.stable _, Is.stable _, Is.stable _, Is.stable _, Is.stable _, Is.stable _, Is.stable _, Is.stable _, Is.stable _, Is.stable _, Is.stable _, trivial⟩ ⟨?s0x1, ?s1x1, ?s2x1, ?s3x1, ?s4x1, ?s5x1, ?s6x1, ?s7x1, ?s8x1, ?s9x1, ?s10x1, ?s11x1, ?s12x1, ?s13x1, trivial⟩ ?finx1
        case' s0x1 | s1x1 | s2x1 | s3x1 | s4x1 | s5x1 | s6x1 | s7x1 | s8x1 | s9x1 | s10x1 | s11x1 | s12x1 | s13x1 =>
          intro ρ wr hρ hg hK
          simp [readsOf, slotsOf, Op.operands, Call.operands, tmpOf, List.filterMap_cons, List.filterMap_nil, KnownAll, knownOf, srcOf, depsOf, dstOf, Region.binds, nth, Is] at hK
          obtain ⟨hc, hf, hgl⟩ := hρ
          try simp only [wantedBy, dstOf, boolOf, nth, List.getD_cons_zero, List.getD_cons_succ, List.getElem?_cons_zero, List.getElem?_cons_succ, Option.bind_some, if_true, hK, BEq.rfl]
          try go_simp
          first | exact rfl | (rw [if_pos (by omega)]; exact is_here rfl) | (rw [dif_pos (by omega)]; exact is_here rfl) | exact congrArg (Value.int _) (IntWalk.i64_in _ ⟨by omega, by omega⟩) | skip
        case s9x1 => have z0 := hg.cell f0; have z1 := hg.cell f1; have z2 := hg.cell f2; go_simp; exact rfl
        case s11x1 => have z0 := hg.cell d0; have z1 := hg.cell d1; have z2 := hg.cell d2; go_simp; exact rfl
        case s12x1 => exact any_gr (HC.out _)
        case finx1 =>
          intro w1 val hg hH
          simp only [Holds, Is, Nat.zero_add, Nat.reduceAdd] at hH
          obtain ⟨h0, h1, h2, h3, h4, h5, h6, h7, h8, h9, h10, h11, h12, h13, _⟩ := hH
          simp only [List.take_succ_cons, List.take_zero, List.drop_succ_cons, List.drop_zero, putAll, h0, h1, h2, h3, h4, h5, h6, h7, h8, h9, h10, h11, h12, h13, Nat.zero_add, Nat.reduceAdd]
          go_simp
          go_wp2
          clear f0 f1 f2 e0 e1 e2 e3
          have gW : Gr (w.alloc (.cells #[.string (str c.key), .int .i64 c.seq, .int .i64 c.kind, .string (str c.val)] 36)) w1 := hga.trans hg
          have e0' := gW.cell c0
          have e1' := gW.cell c1
          have e2' := gW.cell c2
          have e3' := gW.cell c3
          have rW : Row w1 _ (cv l) := HR1.out.gr gW
          have gw := g1.trans gW
          have hN9 := gW.size
          have hsz1 : (w.alloc (.cells #[.string (str c.key), .int .i64 c.seq, .int .i64 c.kind, .string (str c.val)] 36)).heap.size = w.heap.size + 1 := by simp
          obtain ⟨N, hN⟩ : ∃ N, N = w1.heap.size := ⟨_, rfl⟩
          have hn2 : (cv (l.take a)).length = a * 4 := by rw [cv_length, List.length_take, Nat.min_eq_left ha]
          have hblN : w.heap.size < N := by omega
          have rT : Row w1 _ (cv (l.take a)) := fun x u hx => rW x u (by rw [cv_take] at hx; rw [List.getElem?_take] at hx; split at hx <;> first | exact hx | cases hx)
          have m1 : a + 1 ≤ maxLen := by unfold maxLen; omega
          have m1' : (a + 1) * 48 ≤ 140737488355328 := by omega
          have HN := Lib.hid hN; have HN2 := Lib.hid hn2; have HRT := Lib.hid rT
          clear hN hn2 rT d0 d1 d2 d3 hga hg
          refine region_tail_fresh N (a * 4) (c4 c) 11 _ [Mt N 36 4, Is (.slice (some ⟨b, off, none⟩) l.length cap), Is (.int .i64 (a : Int)), Is (.slice (some ⟨b, off, none⟩) a cap), Made N 36 4 a (cv (l.take a)), Is (.agg #[.string (str c.key), .int .i64 c.seq, .int .i64 c.kind, .string (str c.val)]), OneB (c4 c), Made N 36 4 (a + 1) (cv (l.take a) ++ c4 c), Is (.slice (some ⟨b, off, none⟩) l.length cap), Is (.int .i64 (a : Int)), OldRow N (l.length - a) (cv (l.drop a))] (by kernel_rfl) (by kernel_rfl) (by kernel_rfl) (by kernel_rfl) rfl rfl ⟨Mt.stable _ _, Is.stable _, Is.stable _, Is.stable _, Made.stable _ _ _ _ (.inl (Nat.le_of_eq HN2.out)), Is.stable _, OneB.stable, Made.stable _ _ _ _ (.inr ⟨_, rfl, HN2.out⟩), Is.stable _, Is.stable _, OldRow.stable _ _, trivial⟩ ⟨?s0x2, ?s1x2, ?s2x2, ?s3x2, ?s4x2, ?s5x2, ?s6x2, ?s7x2, ?s8x2, ?s9x2, ?s10x2, trivial⟩ ?finx2
          case' s0x2 | s1x2 | s2x2 | s3x2 | s5x2 | s6x2 | s8x2 | s9x2 | s10x2 =>
            intro ρ wr hρ hg hK
            simp [readsOf, slotsOf, Op.operands, Call.operands, tmpOf, List.filterMap_cons, List.filterMap_nil, KnownAll, knownOf, srcOf, depsOf, dstOf, Region.binds, nth, Is] at hK
            obtain ⟨hc, hf, hgl⟩ := hρ
            try simp only [wantedBy, dstOf, boolOf, nth, List.getD_cons_zero, List.getD_cons_succ, List.getElem?_cons_zero, List.getElem?_cons_succ, Option.bind_some, if_true, hK, BEq.rfl]
            try go_simp
            first | exact rfl | (rw [if_pos (by omega)]; exact is_here rfl) | (rw [dif_pos (by omega)]; exact is_here rfl) | exact congrArg (Value.int _) (IntWalk.i64_in _ ⟨by omega, by omega⟩) | skip
          case' s4x2 | s7x2 =>
            intro ρ wr hρ hg hK
            simp [readsOf, slotsOf, Op.operands, Call.operands, tmpOf, List.filterMap_cons, List.filterMap_nil, KnownAll, knownOf, srcOf, depsOf, dstOf, Region.binds, nth, Is] at hK
            obtain ⟨hc, hf, hgl⟩ := hρ
            try simp only [wantedBy, dstOf, boolOf, nth, List.getD_cons_zero, List.getD_cons_succ, List.getElem?_cons_zero, List.getElem?_cons_succ, Option.bind_some, if_true, hK, BEq.rfl]
          case s0x2 => exact ⟨(Gr.alloc _ _).fresh (by rw [HN.out]; exact hg.size), _, rfl, Owns.void _ _ _ _ (by rw [HN.out]; exact hg.size)⟩
          case s3x2 => rw [if_pos (by omega)]; exact ⟨Fresh.refl _, rfl⟩
          case s4x2 =>
            obtain ⟨⟨ad0, e0, o0⟩, e1⟩ := hK
            obtain ⟨v, w2, r1, r2, r3⟩ := append_mt (news := c4 c) (n := a * 4) (ty := 22) (u := 22) elemC o0 (m := a) (xs := cv (l.take a)) ⟨HN2.out, cv_one _, .inl ⟨_, _, _, rfl, hg.row HRT.out (Nat.le_of_eq HN.out.symm), Try.underlying22⟩⟩ (by omega) (by omega) (by rw [HN.out]; exact hg.size)
            simp only [execOp, resolve, invoke, builtin, Sem.run_bind, Sem.run_pure, Result.andThen_ok, List.map_toArray, List.map_cons, List.map_nil, e0, e1]
            rw [r1]
            exact ⟨r2, r3⟩
          case s5x2 =>
            have z0 := hg.cell e0' hblN
            have z1 := hg.cell e1' hblN
            have z2 := hg.cell e2' hblN
            have z3 := hg.cell e3' hblN
            go_simp
            exact rfl
          case s6x2 => exact ⟨(Gr.alloc _ _).fresh (by rw [HN.out]; exact hg.size), _, _, _, rfl, heap_alloc_new _ _⟩
          case s7x2 =>
            obtain ⟨⟨ad0, cp0, e0, o0⟩, hone⟩ := hK
            obtain ⟨v, w2, r1, r2, r3⟩ := append_made (news := c4 c) (n := a * 4) (ty := 22) (u := 22) elemC o0 (hone.src rfl (by simpa [cv] using cv_one [c]) Try.underlying22) rfl m1 m1' (by rw [HN.out]; exact hg.size)
            simp only [execOp, resolve, invoke, builtin, Sem.run_bind, Sem.run_pure, Result.andThen_ok, List.map_toArray, List.map_cons, List.map_nil, e0]
            rw [r1]
            exact ⟨r2, r3⟩
          case s10x2 =>
            have hbo : b < N := by omega
            first
              | (rw [if_neg (by omega)]
                 exact ⟨_, _, rfl, by rw [cv_drop]; exact (hg.row rW (Nat.le_of_eq HN.out.symm)).drop_ _, fun x hx => by cases hx; exact hbo⟩)
              | (refine ⟨_, _, rfl, by rw [List.drop_of_length_le HAE.out]; exact Row.nil _ _, fun x hx => ?_⟩
                 split at hx <;> (cases hx; exact hbo))
          case finx2 =>
            intro w1 val hg hH
            simp only [Holds, Is, Nat.zero_add, Nat.reduceAdd] at hH
            obtain ⟨h0, h1, h2, h3, h4, h5, h6, h7, h8, h9, h10, _⟩ := hH
            simp only [List.take_succ_cons, List.take_zero, List.drop_succ_cons, List.drop_zero, putAll, h1, h2, h3, h5, h8, h9, Nat.zero_add, Nat.reduceAdd]
            obtain ⟨ad7, cp7, e7, o7⟩ := h7
            obtain ⟨ad10, cp10, e10, r10, _⟩ := h10
            have hs9 := hg.size
            have hNw : w.heap.size ≤ N := by omega
            have o7' := o7.base hNw
            have hbs : w.heap.size ≤ w1.heap.size := by omega
            have g10 : Gr w w1 := hg.gr gw hNw
            have m2 : a + 1 + (l.length - a) ≤ maxLen := by unfold maxLen; omega
            have m2' : (a + 1 + (l.length - a)) * 48 ≤ 140737488355328 := by omega
            have hdl : (cv (l.drop a)).length = (l.length - a) * 4 := by rw [cv_length, List.length_drop]
            have HDL := Lib.hid hdl; clear hdl
            simp only [e7, e10]
            go_simp
            go_wp2_with (at_builtin; go_must (refine wp_append elemC rfl _ _ rfl rfl o7' rfl (⟨HDL.out, cv_one _, .inl ⟨_, _, _, rfl, r10, Try.underlying22⟩⟩ : Src Try.prog 22 w1 4 (.slice ad10 (l.length - a) cp10) (l.length - a) (cv (l.drop a))) m2 m2' hbs ?_); intro ad5 cap5 w5 o5 k5 f5)
            go_ret
            have hL : (placeI l c).length = a + 1 + (l.length - a) := by rw [HE.out]; simp only [List.length_append, List.length_take, List.length_drop, List.length_cons, List.length_nil]; omega
            refine ⟨ad5, cap5, by rw [hL]; rfl, ?_, g10.grown k5 (row_from o7')⟩
            rw [hL, HE.out, cv_append, cv_append]
            simpa [cv] using o5
    · have HE := Lib.hid (show placeI l c = l.take a ++ [c] ++ l.drop a by rw [hpe.out, HP.out, rankI_end (by omega), Nat.add_zero])
      go_wp2
      refine region_any_gr _ [Is (.int .i64 (a : Int)), Is ?r1x3, Is (.int .i64 (l.length : Int)), Is (.bool false), Is (.bool false), Is (undef), Is (undef), Is (undef), Is (undef), Is (undef), Is (undef), Is (undef), Is (undef), Is (.bool false)] (by kernel_rfl) (by kernel_rfl) (by kernel_rfl) rfl rfl ⟨Is.stable _, Is.stable _, Is.stable _, Is.stable _, Is.stable _, Is.stable _, Is.stable _, Is.stable _, Is.stable _, Is.stable _, Is.stable _, Is.stable _, Is.stable _, Is.stable _, trivial⟩ ⟨?s0x3, ?s1x3, ?s2x3, ?s3x3, ?s4x3, ?s5x3, ?s6x3, ?s7x3, ?s8x3, ?s9x3, ?s10x3, ?s11x3, ?s12x3, ?s13x3, trivial⟩ ?finx3
      case' s0x3 | s1x3 | s2x3 | s3x3 | s4x3 | s5x3 | s6x3 | s7x3 | s8x3 | s9x3 | s10x3 | s11x3 | s12x3 | s13x3 =>
        intro ρ wr hρ hg hK
        simp [readsOf, slotsOf, Op.operands, Call.operands, tmpOf, List.filterMap_cons, List.filterMap_nil, KnownAll, knownOf, srcOf, depsOf, dstOf, Region.binds, nth, Is] at hK
        obtain ⟨hc, hf, hgl⟩ := hρ
        try simp only [wantedBy, dstOf, boolOf, nth, List.getD_cons_zero, List.getD_cons_succ, List.getElem?_cons_zero, List.getElem?_cons_succ, Option.bind_some, if_true, hK, BEq.rfl]
        try go_simp
        first | exact rfl | (rw [if_pos (by omega)]; exact is_here rfl) | (rw [dif_pos (by omega)]; exact is_here rfl) | exact congrArg (Value.int _) (IntWalk.i64_in _ ⟨by omega, by omega⟩) | skip
      case finx3 =>
        intro w1 val hg hH
        simp only [Holds, Is, Nat.zero_add, Nat.reduceAdd] at hH
        obtain ⟨h0, h1, h2, h3, h4, h5, h6, h7, h8, h9, h10, h11, h12, h13, _⟩ := hH
        simp only [List.take_succ_cons, List.take_zero, List.drop_succ_cons, List.drop_zero, putAll, h0, h1, h2, h3, h4, h5, h6, h7, h8, h9, h10, h11, h12, h13, Nat.zero_add, Nat.reduceAdd]
        go_simp
        go_wp2
        rcases had with ⟨rfl, rfl⟩ | ⟨b, off, rfl, hbw⟩
        · obtain rfl : l = [] := List.eq_nil_of_length_eq_zero (by omega)
          obtain rfl : a = 0 := by simpa using ha
          clear hlt HR
          have gW : Gr (w.alloc (.cells #[.string (str c.key), .int .i64 c.seq, .int .i64 c.kind, .string (str c.val)] 36)) w1 := hga.trans hg
          have e0' := gW.cell c0
          have e1' := gW.cell c1
          have e2' := gW.cell c2
          have e3' := gW.cell c3
          have rW : Row w1 none (cv ([] : List Ci)) := HR1.out.gr gW
          have gw := g1.trans gW
          have hN9 := gW.size
          have hsz1 : (w.alloc (.cells #[.string (str c.key), .int .i64 c.seq, .int .i64 c.kind, .string (str c.val)] 36)).heap.size = w.heap.size + 1 := by simp
          obtain ⟨N, hN⟩ : ∃ N, N = w1.heap.size := ⟨_, rfl⟩
          have hn2 : (cv (([] : List Ci))).length = 0 := rfl
          have hblN : w.heap.size < N := by omega
          have rT : Row w1 none (cv (([] : List Ci))) := Row.nil _ _
          have m1 : 0 + 1 ≤ maxLen := by unfold maxLen; omega
          have m1' : (0 + 1) * 48 ≤ 140737488355328 := by omega
          have HN := Lib.hid hN; have HN2 := Lib.hid hn2; have HRT := Lib.hid rT
          clear hN hn2 rT d0 d1 d2 d3 hga hg
          refine region_tail_fresh N (0) (c4 c) 11 _ [Mt N 36 4, Is (.slice none 0 0), Is (.int .i64 0), Is (.slice none 0 0), Made N 36 4 0 (cv (([] : List Ci))), Is (.agg #[.string (str c.key), .int .i64 c.seq, .int .i64 c.kind, .string (str c.val)]), OneB (c4 c), Made N 36 4 (0 + 1) (cv (([] : List Ci)) ++ c4 c), Is (.slice none 0 0), Is (.int .i64 0), OldRow N 0 (cv (([] : List Ci)))] (by kernel_rfl) (by kernel_rfl) (by kernel_rfl) (by kernel_rfl) rfl rfl ⟨Mt.stable _ _, Is.stable _, Is.stable _, Is.stable _, Made.stable _ _ _ _ (.inl (Nat.le_of_eq HN2.out)), Is.stable _, OneB.stable, Made.stable _ _ _ _ (.inr ⟨_, rfl, HN2.out⟩), Is.stable _, Is.stable _, OldRow.stable _ _, trivial⟩ ⟨?s0x4, ?s1x4, ?s2x4, ?s3x4, ?s4x4, ?s5x4, ?s6x4, ?s7x4, ?s8x4, ?s9x4, ?s10x4, trivial⟩ ?finx4
          case' s0x4 | s1x4 | s2x4 | s3x4 | s5x4 | s6x4 | s8x4 | s9x4 | s10x4 =>
            intro ρ wr hρ hg hK
            simp [readsOf, slotsOf, Op.operands, Call.operands, tmpOf, List.filterMap_cons, List.filterMap_nil, KnownAll, knownOf, srcOf, depsOf, dstOf, Region.binds, nth, Is] at hK
            obtain ⟨hc, hf, hgl⟩ := hρ
            try simp only [wantedBy, dstOf, boolOf, nth, List.getD_cons_zero, List.getD_cons_succ, List.getElem?_cons_zero, List.getElem?_cons_succ, Option.bind_some, if_true, hK, BEq.rfl]
            try go_simp
            first | exact rfl | (rw [if_pos (by omega)]; exact is_here rfl) | (rw [dif_pos (by omega)]; exact is_here rfl) | exact congrArg (Value.int _) (IntWalk.i64_in _ ⟨by omega, by omega⟩) | skip
          case' s4x4 | s7x4 =>
            intro ρ wr hρ hg hK
            simp [readsOf, slotsOf, Op.operands, Call.operands, tmpOf, List.filterMap_cons, List.filterMap_nil, KnownAll, knownOf, srcOf, depsOf, dstOf, Region.binds, nth, Is] at hK
            obtain ⟨hc, hf, hgl⟩ := hρ
            try simp only [wantedBy, dstOf, boolOf, nth, List.getD_cons_zero, List.getD_cons_succ, List.getElem?_cons_zero, List.getElem?_cons_succ, Option.bind_some, if_true, hK, BEq.rfl]
          case s0x4 => exact ⟨(Gr.alloc _ _).fresh (by rw [HN.out]; exact hg.size), _, rfl, Owns.void _ _ _ _ (by rw [HN.out]; exact hg.size)⟩
          case s4x4 =>
            obtain ⟨⟨ad0, e0, o0⟩, e1⟩ := hK
            obtain ⟨v, w2, r1, r2, r3⟩ := append_mt (news := c4 c) (n := 0) (ty := 22) (u := 22) elemC o0 (m := 0) (xs := cv (([] : List Ci))) ⟨HN2.out, cv_one _, .inl ⟨_, _, _, rfl, hg.row HRT.out (Nat.le_of_eq HN.out.symm), Try.underlying22⟩⟩ (by omega) (by omega) (by rw [HN.out]; exact hg.size)
            simp only [execOp, resolve, invoke, builtin, Sem.run_bind, Sem.run_pure, Result.andThen_ok, List.map_toArray, List.map_cons, List.map_nil, e0, e1]
            rw [r1]
            exact ⟨r2, r3⟩
          case s5x4 =>
            have z0 := hg.cell e0' hblN
            have z1 := hg.cell e1' hblN
            have z2 := hg.cell e2' hblN
            have z3 := hg.cell e3' hblN
            go_simp
            exact rfl
          case s6x4 => exact ⟨(Gr.alloc _ _).fresh (by rw [HN.out]; exact hg.size), _, _, _, rfl, heap_alloc_new _ _⟩
          case s7x4 =>
            obtain ⟨⟨ad0, cp0, e0, o0⟩, hone⟩ := hK
            obtain ⟨v, w2, r1, r2, r3⟩ := append_made (news := c4 c) (n := 0) (ty := 22) (u := 22) elemC o0 (hone.src rfl (by simpa [cv] using cv_one [c]) Try.underlying22) rfl m1 m1' (by rw [HN.out]; exact hg.size)
            simp only [execOp, resolve, invoke, builtin, Sem.run_bind, Sem.run_pure, Result.andThen_ok, List.map_toArray, List.map_cons, List.map_nil, e0]
            rw [r1]
            exact ⟨r2, r3⟩
          case s10x4 => exact ⟨_, _, rfl, Row.nil _ _, fun x hx => by cases hx⟩
          case finx4 =>
            intro w1 val hg hH
            simp only [Holds, Is, Nat.zero_add, Nat.reduceAdd] at hH
            obtain ⟨h0, h1, h2, h3, h4, h5, h6, h7, h8, h9, h10, _⟩ := hH
            simp only [List.take_succ_cons, List.take_zero, List.drop_succ_cons, List.drop_zero, putAll, h1, h2, h3, h5, h8, h9, Nat.zero_add, Nat.reduceAdd]
            obtain ⟨ad7, cp7, e7, o7⟩ := h7
            obtain ⟨ad10, cp10, e10, r10, _⟩ := h10
            have hs9 := hg.size
            have hNw : w.heap.size ≤ N := by omega
            have o7' := o7.base hNw
            have hbs : w.heap.size ≤ w1.heap.size := by omega
            have g10 : Gr w w1 := hg.gr gw hNw
            have m2 : 0 + 1 + 0 ≤ maxLen := by unfold maxLen; omega
            have m2' : (0 + 1 + 0) * 48 ≤ 140737488355328 := by omega
            have hdl : (cv (([] : List Ci))).length = 0 * 4 := rfl
            have HDL := Lib.hid hdl; clear hdl
            simp only [e7, e10]
            go_simp
            go_wp2_with (at_builtin; go_must (refine wp_append elemC rfl _ _ rfl rfl o7' rfl (⟨HDL.out, cv_one _, .inl ⟨_, _, _, rfl, r10, Try.underlying22⟩⟩ : Src Try.prog 22 w1 4 (.slice ad10 0 cp10) 0 (cv (([] : List Ci)))) m2 m2' hbs ?_); intro ad5 cap5 w5 o5 k5 f5)
            go_ret
            have hL : (placeI [] c).length = 0 + 1 + 0 := by rw [HE.out]; simp only [List.length_append, List.length_take, List.length_drop, List.length_cons, List.length_nil]; omega
            refine ⟨ad5, cap5, by rw [hL]; rfl, ?_, g10.grown k5 (row_from o7')⟩
            rw [hL, HE.out, cv_append, cv_append]
            simpa [cv] using o5
        · have HAE := Lib.hid (show l.length ≤ a by omega)
          clear hlt
          have gW : Gr (w.alloc (.cells #[.string (str c.key), .int .i64 c.seq, .int .i64 c.kind, .string (str c.val)] 36)) w1 := hga.trans hg
          have e0' := gW.cell c0
          have e1' := gW.cell c1
          have e2' := gW.cell c2
          have e3' := gW.cell c3
          have rW : Row w1 _ (cv l) := HR1.out.gr gW
          have gw := g1.trans gW
          have hN9 := gW.size
          have hsz1 : (w.alloc (.cells #[.string (str c.key), .int .i64 c.seq, .int .i64 c.kind, .string (str c.val)] 36)).heap.size = w.heap.size + 1 := by simp
          obtain ⟨N, hN⟩ : ∃ N, N = w1.heap.size := ⟨_, rfl⟩
          have hn2 : (cv (l.take a)).length = a * 4 := by rw [cv_length, List.length_take, Nat.min_eq_left ha]
          have hblN : w.heap.size < N := by omega
          have rT : Row w1 _ (cv (l.take a)) := fun x u hx => rW x u (by rw [cv_take] at hx; rw [List.getElem?_take] at hx; split at hx <;> first | exact hx | cases hx)
          have m1 : a + 1 ≤ maxLen := by unfold maxLen; omega
          have m1' : (a + 1) * 48 ≤ 140737488355328 := by omega
          have HN := Lib.hid hN; have HN2 := Lib.hid hn2; have HRT := Lib.hid rT
          clear hN hn2 rT d0 d1 d2 d3 hga hg
          refine region_tail_fresh N (a * 4) (c4 c) 11 _ [Mt N 36 4, Is (.slice (some ⟨b, off, none⟩) l.length cap), Is (.int .i64 (a : Int)), Is (.slice (some ⟨b, off, none⟩) a cap), Made N 36 4 a (cv (l.take a)), Is (.agg #[.string (str c.key), .int .i64 c.seq, .int .i64 c.kind, .string (str c.val)]), OneB (c4 c), Made N 36 4 (a + 1) (cv (l.take a) ++ c4 c), Is (.slice (some ⟨b, off, none⟩) l.length cap), Is (.int .i64 (a : Int)), OldRow N (l.length - a) (cv (l.drop a))] (by kernel_rfl) (by kernel_rfl) (by kernel_rfl) (by kernel_rfl) rfl rfl ⟨Mt.stable _ _, Is.stable _, Is.stable _, Is.stable _, Made.stable _ _ _ _ (.inl (Nat.le_of_eq HN2.out)), Is.stable _, OneB.stable, Made.stable _ _ _ _ (.inr ⟨_, rfl, HN2.out⟩), Is.stable _, Is.stable _, OldRow.stable _ _, trivial⟩ ⟨?s0x5, ?s1x5, ?s2x5, ?s3x5, ?s4x5, ?s5x5, ?s6x5, ?s7x5, ?s8x5, ?s9x5, ?s10x5, trivial⟩ ?finx5
          case' s0x5 | s1x5 | s2x5 | s3x5 | s5x5 | s6x5 | s8x5 | s9x5 | s10x5 =>
            intro ρ wr hρ hg hK
            simp [readsOf, slotsOf, Op.operands, Call.operands, tmpOf, List.filterMap_cons, List.filterMap_nil, KnownAll, knownOf, srcOf, depsOf, dstOf, Region.binds, nth, Is] at hK
            obtain ⟨hc, hf, hgl⟩ := hρ
            try simp only [wantedBy, dstOf, boolOf, nth, List.getD_cons_zero, List.getD_cons_succ, List.getElem?_cons_zero, List.getElem?_cons_succ, Option.bind_some, if_true, hK, BEq.rfl]
            try go_simp
            first | exact rfl | (rw [if_pos (by omega)]; exact is_here rfl) | (rw [dif_pos (by omega)]; exact is_here rfl) | exact congrArg (Value.int _) (IntWalk.i64_in _ ⟨by omega, by omega⟩) | skip
          case' s4x5 | s7x5 =>
            intro ρ wr hρ hg hK
            simp [readsOf, slotsOf, Op.operands, Call.operands, tmpOf, List.filterMap_cons, List.filterMap_nil, KnownAll, knownOf, srcOf, depsOf, dstOf, Region.binds, nth, Is] at hK
            obtain ⟨hc, hf, hgl⟩ := hρ
            try simp only [wantedBy, dstOf, boolOf, nth, List.getD_cons_zero, List.getD_cons_succ, List.getElem?_cons_zero, List.getElem?_cons_succ, Option.bind_some, if_true, hK, BEq.rfl]
          case s0x5 => exact ⟨(Gr.alloc _ _).fresh (by rw [HN.out]; exact hg.size), _, rfl, Owns.void _ _ _ _ (by rw [HN.out]; exact hg.size)⟩
          case s3x5 => rw [if_pos (by omega)]; exact ⟨Fresh.refl _, rfl⟩
          case s4x5 =>
            obtain ⟨⟨ad0, e0, o0⟩, e1⟩ := hK
            obtain ⟨v, w2, r1, r2, r3⟩ := append_mt (news := c4 c) (n := a * 4) (ty := 22) (u := 22) elemC o0 (m := a) (xs := cv (l.take a)) ⟨HN2.out, cv_one _, .inl ⟨_, _, _, rfl, hg.row HRT.out (Nat.le_of_eq HN.out.symm), Try.underlying22⟩⟩ (by omega) (by omega) (by rw [HN.out]; exact hg.size)
            simp only [execOp, resolve, invoke, builtin, Sem.run_bind, Sem.run_pure, Result.andThen_ok, List.map_toArray, List.map_cons, List.map_nil, e0, e1]
            rw [r1]
            exact ⟨r2, r3⟩
          case s5x5 =>
            have z0 := hg.cell e0' hblN
            have z1 := hg.cell e1' hblN
            have z2 := hg.cell e2' hblN
            have z3 := hg.cell e3' hblN
            go_simp
            exact rfl
          case s6x5 => exact ⟨(Gr.alloc _ _).fresh (by rw [HN.out]; exact hg.size), _, _, _, rfl, heap_alloc_new _ _⟩
          case s7x5 =>
            obtain ⟨⟨ad0, cp0, e0, o0⟩, hone⟩ := hK
            obtain ⟨v, w2, r1, r2, r3⟩ := append_made (news := c4 c) (n := a * 4) (ty := 22) (u := 22) elemC o0 (hone.src rfl (by simpa [cv] using cv_one [c]) Try.underlying22) rfl m1 m1' (by rw [HN.out]; exact hg.size)
            simp only [execOp, resolve, invoke, builtin, Sem.run_bind, Sem.run_pure, Result.andThen_ok, List.map_toArray, List.map_cons, List.map_nil, e0]
            rw [r1]
            exact ⟨r2, r3⟩
          case s10x5 =>
            have hbo : b < N := by omega
            first
              | (rw [if_neg (by omega)]
                 exact ⟨_, _, rfl, by rw [cv_drop]; exact (hg.row rW (Nat.le_of_eq HN.out.symm)).drop_ _, fun x hx => by cases hx; exact hbo⟩)
              | (refine ⟨_, _, rfl, by rw [List.drop_of_length_le HAE.out]; exact Row.nil _ _, fun x hx => ?_⟩
                 split at hx <;> (cases hx; exact hbo))
          case finx5 =>
            intro w1 val hg hH
            simp only [Holds, Is, Nat.zero_add, Nat.reduceAdd] at hH
            obtain ⟨h0, h1, h2, h3, h4, h5, h6, h7, h8, h9, h10, _⟩ := hH
            simp only [List.take_succ_cons, List.take_zero, List.drop_succ_cons, List.drop_zero, putAll, h1, h2, h3, h5, h8, h9, Nat.zero_add, Nat.reduceAdd]
            obtain ⟨ad7, cp7, e7, o7⟩ := h7
            obtain ⟨ad10, cp10, e10, r10, _⟩ := h10
            have hs9 := hg.size
            have hNw : w.heap.size ≤ N := by omega
            have o7' := o7.base hNw
            have hbs : w.heap.size ≤ w1.heap.size := by omega
            have g10 : Gr w w1 := hg.gr gw hNw
            have m2 : a + 1 + (l.length - a) ≤ maxLen := by unfold maxLen; omega
            have m2' : (a + 1 + (l.length - a)) * 48 ≤ 140737488355328 := by omega
            have hdl : (cv (l.drop a)).length = (l.length - a) * 4 := by rw [cv_length, List.length_drop]
            have HDL := Lib.hid hdl; clear hdl
            simp only [e7, e10]
            go_simp
            go_wp2_with (at_builtin; go_must (refine wp_append elemC rfl _ _ rfl rfl o7' rfl (⟨HDL.out, cv_one _, .inl ⟨_, _, _, rfl, r10, Try.underlying22⟩⟩ : Src Try.prog 22 w1 4 (.slice ad10 (l.length - a) cp10) (l.length - a) (cv (l.drop a))) m2 m2' hbs ?_); intro ad5 cap5 w5 o5 k5 f5)
            go_ret
            have hL : (placeI l c).length = a + 1 + (l.length - a) := by rw [HE.out]; simp only [List.length_append, List.length_take, List.length_drop, List.length_cons, List.length_nil]; omega
            refine ⟨ad5, cap5, by rw [hL]; rfl, ?_, g10.grown k5 (row_from o7')⟩
            rw [hL, HE.out, cv_append, cv_append]
            simpa [cv] using o5
end Go.Proofs.Ytpaogoehgkoaeaa
/- The statements through the layers: the cells of any cells, in their order. -/
namespace Go.Proofs.Ytpaogoehgkoaeaa
set_option linter.unusedVariables false
set_option linter.unusedSimpArgs false
open Go.RowKit Ikey Varint
def okT (c : Ci) : Bool := okV c.key c.seq c.kind && decide (c.val.length ≤ 1000)
theorem Owns.had {w : World} {base : Nat} {e : TypeId} {size : Nat} {ad : Option Addr} {cap n : Nat} {xs : List Value} (h : Owns w base e size ad cap n xs) : (ad = none ∧ cap = 0) ∨ ∃ b off, ad = some ⟨b, off, none⟩ ∧ b < w.heap.size := by
  have hl := h.lt
  obtain ⟨h1, h2, h3, ⟨e1, e2, e3⟩ | ⟨g, cur, fr, e1, _⟩⟩ := h
  · exact .inl ⟨e1, e3⟩
  · exact .inr ⟨g, 0, e1, (hl _ e1).2⟩
set_option maxRecDepth 100000 in
set_option maxHeartbeats 4000000 in
theorem cells_any (ad : Option Addr) (cap : Nat) (l : List Ci) (w : World) (hr : Row w ad (cv l)) (hl : l.length ≤ 9223372036854775807) (hvl : ∀ c ∈ l, c.val.length ≤ 9223372036854775807) :
    Calls Try.prog 5 #[.slice ad l.length cap] w (RetC w (gatherN okT l (min l.length 50))) := by
  have HR := Lib.hid hr.ci
  have HVL := Lib.hid hvl
  have HL := Lib.hid (show ∀ (x c : Ci) (w : World), Calls Try.prog 18 #[ver x.key x.seq x.kind, ver c.key c.seq c.kind] w fun e w' => e = .returned (.bool (vless x.vr c.vr)) ∧ Gr w w' from fun x c w => rLess_any x.key c.key x.seq x.kind c.seq c.kind w)
  have HRt := Lib.hid (fun (c : Ci) (w : World) => rRight_any c.key c.seq c.kind w)
  unfold ver at HL HRt
  clear hr hvl
  go_enter Try.func5, Try.ntmps5
  go_wp2
  go_loopw [3, 4] (fun vo vi wr => ∃ (i : Nat) (adO : Option Addr) (capO : Nat), vi = .int .i64 (i : Int) ∧ i ≤ l.length ∧ i ≤ 50 ∧ vo = .slice adO (gatherN okT l i).length capO ∧ Owns wr w.heap.size 36 4 adO capO (gatherN okT l i).length (cv (gatherN okT l i)) ∧ Gr w wr) (fun _ vi _ => 50 - (intOf vi).toNat)
  case atStart => exact ⟨0, none, 0, rfl, Nat.zero_le _, Nat.zero_le _, rfl, Owns.empty _ _ _ _, Gr.refl _⟩
  case round =>
    obtain ⟨i, adO, capO, rfl, hi, hi50, rfl, hO, hG⟩ := hrel
    by_cases hlt : i < l.length ∧ i < 50
    · obtain ⟨hlt, hlt2⟩ := hlt
      obtain ⟨b, off, hade, e0, e1, e2, e3⟩ := HR.out i hlt
      subst hade
      have hv := HVL.out l[i] (List.getElem_mem hlt)
      have hgt : gatherN okT l (i + 1) = if okT l[i] = true then addC (gatherN okT l i) l[i] else gatherN okT l i := by rw [gatherN, List.getD_eq_getElem?_getD, List.getElem?_eq_getElem hlt, Option.getD_some]
      have hlen := gather_len okT l i
      generalize l[i] = c at *
      generalize gatherN okT l i = o at *
      have f0 := hG.cell e0
      have f1 := hG.cell e1
      have f2 := hG.cell e2
      have f3 := hG.cell e3
      have HC := Lib.hid (HRt.out c)
      have HO := Lib.hid hO
      have HG := Lib.hid hG
      clear e0 e1 e2 e3 HR HVL hO hG
      cases hq : okV c.key c.seq c.kind with
      | false =>
        rw [hq] at HC
        rw [if_neg (by unfold okT; rw [hq]; simp)] at hgt
        have HX := Lib.hid hgt
        clear hgt hq
        go_wp2_with (first
          | (go_at_call 17; go_must (refine (HC.out _).mono ?_); rintro e w2 ⟨rfl, g2⟩; have f3' := g2.cell f3)
          | fail)
        go_roundw
        case rel => exact ⟨i + 1, adO, capO, by go_num, hlt, hlt2, by rw [HX.out], by rw [HX.out]; exact HO.out.gr g2, HG.out.trans g2⟩
        case measure => simp [intOf]; omega
      | true =>
        rw [hq] at HC
        by_cases hvv : 1000 < c.val.length
        · rw [if_neg (by unfold okT; rw [hq]; simp; omega)] at hgt
          have HX := Lib.hid hgt
          clear hgt hq
          go_wp2_with (first
            | (go_at_call 17; go_must (refine (HC.out _).mono ?_); rintro e w2 ⟨rfl, g2⟩; have f3' := g2.cell f3)
            | fail)
          go_roundw
          case rel => exact ⟨i + 1, adO, capO, by go_num, hlt, hlt2, by rw [HX.out], by rw [HX.out]; exact HO.out.gr g2, HG.out.trans g2⟩
          case measure => simp [intOf]; omega
        · rw [if_pos (by unfold okT; rw [hq]; simp; omega)] at hgt
          have HX := Lib.hid hgt
          have hvv2 : c.val.length ≤ 1000 := by omega
          clear hgt hq hvv hv
          go_wp2_with (first
            | (go_at_call 17; go_must (refine (HC.out _).mono ?_); rintro e w2 ⟨rfl, g2⟩; have f3' := g2.cell f3)
            | fail)
          have HO2 := Lib.hid (HO.out.gr g2)
          have HG2 := Lib.hid (HG.out.trans g2)
          have k0 := g2.cell f0
          have k1 := g2.cell f1
          have k2 := g2.cell f2
          clear f0 f1 f2 f3 HO HG HC g2
          have HOr := Lib.hid HO2.out.row.ci
          go_loopw [5] (fun va wa => ∃ a : Nat, a ≤ o.length ∧ va = .int .i64 (a : Int) ∧ Gr w2 wa ∧ rankI c.vr o = a + rankI c.vr (o.drop a)) (fun va _ => o.length - (intOf va).toNat)
          case atStart => exact ⟨0, Nat.zero_le _, rfl, Gr.refl _, by simp⟩
          case round =>
            obtain ⟨a, ha, rfl, hga, hp⟩ := hrel
            have HP := Lib.hid hp
            clear hp
            have j0 := hga.cell k0
            have j1 := hga.cell k1
            have j2 := hga.cell k2
            have j3 := hga.cell f3'
            have HOw := Lib.hid (HO2.out.gr hga)
            have HGw := Lib.hid (HG2.out.trans hga)
            by_cases hao : a < o.length
            · obtain ⟨bo, offo, hadO, y0, y1, y2, _⟩ := HOr.out a hao
              subst hadO
              have z0 := hga.cell y0
              have z1 := hga.cell y1
              have z2 := hga.cell y2
              clear y0 y1 y2
              have HS := Lib.hid (fun h => rankI_step (v := c.vr) hao h)
              have HT := Lib.hid (fun h => rankI_stop (v := c.vr) hao h)
              have HAt := Lib.hid (fun h => add_at (c := c) hao h)
              generalize o[a] = x at *
              have HC := Lib.hid (HL.out x c)
              cases hb : vless x.vr c.vr with
              | true =>
                rw [hb] at HC
                clear HAt
                go_wp2
                refine region_any_gr _ [Is (.int .i64 (a : Int)), Is ?r1, Is (.int .i64 (o.length : Int)), Is (.bool true), Is (.bool true), Is ?r5, Is ?r6, Is (.pointer (some ⟨bo, offo + a * 4, none⟩)), Is ?r8, Is (.agg #[.string (str x.key), .int .i64 x.seq, .int .i64 x.kind]), Is ?r10, Is ?r11, Is (.pointer (some ⟨b, off + i * 4, none⟩)), Is ?r13, Is (.agg #[.string (str c.key), .int .i64 c.seq, .int .i64 c.kind]), Is (.bool true), Is (.bool true)] (by kernel_rfl) (by kernel_rfl) (by kernel_rfl) rfl rfl ⟨Is.stable _, Is.stable _, Is.stable _, Is.stable _, Is.stable _, Is.stable _, Is.stable _, Is.stable _, Is.stable _, Is.stable _, Is.stable _, Is.stable _, Is.stable _, Is.stable _, Is.stable _, Is.stable _, Is.stable _, trivial⟩ ⟨?s0, ?s1, ?s2, ?s3, ?s4, ?s5, ?s6, ?s7, ?s8, ?s9, ?s10, ?s11, ?s12, ?s13, ?s14, ?s15, ?s16, trivial⟩ ?fin
                case' s0 | s1 | s2 | s3 | s4 | s5 | s6 | s7 | s8 | s9 | s10 | s11 | s12 | s13 | s14 | s15 | s16 =>
                  intro ρ wr hρ hg hK
                  simp [readsOf, slotsOf, Op.operands, Call.operands, tmpOf, List.filterMap_cons, List.filterMap_nil, KnownAll, knownOf, srcOf, depsOf, dstOf, Region.binds, nth, Is] at hK
                  obtain ⟨hc, hf, hgl⟩ := hρ
                  try simp only [wantedBy, dstOf, boolOf, nth, List.getD_cons_zero, List.getD_cons_succ, List.getElem?_cons_zero, List.getElem?_cons_succ, Option.bind_some, if_true, hK, BEq.rfl]
                  try go_simp
                  first | exact rfl | (rw [if_pos (by omega)]; exact is_here rfl) | (rw [dif_pos (by omega)]; exact is_here rfl) | exact congrArg (Value.int _) (IntWalk.i64_in _ ⟨by omega, by omega⟩) | skip
                case s9 => have z0 := hg.cell z0; have z1 := hg.cell z1; have z2 := hg.cell z2; go_simp; exact rfl
                case s14 => have z0 := hg.cell j0; have z1 := hg.cell j1; have z2 := hg.cell j2; go_simp; exact rfl
                case s15 => exact any_gr (HC.out _)
                case fin =>
                  intro w1 val hg hH
                  simp only [Holds, Is, Nat.zero_add, Nat.reduceAdd] at hH
                  obtain ⟨h0, h1, h2, h3, h4, h5, h6, h7, h8, h9, h10, h11, h12, h13, h14, h15, h16, _⟩ := hH
                  simp only [List.take_succ_cons, List.take_zero, List.drop_succ_cons, List.drop_zero, putAll, h0, h1, h2, h3, h4, h5, h6, h7, h8, h9, h10, h11, h12, h13, h14, h15, h16, Nat.zero_add, Nat.reduceAdd]
                  go_simp
                  go_wp2
                  go_roundw
                  case rel => exact ⟨a + 1, hao, by go_num, hga.trans hg, by rw [HP.out, HS.out hb]; omega⟩
                  case measure => simp [intOf]; omega
              | false =>
                rw [hb] at HC
                have hra : rankI c.vr o = a := by rw [HP.out, HT.out hb]; rfl
                have hA := HAt.out hra
                clear HAt HS HT hra
                go_wp2
                refine region_any_gr _ [Is (.int .i64 (a : Int)), Is ?r1x1, Is (.int .i64 (o.length : Int)), Is (.bool true), Is (.bool true), Is ?r5x1, Is ?r6x1, Is (.pointer (some ⟨bo, offo + a * 4, none⟩)), Is ?r8x1, Is (.agg #[.string (str x.key), .int .i64 x.seq, .int .i64 x.kind]), Is ?r10x1, Is ?r11x1, Is (.pointer (some ⟨b, off + i * 4, none⟩)), Is ?r13x1, Is (.agg #[.string (str c.key), .int .i64 c.seq, .int .i64 c.kind]), Is (.bool false), Is (.bool false)] (by kernel_rfl) (by kernel_rfl) (by kernel_rfl) rfl rfl ⟨Is.stable _, Is.stable _, Is.stable _, Is.stable _, Is.stable _, Is.stable _, Is.stable _, Is.stable _, Is.stable _, Is.stable _, Is.stable _, Is.stable _, Is.stable _, Is.stable _, Is.stable _, Is.stable _, Is.stable _, trivial⟩ ⟨?s0x1, ?s1x1, ?s2x1, ?s3x1, ?s4x1, ?s5x1, ?s6x1, ?s7x1, ?s8x1, ?s9x1, ?s10x1, ?s11x1, ?s12x1, ?s13x1, ?s14x1, ?s15x1, ?s16x1, trivial⟩ ?finx1
                case' s0x1 | s1x1 | s2x1 | s3x1 | s4x1 | s5x1 | s6x1 | s7x1 | s8x1 | s9x1 | s10x1 | s11x1 | s12x1 | s13x1 | s14x1 | s15x1 | s16x1 =>
                  intro ρ wr hρ hg hK
                  simp [readsOf, slotsOf, Op.operands, Call.operands, tmpOf, List.filterMap_cons, List.filterMap_nil, KnownAll, knownOf, srcOf, depsOf, dstOf, Region.binds, nth, Is] at hK
                  obtain ⟨hc, hf, hgl⟩ := hρ
                  try simp only [wantedBy, dstOf, boolOf, nth, List.getD_cons_zero, List.getD_cons_succ, List.getElem?_cons_zero, List.getElem?_cons_succ, Option.bind_some, if_true, hK, BEq.rfl]
                  try go_simp
                  first | exact rfl | (rw [if_pos (by omega)]; exact is_here rfl) | (rw [dif_pos (by omega)]; exact is_here rfl) | exact congrArg (Value.int _) (IntWalk.i64_in _ ⟨by omega, by omega⟩) | skip
                case s9x1 => have z0 := hg.cell z0; have z1 := hg.cell z1; have z2 := hg.cell z2; go_simp; exact rfl
                case s14x1 => have z0 := hg.cell j0; have z1 := hg.cell j1; have z2 := hg.cell j2; go_simp; exact rfl
                case s15x1 => exact any_gr (HC.out _)
                case finx1 =>
                  intro w1 val hg hH
                  simp only [Holds, Is, Nat.zero_add, Nat.reduceAdd] at hH
                  obtain ⟨h0, h1, h2, h3, h4, h5, h6, h7, h8, h9, h10, h11, h12, h13, h14, h15, h16, _⟩ := hH
                  simp only [List.take_succ_cons, List.take_zero, List.drop_succ_cons, List.drop_zero, putAll, h0, h1, h2, h3, h4, h5, h6, h7, h8, h9, h10, h11, h12, h13, h14, h15, h16, Nat.zero_add, Nat.reduceAdd]
                  have HO1 := Lib.hid (HOw.out.gr hg)
                  have HG1 := Lib.hid (HGw.out.trans hg)
                  have z0 := hg.cell z0
                  have z1 := hg.cell z1
                  have z2 := hg.cell z2
                  have j0 := hg.cell j0
                  have j1 := hg.cell j1
                  have j2 := hg.cell j2
                  have j3 := hg.cell j3
                  clear hg HOw HGw HC hga
                  go_simp
                  go_wp2
                  generalize w1 = W0 at *
                  have hab : ((a : Int) == (o.length : Int)) = false := by rw [beq_eq_false_iff_ne]; omega
                  by_cases hxe : x.vr = c.vr
                  · rw [if_pos hxe] at hA
                    have HA := Lib.hid hA
                    obtain ⟨xk, xs, xd, xv⟩ := x
                    simp only [Ci.vr, Vr.mk.injEq] at hxe
                    obtain ⟨q1, q2, q3⟩ := hxe
                    simp only at z0 z1 z2
                    rw [q1] at z0
                    rw [q2] at z1
                    rw [q3] at z2
                    clear q1 q2 q3 hA hb
                    go_quiet (fail)
                    go_wp2
                    go_roundw
                    case rel => exact ⟨i + 1, _, capO, by go_num, hlt, hlt2, by rw [HX.out, HA.out], by rw [HX.out, HA.out]; exact HO1.out.gr (Gr.drewN _ _), HG1.out.trans (Gr.drewN _ _)⟩
                    case measure => simp [intOf]; omega
                  · rw [if_neg hxe] at hA
                    have HA := Lib.hid hA
                    obtain ⟨xk, xs, xd, xv⟩ := x
                    simp only at z0 z1 z2
                    have HQ := Lib.hid (show xk = c.key → xs = c.seq → xd = c.kind → False from fun q1 q2 q3 => hxe (by simp [Ci.vr, q1, q2, q3]))
                    clear hxe hA hb
                    refine region_any_gr _ [Is (.int .i64 (a : Int)), Is ?r1x2, Is (.int .i64 (o.length : Int)), Is (.bool false), Is (.bool false), Is ?r5x2, Is ?r6x2, Is (.pointer (some ⟨bo, offo + a * 4, none⟩)), Is ?r8x2, Is (.agg #[.string (str xk), .int .i64 xs, .int .i64 xd]), Is ?r10x2, Is ?r11x2, Is (.pointer (some ⟨b, off + i * 4, none⟩)), Is ?r13x2, Is (.agg #[.string (str c.key), .int .i64 c.seq, .int .i64 c.kind]), Is (.bool true), Is (.bool true)] (by kernel_rfl) (by kernel_rfl) (by kernel_rfl) rfl rfl ⟨Is.stable _, Is.stable _, Is.stable _, Is.stable _, Is.stable _, Is.stable _, Is.stable _, Is.stable _, Is.stable _, Is.stable _, Is.stable _, Is.stable _, Is.stable _, Is.stable _, Is.stable _, Is.stable _, Is.stable _, trivial⟩ ⟨?s0x2, ?s1x2, ?s2x2, ?s3x2, ?s4x2, ?s5x2, ?s6x2, ?s7x2, ?s8x2, ?s9x2, ?s10x2, ?s11x2, ?s12x2, ?s13x2, ?s14x2, ?s15x2, ?s16x2, trivial⟩ ?finx2
                    case' s0x2 | s1x2 | s2x2 | s3x2 | s4x2 | s5x2 | s6x2 | s7x2 | s8x2 | s9x2 | s10x2 | s11x2 | s12x2 | s13x2 | s14x2 | s15x2 | s16x2 =>
                      intro ρ wr hρ hg hK
                      simp [readsOf, slotsOf, Op.operands, Call.operands, tmpOf, List.filterMap_cons, List.filterMap_nil, KnownAll, knownOf, srcOf, depsOf, dstOf, Region.binds, nth, Is] at hK
                      obtain ⟨hc, hf, hgl⟩ := hρ
                      try simp only [wantedBy, dstOf, boolOf, nth, List.getD_cons_zero, List.getD_cons_succ, List.getElem?_cons_zero, List.getElem?_cons_succ, Option.bind_some, if_true, hK, BEq.rfl]
                      try go_simp
                      first | exact rfl | (rw [if_pos (by omega)]; exact is_here rfl) | (rw [dif_pos (by omega)]; exact is_here rfl) | exact congrArg (Value.int _) (IntWalk.i64_in _ ⟨by omega, by omega⟩) | skip
                    case s9x2 => have z0 := hg.cell z0; have z1 := hg.cell z1; have z2 := hg.cell z2; go_simp; exact rfl
                    case s14x2 => have z0 := hg.cell j0; have z1 := hg.cell j1; have z2 := hg.cell j2; go_simp; exact rfl
                    case s15x2 =>
                      split
                      · rename_i q1
                        split
                        · rename_i q2
                          split
                          · rename_i q3
                            exact (HQ.out q1 q2 q3).elim
                          · exact is_here rfl
                        · exact is_here rfl
                      · exact is_here rfl
                    case finx2 =>
                      intro w1 val hg hH
                      simp only [Holds, Is, Nat.zero_add, Nat.reduceAdd] at hH
                      obtain ⟨h0, h1, h2, h3, h4, h5, h6, h7, h8, h9, h10, h11, h12, h13, h14, h15, h16, _⟩ := hH
                      simp only [List.take_succ_cons, List.take_zero, List.drop_succ_cons, List.drop_zero, putAll, h0, h1, h2, h3, h4, h5, h6, h7, h8, h9, h10, h11, h12, h13, h14, h15, h16, Nat.zero_add, Nat.reduceAdd]
                      have HPl := Lib.hid (fun w' (g : Gr W0 w') => Place_any _ capO o c w' (HO1.out.gr g).row HO1.out.2.1 (HO1.out.gr g).had (by omega))
                      unfold c4 at HPl
                      have j0' := hg.cell j0
                      have j1' := hg.cell j1
                      have j2' := hg.cell j2
                      have j3' := hg.cell j3
                      go_simp
                      go_wp2_with (first
                        | (go_at_call 19; go_must (refine (HPl.out _ hg).mono ?_); rintro e w5 ⟨ad5, cap5, rfl, o5, g5⟩)
                        | fail)
                      go_roundw
                      case rel => exact ⟨i + 1, ad5, cap5, by go_num, hlt, hlt2, by rw [HX.out, HA.out], by rw [HX.out, HA.out]; exact o5.base (HG1.out.trans hg).size, (HG1.out.trans hg).trans g5⟩
                      case measure => simp [intOf]; omega
            · have hra : rankI c.vr o = o.length := by rw [HP.out, rankI_end (by omega)]; omega
              have HA := Lib.hid (add_end hra)
              obtain rfl : a = o.length := by omega
              clear hra
              go_wp2
              refine region_any_gr _ [Is (.int .i64 (o.length : Int)), Is ?r1x3, Is (.int .i64 (o.length : Int)), Is (.bool false), Is (.bool false), Is (undef), Is (undef), Is (undef), Is (undef), Is (undef), Is (undef), Is (undef), Is (undef), Is (undef), Is (undef), Is (undef), Is (.bool false)] (by kernel_rfl) (by kernel_rfl) (by kernel_rfl) rfl rfl ⟨Is.stable _, Is.stable _, Is.stable _, Is.stable _, Is.stable _, Is.stable _, Is.stable _, Is.stable _, Is.stable _, Is.stable _, Is.stable _, Is.stable _, Is.stable _, Is.stable _, Is.stable _, Is.stable _, Is.stable _, trivial⟩ ⟨?s0x3, ?s1x3, ?s2x3, ?s3x3, ?s4x3, ?s5x3, ?s6x3, ?s7x3, ?s8x3, ?s9x3, ?s10x3, ?s11x3, ?s12x3, ?s13x3, ?s14x3, ?s15x3, ?s16x3, trivial⟩ ?finx3
              case' s0x3 | s1x3 | s2x3 | s3x3 | s4x3 | s5x3 | s6x3 | s7x3 | s8x3 | s9x3 | s10x3 | s11x3 | s12x3 | s13x3 | s14x3 | s15x3 | s16x3 =>
                intro ρ wr hρ hg hK
                simp [readsOf, slotsOf, Op.operands, Call.operands, tmpOf, List.filterMap_cons, List.filterMap_nil, KnownAll, knownOf, srcOf, depsOf, dstOf, Region.binds, nth, Is] at hK
                obtain ⟨hc, hf, hgl⟩ := hρ
                try simp only [wantedBy, dstOf, boolOf, nth, List.getD_cons_zero, List.getD_cons_succ, List.getElem?_cons_zero, List.getElem?_cons_succ, Option.bind_some, if_true, hK, BEq.rfl]
                try go_simp
                first | exact rfl | (rw [if_pos (by omega)]; exact is_here rfl) | (rw [dif_pos (by omega)]; exact is_here rfl) | exact congrArg (Value.int _) (IntWalk.i64_in _ ⟨by omega, by omega⟩) | skip
              case finx3 =>
                intro w1 val hg hH
                simp only [Holds, Is, Nat.zero_add, Nat.reduceAdd] at hH
                obtain ⟨h0, h1, h2, h3, h4, h5, h6, h7, h8, h9, h10, h11, h12, h13, h14, h15, h16, _⟩ := hH
                simp only [List.take_succ_cons, List.take_zero, List.drop_succ_cons, List.drop_zero, putAll, h0, h1, h2, h3, h4, h5, h6, h7, h8, h9, h10, h11, h12, h13, h14, h15, h16, Nat.zero_add, Nat.reduceAdd]
                have HO1 := Lib.hid (HOw.out.gr hg)
                have HG1 := Lib.hid (HGw.out.trans hg)
                have j0 := hg.cell j0
                have j1 := hg.cell j1
                have j2 := hg.cell j2
                have j3 := hg.cell j3
                clear hg HOw HGw hga
                go_simp
                go_wp2
                generalize w1 = W0 at *
                refine region_any_gr _ [Is (.int .i64 (o.length : Int)), Is ?r1x4, Is (.int .i64 (o.length : Int)), Is (.bool true), Is (.bool true), Is (undef), Is (undef), Is (undef), Is (undef), Is (undef), Is (undef), Is (undef), Is (undef), Is (undef), Is (undef), Is (undef), Is (.bool true)] (by kernel_rfl) (by kernel_rfl) (by kernel_rfl) rfl rfl ⟨Is.stable _, Is.stable _, Is.stable _, Is.stable _, Is.stable _, Is.stable _, Is.stable _, Is.stable _, Is.stable _, Is.stable _, Is.stable _, Is.stable _, Is.stable _, Is.stable _, Is.stable _, Is.stable _, Is.stable _, trivial⟩ ⟨?s0x4, ?s1x4, ?s2x4, ?s3x4, ?s4x4, ?s5x4, ?s6x4, ?s7x4, ?s8x4, ?s9x4, ?s10x4, ?s11x4, ?s12x4, ?s13x4, ?s14x4, ?s15x4, ?s16x4, trivial⟩ ?finx4
                case' s0x4 | s1x4 | s2x4 | s3x4 | s4x4 | s5x4 | s6x4 | s7x4 | s8x4 | s9x4 | s10x4 | s11x4 | s12x4 | s13x4 | s14x4 | s15x4 | s16x4 =>
                  intro ρ wr hρ hg hK
                  simp [readsOf, slotsOf, Op.operands, Call.operands, tmpOf, List.filterMap_cons, List.filterMap_nil, KnownAll, knownOf, srcOf, depsOf, dstOf, Region.binds, nth, Is] at hK
                  obtain ⟨hc, hf, hgl⟩ := hρ
                  try simp only [wantedBy, dstOf, boolOf, nth, List.getD_cons_zero, List.getD_cons_succ, List.getElem?_cons_zero, List.getElem?_cons_succ, Option.bind_some, if_true, hK, BEq.rfl]
                  try go_simp
                  first | exact rfl | (rw [if_pos (by omega)]; exact is_here rfl) | (rw [dif_pos (by omega)]; exact is_here rfl) | exact congrArg (Value.int _) (IntWalk.i64_in _ ⟨by omega, by omega⟩) | skip
                case finx4 =>
                  intro w1 val hg hH
                  simp only [Holds, Is, Nat.zero_add, Nat.reduceAdd] at hH
                  obtain ⟨h0, h1, h2, h3, h4, h5, h6, h7, h8, h9, h10, h11, h12, h13, h14, h15, h16, _⟩ := hH
                  simp only [List.take_succ_cons, List.take_zero, List.drop_succ_cons, List.drop_zero, putAll, h0, h1, h2, h3, h4, h5, h6, h7, h8, h9, h10, h11, h12, h13, h14, h15, h16, Nat.zero_add, Nat.reduceAdd]
                  have HPl := Lib.hid (fun w' (g : Gr W0 w') => Place_any _ capO o c w' (HO1.out.gr g).row HO1.out.2.1 (HO1.out.gr g).had (by omega))
                  unfold c4 at HPl
                  have j0' := hg.cell j0
                  have j1' := hg.cell j1
                  have j2' := hg.cell j2
                  have j3' := hg.cell j3
                  go_simp
                  go_wp2_with (first
                    | (go_at_call 19; go_must (refine (HPl.out _ hg).mono ?_); rintro e w5 ⟨ad5, cap5, rfl, o5, g5⟩)
                    | fail)
                  go_roundw
                  case rel => exact ⟨i + 1, ad5, cap5, by go_num, hlt, hlt2, by rw [HX.out, HA.out], by rw [HX.out, HA.out]; exact o5.base (HG1.out.trans hg).size, (HG1.out.trans hg).trans g5⟩
                  case measure => simp [intOf]; omega
    · have hx : l.length ≤ i ∨ (i < l.length ∧ 50 ≤ i) := by omega
      have he : gatherN okT l (min l.length 50) = gatherN okT l i := by
        congr 1; omega
      have HE := Lib.hid he
      have HO := Lib.hid hO
      have HG := Lib.hid hG
      clear he hO hG HR HVL
      rcases hx with hx | ⟨hx, hx2⟩
      all_goals
        go_wp2
        go_ret
        exact ⟨adO, capO, by rw [HE.out]; rfl, by rw [HE.out]; exact HO.out, HG.out⟩
end Go.Proofs.Ytpaogoehgkoaeaa
/- Layer 11 (skip): a list's nodes in a pool; what a new node and a new link change. No program is in sight here. -/
namespace Go.Proofs.Ytpaogoehgkoaeaa
set_option linter.unusedVariables false
set_option linter.unusedSimpArgs false
open Go.RowKit Ikey Varint
/-- a node's piece -/
def nh (r gen : Nat) (x : Nd) : Hd := ⟨(r : Int), (gen : Int), (x.off : Int), (x.size : Int)⟩
structure NdOk (x : Nd) : Prop where
  t1 : 1 ≤ x.t
  t2 : x.t ≤ 12
  ht : x.h ≤ x.t
  ok : okV x.c.key x.c.seq x.c.kind = true
  vl : x.c.val.length ≤ 1000
  sz : x.size = 5 + 8 * x.t + (x.c.key.length + 8 + x.c.val.length)
def Apt (a b : Nd) : Prop := a.off + a.size ≤ b.off ∨ b.off + b.size ≤ a.off
def Asc (a b : Nd) : Prop := vless a.c.vr b.c.vr = true
/-- the nodes of a list, in a pool -/
structure SkSt (p : PoolF) (r gen : Nat) (hd : Nat → Nat × Nat) (N : List Nd) : Prop where
  hr : r < 256
  there : (landAt p r).there = true
  sz : 2048 ≤ p.size
  heads : ∀ k, k < 12 → hd k = linkF (firstN k N)
  node : ∀ x ∈ N, NdOk x ∧ Pc p (nh r gen x) r x.off x.size
  ld : ∀ a x b, N = a ++ x :: b → loadF p (nh r gen x) = (nodeB x.t (fun k => linkF (firstN k b)) x.c, 0)
  sorted : N.Pairwise Asc
  apart : N.Pairwise Apt
/-- what a list's call leaves of a pool for others -/
structure Kp (r : Nat) (p p' : PoolF) : Prop where
  size : p'.size = p.size
  len : p'.bytes.length = p.bytes.length
  land : ∀ j, j ≠ r → landAt p' j = landAt p j
  there : (landAt p' r).there = (landAt p r).there
  gen : (landAt p' r).gen = (landAt p r).gen
  pcs : ∀ y j o l, j ≠ r → Pc p y j o l → Pc p' y j o l ∧ loadF p' y = loadF p y
theorem Kp.refl (r : Nat) (p : PoolF) : Kp r p p := ⟨rfl, rfl, fun _ _ => rfl, rfl, rfl, fun _ _ _ _ _ h => ⟨h, rfl⟩⟩
theorem Kp.trans {r : Nat} {p q s : PoolF} (h : Kp r p q) (k : Kp r q s) : Kp r p s :=
  ⟨k.size.trans h.size, k.len.trans h.len, fun j hj => (k.land j hj).trans (h.land j hj), k.there.trans h.there, k.gen.trans h.gen, fun y j o l hj hy => by
    obtain ⟨h1, h2⟩ := h.pcs y j o l hj hy
    obtain ⟨k1, k2⟩ := k.pcs y j o l hj h1
    exact ⟨k1, k2.trans h2⟩⟩
theorem split3 {α : Type} : ∀ {A B a b : List α} {x y : α}, A ++ x :: B = a ++ y :: b → (∃ c, A = a ++ y :: c ∧ b = c ++ x :: B) ∨ (A = a ∧ x = y ∧ B = b) ∨ (∃ c, B = c ++ y :: b ∧ a = A ++ x :: c)
  | [], B, [], b, x, y, h => by
    rw [List.nil_append, List.nil_append] at h
    exact .inr (.inl ⟨rfl, (List.cons.inj h).1, (List.cons.inj h).2⟩)
  | [], B, z :: a, b, x, y, h => by
    rw [List.nil_append, List.cons_append] at h
    obtain ⟨rfl, h2⟩ := List.cons.inj h
    exact .inr (.inr ⟨a, h2, rfl⟩)
  | z :: A, B, [], b, x, y, h => by
    rw [List.nil_append, List.cons_append] at h
    obtain ⟨rfl, h2⟩ := List.cons.inj h
    exact .inl ⟨A, rfl, h2.symm⟩
  | z :: A, B, v :: a, b, x, y, h => by
    rw [List.cons_append, List.cons_append] at h
    obtain ⟨rfl, h2⟩ := List.cons.inj h
    rcases split3 h2 with ⟨c, h3, h4⟩ | ⟨h3, h4, h5⟩ | ⟨c, h3, h4⟩
    · exact .inl ⟨c, by rw [h3]; rfl, h4⟩
    · exact .inr (.inl ⟨by rw [h3], h4, h5⟩)
    · exact .inr (.inr ⟨c, h3, by rw [h4]; rfl⟩)
theorem pair_mid {α : Type} {R : α → α → Prop} {A B : List α} {x : α} (h : (A ++ B).Pairwise R) (h1 : ∀ a ∈ A, R a x) (h2 : ∀ b ∈ B, R x b) : (A ++ x :: B).Pairwise R := by
  rw [List.pairwise_append] at h ⊢
  obtain ⟨a1, a2, a3⟩ := h
  refine ⟨a1, List.pairwise_cons.2 ⟨h2, a2⟩, fun a ha b hb => ?_⟩
  rcases List.mem_cons.1 hb with rfl | hb
  · exact h1 a ha
  · exact a3 a ha b hb
theorem pair_at {α : Type} {R : α → α → Prop} {A B : List α} {x : α} (h : (A ++ x :: B).Pairwise R) : (∀ a ∈ A, R a x) ∧ ∀ b ∈ B, R x b := by
  rw [List.pairwise_append, List.pairwise_cons] at h
  exact ⟨fun a ha => h.2.2 a ha x List.mem_cons_self, h.2.1.1⟩
theorem pair_out {α : Type} {R : α → α → Prop} {A B : List α} {x : α} (h : (A ++ x :: B).Pairwise R) : (A ++ B).Pairwise R := by
  rw [List.pairwise_append, List.pairwise_cons] at h
  rw [List.pairwise_append]
  exact ⟨h.1, h.2.1.2, fun a ha b hb => h.2.2 a ha b (List.mem_cons_of_mem _ hb)⟩
/-- a node that is seen by one level more -/
def Nd.up (x : Nd) : Nd := { x with h := x.h + 1 }
theorem put_link (k : Nat) (c B : List Nd) (x : Nd) : linkF (firstN k (c ++ x.up :: B)) = if k = x.h ∧ ∀ n ∈ c, n.h ≤ k then (x.off, x.size) else linkF (firstN k (c ++ x :: B)) := by
  have hu : x.up.h = x.h + 1 := rfl
  rw [firstN_put, firstN_put, hu]
  by_cases hn : (firstN k c).isNone = true
  · have hn' : firstN k c = none := by simpa using hn
    have hall := firstN_none.1 hn'
    by_cases hk : k = x.h
    · have e1 : (firstN k c).isNone = true ∧ k < x.h + 1 := ⟨hn, by omega⟩
      have e2 : k = x.h ∧ ∀ n ∈ c, n.h ≤ k := ⟨hk, hall⟩
      rw [if_pos e1, if_pos e2]
      rfl
    · have e2 : ¬ (k = x.h ∧ ∀ n ∈ c, n.h ≤ k) := fun e => hk e.1
      rw [if_neg e2]
      by_cases hlt : k < x.h
      · have e1 : (firstN k c).isNone = true ∧ k < x.h + 1 := ⟨hn, by omega⟩
        have e3 : (firstN k c).isNone = true ∧ k < x.h := ⟨hn, hlt⟩
        rw [if_pos e1, if_pos e3]
        rfl
      · have e1 : ¬ ((firstN k c).isNone = true ∧ k < x.h + 1) := fun e => by have := e.2; omega
        have e3 : ¬ ((firstN k c).isNone = true ∧ k < x.h) := fun e => hlt e.2
        rw [if_neg e1, if_neg e3]
  · have e2 : ¬ (k = x.h ∧ ∀ n ∈ c, n.h ≤ k) := fun e => hn (by rw [firstN_none.2 e.2]; rfl)
    have e1 : ¬ ((firstN k c).isNone = true ∧ k < x.h + 1) := fun e => hn e.1
    have e3 : ¬ ((firstN k c).isNone = true ∧ k < x.h) := fun e => hn e.1
    rw [if_neg e1, if_neg e2, if_neg e3]
theorem hide_link (k : Nat) (c B : List Nd) (x : Nd) (h : x.h = 0) : firstN k (c ++ x :: B) = firstN k (c ++ B) := by
  rw [firstN_put, if_neg (fun ⟨_, e⟩ => by omega)]
/-- what Alloc leaves -/
theorem alloc_land {p p' : PoolF} (hp : PoolOk p) {r : Nat} {n a : Int} {y : Hd} {e : Nat} (he : allocF p (r : Int) n a = (y, e, p')) : ∀ j, j ≠ r → landAt p' j = landAt p j := by
  intro j hj
  unfold allocF at he
  cases hl : landF p (r : Int) with
  | none =>
    rw [hl] at he
    simp only [Prod.mk.injEq] at he
    rw [← he.2.2]
  | some i =>
    obtain ⟨e0, hi, hth⟩ := landF_some hl
    have hir : r = i := by omega
    subst hir
    rw [hl] at he
    simp only at he
    split at he
    · simp only [Prod.mk.injEq] at he; rw [← he.2.2]
    · split at he
      · split at he
        · simp only [Prod.mk.injEq] at he; rw [← he.2.2]
        · rename_i s _
          simp only [Prod.mk.injEq] at he
          rw [← he.2.2, landAt_fill (grow_lands hp r s) hi, if_neg (fun x => hj x.symm), landAt_grow hp hi, if_neg (fun x => hj x.symm)]
      · simp only [Prod.mk.injEq] at he
        rw [← he.2.2, landAt_fill hp.ln hi, if_neg (fun x => hj x.symm)]
theorem filter_set_le : ∀ (l : List Bool) (s : Nat), (l.filter (!·)).length ≤ ((l.set s true).filter (!·)).length + 1
  | [], s => by simp
  | b :: l, 0 => by cases b <;> simp
  | b :: l, s + 1 => by
    have := filter_set_le l s
    cases b <;> simp [List.set_cons_succ] <;> omega
theorem alloc_count {p p' : PoolF} {r n a : Int} {y : Hd} {e : Nat} (he : allocF p r n a = (y, e, p')) : countF p ≤ countF p' + 1 := by
  unfold allocF at he
  split at he
  · simp only [Prod.mk.injEq] at he; rw [← he.2.2]; omega
  · simp only at he
    split at he
    · simp only [Prod.mk.injEq] at he; rw [← he.2.2]; omega
    · split at he
      · split at he
        · simp only [Prod.mk.injEq] at he; rw [← he.2.2]; omega
        · simp only [Prod.mk.injEq] at he
          rw [← he.2.2]
          exact filter_set_le _ _
      · simp only [Prod.mk.injEq] at he; rw [← he.2.2]; exact Nat.le_succ _
theorem idle_count {p : PoolF} (h : idleF p = none) : countF p = 0 := by
  have h1 := idleF_none h
  unfold countF
  rw [List.filter_eq_nil_iff.2]
  · rfl
  · intro b hb
    obtain ⟨j, hj, e⟩ := List.getElem_of_mem hb
    have := h1 j hj
    rw [List.getD_eq_getElem?_getD, List.getElem?_eq_getElem hj] at this
    simp only [Option.getD_some] at this
    rw [← e, this]
    decide
theorem nd_size {x : Nd} (h : NdOk x) : 14 ≤ x.size ∧ x.size ≤ 1173 ∧ 1 ≤ x.c.key.length ∧ x.c.key.length ≤ 64 := by
  have h1 := h.t1
  have h2 := h.t2
  have h3 := h.vl
  have h4 := h.sz
  obtain ⟨k1, k2, _⟩ := okV_of h.ok
  have : 1 ≤ x.c.key.length := by
    cases hk : x.c.key with
    | nil => exact absurd hk k1
    | cons a l => simp
  omega
section
variable {p : PoolF} {r gen : Nat} {hd : Nat → Nat × Nat} {N A B : List Nd}
theorem SkSt.gen_at (h : SkSt p r gen hd N) {x : Nd} (hx : x ∈ N) : gen = (landAt p r).gen := by
  have := (h.node x hx).2.gen
  simp only [nh] at this
  omega
theorem SkSt.off_lt (hp : PoolOk p) (h : SkSt p r gen hd N) {x : Nd} (hx : x ∈ N) : x.off + x.size ≤ 268435456 := by
  have h1 := (h.node x hx).2.fit
  have h2 := (hp.ld r h.hr).fill_le
  have h3 := (hp.ld r h.hr).cap hp
  omega
/-- others' calls -/
theorem SkSt.kept {r' : Nat} {p' : PoolF} (h : SkSt p r gen hd N) (k : Kp r' p p') (hne : r ≠ r') : SkSt p' r gen hd N := by
  refine ⟨h.hr, by rw [k.land r hne]; exact h.there, by rw [k.size]; exact h.sz, h.heads, fun x hx => ⟨(h.node x hx).1, (k.pcs _ _ _ _ hne (h.node x hx).2).1⟩, fun a x b e => ?_, h.sorted, h.apart⟩
  rw [(k.pcs _ _ _ _ hne (h.node x (by rw [e]; simp)).2).2]
  exact h.ld a x b e
/-- a new node, which no level sees -/
theorem SkSt.alloc (hp : PoolOk p) (h : SkSt p r gen hd (A ++ B)) (hi : 1 ≤ countF p) {t : Nat} {c : Ce} (t1 : 1 ≤ t) (t2 : t ≤ 12) (hok : okV c.key c.seq c.kind = true) (hv : c.val.length ≤ 1000)
    (hA : ∀ x ∈ A, vless x.c.vr c.vr = true) (hB : ∀ x ∈ B, vless c.vr x.c.vr = true) :
    ∃ (o : Nat) (p1 p2 : PoolF), allocF p (r : Int) ((nodeB t (fun k => linkF (firstN k B)) c).length : Nat) 8 = (nh r (landAt p r).gen ⟨o, (nodeB t (fun k => linkF (firstN k B)) c).length, 0, t, c⟩, 0, p1) ∧
      storeF p1 (nh r (landAt p r).gen ⟨o, (nodeB t (fun k => linkF (firstN k B)) c).length, 0, t, c⟩) 0 (nodeB t (fun k => linkF (firstN k B)) c) = (0, p2) ∧
      SkSt p2 r (landAt p r).gen hd (A ++ ⟨o, (nodeB t (fun k => linkF (firstN k B)) c).length, 0, t, c⟩ :: B) ∧ Kp r p p2 ∧ countF p ≤ countF p2 + 1 := by
  obtain ⟨n, hn⟩ : ∃ n, n = (nodeB t (fun k => linkF (firstN k B)) c).length := ⟨_, rfl⟩
  have hnl := nodeB_len t (fun k => linkF (firstN k B)) c
  rw [← hn] at hnl ⊢
  have hxok : ∀ o, NdOk ⟨o, n, 0, t, c⟩ := fun o => ⟨t1, t2, Nat.zero_le _, hok, hv, hnl⟩
  obtain ⟨s1, s2, s3, s4⟩ := nd_size (hxok 0)
  simp only at s1 s2 s3 s4
  have hl : landF p (r : Int) = some r := landF_of h.hr h.there
  have hsz := h.sz
  rcases alloc_cases (n := (n : Int)) (a := 8) hl (by omega) (by omega) (by decide) with ⟨y, p1, he⟩ | ⟨_, he⟩
  case inr => rw [idle_count he] at hi; omega
  have hp1 : PoolOk p1 := by have := alloc_ok hp (r : Int) n 8; rw [he] at this; exact this
  obtain ⟨i, o, hi2, hpc, _, hfo, hsz1, hbl1, hgr, hold, hfl, _⟩ := alloc_pcs hp he
  rw [hl] at hi2
  obtain rfl : r = i := Option.some.inj hi2
  rw [Int.toNat_natCast] at hpc hfl
  have hg1 : (landAt p1 r).gen = (landAt p r).gen := (hgr r h.hr).gen
  have hy : y = nh r (landAt p r).gen ⟨o, n, 0, t, c⟩ := by
    have e1 := hpc.reg; have e2 := hpc.gen; have e3 := hpc.off; have e4 := hpc.len
    rw [hg1] at e2
    obtain ⟨a1, a2, a3, a4⟩ := y
    simp only at e1 e2 e3 e4
    subst e1 e2 e3 e4
    rfl
  rw [hy] at he hpc
  obtain ⟨p2, hs, hsz2, hbl2, htk2, hln2, hld2, hk2⟩ := store_pcs hp1 hpc 0 (nodeB t (fun k => linkF (firstN k B)) c) (by rw [← hn]; omega)
  have hA2 : ∀ j, landAt p2 j = landAt p1 j := fun j => by unfold landAt; rw [hln2]
  have hload : loadF p2 (nh r (landAt p r).gen ⟨o, n, 0, t, c⟩) = (nodeB t (fun k => linkF (firstN k B)) c, 0) := by
    rw [hld2, List.take_zero, List.nil_append, Nat.zero_add, List.drop_eq_nil_of_le (by rw [hpc.load_len hp1]; omega), List.append_nil]
  have hgn : ∀ x ∈ A ++ B, nh r gen x = nh r (landAt p r).gen x := fun x hx => by rw [← h.gen_at hx]
  have hkeep : ∀ x ∈ A ++ B, Pc p2 (nh r (landAt p r).gen x) r x.off x.size ∧ loadF p2 (nh r (landAt p r).gen x) = loadF p (nh r gen x) ∧ x.off + x.size ≤ o := fun x hx => by
    have hx1 := (h.node x hx).2
    have hf := hx1.fit
    obtain ⟨q1, q2⟩ := hold _ _ _ _ hx1
    obtain ⟨q3, q4⟩ := hk2 _ _ _ _ q1
    rw [← hgn x hx]
    exact ⟨q3, by rw [q4 (.inr (.inr (by omega))), q2], by omega⟩
  have hland := alloc_land hp he
  refine ⟨o, p1, p2, he, hs, ⟨h.hr, ?_, by rw [hsz2, hsz1]; exact hsz, fun k hk => ?_, fun x hx => ?_, fun a x b e => ?_, ?_, ?_⟩, ⟨by rw [hsz2, hsz1], by rw [hbl2, hbl1], fun j hj => by rw [hA2, hland j hj], by rw [hA2, (hgr r h.hr).there], by rw [hA2, hg1], fun z j o2 l hj hz => ?_⟩, ?_⟩
  · rw [hA2, (hgr r h.hr).there]; exact h.there
  · rw [hide_link _ _ _ _ rfl]; exact h.heads k hk
  · rw [List.mem_append, List.mem_cons] at hx
    rcases hx with hx | rfl | hx
    · exact ⟨(h.node x (List.mem_append_left _ hx)).1, (hkeep x (List.mem_append_left _ hx)).1⟩
    · exact ⟨hxok o, (hk2 _ _ _ _ hpc).1⟩
    · exact ⟨(h.node x (List.mem_append_right _ hx)).1, (hkeep x (List.mem_append_right _ hx)).1⟩
  · rcases split3 e with ⟨c', e1, e2⟩ | ⟨e1, e2, e3⟩ | ⟨c', e1, e2⟩
    · have hx : x ∈ A ++ B := by rw [e1]; simp
      rw [(hkeep x hx).2.1, h.ld a x (c' ++ B) (by rw [e1]; simp), e2]
      simp only [Prod.mk.injEq, and_true]
      exact nodeB_congr _ (fun k _ => by rw [hide_link _ _ _ _ rfl])
    · subst e1 e2 e3
      exact hload
    · have hx : x ∈ A ++ B := by rw [e1]; simp
      rw [(hkeep x hx).2.1, h.ld (A ++ c') x b (by rw [e1]; simp)]
  · exact pair_mid h.sorted hA hB
  · exact pair_mid h.apart (fun a ha => .inl (hkeep a (List.mem_append_left _ ha)).2.2) (fun b hb => .inr (hkeep b (List.mem_append_right _ hb)).2.2)
  · obtain ⟨q1, q2⟩ := hold _ _ _ _ hz
    obtain ⟨q3, q4⟩ := hk2 _ _ _ _ q1
    exact ⟨q3, by rw [q4 (.inl (fun e => hj e.symm)), q2]⟩
  · have h1 := alloc_count he
    have h2 : countF p2 = countF p1 := by unfold countF; rw [htk2]
    omega
theorem all_other {k : Nat} {c : List Nd} {x z : Nd} (hz : z.t ≤ x.h) (hk : k < z.t) : ¬ (k = x.h ∧ ∀ n ∈ c, n.h ≤ k) := fun ⟨e, _⟩ => by omega
/-- a link more: the list's own -/
theorem SkSt.put0 {x : Nd} (h : SkSt p r gen hd (A ++ x :: B)) (hx : x.h < x.t) (hA : ∀ y ∈ A, y.h = y.t) (hl : lastN x.h A = none) : SkSt p r gen (upd hd x.h (x.off, x.size)) (A ++ x.up :: B) := by
  have hall := lastN_none.1 hl
  refine ⟨h.hr, h.there, h.sz, fun k hk => ?_, fun z hz => ?_, fun a z b e => ?_, ?_, ?_⟩
  · rw [put_link]
    by_cases e : k = x.h
    · rw [if_pos ⟨e, fun n hn => by rw [e]; exact hall n hn⟩, e, upd_same]
    · rw [if_neg (fun hh => e hh.1), upd_other _ _ e]
      exact h.heads k hk
  · rw [List.mem_append, List.mem_cons] at hz
    rcases hz with hz | rfl | hz
    · exact h.node z (by simp [hz])
    · obtain ⟨q1, q2⟩ := h.node x (by simp)
      exact ⟨⟨q1.t1, q1.t2, hx, q1.ok, q1.vl, q1.sz⟩, q2⟩
    · exact h.node z (by simp [hz])
  · rcases split3 e with ⟨c', e1, e2⟩ | ⟨e1, e2, e3⟩ | ⟨c', e1, e2⟩
    · have hz : z ∈ A := by rw [e1]; simp
      rw [h.ld a z (c' ++ x :: B) (by rw [e1]; simp), e2]
      simp only [Prod.mk.injEq, and_true]
      refine nodeB_congr _ (fun k hk => ?_)
      rw [put_link, if_neg]
      exact all_other (by have := hA z hz; have := hall z hz; omega) hk
    · subst e1 e2 e3
      exact h.ld A x B rfl
    · exact h.ld (A ++ x :: c') z b (by rw [e1]; simp)
  · exact pair_mid (pair_out h.sorted) (pair_at h.sorted).1 (pair_at h.sorted).2
  · exact pair_mid (pair_out h.apart) (pair_at h.apart).1 (pair_at h.apart).2
/-- a link more: a node's -/
theorem SkSt.put1 (hp : PoolOk p) {x y : Nd} (h : SkSt p r gen hd (A ++ x :: B)) (hx : x.h < x.t) (hA : ∀ y ∈ A, y.h = y.t) (hl : lastN x.h A = some y) :
    ∃ p', storeF p (nh r gen y) ((5 + 8 * x.h : Nat) : Int) (ptrB (x.off, x.size)) = (0, p') ∧ SkSt p' r gen hd (A ++ x.up :: B) ∧ Kp r p p' ∧ countF p' = countF p := by
  obtain ⟨a0, c0, eA, hyh, hc0⟩ := lastN_some hl
  have hyA : y ∈ A := by rw [eA]; simp
  have hyN : y ∈ A ++ x :: B := List.mem_append_left _ hyA
  obtain ⟨y1, y2⟩ := h.node y hyN
  have hyt : x.h < y.t := by have := hA y hyA; omega
  have eN : A ++ x :: B = a0 ++ y :: (c0 ++ x :: B) := by rw [eA]; simp
  have hyl := h.ld a0 y _ eN
  have hysz := y1.sz
  obtain ⟨p', hs, hsz, hbl, htk, hln, hld, hk⟩ := store_pcs hp y2 (5 + 8 * x.h) (ptrB (x.off, x.size)) (by rw [ptrB_len]; omega)
  have hap := pair_at (eN ▸ h.apart)
  have hL : ∀ j, landAt p' j = landAt p j := fun j => by unfold landAt; rw [hln]
  have hpc : ∀ z ∈ A ++ x :: B, Pc p' (nh r gen z) r z.off z.size := fun z hz => (hk _ _ _ _ (h.node z hz).2).1
  have hsame : ∀ z ∈ A ++ x :: B, (Apt z y ∨ Apt y z) → loadF p' (nh r gen z) = loadF p (nh r gen z) := fun z hz ha => by
    refine (hk _ _ _ _ (h.node z hz).2).2 (.inr ?_)
    unfold Apt at ha
    omega
  have hnall : ¬ ∀ n ∈ A, n.h ≤ x.h := fun e => by have := e y hyA; omega
  refine ⟨p', hs, ⟨h.hr, by rw [hL]; exact h.there, by rw [hsz]; exact h.sz, fun k hk => ?_, fun z hz => ?_, fun a z b e => ?_, ?_, ?_⟩, ⟨hsz, hbl, fun j _ => hL j, by rw [hL], by rw [hL], fun z j o2 l hj hz => ?_⟩, by unfold countF; rw [htk]⟩
  · rw [put_link, if_neg (fun hh => hnall (fun n hn => by have := hh.2 n hn; omega))]
    exact h.heads k hk
  · rw [List.mem_append, List.mem_cons] at hz
    rcases hz with hz | rfl | hz
    · exact ⟨(h.node z (by simp [hz])).1, hpc z (by simp [hz])⟩
    · obtain ⟨q1, _⟩ := h.node x (by simp)
      exact ⟨⟨q1.t1, q1.t2, hx, q1.ok, q1.vl, q1.sz⟩, hpc x (by simp)⟩
    · exact ⟨(h.node z (by simp [hz])).1, hpc z (by simp [hz])⟩
  · rcases split3 e with ⟨c', e1, e2⟩ | ⟨e1, e2, e3⟩ | ⟨c', e1, e2⟩
    · have hzA : z ∈ A := by rw [e1]; simp
      have hz : z ∈ A ++ x :: B := List.mem_append_left _ hzA
      rcases split3 (eA ▸ e1 : a0 ++ y :: c0 = a ++ z :: c') with ⟨d, f1, f2⟩ | ⟨f1, f2, f3⟩ | ⟨d, f1, f2⟩
      · rw [hsame z hz (.inl (hap.1 z (by rw [f1]; simp))), h.ld a z (c' ++ x :: B) (by rw [e1]; simp), e2]
        simp only [Prod.mk.injEq, and_true]
        refine nodeB_congr _ (fun k _ => ?_)
        rw [put_link, if_neg (fun hh => by have := hh.2 y (by rw [f2]; simp); omega)]
      · subst f1 f2 f3
        rw [hld, hyl, nodeB_put _ _ hyt, e2]
        simp only [Prod.mk.injEq, and_true]
        refine nodeB_congr _ (fun k hk => ?_)
        rw [put_link]
        by_cases ek : k = x.h
        · rw [if_pos ek, if_pos ⟨ek, fun n hn => by rw [ek]; exact hc0 n hn⟩]
        · rw [if_neg ek, if_neg (fun hh => ek hh.1)]
      · rw [hsame z hz (.inr (hap.2 z (by rw [f1]; simp))), h.ld a z (c' ++ x :: B) (by rw [e1]; simp), e2]
        simp only [Prod.mk.injEq, and_true]
        refine nodeB_congr _ (fun k hk => ?_)
        rw [put_link, if_neg]
        exact all_other (by have h1 := hA z hzA; have h2 := hc0 z (by rw [f1]; simp); omega) hk
    · subst e1 e2 e3
      have := hsame x (by simp) (.inr (hap.2 x (by simp)))
      exact this.trans (h.ld A x B rfl)
    · have hz : z ∈ A ++ x :: B := by rw [e1]; simp
      rw [hsame z hz (.inr (hap.2 z (by rw [e1]; simp))), h.ld (A ++ x :: c') z b (by rw [e1]; simp)]
  · exact pair_mid (pair_out h.sorted) (pair_at h.sorted).1 (pair_at h.sorted).2
  · exact pair_mid (pair_out h.apart) (pair_at h.apart).1 (pair_at h.apart).2
  · obtain ⟨q3, q4⟩ := hk _ _ _ _ hz
    exact ⟨q3, q4 (.inl (fun e => hj e.symm))⟩
end
end Go.Proofs.Ytpaogoehgkoaeaa
/- Layer 1 (region): grow walked. -/
namespace Go.Proofs.Ytpaogoehgkoaeaa
set_option linter.unusedVariables false
set_option linter.unusedSimpArgs false
open Go.RowKit
set_option maxRecDepth 100000 in
theorem grow_any (w : World) (S : Nat → Prop) (g : Nat) (p : PoolF) (i : Nat) (hi : i < 256) (h : PoolAt w S g p) (hp : PoolOk p) :
    Calls Try.prog 44 #[.pointer (some ⟨g, 0, none⟩), .pointer (some ⟨g, 3 + i * 4, none⟩)] w fun e w' =>
      match idleF p with
      | none => e = .returned (.bool false) ∧ w = w'
      | some s => e = .returned (.bool true) ∧ ∃ S', Moved S g (growAt p i s) w w' S' := by
  obtain ⟨ads, cs, adt, ct, A, C, bd, hx⟩ := h
  obtain ⟨c0, c1, c2⟩ := hx.head
  have hln := hp.ln
  have HIX := Lib.hid (Index_any w p adt ct hx.tak.row (by rw [hp.tk]; exact hp.n2))
  cases hs : idleF p with
  | none =>
    have e : idleI p = -1 := by unfold idleI; rw [hs]
    rw [e] at HIX
    clear hx hs e hp hln
    go_enter Try.func44, Try.ntmps44
    go_wp2_with (first
      | (go_at_call 51; refine HIX.out.mono ?_; rintro e w1 ⟨rfl, rfl⟩)
      | fail)
    go_ret
    exact ⟨rfl, rfl⟩
  | some s =>
    have e : idleI p = (s : Int) := by unfold idleI; rw [hs]
    rw [e] at HIX
    obtain ⟨hst, _, _⟩ := idleF_some hs
    have hsb : s < p.bytes.length := by rw [← hp.tk]; exact hst
    have hbl : (bytesAt p s).length = p.size := by
      unfold bytesAt
      rw [List.getD_eq_getElem?_getD, List.getElem?_eq_getElem hsb]
      exact hp.bl _ (List.getElem_mem hsb)
    have hsz := hp.s1
    have hcap := (hp.ld i hi).cap hp
    have hlen := Nat.le_trans (hp.ld i hi).len hp.n2
    have hsz2 := hp.s2
    obtain ⟨bt, rfl, _, hc1⟩ := hx.tak.at (taken_get _ s hst)
    have hf1 := hx.tak.unfrozen rfl (show s < p.taken.length * 1 by omega)
    have hx1 := hx.put_taken rfl hst true
    obtain ⟨d0, d1, d2⟩ := hx1.head
    have hrow : (slabV bd (setTaken p s true).size (setTaken p s true).bytes.length)[s]? = some (.slice (some ⟨bd s, 0, none⟩) p.size p.size) := by show (slabV bd p.size p.bytes.length)[s]? = _; simp [slabV, hsb]
    obtain ⟨b2, rfl, _, hc2⟩ := hx1.row.at hrow
    have HX1 := Lib.hid hx1
    have HP := Lib.hid hp
    clear hx hx1 hs e hp
    go_enter Try.func44, Try.ntmps44
    go_wp2_with (first
      | (go_at_call 51; refine HIX.out.mono ?_; rintro e w1 ⟨rfl, rfl⟩)
      | ((with_reducible show Go.wpList _ _ _ (Oper.mk _ (Op.call (Call.mk (Callee.builtin Builtin.clear) _ _)) _ _ _ _ :: _) _ _); go_must (refine wp_clear elemB rfl rfl rfl _ rfl rfl (HX1.out.slab s hsb) (by rw [bv_length]; exact hbl) (by omega) ?_); intro w2 q2 k2
         rw [bv_replicate] at q2
         have hx2 := HX1.out.put_bytes hsb (List.replicate p.size 0) q2 k2
         obtain ⟨e0, e1, e2⟩ := hx2.head
         obtain ⟨l0, l1, l2, l3⟩ := hx2.lcell hi
         have f3 := hx2.blk.frozen (3 + i * 4 + 3)
         have HX2 := Lib.hid hx2
         have HC2 := Lib.hid (Chg.trans (Chg.grown (grown_set w bt s (.bool true)) (HX1.out.stak _ rfl)) (Chg.grown k2 (HX1.out.sslab s hsb)) (fun j hj => .inl hj))
         clear hx2 q2 k2)
      | fail)
    have e0' : w2.cell? ⟨g, 0, none⟩ = some (.int .i64 (p.size : Int)) := e0
    have l2' : w2.cell? ⟨g, 3 + i * 4 + 2, none⟩ = some (.slice (A i) (landAt p i).slabs.length (C i)) := l2
    have l3' : w2.cell? ⟨g, 3 + i * 4 + 3, none⟩ = some (.int .i64 ((landAt p i).fill : Int)) := l3
    obtain ⟨m, hm⟩ : ∃ m, m = (landAt p i).slabs.length * p.size := ⟨_, rfl⟩
    have hmi : ((landAt p i).slabs.length : Int) * (p.size : Int) = (m : Int) := by rw [hm]; simp
    have hmm : m ≤ 268435456 := by rw [hm]; exact hcap
    have HM := Lib.hid hm
    have HHC := Lib.hid hcap
    clear e0 e1 e2 l0 l1 l2 l3 hm hcap c0 c1 c2 d0 d1 d2 hc1 hc2 hf1
    have hw : IntKind.i64.wrap (m : Int) = (m : Int) := by rw [IntKind.wrap_i64]; omega
    have hx3 : PX ((w2.setCell ⟨g, 3 + i * 4 + 3, none⟩ (.int .i64 (m : Int))).alloc (.cells #[.int .i64 (s : Int)] 3)).drew S g (fillAt (setBytes (setTaken p s true) s (List.replicate p.size 0)) i m) _ cs _ ct A C bd := ((HX2.out.put_fill hln hi m).gr (Gr.alloc _ _)).gr (Gr.drew _)
    have hA : landAt (fillAt (setBytes (setTaken p s true) s (List.replicate p.size 0)) i m) i = ⟨(landAt p i).there, (landAt p i).gen, (landAt p i).slabs, m⟩ := (landAt_set _ i i _ (by show i < p.lands.length; omega)).trans (if_pos rfl)
    have hlo := hx3.land i hi
    rw [hA] at hlo
    have HLO := Lib.hid hlo
    have HX3 := Lib.hid hx3
    have HA := Lib.hid hA
    have HC3 := Lib.hid (Chg.trans HC2.out (Chg.trans (Chg.grown (grown_set w2 g (3 + i * 4 + 3) (.int .i64 (m : Int))) HX2.out.sg) (((Gr.alloc _ (.cells #[.int .i64 (s : Int)] 3)).trans (Gr.drew _)).chg (S := S)) (fun j hj => .inl hj)) (fun j hj => .inl hj))
    clear hlo hx3 hA
    have hm1 : (landAt p i).slabs.length + 1 ≤ maxLen := by unfold maxLen; omega
    have hm2 : ((landAt p i).slabs.length + 1) * 8 ≤ 140737488355328 := by omega
    go_still_tail 13, (by kernel_rfl)
    clear hmi hw
    go_wp2_with (first
      | (at_builtin; go_must (refine wp_append elemI rfl _ _ rfl rfl HLO.out rfl ((src_cell _ (.int .i64 (s : Int)) _ rfl Try.underlying53 _ (by simp)).gr (Gr.drew _)) hm1 hm2 (Nat.zero_le _) ?_); intro ad5 c5 w5 o5 k5 f5
         have b5 : Blk w5 g 58 _ := HX3.out.blk.grown k5 (fun e => by
           cases hAi : A i with
           | none => rw [hAi] at e; cases e
           | some x => rw [hAi] at e; exact HX3.out.blk.owns_ne (HX3.out.land i hi) (by decide) x hAi (Option.some.inj e).symm)
         have z5 := b5.cell (poolV_land (k := 2) hi (by decide))
         have q5 := b5.frozen (3 + i * 4 + 2)
         have hmv := HX3.out.put_slab (s := s) (by show (p.lands.set i _).length = 256; rw [List.length_set]; exact hln) hi k5 (by rw [HA.out]; simpa [iv] using o5) f5
         rw [HA.out] at hmv
         have HMV := Lib.hid hmv
         clear b5 hmv o5 k5 f5)
      | fail)
    go_ret
    obtain ⟨S', hmv⟩ := HMV.out
    have e : setLand (fillAt (setBytes (setTaken p s true) s (List.replicate p.size 0)) i m) i ⟨(landAt p i).there, (landAt p i).gen, (landAt p i).slabs ++ [s], m⟩ = growAt p i s := by
      have := HM.out
      subst this
      unfold setLand fillAt setBytes setTaken growAt
      simp only [List.set_set]
    rw [e] at hmv
    exact ⟨rfl, S', hmv.after HC3.out⟩
end Go.Proofs.Ytpaogoehgkoaeaa
/- Layer 1 (region): Alloc walked, of what is in order. -/
namespace Go.Proofs.Ytpaogoehgkoaeaa
set_option linter.unusedVariables false
set_option linter.unusedSimpArgs false
open Go.RowKit
theorem Blk.set4 {w : World} {g : Nat} {t : TypeId} {a b c d : Value} (h : Blk w g t [a, b, c, d]) (a' b' c' d' : Value) :
    Blk ((((w.setCell ⟨g, 0, none⟩ a').setCell ⟨g, 1, none⟩ b').setCell ⟨g, 2, none⟩ c').setCell ⟨g, 3, none⟩ d') g t [a', b', c', d'] := (((h.set_ 0 a').set_ 1 b').set_ 2 c').set_ 3 d'
theorem grown_set4 (w : World) (g : Nat) (a b c d : Value) : w.grownBy ((((w.setCell ⟨g, 0, none⟩ a).setCell ⟨g, 1, none⟩ b).setCell ⟨g, 2, none⟩ c).setCell ⟨g, 3, none⟩ d) (some g) :=
  grown_trans (grown_trans (grown_trans (grown_set _ _ _ _) (grown_set _ _ _ _)) (grown_set _ _ _ _)) (grown_set _ _ _ _)
set_option maxRecDepth 100000 in
set_option maxHeartbeats 4000000 in
theorem Alloc_good (w : World) (S : Nat → Prop) (g : Nat) (p : PoolF) (i : Nat) (n a : Int) (h : PoolAt w S g p) (hp : PoolOk p) (hl : landF p (i : Int) = some i) (h1 : ¬ n < 1) (h2 : ¬ n > (p.size : Int)) (h3 : ¬ a < 1) (h4 : ¬ a > 64) (e5 : bits .and .i64 a (a - 1) = 0) (hk : alignOk a = true) :
    Calls Try.prog 29 #[.pointer (some ⟨g, 0, none⟩), .int .i64 (i : Int), .int .i64 n, .int .i64 a] w fun e w' => e = .returned (.tuple #[hdv (allocF p (i : Int) n a).1, .int .i64 ((allocF p (i : Int) n a).2.1 : Int)]) ∧ ∃ S', Moved S g (allocF p (i : Int) n a).2.2 w w' S' := by
  have HP := Lib.hid h
  have HLA := Lib.hid (fun w' (k : Gr w w') => land_any w' S g p (i : Int) (h.gr k))
  have HOK := Lib.hid hp
  rw [hl] at HLA
  obtain ⟨_, hi, hth⟩ := landF_some hl
  obtain ⟨ads, cs, adt, ct, A, C, bd, hx⟩ := h
  have hlk := hp.ld i hi
  have hsz1 := hp.s1
  have hsz2 := hp.s2
  have hcap := hlk.cap hp
  have hfl := hlk.fill_le
  have hlen := Nat.le_trans hlk.len hp.n2
  have hfil := hlk.fill
  have hx1 := hx.gr (Gr.alloc w (.cells #[.int .i64 0, .int .i64 0, .int .i64 0, .int .i64 0] 78))
  obtain ⟨c0, _, _⟩ := hx1.head
  obtain ⟨_, l1, l2, l3⟩ := hx1.lcell hi
  have HX := Lib.hid hx
  obtain ⟨nn, rfl⟩ : ∃ nn : Nat, n = (nn : Int) := ⟨n.toNat, by omega⟩
  obtain ⟨m, hm⟩ : ∃ m, m = (landAt p i).slabs.length * p.size := ⟨_, rfl⟩
  have hmi : ((landAt p i).slabs.length : Int) * (p.size : Int) = (m : Int) := by rw [hm]; simp
  have hw : IntKind.i64.wrap (m : Int) = (m : Int) := by rw [IntKind.wrap_i64]; omega
  obtain ⟨t, ht⟩ : ∃ t, t = p.size - (m - (landAt p i).fill) := ⟨_, rfl⟩
  have hmf : m ≤ (landAt p i).fill + p.size := by
    rcases hfil with ⟨q1, q2⟩ | ⟨q1, q2, q3⟩
    · rw [hm, q1]; simp
    · have hpos : 0 < (landAt p i).slabs.length := by
        cases hsl : (landAt p i).slabs with
        | nil => exact absurd hsl q1
        | cons _ _ => simp
      rw [hm]
      obtain ⟨k, hk⟩ : ∃ k, (landAt p i).slabs.length = k + 1 := ⟨(landAt p i).slabs.length - 1, by omega⟩
      rw [hk] at q2 ⊢
      rw [Nat.add_mul]
      simp only [Nat.add_sub_cancel] at q2
      omega
  have hti : (p.size : Int) - ((m : Int) - ((landAt p i).fill : Int)) = (t : Int) := by rw [ht]; rw [← hm] at hfl; omega
  have htl : t ≤ 65536 := by omega
  obtain ⟨u, hu⟩ : ∃ u, u = upTo t a.toNat := ⟨_, rfl⟩
  have hui : bits .andNot .i64 ((t : Int) + a - 1) (a - 1) = (u : Int) := by rw [hu]; exact align_up hk (by omega)
  have hub := upTo_bounds (x := t) (a := a.toNat) (by omega)
  rw [← hu] at hub
  have hul : u ≤ 65600 := by omega
  rw [← hm] at hfl hcap
  have HIN := Lib.hid (show inF p i = t by unfold inF; rw [ht, hm])
  have HU := Lib.hid (show upTo (inF p i) a.toNat = u by rw [HIN.out, hu])
  have HM := Lib.hid hm
  have hnb : ¬ ((nn : Int) < 1 ∨ (nn : Int) > (p.size : Int) ∨ alignOk a = false) := by rw [hk]; simp; omega
  have HE := Lib.hid (show allocF p (i : Int) (nn : Int) a = if (landAt p i).slabs = [] ∨ p.size < u + nn then (match idleF p with
      | none => (noHd, 5, p)
      | some s => (⟨(i : Int), ((landAt p i).gen : Int), (m : Int), (nn : Int)⟩, 0, fillAt (growAt p i s) i (m + nn)))
    else (⟨(i : Int), ((landAt p i).gen : Int), ((((landAt p i).slabs.length - 1) * p.size + u : Nat) : Int), (nn : Int)⟩, 0, fillAt p i (((landAt p i).slabs.length - 1) * p.size + u + nn)) by
    unfold allocF; rw [hl]; simp only; rw [if_neg hnb, HU.out, Int.toNat_natCast, ← hm] <;> rfl)
  have HFIL := Lib.hid hfil
  have HLK := Lib.hid hlk
  clear hm ht hu hub hnb hfil hlk hx hx1 hp hl hk hmf
  by_cases hgr : (landAt p i).slabs = [] ∨ p.size < u + nn
  · rw [if_pos hgr] at HE
    have hgr2 : (landAt p i).slabs.length = 0 ∨ p.size < u + nn := by
      rcases hgr with h5 | h5
      · exact .inl (by rw [h5]; rfl)
      · exact .inr h5
    clear hgr
    have HGR := Lib.hid (fun w' h' => grow_any w' S g p i hi h' HOK.out)
    cases hid : idleF p with
    | none =>
      rw [hid] at HGR HE
      clear hid
      rcases hgr2 with h6 | h6
      · go_enter Try.func29, Try.ntmps29
        go_wp2_with (first
          | (go_at_call 43; refine (HLA.out _ (Gr.alloc _ _)).mono ?_; rintro e w1 ⟨rfl, rfl⟩)
          | fail)
        go_quiet (fail)
        have gV : Gr (w.alloc (.cells #[.int .i64 0, .int .i64 0, .int .i64 0, .int .i64 0] 78)) ((w.alloc (.cells #[.int .i64 0, .int .i64 0, .int .i64 0, .int .i64 0] 78)).drewN nq) := Gr.drewN _ nq
        have c0a := gV.cell c0
        have l1a := gV.cell l1
        have l2a := gV.cell l2
        have l3a := gV.cell l3
        have bVa := (Blk.new w 78 #[.int .i64 0, .int .i64 0, .int .i64 0, .int .i64 0]).gr gV
        have gWa : Gr w ((w.alloc (.cells #[.int .i64 0, .int .i64 0, .int .i64 0, .int .i64 0] 78)).drewN nq) := (Gr.alloc w _).trans gV
        clear gV c0 l1 l2 l3
        generalize (w.alloc (.cells #[.int .i64 0, .int .i64 0, .int .i64 0, .int .i64 0] 78)).drewN nq = V at *
        go_wp2
        go_quiet (fail)
        have gV : Gr V (V.drewN nq) := Gr.drewN V nq
        have c0 := gV.cell c0a
        have l1 := gV.cell l1a
        have l2 := gV.cell l2a
        have l3 := gV.cell l3a
        have bV := bVa.gr gV
        have gW := gWa.trans gV
        clear gV c0a l1a l2a l3a bVa gWa
        generalize V.drewN nq = W at *
        clear hmi hw
        obtain ⟨d0, d1, d2, d3, f0, f1, f2, f3⟩ := Blk.four bV
        go_wp2_with (first
          | (go_at_call 44; refine (HGR.out _ (HP.out.gr gW)).mono ?_; rintro e w1 ⟨rfl, rfl⟩)
          | fail)
        obtain ⟨e0, e1, e2, e3, _⟩ := Blk.four (bV.set4 (.int .i64 0) (.int .i64 0) (.int .i64 0) (.int .i64 0))
        refine bodyPost_ret (v := .tuple #[.agg #[.int .i64 0, .int .i64 0, .int .i64 0, .int .i64 0], .int .i64 5]) (by simp [results, Try.results29, go_sem, e0, e1, e2, e3]) rfl ?_
        rw [HE.out]
        exact ⟨rfl, S, (Moved.refl HP.out).gr (Gr.of_far gW (grown_set4 _ _ _ _ _ _) (Nat.le_refl _))⟩
      · by_cases h7 : (landAt p i).slabs.length = 0
        · clear h6
          go_enter Try.func29, Try.ntmps29
          go_wp2_with (first
            | (go_at_call 43; refine (HLA.out _ (Gr.alloc _ _)).mono ?_; rintro e w1 ⟨rfl, rfl⟩)
            | fail)
          go_quiet (fail)
          have gV : Gr (w.alloc (.cells #[.int .i64 0, .int .i64 0, .int .i64 0, .int .i64 0] 78)) ((w.alloc (.cells #[.int .i64 0, .int .i64 0, .int .i64 0, .int .i64 0] 78)).drewN nq) := Gr.drewN _ nq
          have c0a := gV.cell c0
          have l1a := gV.cell l1
          have l2a := gV.cell l2
          have l3a := gV.cell l3
          have bVa := (Blk.new w 78 #[.int .i64 0, .int .i64 0, .int .i64 0, .int .i64 0]).gr gV
          have gWa : Gr w ((w.alloc (.cells #[.int .i64 0, .int .i64 0, .int .i64 0, .int .i64 0] 78)).drewN nq) := (Gr.alloc w _).trans gV
          clear gV c0 l1 l2 l3
          generalize (w.alloc (.cells #[.int .i64 0, .int .i64 0, .int .i64 0, .int .i64 0] 78)).drewN nq = V at *
          go_wp2
          go_quiet (fail)
          have gV : Gr V (V.drewN nq) := Gr.drewN V nq
          have c0 := gV.cell c0a
          have l1 := gV.cell l1a
          have l2 := gV.cell l2a
          have l3 := gV.cell l3a
          have bV := bVa.gr gV
          have gW := gWa.trans gV
          clear gV c0a l1a l2a l3a bVa gWa
          generalize V.drewN nq = W at *
          clear hmi hw
          obtain ⟨d0, d1, d2, d3, f0, f1, f2, f3⟩ := Blk.four bV
          go_wp2_with (first
            | (go_at_call 44; refine (HGR.out _ (HP.out.gr gW)).mono ?_; rintro e w1 ⟨rfl, rfl⟩)
            | fail)
          obtain ⟨e0, e1, e2, e3, _⟩ := Blk.four (bV.set4 (.int .i64 0) (.int .i64 0) (.int .i64 0) (.int .i64 0))
          refine bodyPost_ret (v := .tuple #[.agg #[.int .i64 0, .int .i64 0, .int .i64 0, .int .i64 0], .int .i64 5]) (by simp [results, Try.results29, go_sem, e0, e1, e2, e3]) rfl ?_
          rw [HE.out]
          exact ⟨rfl, S, (Moved.refl HP.out).gr (Gr.of_far gW (grown_set4 _ _ _ _ _ _) (Nat.le_refl _))⟩
        · go_enter Try.func29, Try.ntmps29
          go_wp2_with (first
            | (go_at_call 43; refine (HLA.out _ (Gr.alloc _ _)).mono ?_; rintro e w1 ⟨rfl, rfl⟩)
            | fail)
          go_quiet (fail)
          have gV : Gr (w.alloc (.cells #[.int .i64 0, .int .i64 0, .int .i64 0, .int .i64 0] 78)) ((w.alloc (.cells #[.int .i64 0, .int .i64 0, .int .i64 0, .int .i64 0] 78)).drewN nq) := Gr.drewN _ nq
          have c0a := gV.cell c0
          have l1a := gV.cell l1
          have l2a := gV.cell l2
          have l3a := gV.cell l3
          have bVa := (Blk.new w 78 #[.int .i64 0, .int .i64 0, .int .i64 0, .int .i64 0]).gr gV
          have gWa : Gr w ((w.alloc (.cells #[.int .i64 0, .int .i64 0, .int .i64 0, .int .i64 0] 78)).drewN nq) := (Gr.alloc w _).trans gV
          clear gV c0 l1 l2 l3
          generalize (w.alloc (.cells #[.int .i64 0, .int .i64 0, .int .i64 0, .int .i64 0] 78)).drewN nq = V at *
          go_wp2
          go_quiet (fail)
          have gV : Gr V (V.drewN nq) := Gr.drewN V nq
          have c0 := gV.cell c0a
          have l1 := gV.cell l1a
          have l2 := gV.cell l2a
          have l3 := gV.cell l3a
          have bV := bVa.gr gV
          have gW := gWa.trans gV
          clear gV c0a l1a l2a l3a bVa gWa
          generalize V.drewN nq = W at *
          clear hmi hw
          obtain ⟨d0, d1, d2, d3, f0, f1, f2, f3⟩ := Blk.four bV
          go_wp2_with (first
            | (go_at_call 44; refine (HGR.out _ (HP.out.gr gW)).mono ?_; rintro e w1 ⟨rfl, rfl⟩)
            | fail)
          obtain ⟨e0, e1, e2, e3, _⟩ := Blk.four (bV.set4 (.int .i64 0) (.int .i64 0) (.int .i64 0) (.int .i64 0))
          refine bodyPost_ret (v := .tuple #[.agg #[.int .i64 0, .int .i64 0, .int .i64 0, .int .i64 0], .int .i64 5]) (by simp [results, Try.results29, go_sem, e0, e1, e2, e3]) rfl ?_
          rw [HE.out]
          exact ⟨rfl, S, (Moved.refl HP.out).gr (Gr.of_far gW (grown_set4 _ _ _ _ _ _) (Nat.le_refl _))⟩
    | some s =>
      rw [hid] at HGR HE
      obtain ⟨hst, _, _⟩ := idleF_some hid
      clear hid
      have hA : landAt (growAt p i s) i = ⟨(landAt p i).there, (landAt p i).gen, (landAt p i).slabs ++ [s], m⟩ := (landAt_set { p with bytes := p.bytes.set s (List.replicate p.size 0), taken := p.taken.set s true } i i _ (by show i < p.lands.length; rw [HOK.out.ln]; exact hi)).trans (by rw [if_pos rfl, HM.out])
      have hln2 : (growAt p i s).lands.length = 256 := by show (p.lands.set i _).length = 256; rw [List.length_set]; exact HOK.out.ln
      have HA := Lib.hid hA
      have HLN := Lib.hid hln2
      clear hA hln2
      obtain ⟨of, hof⟩ : ∃ of, of = m := ⟨_, rfl⟩
      rw [← hof] at HE
      rcases hgr2 with h6 | h6
      · go_enter Try.func29, Try.ntmps29
        go_wp2_with (first
          | (go_at_call 43; refine (HLA.out _ (Gr.alloc _ _)).mono ?_; rintro e w1 ⟨rfl, rfl⟩)
          | fail)
        go_quiet (fail)
        have gV : Gr (w.alloc (.cells #[.int .i64 0, .int .i64 0, .int .i64 0, .int .i64 0] 78)) ((w.alloc (.cells #[.int .i64 0, .int .i64 0, .int .i64 0, .int .i64 0] 78)).drewN nq) := Gr.drewN _ nq
        have c0a := gV.cell c0
        have l1a := gV.cell l1
        have l2a := gV.cell l2
        have l3a := gV.cell l3
        have bVa := (Blk.new w 78 #[.int .i64 0, .int .i64 0, .int .i64 0, .int .i64 0]).gr gV
        have gWa : Gr w ((w.alloc (.cells #[.int .i64 0, .int .i64 0, .int .i64 0, .int .i64 0] 78)).drewN nq) := (Gr.alloc w _).trans gV
        clear gV c0 l1 l2 l3
        generalize (w.alloc (.cells #[.int .i64 0, .int .i64 0, .int .i64 0, .int .i64 0] 78)).drewN nq = V at *
        go_wp2
        go_quiet (fail)
        have gV : Gr V (V.drewN nq) := Gr.drewN V nq
        have c0 := gV.cell c0a
        have l1 := gV.cell l1a
        have l2 := gV.cell l2a
        have l3 := gV.cell l3a
        have bV := bVa.gr gV
        have gW := gWa.trans gV
        clear gV c0a l1a l2a l3a bVa gWa
        generalize V.drewN nq = W at *
        clear hmi hw
        obtain ⟨d0, d1, d2, d3, f0, f1, f2, f3⟩ := Blk.four bV
        go_wp2_with (first
          | (go_at_call 44; refine (HGR.out _ (HP.out.gr gW)).mono ?_; rintro e w2 ⟨rfl, S2, hmv⟩)
          | fail)
        have hmvA := hmv.after (gW.chg (S := S))
        have hghS : ¬ S w.heap.size := fun e => Nat.lt_irrefl _ (HP.out.lt _ e)
        have hgh2 : ¬ S2 w.heap.size := fun e => by
          rcases hmv.sub _ e with h8 | h8
          · exact hghS h8
          · have := bV.lt; omega
        have b2 := hmv.chg.blk bV hghS
        obtain ⟨ads2, cs2, adt2, ct2, A2, C2, bd2, hx2⟩ := hmv.pool
        have z2 := hx2.lcell hi
        rw [HA.out] at z2
        obtain ⟨_, z1, z2, z3⟩ := z2
        have z0 : w2.cell? ⟨g, 0, none⟩ = some (.int .i64 (p.size : Int)) := hx2.head.1
        obtain ⟨L2, hL2⟩ : ∃ L2, L2 = ((landAt p i).slabs ++ [s]).length := ⟨_, rfl⟩
        have hL3 : L2 = (landAt p i).slabs.length + 1 := by rw [hL2]; simp
        have hL4 : L2 ≤ 4097 := by omega
        have hL5 : 1 ≤ L2 := by omega
        have hqi : ((L2 : Int) - 1) * (p.size : Int) = (of : Int) := by
          rw [hL3, hof, HM.out]; simp
        have hqw : IntKind.i64.wrap (of : Int) = (of : Int) := by rw [IntKind.wrap_i64]; omega
        have hol : of ≤ 268435456 := by omega
        simp only at z1 z2 z3
        rw [← hL2] at z2
        have HX2 := Lib.hid hx2
        have HMV := Lib.hid hmvA
        have hgg : w.heap.size ≠ g := fun e => hghS (e ▸ HX.out.sg)
        clear hx2 hmv hmvA hL2 hL3 hof bV gW d0 d1 d2 d3 f0 f1 f2 f3
        go_quiet (fail)
        have gV : Gr w2 (w2.drewN nq) := Gr.drewN w2 nq
        have y0 := gV.cell z0
        have y1 := gV.cell z1
        have y2 := gV.cell z2
        have y3 := gV.cell z3
        have b3 := b2.gr gV
        have HX3 := Lib.hid (HX2.out.gr gV)
        have HMV3 := Lib.hid (HMV.out.gr gV)
        have fg := HX3.out.blk.frozen (3 + i * 4 + 3)
        clear gV z0 z1 z2 z3 b2 hqi hqw
        generalize w2.drewN nq = W3 at *
        obtain ⟨d0, d1, d2, d3, f0, f1, f2, f3⟩ := Blk.four b3
        go_wp2
        have b5 : Blk (W3.setCell ⟨g, 3 + i * 4 + 3, none⟩ (.int .i64 ((of : Int) + (nn : Int)))) w.heap.size 78 _ := b3.far (p := ⟨g, 3 + i * 4 + 3, none⟩) hgg (.int .i64 ((of : Int) + (nn : Int)))
        obtain ⟨e0, e1, e2, e3, _⟩ := Blk.four (b5.set4 (.int .i64 (i : Int)) (.int .i64 ((landAt p i).gen : Int)) (.int .i64 (of : Int)) (.int .i64 (nn : Int)))
        refine bodyPost_ret (v := .tuple #[.agg #[.int .i64 (i : Int), .int .i64 ((landAt p i).gen : Int), .int .i64 (of : Int), .int .i64 (nn : Int)], .int .i64 0]) (by simp [results, Try.results29, go_sem, e0, e1, e2, e3]) rfl ?_
        rw [HE.out]
        exact ⟨rfl, S2, Moved.finish HMV3.out HX3.out HLN.out hi (of + nn) hgh2 (Nat.le_refl _) (grown_set4 _ _ _ _ _ _)⟩
      · by_cases h7 : (landAt p i).slabs.length = 0
        · clear h6
          go_enter Try.func29, Try.ntmps29
          go_wp2_with (first
            | (go_at_call 43; refine (HLA.out _ (Gr.alloc _ _)).mono ?_; rintro e w1 ⟨rfl, rfl⟩)
            | fail)
          go_quiet (fail)
          have gV : Gr (w.alloc (.cells #[.int .i64 0, .int .i64 0, .int .i64 0, .int .i64 0] 78)) ((w.alloc (.cells #[.int .i64 0, .int .i64 0, .int .i64 0, .int .i64 0] 78)).drewN nq) := Gr.drewN _ nq
          have c0a := gV.cell c0
          have l1a := gV.cell l1
          have l2a := gV.cell l2
          have l3a := gV.cell l3
          have bVa := (Blk.new w 78 #[.int .i64 0, .int .i64 0, .int .i64 0, .int .i64 0]).gr gV
          have gWa : Gr w ((w.alloc (.cells #[.int .i64 0, .int .i64 0, .int .i64 0, .int .i64 0] 78)).drewN nq) := (Gr.alloc w _).trans gV
          clear gV c0 l1 l2 l3
          generalize (w.alloc (.cells #[.int .i64 0, .int .i64 0, .int .i64 0, .int .i64 0] 78)).drewN nq = V at *
          go_wp2
          go_quiet (fail)
          have gV : Gr V (V.drewN nq) := Gr.drewN V nq
          have c0 := gV.cell c0a
          have l1 := gV.cell l1a
          have l2 := gV.cell l2a
          have l3 := gV.cell l3a
          have bV := bVa.gr gV
          have gW := gWa.trans gV
          clear gV c0a l1a l2a l3a bVa gWa
          generalize V.drewN nq = W at *
          clear hmi hw
          obtain ⟨d0, d1, d2, d3, f0, f1, f2, f3⟩ := Blk.four bV
          go_wp2_with (first
            | (go_at_call 44; refine (HGR.out _ (HP.out.gr gW)).mono ?_; rintro e w2 ⟨rfl, S2, hmv⟩)
            | fail)
          have hmvA := hmv.after (gW.chg (S := S))
          have hghS : ¬ S w.heap.size := fun e => Nat.lt_irrefl _ (HP.out.lt _ e)
          have hgh2 : ¬ S2 w.heap.size := fun e => by
            rcases hmv.sub _ e with h8 | h8
            · exact hghS h8
            · have := bV.lt; omega
          have b2 := hmv.chg.blk bV hghS
          obtain ⟨ads2, cs2, adt2, ct2, A2, C2, bd2, hx2⟩ := hmv.pool
          have z2 := hx2.lcell hi
          rw [HA.out] at z2
          obtain ⟨_, z1, z2, z3⟩ := z2
          have z0 : w2.cell? ⟨g, 0, none⟩ = some (.int .i64 (p.size : Int)) := hx2.head.1
          obtain ⟨L2, hL2⟩ : ∃ L2, L2 = ((landAt p i).slabs ++ [s]).length := ⟨_, rfl⟩
          have hL3 : L2 = (landAt p i).slabs.length + 1 := by rw [hL2]; simp
          have hL4 : L2 ≤ 4097 := by omega
          have hL5 : 1 ≤ L2 := by omega
          have hqi : ((L2 : Int) - 1) * (p.size : Int) = (of : Int) := by
            rw [hL3, hof, HM.out]; simp
          have hqw : IntKind.i64.wrap (of : Int) = (of : Int) := by rw [IntKind.wrap_i64]; omega
          have hol : of ≤ 268435456 := by omega
          simp only at z1 z2 z3
          rw [← hL2] at z2
          have HX2 := Lib.hid hx2
          have HMV := Lib.hid hmvA
          have hgg : w.heap.size ≠ g := fun e => hghS (e ▸ HX.out.sg)
          clear hx2 hmv hmvA hL2 hL3 hof bV gW d0 d1 d2 d3 f0 f1 f2 f3
          go_quiet (fail)
          have gV : Gr w2 (w2.drewN nq) := Gr.drewN w2 nq
          have y0 := gV.cell z0
          have y1 := gV.cell z1
          have y2 := gV.cell z2
          have y3 := gV.cell z3
          have b3 := b2.gr gV
          have HX3 := Lib.hid (HX2.out.gr gV)
          have HMV3 := Lib.hid (HMV.out.gr gV)
          have fg := HX3.out.blk.frozen (3 + i * 4 + 3)
          clear gV z0 z1 z2 z3 b2 hqi hqw
          generalize w2.drewN nq = W3 at *
          obtain ⟨d0, d1, d2, d3, f0, f1, f2, f3⟩ := Blk.four b3
          go_wp2
          have b5 : Blk (W3.setCell ⟨g, 3 + i * 4 + 3, none⟩ (.int .i64 ((of : Int) + (nn : Int)))) w.heap.size 78 _ := b3.far (p := ⟨g, 3 + i * 4 + 3, none⟩) hgg (.int .i64 ((of : Int) + (nn : Int)))
          obtain ⟨e0, e1, e2, e3, _⟩ := Blk.four (b5.set4 (.int .i64 (i : Int)) (.int .i64 ((landAt p i).gen : Int)) (.int .i64 (of : Int)) (.int .i64 (nn : Int)))
          refine bodyPost_ret (v := .tuple #[.agg #[.int .i64 (i : Int), .int .i64 ((landAt p i).gen : Int), .int .i64 (of : Int), .int .i64 (nn : Int)], .int .i64 0]) (by simp [results, Try.results29, go_sem, e0, e1, e2, e3]) rfl ?_
          rw [HE.out]
          exact ⟨rfl, S2, Moved.finish HMV3.out HX3.out HLN.out hi (of + nn) hgh2 (Nat.le_refl _) (grown_set4 _ _ _ _ _ _)⟩
        · go_enter Try.func29, Try.ntmps29
          go_wp2_with (first
            | (go_at_call 43; refine (HLA.out _ (Gr.alloc _ _)).mono ?_; rintro e w1 ⟨rfl, rfl⟩)
            | fail)
          go_quiet (fail)
          have gV : Gr (w.alloc (.cells #[.int .i64 0, .int .i64 0, .int .i64 0, .int .i64 0] 78)) ((w.alloc (.cells #[.int .i64 0, .int .i64 0, .int .i64 0, .int .i64 0] 78)).drewN nq) := Gr.drewN _ nq
          have c0a := gV.cell c0
          have l1a := gV.cell l1
          have l2a := gV.cell l2
          have l3a := gV.cell l3
          have bVa := (Blk.new w 78 #[.int .i64 0, .int .i64 0, .int .i64 0, .int .i64 0]).gr gV
          have gWa : Gr w ((w.alloc (.cells #[.int .i64 0, .int .i64 0, .int .i64 0, .int .i64 0] 78)).drewN nq) := (Gr.alloc w _).trans gV
          clear gV c0 l1 l2 l3
          generalize (w.alloc (.cells #[.int .i64 0, .int .i64 0, .int .i64 0, .int .i64 0] 78)).drewN nq = V at *
          go_wp2
          go_quiet (fail)
          have gV : Gr V (V.drewN nq) := Gr.drewN V nq
          have c0 := gV.cell c0a
          have l1 := gV.cell l1a
          have l2 := gV.cell l2a
          have l3 := gV.cell l3a
          have bV := bVa.gr gV
          have gW := gWa.trans gV
          clear gV c0a l1a l2a l3a bVa gWa
          generalize V.drewN nq = W at *
          clear hmi hw
          obtain ⟨d0, d1, d2, d3, f0, f1, f2, f3⟩ := Blk.four bV
          go_wp2_with (first
            | (go_at_call 44; refine (HGR.out _ (HP.out.gr gW)).mono ?_; rintro e w2 ⟨rfl, S2, hmv⟩)
            | fail)
          have hmvA := hmv.after (gW.chg (S := S))
          have hghS : ¬ S w.heap.size := fun e => Nat.lt_irrefl _ (HP.out.lt _ e)
          have hgh2 : ¬ S2 w.heap.size := fun e => by
            rcases hmv.sub _ e with h8 | h8
            · exact hghS h8
            · have := bV.lt; omega
          have b2 := hmv.chg.blk bV hghS
          obtain ⟨ads2, cs2, adt2, ct2, A2, C2, bd2, hx2⟩ := hmv.pool
          have z2 := hx2.lcell hi
          rw [HA.out] at z2
          obtain ⟨_, z1, z2, z3⟩ := z2
          have z0 : w2.cell? ⟨g, 0, none⟩ = some (.int .i64 (p.size : Int)) := hx2.head.1
          obtain ⟨L2, hL2⟩ : ∃ L2, L2 = ((landAt p i).slabs ++ [s]).length := ⟨_, rfl⟩
          have hL3 : L2 = (landAt p i).slabs.length + 1 := by rw [hL2]; simp
          have hL4 : L2 ≤ 4097 := by omega
          have hL5 : 1 ≤ L2 := by omega
          have hqi : ((L2 : Int) - 1) * (p.size : Int) = (of : Int) := by
            rw [hL3, hof, HM.out]; simp
          have hqw : IntKind.i64.wrap (of : Int) = (of : Int) := by rw [IntKind.wrap_i64]; omega
          have hol : of ≤ 268435456 := by omega
          simp only at z1 z2 z3
          rw [← hL2] at z2
          have HX2 := Lib.hid hx2
          have HMV := Lib.hid hmvA
          have hgg : w.heap.size ≠ g := fun e => hghS (e ▸ HX.out.sg)
          clear hx2 hmv hmvA hL2 hL3 hof bV gW d0 d1 d2 d3 f0 f1 f2 f3
          go_quiet (fail)
          have gV : Gr w2 (w2.drewN nq) := Gr.drewN w2 nq
          have y0 := gV.cell z0
          have y1 := gV.cell z1
          have y2 := gV.cell z2
          have y3 := gV.cell z3
          have b3 := b2.gr gV
          have HX3 := Lib.hid (HX2.out.gr gV)
          have HMV3 := Lib.hid (HMV.out.gr gV)
          have fg := HX3.out.blk.frozen (3 + i * 4 + 3)
          clear gV z0 z1 z2 z3 b2 hqi hqw
          generalize w2.drewN nq = W3 at *
          obtain ⟨d0, d1, d2, d3, f0, f1, f2, f3⟩ := Blk.four b3
          go_wp2
          have b5 : Blk (W3.setCell ⟨g, 3 + i * 4 + 3, none⟩ (.int .i64 ((of : Int) + (nn : Int)))) w.heap.size 78 _ := b3.far (p := ⟨g, 3 + i * 4 + 3, none⟩) hgg (.int .i64 ((of : Int) + (nn : Int)))
          obtain ⟨e0, e1, e2, e3, _⟩ := Blk.four (b5.set4 (.int .i64 (i : Int)) (.int .i64 ((landAt p i).gen : Int)) (.int .i64 (of : Int)) (.int .i64 (nn : Int)))
          refine bodyPost_ret (v := .tuple #[.agg #[.int .i64 (i : Int), .int .i64 ((landAt p i).gen : Int), .int .i64 (of : Int), .int .i64 (nn : Int)], .int .i64 0]) (by simp [results, Try.results29, go_sem, e0, e1, e2, e3]) rfl ?_
          rw [HE.out]
          exact ⟨rfl, S2, Moved.finish HMV3.out HX3.out HLN.out hi (of + nn) hgh2 (Nat.le_refl _) (grown_set4 _ _ _ _ _ _)⟩
  · rw [if_neg hgr] at HE
    have hpos : 0 < (landAt p i).slabs.length := by
      cases hsl : (landAt p i).slabs with
      | nil => exact absurd (.inl hsl) hgr
      | cons _ _ => simp
    have hfit : u + nn ≤ p.size := by
      have : ¬ p.size < u + nn := fun e => hgr (.inr e)
      omega
    clear hgr
    have hX := HX.out
    obtain ⟨of, hof⟩ : ∃ of, of = ((landAt p i).slabs.length - 1) * p.size + u := ⟨_, rfl⟩
    rw [← hof] at HE
    obtain ⟨q, hq⟩ : ∃ q, q = ((landAt p i).slabs.length - 1) * p.size := ⟨_, rfl⟩
    rw [← hq] at hof
    have hql : q ≤ 268435456 := by
      rw [hq]
      refine Nat.le_trans (Nat.mul_le_mul_right _ (Nat.sub_le _ 1)) ?_
      rw [← HM.out]; exact hcap
    have hqi : (((landAt p i).slabs.length : Int) - 1) * (p.size : Int) = (q : Int) := by
      rw [hq]
      obtain ⟨k, hk⟩ : ∃ k, (landAt p i).slabs.length = k + 1 := ⟨(landAt p i).slabs.length - 1, by omega⟩
      rw [hk]; simp
    have hol : of ≤ 268600000 := by omega
    have hqs : (q : Int) + (u : Int) = (of : Int) := by omega
    have hqw : IntKind.i64.wrap (q : Int) = (q : Int) := by rw [IntKind.wrap_i64]; omega
    have hb0 : (((landAt p i).slabs.length : Int) == 0) = false := beq_eq_false_iff_ne.2 (by omega)
    have HQ := Lib.hid (And.intro hqi (And.intro hqw hqs))
    have HLN := Lib.hid HOK.out.ln
    clear hqi hqw hqs hof hq
    go_enter Try.func29, Try.ntmps29
    go_wp2_with (first
      | (go_at_call 43; refine (HLA.out _ (Gr.alloc _ _)).mono ?_; rintro e w1 ⟨rfl, rfl⟩)
      | fail)
    go_quiet (fail)
    have gV : Gr (w.alloc (.cells #[.int .i64 0, .int .i64 0, .int .i64 0, .int .i64 0] 78)) ((w.alloc (.cells #[.int .i64 0, .int .i64 0, .int .i64 0, .int .i64 0] 78)).drewN nq) := Gr.drewN _ nq
    have c0a := gV.cell c0
    have l1a := gV.cell l1
    have l2a := gV.cell l2
    have l3a := gV.cell l3
    have bVa := (Blk.new w 78 #[.int .i64 0, .int .i64 0, .int .i64 0, .int .i64 0]).gr gV
    have gWa : Gr w ((w.alloc (.cells #[.int .i64 0, .int .i64 0, .int .i64 0, .int .i64 0] 78)).drewN nq) := (Gr.alloc w _).trans gV
    clear gV c0 l1 l2 l3
    generalize (w.alloc (.cells #[.int .i64 0, .int .i64 0, .int .i64 0, .int .i64 0] 78)).drewN nq = V at *
    go_wp2
    go_quiet (fail)
    have gV : Gr V (V.drewN nq) := Gr.drewN V nq
    have c0 := gV.cell c0a
    have l1 := gV.cell l1a
    have l2 := gV.cell l2a
    have l3 := gV.cell l3a
    have bV := bVa.gr gV
    have gW := gWa.trans gV
    clear gV c0a l1a l2a l3a bVa gWa
    generalize V.drewN nq = W at *
    clear hmi hw
    obtain ⟨d0, d1, d2, d3, f0, f1, f2, f3⟩ := Blk.four bV
    have hghS : ¬ S w.heap.size := fun e => Nat.lt_irrefl _ (HP.out.lt _ e)
    have HX2 := Lib.hid (HX.out.gr gW)
    have HMV := Lib.hid (show Moved S g p w W S from (Moved.refl HP.out).gr gW)
    have hgg : w.heap.size ≠ g := fun e => hghS (e ▸ HX.out.sg)
    clear gW d0 d1 d2 d3 f0 f1 f2 f3 hX
    go_wp2
    obtain ⟨hqi, hqw, hqs⟩ := HQ.out
    go_quiet (fail)
    have gV : Gr W (W.drewN nq) := Gr.drewN W nq
    have y0 := gV.cell c0
    have y1 := gV.cell l1
    have y2 := gV.cell l2
    have y3 := gV.cell l3
    have b3 := bV.gr gV
    have HX3 := Lib.hid (HX2.out.gr gV)
    have HMV3 := Lib.hid (HMV.out.gr gV)
    have fg := HX3.out.blk.frozen (3 + i * 4 + 3)
    clear gV c0 l1 l2 l3 bV hqi hqw hqs
    generalize W.drewN nq = W3 at *
    obtain ⟨d0, d1, d2, d3, f0, f1, f2, f3⟩ := Blk.four b3
    go_wp2
    have b5 : Blk (W3.setCell ⟨g, 3 + i * 4 + 3, none⟩ (.int .i64 ((of : Int) + (nn : Int)))) w.heap.size 78 _ := b3.far (p := ⟨g, 3 + i * 4 + 3, none⟩) hgg (.int .i64 ((of : Int) + (nn : Int)))
    obtain ⟨e0, e1, e2, e3, _⟩ := Blk.four (b5.set4 (.int .i64 (i : Int)) (.int .i64 ((landAt p i).gen : Int)) (.int .i64 (of : Int)) (.int .i64 (nn : Int)))
    refine bodyPost_ret (v := .tuple #[.agg #[.int .i64 (i : Int), .int .i64 ((landAt p i).gen : Int), .int .i64 (of : Int), .int .i64 (nn : Int)], .int .i64 0]) (by simp [results, Try.results29, go_sem, e0, e1, e2, e3]) rfl ?_
    rw [HE.out]
    exact ⟨rfl, S, Moved.finish HMV3.out HX3.out HLN.out hi (of + nn) hghS (Nat.le_refl _) (grown_set4 _ _ _ _ _ _)⟩
end Go.Proofs.Ytpaogoehgkoaeaa
namespace Go.Proofs.Ytpaogoehgkoaeaa
set_option linter.unusedVariables false
set_option linter.unusedSimpArgs false
open Go.RowKit
set_option maxRecDepth 100000 in
set_option maxHeartbeats 4000000 in
theorem Alloc_any (w : World) (S : Nat → Prop) (g : Nat) (p : PoolF) (r n a : Int) (h : PoolAt w S g p) (hp : PoolOk p) :
    Calls Try.prog 29 #[.pointer (some ⟨g, 0, none⟩), .int .i64 r, .int .i64 n, .int .i64 a] w fun e w' => e = .returned (.tuple #[hdv (allocF p r n a).1, .int .i64 ((allocF p r n a).2.1 : Int)]) ∧ ∃ S', Moved S g (allocF p r n a).2.2 w w' S' := by
  have HP := Lib.hid h
  have HLA := Lib.hid (fun w' (k : Gr w w') => land_any w' S g p r (h.gr k))
  have HOK := Lib.hid hp
  cases hl : landF p r with
  | none =>
    rw [hl] at HLA
    have HE := Lib.hid (show allocF p r n a = (noHd, 7, p) by unfold allocF; rw [hl])
    clear h hp hl
    go_enter Try.func29, Try.ntmps29
    go_wp2_with (first
      | (go_at_call 43; refine (HLA.out _ (Gr.alloc _ _)).mono ?_; rintro e w1 ⟨rfl, rfl⟩)
      | fail)
    obtain ⟨d0, d1, d2, d3, _⟩ := Blk.four (Blk.new w 78 #[.int .i64 0, .int .i64 0, .int .i64 0, .int .i64 0])
    refine bodyPost_ret (v := .tuple #[.agg #[.int .i64 0, .int .i64 0, .int .i64 0, .int .i64 0], .int .i64 7]) (by simp [results, Try.results29, go_sem, d0, d1, d2, d3]) rfl ?_
    rw [HE.out]
    exact ⟨rfl, S, (Moved.refl HP.out).gr (Gr.alloc _ _)⟩
  | some i =>
    rw [hl] at HLA
    obtain ⟨rfl, hi, hth⟩ := landF_some hl
    obtain ⟨ads, cs, adt, ct, A, C, bd, hx⟩ := h
    have hlk := hp.ld i hi
    have hsz1 := hp.s1
    have hsz2 := hp.s2
    have hcap := hlk.cap hp
    have hfl := hlk.fill_le
    have hlen := Nat.le_trans hlk.len hp.n2
    have hfil := hlk.fill
    have hx1 := hx.gr (Gr.alloc w (.cells #[.int .i64 0, .int .i64 0, .int .i64 0, .int .i64 0] 78))
    obtain ⟨c0, _, _⟩ := hx1.head
    obtain ⟨_, l1, l2, l3⟩ := hx1.lcell hi
    have HX := Lib.hid hx
    by_cases h1 : n < 1
    · have hbad : n < 1 ∨ n > (p.size : Int) ∨ alignOk a = false := .inl h1
      have HE := Lib.hid (show allocF p (i : Int) n a = (noHd, 1, p) by unfold allocF; rw [hl]; simp only; rw [if_pos hbad])
      clear hp hl hx hx1 hlk hfil hbad
      go_enter Try.func29, Try.ntmps29
      go_wp2_with (first
        | (go_at_call 43; refine (HLA.out _ (Gr.alloc _ _)).mono ?_; rintro e w1 ⟨rfl, rfl⟩)
        | fail)
      obtain ⟨d0, d1, d2, d3, _⟩ := Blk.four (Blk.new w 78 #[.int .i64 0, .int .i64 0, .int .i64 0, .int .i64 0])
      refine bodyPost_ret (v := .tuple #[.agg #[.int .i64 0, .int .i64 0, .int .i64 0, .int .i64 0], .int .i64 1]) (by simp [results, Try.results29, go_sem, d0, d1, d2, d3]) rfl ?_
      rw [HE.out]
      exact ⟨rfl, S, (Moved.refl HP.out).gr (Gr.alloc _ _)⟩
    · by_cases h2 : n > (p.size : Int)
      · have hbad : n < 1 ∨ n > (p.size : Int) ∨ alignOk a = false := .inr (.inl h2)
        have HE := Lib.hid (show allocF p (i : Int) n a = (noHd, 1, p) by unfold allocF; rw [hl]; simp only; rw [if_pos hbad])
        clear hp hl hx hx1 hlk hfil hbad
        go_enter Try.func29, Try.ntmps29
        go_wp2_with (first
          | (go_at_call 43; refine (HLA.out _ (Gr.alloc _ _)).mono ?_; rintro e w1 ⟨rfl, rfl⟩)
          | fail)
        obtain ⟨d0, d1, d2, d3, _⟩ := Blk.four (Blk.new w 78 #[.int .i64 0, .int .i64 0, .int .i64 0, .int .i64 0])
        refine bodyPost_ret (v := .tuple #[.agg #[.int .i64 0, .int .i64 0, .int .i64 0, .int .i64 0], .int .i64 1]) (by simp [results, Try.results29, go_sem, d0, d1, d2, d3]) rfl ?_
        rw [HE.out]
        exact ⟨rfl, S, (Moved.refl HP.out).gr (Gr.alloc _ _)⟩
      · by_cases h3 : a < 1
        · have hbad : n < 1 ∨ n > (p.size : Int) ∨ alignOk a = false := .inr (.inr (by cases hk : alignOk a with | false => rfl | true => have := alignOk_range hk; omega))
          have HE := Lib.hid (show allocF p (i : Int) n a = (noHd, 1, p) by unfold allocF; rw [hl]; simp only; rw [if_pos hbad])
          clear hp hl hx hx1 hlk hfil hbad
          go_enter Try.func29, Try.ntmps29
          go_wp2_with (first
            | (go_at_call 43; refine (HLA.out _ (Gr.alloc _ _)).mono ?_; rintro e w1 ⟨rfl, rfl⟩)
            | fail)
          obtain ⟨d0, d1, d2, d3, _⟩ := Blk.four (Blk.new w 78 #[.int .i64 0, .int .i64 0, .int .i64 0, .int .i64 0])
          refine bodyPost_ret (v := .tuple #[.agg #[.int .i64 0, .int .i64 0, .int .i64 0, .int .i64 0], .int .i64 1]) (by simp [results, Try.results29, go_sem, d0, d1, d2, d3]) rfl ?_
          rw [HE.out]
          exact ⟨rfl, S, (Moved.refl HP.out).gr (Gr.alloc _ _)⟩
        · by_cases h4 : a > 64
          · have hbad : n < 1 ∨ n > (p.size : Int) ∨ alignOk a = false := .inr (.inr (by cases hk : alignOk a with | false => rfl | true => have := alignOk_range hk; omega))
            have HE := Lib.hid (show allocF p (i : Int) n a = (noHd, 1, p) by unfold allocF; rw [hl]; simp only; rw [if_pos hbad])
            clear hp hl hx hx1 hlk hfil hbad
            go_enter Try.func29, Try.ntmps29
            go_wp2_with (first
              | (go_at_call 43; refine (HLA.out _ (Gr.alloc _ _)).mono ?_; rintro e w1 ⟨rfl, rfl⟩)
              | fail)
            obtain ⟨d0, d1, d2, d3, _⟩ := Blk.four (Blk.new w 78 #[.int .i64 0, .int .i64 0, .int .i64 0, .int .i64 0])
            refine bodyPost_ret (v := .tuple #[.agg #[.int .i64 0, .int .i64 0, .int .i64 0, .int .i64 0], .int .i64 1]) (by simp [results, Try.results29, go_sem, d0, d1, d2, d3]) rfl ?_
            rw [HE.out]
            exact ⟨rfl, S, (Moved.refl HP.out).gr (Gr.alloc _ _)⟩
          · rcases align_check (a := a) (by omega) (by omega) with ⟨e5, hk⟩ | ⟨e5, hk⟩
            · exact Alloc_good w S g p i n a HP.out hp hl h1 h2 h3 h4 e5 hk
            · have hbad : n < 1 ∨ n > (p.size : Int) ∨ alignOk a = false := .inr (.inr hk)
              obtain ⟨xx, hxx⟩ : ∃ xx, bits .and .i64 a (a - 1) = xx := ⟨_, rfl⟩
              rw [hxx] at e5
              have e6 : (xx != 0) = true := by simpa using e5
              clear e5
              clear hk
              have HE := Lib.hid (show allocF p (i : Int) n a = (noHd, 1, p) by unfold allocF; rw [hl]; simp only; rw [if_pos hbad])
              clear hp hl hx hx1 hlk hfil hbad
              go_enter Try.func29, Try.ntmps29
              go_wp2_with (first
                | (go_at_call 43; refine (HLA.out _ (Gr.alloc _ _)).mono ?_; rintro e w1 ⟨rfl, rfl⟩)
                | fail)
              obtain ⟨d0, d1, d2, d3, _⟩ := Blk.four (Blk.new w 78 #[.int .i64 0, .int .i64 0, .int .i64 0, .int .i64 0])
              refine bodyPost_ret (v := .tuple #[.agg #[.int .i64 0, .int .i64 0, .int .i64 0, .int .i64 0], .int .i64 1]) (by simp [results, Try.results29, go_sem, d0, d1, d2, d3]) rfl ?_
              rw [HE.out]
              exact ⟨rfl, S, (Moved.refl HP.out).gr (Gr.alloc _ _)⟩
end Go.Proofs.Ytpaogoehgkoaeaa
