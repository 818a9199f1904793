/- Layer 1 (region): what RegionStale keeps of its pool. No walk here. -/
import Derived.Test.YtfnimpgphagnfaaRegionHands
namespace Go.Proofs.Ytfnimpgphagnfaa
set_option linter.unusedVariables false
set_option linter.unusedSimpArgs false
open Go.RowKit
/-- a handle of a region that is there no longer -/
def Dead (p : PoolF) (x : Hd) : Prop := ∃ i g : Nat, i < 256 ∧ x.region = (i : Int) ∧ x.gen = (g : Int) ∧ g ≤ (landAt p i).gen ∧ ((landAt p i).there = true → g < (landAt p i).gen)
theorem Dead.piece {p : PoolF} {x : Hd} (h : Dead p x) : pieceF p x = ((0, 0), 3) := by
  obtain ⟨i, g, hi, e1, e2, h1, h2⟩ := h
  refine stale_load ?_
  cases hth : (landAt p i).there with
  | false =>
    left
    unfold landF
    rw [if_neg]
    rw [e1, Int.toNat_natCast, hth]
    simp
  | true =>
    right
    refine ⟨i, by rw [e1]; exact landF_of hi hth, ?_⟩
    have := h2 hth
    rw [e2]; omega
theorem Dead.load {p : PoolF} {x : Hd} (h : Dead p x) : loadF p x = ([], 3) := by unfold loadF; rw [h.piece]; rfl
theorem Dead.store {p : PoolF} {x : Hd} (h : Dead p x) (t : Int) (b : List UInt8) : storeF p x t b = (3, p) := by unfold storeF; rw [h.piece]; rfl
structure StaleI (p : PoolF) (L : Nat → Hd) (T : Nat → Bool) (D : List Hd) (n : Nat) : Prop where
  sz : p.size = 64
  bl : p.bytes.length = 8
  live : ∀ k, k < 4 → T k = true → ∃ i l, Pc p (L k) i 0 l ∧ (landAt p i).slabs.length = 1 ∧ (loadF p (L k)).1[0]? = some (UInt8.ofNat k)
  inj : ∀ k k', k < 4 → k' < 4 → T k = true → T k' = true → (L k).region = (L k').region → k = k'
  all : ∀ i, i < 256 → (landAt p i).there = true → ∃ k : Nat, k < 4 ∧ T k = true ∧ (L k).region = (i : Int)
  dead : ∀ x ∈ D, Dead p x
  gen : ∀ i, i < 256 → (landAt p i).gen ≤ n
section
variable {p : PoolF} {L : Nat → Hd} {T : Nat → Bool} {D : List Hd} {n : Nat}
theorem StaleI.start : StaleI (newF 64 8) (fun _ => noHd) (fun _ => false) [] 0 :=
  ⟨rfl, List.length_replicate, fun k _ h => (by cases h), fun _ _ _ _ h => (by cases h), fun i _ h => (by rw [landAt_new] at h; cases h), fun x h => (by cases h), fun i _ => by rw [landAt_new]; exact Nat.le_refl _⟩
/-- of five distinct things that four numbers stand for two are one -/
theorem pigeon (f : Nat → Nat) (h1 : ∀ i, i < 5 → f i < 4) (h2 : ∀ i j, i < 5 → j < 5 → f i = f j → i = j) : False := by
  have a0 := h1 0 (by omega); have a1 := h1 1 (by omega); have a2 := h1 2 (by omega); have a3 := h1 3 (by omega); have a4 := h1 4 (by omega)
  have b01 := h2 0 1 (by omega) (by omega); have b02 := h2 0 2 (by omega) (by omega); have b03 := h2 0 3 (by omega) (by omega); have b04 := h2 0 4 (by omega) (by omega)
  have b12 := h2 1 2 (by omega) (by omega); have b13 := h2 1 3 (by omega) (by omega); have b14 := h2 1 4 (by omega) (by omega)
  have b23 := h2 2 3 (by omega) (by omega); have b24 := h2 2 4 (by omega) (by omega); have b34 := h2 3 4 (by omega) (by omega)
  omega
theorem StaleI.room (h : StaleI p L T D n) : ∃ r, makeF p = some r := by
  cases hm : makeF p with
  | some r => exact ⟨r, rfl⟩
  | none =>
    exfalso
    have hall := makeF_none hm
    have hex : ∀ i : Nat, ∃ k : Nat, i < 5 → k < 4 ∧ (L k).region = (i : Int) := fun i => by
      by_cases hi : i < 5
      · obtain ⟨k, h1, _, h3⟩ := h.all i (by omega) (hall i (by omega))
        exact ⟨k, fun _ => ⟨h1, h3⟩⟩
      · exact ⟨0, fun x => absurd x hi⟩
    obtain ⟨f, hf⟩ := Classical.axiomOfChoice hex
    exact pigeon f (fun i hi => (hf i hi).1) (fun i j hi hj e => by
      have h1 := (hf i hi).2
      have h2 := (hf j hj).2
      rw [e, h2] at h1
      omega)
theorem StaleI.idle (hp : PoolOk p) (h : StaleI p L T D n) : ∃ s, idleF p = some s := by
  cases hm : idleF p with
  | some r => exact ⟨r, rfl⟩
  | none =>
    exfalso
    have hall := idleF_none hm
    have htl : p.taken.length = 8 := by rw [hp.tk, h.bl]
    have hex : ∀ s : Nat, ∃ k : Nat, s < 5 → k < 4 ∧ ∃ i : Nat, i < 256 ∧ (L k).region = (i : Int) ∧ s ∈ (landAt p i).slabs ∧ (landAt p i).slabs.length = 1 := fun s => by
      by_cases hs : s < 5
      · obtain ⟨i, hi, hm⟩ := (hp.has s (by rw [h.bl]; omega)).1 (hall s (by omega))
        have hth : (landAt p i).there = true := by
          cases hc : (landAt p i).there with
          | true => rfl
          | false => rw [(hp.ld i hi).away hc] at hm; cases hm
        obtain ⟨k, h1, h2, h3⟩ := h.all i hi hth
        obtain ⟨j, l, hpc, hl1, _⟩ := h.live k h1 h2
        have : j = i := by have := hpc.reg; rw [h3] at this; omega
        subst this
        exact ⟨k, fun _ => ⟨h1, j, hi, h3, hm, hl1⟩⟩
      · exact ⟨0, fun x => absurd x hs⟩
    obtain ⟨f, hf⟩ := Classical.axiomOfChoice hex
    exact pigeon f (fun i hi => (hf i hi).1) (fun i j hi hj e => by
      obtain ⟨_, a, _, ha, hma, hla⟩ := hf i hi
      obtain ⟨_, b, _, hb, hmb, hlb⟩ := hf j hj
      rw [e, hb] at ha
      have : a = b := by omega
      subst this
      obtain ⟨z, hz⟩ := List.length_eq_one_iff.1 hla
      rw [hz, List.mem_singleton] at hma hmb
      rw [hma, hmb])
/-- a region is freed -/
theorem StaleI.free (hp : PoolOk p) (h : StaleI p L T D n) {k : Nat} (hk : k < 4) (hT : T k = true) : ∃ p', freeF p (L k).region = (0, p') ∧ freeF p' (L k).region = (7, p') ∧ StaleI p' L (upd T k false) (D ++ [L k]) n := by
  obtain ⟨i, l, hpc, hl1, hld⟩ := h.live k hk hT
  obtain ⟨p', h1, h2, h3, h4, h5, h6, h7, h8, h9⟩ := free_pcs hp hpc.hi hpc.there
  refine ⟨p', by rw [hpc.reg]; exact h1, ?_, by rw [h2]; exact h.sz, by rw [h3]; exact h.bl, fun q hq hTq => ?_, fun a b ha hb hTa hTb => ?_, fun j hj hth => ?_, fun x hx => ?_, fun j hj => ?_⟩
  · have : landF p' (L k).region = none := by
      rw [hpc.reg]; unfold landF; rw [if_neg]; rw [Int.toNat_natCast, h4]; simp
    unfold freeF; rw [this]
  · have hqk : q ≠ k := fun e => by rw [e, upd_same] at hTq; cases hTq
    rw [upd_other _ _ hqk] at hTq
    obtain ⟨j, l', hq1, hq2, hq3⟩ := h.live q hq hTq
    have hji : j ≠ i := fun e => hqk (h.inj q k hq hk hTq hT (by rw [hq1.reg, hpc.reg, e]))
    obtain ⟨g1, g2⟩ := h9 (L q) j 0 l' hq1 hji
    exact ⟨j, l', g1, by rw [h5 j hji]; exact hq2, by rw [g2]; exact hq3⟩
  · have hak : a ≠ k := fun e => by rw [e, upd_same] at hTa; cases hTa
    have hbk : b ≠ k := fun e => by rw [e, upd_same] at hTb; cases hTb
    rw [upd_other _ _ hak] at hTa
    rw [upd_other _ _ hbk] at hTb
    exact h.inj a b ha hb hTa hTb
  · have hji : j ≠ i := fun e => by rw [e, h4] at hth; cases hth
    rw [h5 j hji] at hth
    obtain ⟨q, q1, q2, q3⟩ := h.all j hj hth
    have hqk : q ≠ k := fun e => by rw [e, hpc.reg] at q3; omega
    exact ⟨q, q1, by rw [upd_other _ _ hqk]; exact q2, q3⟩
  · rcases List.mem_append.1 hx with hx | hx
    · obtain ⟨j, g, a1, a2, a3, a4, a5⟩ := h.dead x hx
      refine ⟨j, g, a1, a2, a3, ?_, fun hth => ?_⟩
      · by_cases e : j = i
        · rw [e, h4]; rw [e] at a4; exact a4
        · rw [h5 j e]; exact a4
      · by_cases e : j = i
        · rw [e, h4] at hth; cases hth
        · rw [h5 j e] at hth ⊢; exact a5 hth
    · rw [List.mem_singleton] at hx
      subst hx
      exact ⟨i, (landAt p i).gen, hpc.hi, hpc.reg, hpc.gen, by rw [h4]; exact Nat.le_refl _, fun hth => by rw [h4] at hth; cases hth⟩
  · by_cases e : j = i
    · rw [e, h4]; exact h.gen i hpc.hi
    · rw [h5 j e]; exact h.gen j hj
/-- a region is made, a piece of it is stored in -/
theorem StaleI.make (hp : PoolOk p) (h : StaleI p L T D n) {k m : Nat} (hk : k < 4) (hT : T k = false) (hm1 : 1 ≤ m) (hm2 : m ≤ 64) :
    ∃ (r : Nat) (x : Hd) (p1 p2 p3 : PoolF), makeR p = (r, 0, p1) ∧ allocF p1 (r : Int) (m : Int) 1 = (x, 0, p2) ∧ storeF p2 x 0 [UInt8.ofNat k] = (0, p3) ∧ StaleI p3 (upd L k x) (upd T k true) D (n + 1) := by
  obtain ⟨r, hr⟩ := h.room
  have hmk : makeR p = (r, 0, makeAt p r) := by unfold makeR; rw [hr]
  obtain ⟨hr2, hth0, _, e1, e2, e3, e4, e5, e6⟩ := make_pcs hp hmk
  have hp1 : PoolOk (makeAt p r) := by have := make_ok2 hp; rw [hmk] at this; exact this
  obtain ⟨s, hs⟩ := h.idle hp
  have hs1 : idleF (makeAt p r) = some s := hs
  have hsl : (landAt (makeAt p r) r).slabs = [] := by rw [e4]
  have hth1 : (landAt (makeAt p r) r).there = true := by rw [e4]
  obtain ⟨p2, a1, a2, a3, a4, a5⟩ := alloc_fresh (n := (m : Int)) (a := 1) hp1 hr2 hth1 hsl (by omega) (by rw [e1, h.sz]; omega) (by decide) hs1
  obtain ⟨x, hx⟩ : ∃ x : Hd, x = ⟨(r : Int), ((landAt (makeAt p r) r).gen : Int), 0, (m : Int)⟩ := ⟨_, rfl⟩
  rw [← hx] at a1
  have hp2 : PoolOk p2 := by have := alloc_ok hp1 (r : Int) (m : Int) 1; rw [a1] at this; exact this
  obtain ⟨_, _, _, _, _, _, _, _, _, b1, _, _⟩ := alloc_pcs hp1 a1
  have hpx : Pc p2 x r 0 m := by
    refine ⟨by rw [a2], hr2, by rw [hx], by rw [hx, a2], by rw [hx]; rfl, by rw [hx], hm1, by rw [a2]; simp, ?_⟩
    rw [a4, e1, h.sz]; simpa using hm2
  obtain ⟨p3, c1, c2, c3, c4, c5, c6, c7⟩ := store_pcs hp2 hpx 0 [UInt8.ofNat k] (by simpa using hm1)
  have hl3 : ∀ j, landAt p3 j = landAt p2 j := fun j => by unfold landAt; rw [c5]
  have hother : ∀ q, q ≠ k → T q = true → q < 4 → ∃ j l', j ≠ r ∧ Pc p (L q) j 0 l' ∧ (landAt p j).slabs.length = 1 ∧ (loadF p (L q)).1[0]? = some (UInt8.ofNat q) := fun q _ hTq hq => by
    obtain ⟨j, l', q1, q2, q3⟩ := h.live q hq hTq
    exact ⟨j, l', (e6 _ j 0 l' q1).1, q1, q2, q3⟩
  refine ⟨r, x, _, p2, p3, hmk, a1, c1, by rw [c2, a4, e1]; exact h.sz, by rw [c3, a5]; show p.bytes.length = 8; exact h.bl, fun q hq hTq => ?_, fun a b ha hb hTa hTb hreg => ?_, fun j hj hth => ?_, fun y hy => ?_, fun j hj => ?_⟩
  · by_cases e : q = k
    · subst e
      rw [upd_same]
      refine ⟨r, m, (c7 x r 0 m hpx).1, by rw [hl3, a2]; rfl, ?_⟩
      rw [c6]
      simp
    · rw [upd_other _ _ e] at hTq ⊢
      obtain ⟨j, l', hjr, q1, q2, q3⟩ := hother q e hTq hq
      obtain ⟨_, g1, g2⟩ := e6 _ j 0 l' q1
      obtain ⟨g3, g4⟩ := b1 _ j 0 l' g1
      obtain ⟨g5, g6⟩ := c7 _ j 0 l' g3
      refine ⟨j, l', g5, by rw [hl3, a3 j hjr, e5 j hjr]; exact q2, ?_⟩
      rw [g6 (.inl (fun e => hjr e.symm)), g4, g2]; exact q3
  · by_cases ea : a = k
    · by_cases eb : b = k
      · omega
      · subst ea
        rw [upd_same, upd_other _ _ eb] at hreg
        rw [upd_other _ _ eb] at hTb
        obtain ⟨j, l', hjr, q1, _⟩ := hother b eb hTb hb
        rw [q1.reg, hpx.reg] at hreg
        omega
    · rw [upd_other _ _ ea] at hTa hreg
      by_cases eb : b = k
      · subst eb
        rw [upd_same] at hreg
        obtain ⟨j, l', hjr, q1, _⟩ := hother a ea hTa ha
        rw [q1.reg, hpx.reg] at hreg
        omega
      · rw [upd_other _ _ eb] at hTb hreg
        exact h.inj a b ha hb hTa hTb hreg
  · by_cases e : j = r
    · subst e
      exact ⟨k, hk, upd_same _ _ _, by rw [upd_same]; exact hpx.reg⟩
    · rw [hl3, a3 j e, e5 j e] at hth
      obtain ⟨q, q1, q2, q3⟩ := h.all j hj hth
      have hqk : q ≠ k := fun e => by rw [e, hT] at q2; cases q2
      exact ⟨q, q1, by rw [upd_other _ _ hqk]; exact q2, by rw [upd_other _ _ hqk]; exact q3⟩
  · obtain ⟨j, g, d1, d2, d3, d4, d5⟩ := h.dead y hy
    refine ⟨j, g, d1, d2, d3, ?_, fun hth => ?_⟩
    · by_cases e : j = r
      · subst e; rw [hl3, a2, e4]; show g ≤ (landAt p j).gen + 1; omega
      · rw [hl3, a3 j e, e5 j e]; exact d4
    · by_cases e : j = r
      · subst e; rw [hl3, a2, e4]; show g < (landAt p j).gen + 1; omega
      · rw [hl3, a3 j e, e5 j e] at hth ⊢; exact d5 hth
  · by_cases e : j = r
    · subst e; rw [hl3, a2, e4]; have := h.gen j hj; show (landAt p j).gen + 1 ≤ n + 1; omega
    · rw [hl3, a3 j e, e5 j e]; have := h.gen j hj; omega
end
end Go.Proofs.Ytfnimpgphagnfaa
