/- Layer 1 (region): pieces that lie apart; each holds what was stored in it last. No walk here. -/
import Derived.Test.YtfnimpgphagnfaaRegionMark
namespace Go.Proofs.Ytfnimpgphagnfaa
set_option linter.unusedVariables false
set_option linter.unusedSimpArgs false
open Go.RowKit
def ri (x : Hd) : Nat := x.region.toNat
def oi (x : Hd) : Nat := x.off.toNat
def li (x : Hd) : Nat := x.len.toNat
theorem Pc.named {p : PoolF} {x : Hd} {i o l : Nat} (h : Pc p x i o l) : ri x = i ∧ oi x = o ∧ li x = l := ⟨by unfold ri; rw [h.reg]; rfl, by unfold oi; rw [h.off]; rfl, by unfold li; rw [h.len]; rfl⟩
/-- so many regions are there, and no slab is handed out -/
structure CJ (p : PoolF) (i : Nat) : Prop where
  sz : p.size = 128
  bl : p.bytes.length = 40
  there : ∀ j, j < 256 → ((landAt p j).there = true ↔ j < i)
  gen : ∀ j, j < 256 → (landAt p j).gen ≤ 1
  gen0 : ∀ j, j < 256 → i ≤ j → (landAt p j).gen = 0
theorem CJ.start : CJ (newF 128 40) 0 := ⟨rfl, List.length_replicate, fun j _ => by rw [landAt_new]; simp [noLand], fun j _ => by rw [landAt_new]; decide, fun j _ _ => by rw [landAt_new]; rfl⟩
theorem CJ.step {p : PoolF} {i : Nat} (hp : PoolOk p) (h : CJ p i) (hi : i < 256) : makeR p = (i, 0, makeAt p i) ∧ CJ (makeAt p i) (i + 1) := by
  have h0 : (landAt p i).there = false := by
    cases hc : (landAt p i).there with
    | false => rfl
    | true => have := (h.there i hi).1 hc; omega
  have hm := makeF_is hi h0 (fun j hj => (h.there j (by omega)).2 hj)
  have hmk : makeR p = (i, 0, makeAt p i) := by unfold makeR; rw [hm]
  obtain ⟨_, _, _, e1, e2, _, e4, e5, _⟩ := make_pcs hp hmk
  refine ⟨hmk, by rw [e1]; exact h.sz, by rw [e2]; exact h.bl, fun j hj => ?_, fun j hj => ?_, fun j hj hij => ?_⟩
  · by_cases e : j = i
    · rw [e, e4]; simp
    · rw [e5 j e, h.there j hj]; omega
  · by_cases e : j = i
    · rw [e, e4, h.gen0 i hi (Nat.le_refl _)]; decide
    · rw [e5 j e]; exact h.gen j hj
  · rw [e5 j (by omega)]; exact h.gen0 j hj (by omega)
/-- pieces that lie apart -/
structure Aps (p : PoolF) (D : List Hd) : Prop where
  sz : p.size = 128
  there : ∀ j, j < 3 → (landAt p j).there = true
  pc : ∀ x ∈ D, Pc p x (ri x) (oi x) (li x)
  apart : D.Pairwise fun x y => ri x = ri y → oi x + li x ≤ oi y
theorem Aps.start {p : PoolF} (h : CJ p 3) : Aps p [] := ⟨h.sz, fun j hj => (h.there j (by omega)).2 hj, (fun x hx => absurd hx List.not_mem_nil), List.Pairwise.nil⟩
theorem Aps.len {p : PoolF} {D : List Hd} (h : Aps p D) {x : Hd} (hx : x ∈ D) : x.len = ((li x : Nat) : Int) ∧ 1 ≤ li x ∧ li x ≤ 128 := by
  have hp := h.pc x hx
  have h1 := hp.ins
  rw [h.sz] at h1
  exact ⟨hp.len, hp.one, by omega⟩
theorem Aps.alloc {p : PoolF} {D : List Hd} (hp : PoolOk p) (h : Aps p D) {r n c : Nat} (hr : r < 3) (hn : 1 ≤ n) (hn2 : n ≤ 128) (hc : c < 7) :
    (∃ y p', allocF p (r : Int) (n : Int) ((2 ^ c : Nat) : Int) = (y, 0, p') ∧ Aps p' (D ++ [y])) ∨ allocF p (r : Int) (n : Int) ((2 ^ c : Nat) : Int) = (noHd, 5, p) := by
  have hal : alignOk ((2 ^ c : Nat) : Int) = true := by
    have : ∀ c : Fin 7, alignOk ((2 ^ c.val : Nat) : Int) = true := by decide
    exact this ⟨c, hc⟩
  have hl := landF_of (p := p) (i := r) (by omega) (h.there r hr)
  rcases alloc_cases (n := (n : Int)) (a := ((2 ^ c : Nat) : Int)) hl (by omega) (by rw [h.sz]; omega) hal with ⟨y, p', he⟩ | ⟨he, _⟩
  · left
    refine ⟨y, p', he, ?_⟩
    obtain ⟨i, o, hli, hpc, _, hfo, hs, hbl, hg, hold, hfi, _⟩ := alloc_pcs hp he
    rw [hl] at hli
    cases hli
    obtain ⟨n1, n2, n3⟩ := hpc.named
    refine ⟨by rw [hs]; exact h.sz, fun j hj => by rw [(hg j (by omega)).there]; exact h.there j hj, fun x hx => ?_, ?_⟩
    · rcases List.mem_append.1 hx with hx | hx
      · exact (hold x _ _ _ (h.pc x hx)).1
      · rw [List.mem_singleton] at hx
        subst hx
        rw [n1, n2, n3]; exact hpc
    · rw [List.pairwise_append]
      refine ⟨h.apart, List.pairwise_singleton _ _, fun x hx z hz => ?_⟩
      rw [List.mem_singleton] at hz
      subst hz
      intro e
      have hx' := (h.pc x hx).fit
      rw [e, n1] at hx'
      rw [n2]
      exact Nat.le_trans hx' hfo
  · exact .inr he
theorem Aps.off {p : PoolF} {D : List Hd} (h : Aps p D) {j k : Nat} (hj : j < D.length) (hk : k < D.length) (hne : j ≠ k) : ri D[j] ≠ ri D[k] ∨ oi D[j] + li D[j] ≤ oi D[k] ∨ oi D[k] + li D[k] ≤ oi D[j] := by
  have hpw := List.pairwise_iff_getElem.1 h.apart
  by_cases e : ri D[j] = ri D[k]
  · right
    rcases Nat.lt_or_gt_of_ne hne with hlt | hlt
    · exact .inl (hpw j k hj hk hlt e)
    · exact .inr (hpw k j hk hj hlt e.symm)
  · exact .inl e
/-- the first m hold what was stored in this round -/
def HeldD (p : PoolF) (D : List Hd) (r : Nat) (l : List UInt8) (m : Nat) : Prop := ∀ j (h : j < D.length), j < m → loadF p D[j] = (markF j r l (li D[j]), 0)
theorem HeldD.start {p : PoolF} {D : List Hd} {r : Nat} {l : List UInt8} : HeldD p D r l 0 := fun _ _ h => absurd h (by omega)
theorem HeldD.step {p : PoolF} {D : List Hd} {r : Nat} {l : List UInt8} {m : Nat} (hp : PoolOk p) (h : Aps p D) (hh : HeldD p D r l m) (hm : m < D.length) :
    ∃ p', storeF p D[m] 0 (markF m r l (li D[m])) = (0, p') ∧ Aps p' D ∧ HeldD p' D r l (m + 1) := by
  have hx := h.pc D[m] (List.getElem_mem hm)
  have hlm := markF_len m r l (li D[m])
  obtain ⟨p', h1, h2, h3, h4, h5, h6, h7⟩ := store_pcs hp hx 0 (markF m r l (li D[m])) (by rw [hlm]; omega)
  refine ⟨p', h1, ⟨by rw [h2]; exact h.sz, fun j hj => by unfold landAt; rw [h5]; exact h.there j hj, fun x hx' => (h7 x _ _ _ (h.pc x hx')).1, h.apart⟩, fun j hj hjm => ?_⟩
  by_cases e : j = m
  · subst e
    have hl := hx.load_len hp
    rw [h6, hlm, Nat.zero_add, List.take_zero, List.nil_append, List.drop_eq_nil_of_le (by omega), List.append_nil]
  · rw [(h7 D[j] _ _ _ (h.pc _ (List.getElem_mem hj))).2 (h.off hm hj (fun e' => e e'.symm))]
    exact hh j hj (by omega)
end Go.Proofs.Ytfnimpgphagnfaa
