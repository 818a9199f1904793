/- Layer 1 (region): what is stored in two parts, in either order, is what is stored at once. No walk here. -/
import Derived.Test.YtfnimpgphagnfaaRegionHands
namespace Go.Proofs.Ytfnimpgphagnfaa
set_option linter.unusedVariables false
set_option linter.unusedSimpArgs false
open Go.RowKit
theorem splice2 {L d : List UInt8} {c t1 t2 : Nat} {b1 b2 : List UInt8} (hL : L.length = d.length) (hc : c ≤ d.length) (h : (t1 = 0 ∧ b1 = d.take c ∧ t2 = c ∧ b2 = d.drop c) ∨ (t1 = c ∧ b1 = d.drop c ∧ t2 = 0 ∧ b2 = d.take c)) :
    (L.take t1 ++ b1 ++ L.drop (t1 + b1.length)).take t2 ++ b2 ++ (L.take t1 ++ b1 ++ L.drop (t1 + b1.length)).drop (t2 + b2.length) = d := by
  have l1 : (d.take c).length = c := by rw [List.length_take]; omega
  have l2 : (d.drop c).length = d.length - c := List.length_drop
  apply List.ext_getElem?
  intro m
  rcases h with ⟨rfl, rfl, rfl, rfl⟩ | ⟨rfl, rfl, rfl, rfl⟩
  · have hl : (L.take 0 ++ d.take t2 ++ L.drop (0 + (d.take t2).length)).length = d.length := by
      simp only [List.length_append, List.length_take, List.length_drop, l1]; omega
    rw [splice_get _ _ _ 0 (by rw [hl, l2]; omega), splice_get _ _ _ 0 (by rw [l1]; omega), l1, l2]
    by_cases a : t2 ≤ m ∧ m < t2 + (d.length - t2)
    · rw [if_pos a, List.getElem?_drop]; congr 1; omega
    · rw [if_neg a]
      by_cases b : 0 ≤ m ∧ m < 0 + t2
      · rw [if_pos b, List.getElem?_take, if_pos (by omega), Nat.sub_zero]
      · rw [if_neg b, List.getElem?_eq_none (by omega), List.getElem?_eq_none (by omega)]
  · have hl : (L.take t1 ++ d.drop t1 ++ L.drop (t1 + (d.drop t1).length)).length = d.length := by
      simp only [List.length_append, List.length_take, List.length_drop]; omega
    rw [splice_get _ _ _ 0 (by rw [hl, l1]; omega), splice_get _ _ _ 0 (by rw [l2]; omega), l1, l2]
    by_cases b : 0 ≤ m ∧ m < 0 + t1
    · rw [if_pos b, List.getElem?_take, if_pos (by omega), Nat.sub_zero]
    · rw [if_neg b]
      by_cases a : t1 ≤ m ∧ m < t1 + (d.length - t1)
      · rw [if_pos a, List.getElem?_drop]; congr 1; omega
      · rw [if_neg a, List.getElem?_eq_none (by omega), List.getElem?_eq_none (by omega)]
def pp0 : PoolF := newF 128 2
def pp1 : PoolF := (makeR pp0).2.2
theorem pe1 : makeR pp0 = (0, 0, pp1) := by kernel_rfl
theorem pl1 : landAt pp1 0 = ⟨true, 1, [], 0⟩ := by kernel_rfl
theorem pi1 : idleF pp1 = some 0 := by kernel_rfl
theorem ps1 : pp1.size = 128 := by kernel_rfl
theorem pb1 : pp1.bytes.length = 2 := by kernel_rfl
theorem pok0 : PoolOk pp0 := new_ok (by decide) (by decide) (by decide) (by decide) (by decide)
theorem pok1 : PoolOk pp1 := make_ok2 pok0
theorem pgen0 : ∀ i, i < 256 → (landAt pp0 i).gen ≤ 1000000000 := fun i _ => by unfold pp0; rw [landAt_new]; decide
theorem storeF_okk {p p' : PoolF} (hp : PoolOk p) {x : Hd} {t : Int} {b : List UInt8} {e : Nat} (h : storeF p x t b = (e, p')) : PoolOk p' := by
  have := store_ok hp x t b
  rw [h] at this
  exact this
theorem parts_law (d : List UInt8) (h1 : 1 ≤ d.length) (h2 : d.length ≤ 128) : ∃ p2 p3 y, allocF pp1 0 (d.length : Int) 1 = (⟨0, 1, 0, (d.length : Int)⟩, 0, p2) ∧ allocF p2 0 (d.length : Int) 1 = (y, 0, p3) ∧
    ∀ c t1 t2 b1 b2, c ≤ d.length → ((t1 = 0 ∧ b1 = d.take c ∧ t2 = c ∧ b2 = d.drop c) ∨ (t1 = c ∧ b1 = d.drop c ∧ t2 = 0 ∧ b2 = d.take c)) →
      ∃ p4 p5 p6 s ss B, storeF p3 ⟨0, 1, 0, (d.length : Int)⟩ (t1 : Int) b1 = (0, p4) ∧ storeF p4 ⟨0, 1, 0, (d.length : Int)⟩ (t2 : Int) b2 = (0, p5) ∧ storeF p5 y 0 d = (0, p6) ∧
        loadF p6 ⟨0, 1, 0, (d.length : Int)⟩ = (d, 0) ∧ loadF p6 y = (d, 0) ∧ slabsF p6 0 = (s :: ss, 0) ∧ rawF p6 (s : Int) = (B, 0) ∧ d.length ≤ B.length ∧ B.take d.length = d := by
  obtain ⟨p2, a1, a2, a3, a4, a5⟩ := alloc_fresh (i := 0) (s := 0) (n := (d.length : Int)) (a := 1) pok1 (by decide) (by rw [pl1]) (by rw [pl1]) (by omega) (by rw [ps1]; omega) (by decide) pi1
  rw [pl1] at a1 a2
  have a1 : allocF pp1 ((0 : Nat) : Int) (d.length : Int) 1 = (⟨0, 1, 0, (d.length : Int)⟩, 0, p2) := a1
  have a2 : landAt p2 0 = ⟨true, 1, [0], d.length⟩ := by rw [a2, Int.toNat_natCast]
  have hp2 : PoolOk p2 := by have := alloc_ok pok1 ((0 : Nat) : Int) (d.length : Int) 1; rw [a1] at this; exact this
  obtain ⟨i, o, hli, hx2, hn, _, _, _, _, _, hfo, _⟩ := alloc_pcs pok1 a1
  have hli' : landF pp1 ((0 : Nat) : Int) = some 0 := landF_of (by decide) (by rw [pl1])
  rw [hli'] at hli
  cases hli
  rw [Int.toNat_natCast] at hx2 hfo
  have ho : o = 0 := by have := hx2.off; simp only at this; omega
  subst ho
  have hl2 : landF p2 ((0 : Nat) : Int) = some 0 := landF_of (by decide) (by rw [a2])
  have hoth : ∀ j, j ≠ 0 → (landAt p2 j).slabs = [] := fun j hj => by
    rw [a3 j hj]
    obtain ⟨_, _, _, _, _, _, _, h8, _⟩ := make_pcs pok0 pe1
    rw [h8 j hj]
    unfold pp0
    rw [landAt_new]; rfl
  have hbl : p2.bytes.length = 2 := by rw [a5, pb1]
  rcases alloc_cases (p := p2) (r := 0) (n := (d.length : Int)) (a := 1) hl2 (by omega) (by rw [a4, ps1]; omega) (by decide) with ⟨y, p3, he⟩ | ⟨_, hid⟩
  · refine ⟨p2, p3, y, a1, he, fun c t1 t2 b1 b2 hc hcs => ?_⟩
    have hp3 : PoolOk p3 := by have := alloc_ok hp2 ((0 : Nat) : Int) (d.length : Int) 1; rw [he] at this; exact this
    obtain ⟨i, o, hli, hy, _, hfo2, hs3, hb3, hg3, hold, _, _⟩ := alloc_pcs hp2 he
    rw [hl2] at hli
    cases hli
    rw [Int.toNat_natCast] at hy
    rw [a2] at hfo2
    have hon : d.length ≤ o := by simpa using hfo2
    have hx3 := (hold _ _ _ _ hx2).1
    have lb1 : b1.length = c ∨ b1.length = d.length - c := by rcases hcs with ⟨_, e, _, _⟩ | ⟨_, e, _, _⟩ <;> rw [e] <;> simp <;> omega
    have f1 : t1 + b1.length ≤ d.length := by rcases hcs with ⟨e0, e, _, _⟩ | ⟨e0, e, _, _⟩ <;> rw [e0, e] <;> simp <;> omega
    have f2 : t2 + b2.length ≤ d.length := by rcases hcs with ⟨_, _, e0, e⟩ | ⟨_, _, e0, e⟩ <;> rw [e0, e] <;> simp <;> omega
    obtain ⟨p4, s1, z1, z2, _, z3, z4, z5⟩ := store_pcs hp3 hx3 t1 b1 f1
    have hp4 := storeF_okk hp3 s1
    have hx4 := (z5 _ _ _ _ hx3).1
    have hy4 := (z5 _ _ _ _ hy).1
    obtain ⟨p5, s2, y1, y2, _, y3, y4, y5⟩ := store_pcs hp4 hx4 t2 b2 f2
    have hp5 := storeF_okk hp4 s2
    have hx5 := (y5 _ _ _ _ hx4).1
    have hy5 := (y5 _ _ _ _ hy4).1
    obtain ⟨p6, s3, x1, x2, _, x3, x4, x5⟩ := store_pcs hp5 hy5 0 d (by omega)
    have hp6 := storeF_okk hp5 s3
    have hx6 := (x5 _ _ _ _ hx5).1
    have hd5 : loadF p5 ⟨0, 1, 0, (d.length : Int)⟩ = (d, 0) := by
      rw [y4, z4, splice2 (hx3.load_len hp3) hc hcs]
    have hd6 : loadF p6 ⟨0, 1, 0, (d.length : Int)⟩ = (d, 0) := by
      rw [(x5 _ _ _ _ hx5).2 (.inr (.inr (by omega))), hd5]
    have hy6 : loadF p6 y = (d, 0) := by
      have := hy5.load_len hp5
      rw [x4, Nat.zero_add, List.take_zero, List.nil_append, List.drop_eq_nil_of_le (by omega), List.append_nil]
    obtain ⟨q1, q2, q3⟩ := hx6.slab hp6
    rw [Nat.zero_div] at q1 q2
    obtain ⟨s, ss, hss⟩ : ∃ s ss, (landAt p6 0).slabs = s :: ss := by
      cases hq : (landAt p6 0).slabs with
      | nil => rw [hq] at q1; simp at q1
      | cons s ss => exact ⟨s, ss, rfl⟩
    have hso : slabOf p6 0 0 = s := by rw [hss] at q2; simpa using q2.symm
    rw [hso] at q3
    have hsz : p6.size = 128 := by rw [x1, y1, z1, hs3, a4, ps1]
    refine ⟨p4, p5, p6, s, ss, bytesAt p6 s, s1, s2, s3, hd6, hy6, ?_, ?_, by rw [bytesAt_len hp6 q3, hsz]; exact h2, ?_⟩
    · unfold slabsF
      rw [show ((0 : Int)) = ((0 : Nat) : Int) from rfl, landF_of (by decide) hx6.there]
      simp only
      rw [hss]
    · unfold rawF
      rw [if_neg (by omega), Int.toNat_natCast]
    · have := hx6.load
      rw [hd6, hso, Nat.zero_mod, List.drop_zero] at this
      exact (congrArg Prod.fst this).symm
  · exfalso
    have h0 := idleF_none hid 1 (by rw [hp2.tk, hbl]; decide)
    obtain ⟨j, hj, hm⟩ := (hp2.has 1 (by rw [hbl]; decide)).1 h0
    by_cases e : j = 0
    · rw [e, a2] at hm; simp at hm
    · rw [hoth j e] at hm; simp at hm
end Go.Proofs.Ytfnimpgphagnfaa
