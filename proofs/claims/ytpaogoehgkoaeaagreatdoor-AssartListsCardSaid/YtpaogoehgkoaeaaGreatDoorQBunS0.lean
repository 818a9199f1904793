/- A region that draws its order, in which several operations end a phase each: what is needed ahead of each is known to be done in its phase. No program is in sight here. -/
import Derived.Test.YtpaogoehgkoaeaaGreatDoorQBunB2
import Derived.Test.YtpaogoehgkoaeaaGreatDoorQBunB4
import Derived.Test.YtpaogoehgkoaeaaGreatDoorQBunB3
import Derived.Test.YtpaogoehgkoaeaaGreatDoorQBunB1
import Derived.Test.YtpaogoehgkoaeaaGreatDoorQBunB0
/- Layer 11 (skip): a list's nodes in a pool; what a new node and a new link change. No program is in sight here. -/
namespace Go.Proofs.YtpaogoehgkoaeaaGreatDoor
set_option linter.unusedVariables false
set_option linter.unusedSimpArgs false
open Go.RowKit Ikey Varint
/-- a node's piece -/
def nh (r gen : Nat) (x : Nd) : Hd := ⟨(r : Int), (gen : Int), (x.off : Int), (x.size : Int)⟩
structure NdOk (x : Nd) : Prop where
  t1 : 1 ≤ x.t
  t2 : x.t ≤ 12
  ht : x.h ≤ x.t
  ok : okV x.c.key x.c.seq x.c.kind = true
  vl : x.c.val.length ≤ 1000
  sz : x.size = 5 + 8 * x.t + (x.c.key.length + 8 + x.c.val.length)
def Apt (a b : Nd) : Prop := a.off + a.size ≤ b.off ∨ b.off + b.size ≤ a.off
def Asc (a b : Nd) : Prop := vless a.c.vr b.c.vr = true
/-- the nodes of a list, in a pool -/
structure SkSt (p : PoolF) (r gen : Nat) (hd : Nat → Nat × Nat) (N : List Nd) : Prop where
  hr : r < 256
  there : (landAt p r).there = true
  sz : 2048 ≤ p.size
  heads : ∀ k, k < 12 → hd k = linkF (firstN k N)
  node : ∀ x ∈ N, NdOk x ∧ Pc p (nh r gen x) r x.off x.size
  ld : ∀ a x b, N = a ++ x :: b → loadF p (nh r gen x) = (nodeB x.t (fun k => linkF (firstN k b)) x.c, 0)
  sorted : N.Pairwise Asc
  apart : N.Pairwise Apt
/-- what a list's call leaves of a pool for others -/
structure Kp (r : Nat) (p p' : PoolF) : Prop where
  size : p'.size = p.size
  len : p'.bytes.length = p.bytes.length
  land : ∀ j, j ≠ r → landAt p' j = landAt p j
  there : (landAt p' r).there = (landAt p r).there
  gen : (landAt p' r).gen = (landAt p r).gen
  pcs : ∀ y j o l, j ≠ r → Pc p y j o l → Pc p' y j o l ∧ loadF p' y = loadF p y
theorem Kp.refl (r : Nat) (p : PoolF) : Kp r p p := ⟨rfl, rfl, fun _ _ => rfl, rfl, rfl, fun _ _ _ _ _ h => ⟨h, rfl⟩⟩
theorem Kp.trans {r : Nat} {p q s : PoolF} (h : Kp r p q) (k : Kp r q s) : Kp r p s :=
  ⟨k.size.trans h.size, k.len.trans h.len, fun j hj => (k.land j hj).trans (h.land j hj), k.there.trans h.there, k.gen.trans h.gen, fun y j o l hj hy => by
    obtain ⟨h1, h2⟩ := h.pcs y j o l hj hy
    obtain ⟨k1, k2⟩ := k.pcs y j o l hj h1
    exact ⟨k1, k2.trans h2⟩⟩
theorem split3 {α : Type} : ∀ {A B a b : List α} {x y : α}, A ++ x :: B = a ++ y :: b → (∃ c, A = a ++ y :: c ∧ b = c ++ x :: B) ∨ (A = a ∧ x = y ∧ B = b) ∨ (∃ c, B = c ++ y :: b ∧ a = A ++ x :: c)
  | [], B, [], b, x, y, h => by
    rw [List.nil_append, List.nil_append] at h
    exact .inr (.inl ⟨rfl, (List.cons.inj h).1, (List.cons.inj h).2⟩)
  | [], B, z :: a, b, x, y, h => by
    rw [List.nil_append, List.cons_append] at h
    obtain ⟨rfl, h2⟩ := List.cons.inj h
    exact .inr (.inr ⟨a, h2, rfl⟩)
  | z :: A, B, [], b, x, y, h => by
    rw [List.nil_append, List.cons_append] at h
    obtain ⟨rfl, h2⟩ := List.cons.inj h
    exact .inl ⟨A, rfl, h2.symm⟩
  | z :: A, B, v :: a, b, x, y, h => by
    rw [List.cons_append, List.cons_append] at h
    obtain ⟨rfl, h2⟩ := List.cons.inj h
    rcases split3 h2 with ⟨c, h3, h4⟩ | ⟨h3, h4, h5⟩ | ⟨c, h3, h4⟩
    · exact .inl ⟨c, by rw [h3]; rfl, h4⟩
    · exact .inr (.inl ⟨by rw [h3], h4, h5⟩)
    · exact .inr (.inr ⟨c, h3, by rw [h4]; rfl⟩)
theorem pair_mid {α : Type} {R : α → α → Prop} {A B : List α} {x : α} (h : (A ++ B).Pairwise R) (h1 : ∀ a ∈ A, R a x) (h2 : ∀ b ∈ B, R x b) : (A ++ x :: B).Pairwise R := by
  rw [List.pairwise_append] at h ⊢
  obtain ⟨a1, a2, a3⟩ := h
  refine ⟨a1, List.pairwise_cons.2 ⟨h2, a2⟩, fun a ha b hb => ?_⟩
  rcases List.mem_cons.1 hb with rfl | hb
  · exact h1 a ha
  · exact a3 a ha b hb
theorem pair_at {α : Type} {R : α → α → Prop} {A B : List α} {x : α} (h : (A ++ x :: B).Pairwise R) : (∀ a ∈ A, R a x) ∧ ∀ b ∈ B, R x b := by
  rw [List.pairwise_append, List.pairwise_cons] at h
  exact ⟨fun a ha => h.2.2 a ha x List.mem_cons_self, h.2.1.1⟩
theorem pair_out {α : Type} {R : α → α → Prop} {A B : List α} {x : α} (h : (A ++ x :: B).Pairwise R) : (A ++ B).Pairwise R := by
  rw [List.pairwise_append, List.pairwise_cons] at h
  rw [List.pairwise_append]
  exact ⟨h.1, h.2.1.2, fun a ha b hb => h.2.2 a ha b (List.mem_cons_of_mem _ hb)⟩
/-- a node that is seen by one level more -/
def Nd.up (x : Nd) : Nd := { x with h := x.h + 1 }
theorem put_link (k : Nat) (c B : List Nd) (x : Nd) : linkF (firstN k (c ++ x.up :: B)) = if k = x.h ∧ ∀ n ∈ c, n.h ≤ k then (x.off, x.size) else linkF (firstN k (c ++ x :: B)) := by
  have hu : x.up.h = x.h + 1 := rfl
  rw [firstN_put, firstN_put, hu]
  by_cases hn : (firstN k c).isNone = true
  · have hn' : firstN k c = none := by simpa using hn
    have hall := firstN_none.1 hn'
    by_cases hk : k = x.h
    · have e1 : (firstN k c).isNone = true ∧ k < x.h + 1 := ⟨hn, by omega⟩
      have e2 : k = x.h ∧ ∀ n ∈ c, n.h ≤ k := ⟨hk, hall⟩
      rw [if_pos e1, if_pos e2]
      rfl
    · have e2 : ¬ (k = x.h ∧ ∀ n ∈ c, n.h ≤ k) := fun e => hk e.1
      rw [if_neg e2]
      by_cases hlt : k < x.h
      · have e1 : (firstN k c).isNone = true ∧ k < x.h + 1 := ⟨hn, by omega⟩
        have e3 : (firstN k c).isNone = true ∧ k < x.h := ⟨hn, hlt⟩
        rw [if_pos e1, if_pos e3]
        rfl
      · have e1 : ¬ ((firstN k c).isNone = true ∧ k < x.h + 1) := fun e => by have := e.2; omega
        have e3 : ¬ ((firstN k c).isNone = true ∧ k < x.h) := fun e => hlt e.2
        rw [if_neg e1, if_neg e3]
  · have e2 : ¬ (k = x.h ∧ ∀ n ∈ c, n.h ≤ k) := fun e => hn (by rw [firstN_none.2 e.2]; rfl)
    have e1 : ¬ ((firstN k c).isNone = true ∧ k < x.h + 1) := fun e => hn e.1
    have e3 : ¬ ((firstN k c).isNone = true ∧ k < x.h) := fun e => hn e.1
    rw [if_neg e1, if_neg e2, if_neg e3]
theorem hide_link (k : Nat) (c B : List Nd) (x : Nd) (h : x.h = 0) : firstN k (c ++ x :: B) = firstN k (c ++ B) := by
  rw [firstN_put, if_neg (fun ⟨_, e⟩ => by omega)]
/-- what Alloc leaves -/
theorem alloc_land {p p' : PoolF} (hp : PoolOk p) {r : Nat} {n a : Int} {y : Hd} {e : Nat} (he : allocF p (r : Int) n a = (y, e, p')) : ∀ j, j ≠ r → landAt p' j = landAt p j := by
  intro j hj
  unfold allocF at he
  cases hl : landF p (r : Int) with
  | none =>
    rw [hl] at he
    simp only [Prod.mk.injEq] at he
    rw [← he.2.2]
  | some i =>
    obtain ⟨e0, hi, hth⟩ := landF_some hl
    have hir : r = i := by omega
    subst hir
    rw [hl] at he
    simp only at he
    split at he
    · simp only [Prod.mk.injEq] at he; rw [← he.2.2]
    · split at he
      · split at he
        · simp only [Prod.mk.injEq] at he; rw [← he.2.2]
        · rename_i s _
          simp only [Prod.mk.injEq] at he
          rw [← he.2.2, landAt_fill (grow_lands hp r s) hi, if_neg (fun x => hj x.symm), landAt_grow hp hi, if_neg (fun x => hj x.symm)]
      · simp only [Prod.mk.injEq] at he
        rw [← he.2.2, landAt_fill hp.ln hi, if_neg (fun x => hj x.symm)]
theorem filter_set_le : ∀ (l : List Bool) (s : Nat), (l.filter (!·)).length ≤ ((l.set s true).filter (!·)).length + 1
  | [], s => by simp
  | b :: l, 0 => by cases b <;> simp
  | b :: l, s + 1 => by
    have := filter_set_le l s
    cases b <;> simp [List.set_cons_succ] <;> omega
theorem alloc_count {p p' : PoolF} {r n a : Int} {y : Hd} {e : Nat} (he : allocF p r n a = (y, e, p')) : countF p ≤ countF p' + 1 := by
  unfold allocF at he
  split at he
  · simp only [Prod.mk.injEq] at he; rw [← he.2.2]; omega
  · simp only at he
    split at he
    · simp only [Prod.mk.injEq] at he; rw [← he.2.2]; omega
    · split at he
      · split at he
        · simp only [Prod.mk.injEq] at he; rw [← he.2.2]; omega
        · simp only [Prod.mk.injEq] at he
          rw [← he.2.2]
          exact filter_set_le _ _
      · simp only [Prod.mk.injEq] at he; rw [← he.2.2]; exact Nat.le_succ _
theorem idle_count {p : PoolF} (h : idleF p = none) : countF p = 0 := by
  have h1 := idleF_none h
  unfold countF
  rw [List.filter_eq_nil_iff.2]
  · rfl
  · intro b hb
    obtain ⟨j, hj, e⟩ := List.getElem_of_mem hb
    have := h1 j hj
    rw [List.getD_eq_getElem?_getD, List.getElem?_eq_getElem hj] at this
    simp only [Option.getD_some] at this
    rw [← e, this]
    decide
theorem nd_size {x : Nd} (h : NdOk x) : 14 ≤ x.size ∧ x.size ≤ 1173 ∧ 1 ≤ x.c.key.length ∧ x.c.key.length ≤ 64 := by
  have h1 := h.t1
  have h2 := h.t2
  have h3 := h.vl
  have h4 := h.sz
  obtain ⟨k1, k2, _⟩ := okV_of h.ok
  have : 1 ≤ x.c.key.length := by
    cases hk : x.c.key with
    | nil => exact absurd hk k1
    | cons a l => simp
  omega
section
variable {p : PoolF} {r gen : Nat} {hd : Nat → Nat × Nat} {N A B : List Nd}
theorem SkSt.gen_at (h : SkSt p r gen hd N) {x : Nd} (hx : x ∈ N) : gen = (landAt p r).gen := by
  have := (h.node x hx).2.gen
  simp only [nh] at this
  omega
theorem SkSt.off_lt (hp : PoolOk p) (h : SkSt p r gen hd N) {x : Nd} (hx : x ∈ N) : x.off + x.size ≤ 268435456 := by
  have h1 := (h.node x hx).2.fit
  have h2 := (hp.ld r h.hr).fill_le
  have h3 := (hp.ld r h.hr).cap hp
  omega
/-- others' calls -/
theorem SkSt.kept {r' : Nat} {p' : PoolF} (h : SkSt p r gen hd N) (k : Kp r' p p') (hne : r ≠ r') : SkSt p' r gen hd N := by
  refine ⟨h.hr, by rw [k.land r hne]; exact h.there, by rw [k.size]; exact h.sz, h.heads, fun x hx => ⟨(h.node x hx).1, (k.pcs _ _ _ _ hne (h.node x hx).2).1⟩, fun a x b e => ?_, h.sorted, h.apart⟩
  rw [(k.pcs _ _ _ _ hne (h.node x (by rw [e]; simp)).2).2]
  exact h.ld a x b e
/-- a new node, which no level sees -/
theorem SkSt.alloc (hp : PoolOk p) (h : SkSt p r gen hd (A ++ B)) (hi : 1 ≤ countF p) {t : Nat} {c : Ce} (t1 : 1 ≤ t) (t2 : t ≤ 12) (hok : okV c.key c.seq c.kind = true) (hv : c.val.length ≤ 1000)
    (hA : ∀ x ∈ A, vless x.c.vr c.vr = true) (hB : ∀ x ∈ B, vless c.vr x.c.vr = true) :
    ∃ (o : Nat) (p1 p2 : PoolF), allocF p (r : Int) ((nodeB t (fun k => linkF (firstN k B)) c).length : Nat) 8 = (nh r (landAt p r).gen ⟨o, (nodeB t (fun k => linkF (firstN k B)) c).length, 0, t, c⟩, 0, p1) ∧
      storeF p1 (nh r (landAt p r).gen ⟨o, (nodeB t (fun k => linkF (firstN k B)) c).length, 0, t, c⟩) 0 (nodeB t (fun k => linkF (firstN k B)) c) = (0, p2) ∧
      SkSt p2 r (landAt p r).gen hd (A ++ ⟨o, (nodeB t (fun k => linkF (firstN k B)) c).length, 0, t, c⟩ :: B) ∧ Kp r p p2 ∧ countF p ≤ countF p2 + 1 := by
  obtain ⟨n, hn⟩ : ∃ n, n = (nodeB t (fun k => linkF (firstN k B)) c).length := ⟨_, rfl⟩
  have hnl := nodeB_len t (fun k => linkF (firstN k B)) c
  rw [← hn] at hnl ⊢
  have hxok : ∀ o, NdOk ⟨o, n, 0, t, c⟩ := fun o => ⟨t1, t2, Nat.zero_le _, hok, hv, hnl⟩
  obtain ⟨s1, s2, s3, s4⟩ := nd_size (hxok 0)
  simp only at s1 s2 s3 s4
  have hl : landF p (r : Int) = some r := landF_of h.hr h.there
  have hsz := h.sz
  rcases alloc_cases (n := (n : Int)) (a := 8) hl (by omega) (by omega) (by decide) with ⟨y, p1, he⟩ | ⟨_, he⟩
  case inr => rw [idle_count he] at hi; omega
  have hp1 : PoolOk p1 := by have := alloc_ok hp (r : Int) n 8; rw [he] at this; exact this
  obtain ⟨i, o, hi2, hpc, _, hfo, hsz1, hbl1, hgr, hold, hfl, _⟩ := alloc_pcs hp he
  rw [hl] at hi2
  obtain rfl : r = i := Option.some.inj hi2
  rw [Int.toNat_natCast] at hpc hfl
  have hg1 : (landAt p1 r).gen = (landAt p r).gen := (hgr r h.hr).gen
  have hy : y = nh r (landAt p r).gen ⟨o, n, 0, t, c⟩ := by
    have e1 := hpc.reg; have e2 := hpc.gen; have e3 := hpc.off; have e4 := hpc.len
    rw [hg1] at e2
    obtain ⟨a1, a2, a3, a4⟩ := y
    simp only at e1 e2 e3 e4
    subst e1 e2 e3 e4
    rfl
  rw [hy] at he hpc
  obtain ⟨p2, hs, hsz2, hbl2, htk2, hln2, hld2, hk2⟩ := store_pcs hp1 hpc 0 (nodeB t (fun k => linkF (firstN k B)) c) (by rw [← hn]; omega)
  have hA2 : ∀ j, landAt p2 j = landAt p1 j := fun j => by unfold landAt; rw [hln2]
  have hload : loadF p2 (nh r (landAt p r).gen ⟨o, n, 0, t, c⟩) = (nodeB t (fun k => linkF (firstN k B)) c, 0) := by
    rw [hld2, List.take_zero, List.nil_append, Nat.zero_add, List.drop_eq_nil_of_le (by rw [hpc.load_len hp1]; omega), List.append_nil]
  have hgn : ∀ x ∈ A ++ B, nh r gen x = nh r (landAt p r).gen x := fun x hx => by rw [← h.gen_at hx]
  have hkeep : ∀ x ∈ A ++ B, Pc p2 (nh r (landAt p r).gen x) r x.off x.size ∧ loadF p2 (nh r (landAt p r).gen x) = loadF p (nh r gen x) ∧ x.off + x.size ≤ o := fun x hx => by
    have hx1 := (h.node x hx).2
    have hf := hx1.fit
    obtain ⟨q1, q2⟩ := hold _ _ _ _ hx1
    obtain ⟨q3, q4⟩ := hk2 _ _ _ _ q1
    rw [← hgn x hx]
    exact ⟨q3, by rw [q4 (.inr (.inr (by omega))), q2], by omega⟩
  have hland := alloc_land hp he
  refine ⟨o, p1, p2, he, hs, ⟨h.hr, ?_, by rw [hsz2, hsz1]; exact hsz, fun k hk => ?_, fun x hx => ?_, fun a x b e => ?_, ?_, ?_⟩, ⟨by rw [hsz2, hsz1], by rw [hbl2, hbl1], fun j hj => by rw [hA2, hland j hj], by rw [hA2, (hgr r h.hr).there], by rw [hA2, hg1], fun z j o2 l hj hz => ?_⟩, ?_⟩
  · rw [hA2, (hgr r h.hr).there]; exact h.there
  · rw [hide_link _ _ _ _ rfl]; exact h.heads k hk
  · rw [List.mem_append, List.mem_cons] at hx
    rcases hx with hx | rfl | hx
    · exact ⟨(h.node x (List.mem_append_left _ hx)).1, (hkeep x (List.mem_append_left _ hx)).1⟩
    · exact ⟨hxok o, (hk2 _ _ _ _ hpc).1⟩
    · exact ⟨(h.node x (List.mem_append_right _ hx)).1, (hkeep x (List.mem_append_right _ hx)).1⟩
  · rcases split3 e with ⟨c', e1, e2⟩ | ⟨e1, e2, e3⟩ | ⟨c', e1, e2⟩
    · have hx : x ∈ A ++ B := by rw [e1]; simp
      rw [(hkeep x hx).2.1, h.ld a x (c' ++ B) (by rw [e1]; simp), e2]
      simp only [Prod.mk.injEq, and_true]
      exact nodeB_congr _ (fun k _ => by rw [hide_link _ _ _ _ rfl])
    · subst e1 e2 e3
      exact hload
    · have hx : x ∈ A ++ B := by rw [e1]; simp
      rw [(hkeep x hx).2.1, h.ld (A ++ c') x b (by rw [e1]; simp)]
  · exact pair_mid h.sorted hA hB
  · exact pair_mid h.apart (fun a ha => .inl (hkeep a (List.mem_append_left _ ha)).2.2) (fun b hb => .inr (hkeep b (List.mem_append_right _ hb)).2.2)
  · obtain ⟨q1, q2⟩ := hold _ _ _ _ hz
    obtain ⟨q3, q4⟩ := hk2 _ _ _ _ q1
    exact ⟨q3, by rw [q4 (.inl (fun e => hj e.symm)), q2]⟩
  · have h1 := alloc_count he
    have h2 : countF p2 = countF p1 := by unfold countF; rw [htk2]
    omega
theorem all_other {k : Nat} {c : List Nd} {x z : Nd} (hz : z.t ≤ x.h) (hk : k < z.t) : ¬ (k = x.h ∧ ∀ n ∈ c, n.h ≤ k) := fun ⟨e, _⟩ => by omega
/-- a link more: the list's own -/
theorem SkSt.put0 {x : Nd} (h : SkSt p r gen hd (A ++ x :: B)) (hx : x.h < x.t) (hA : ∀ y ∈ A, y.h = y.t) (hl : lastN x.h A = none) : SkSt p r gen (upd hd x.h (x.off, x.size)) (A ++ x.up :: B) := by
  have hall := lastN_none.1 hl
  refine ⟨h.hr, h.there, h.sz, fun k hk => ?_, fun z hz => ?_, fun a z b e => ?_, ?_, ?_⟩
  · rw [put_link]
    by_cases e : k = x.h
    · rw [if_pos ⟨e, fun n hn => by rw [e]; exact hall n hn⟩, e, upd_same]
    · rw [if_neg (fun hh => e hh.1), upd_other _ _ e]
      exact h.heads k hk
  · rw [List.mem_append, List.mem_cons] at hz
    rcases hz with hz | rfl | hz
    · exact h.node z (by simp [hz])
    · obtain ⟨q1, q2⟩ := h.node x (by simp)
      exact ⟨⟨q1.t1, q1.t2, hx, q1.ok, q1.vl, q1.sz⟩, q2⟩
    · exact h.node z (by simp [hz])
  · rcases split3 e with ⟨c', e1, e2⟩ | ⟨e1, e2, e3⟩ | ⟨c', e1, e2⟩
    · have hz : z ∈ A := by rw [e1]; simp
      rw [h.ld a z (c' ++ x :: B) (by rw [e1]; simp), e2]
      simp only [Prod.mk.injEq, and_true]
      refine nodeB_congr _ (fun k hk => ?_)
      rw [put_link, if_neg]
      exact all_other (by have := hA z hz; have := hall z hz; omega) hk
    · subst e1 e2 e3
      exact h.ld A x B rfl
    · exact h.ld (A ++ x :: c') z b (by rw [e1]; simp)
  · exact pair_mid (pair_out h.sorted) (pair_at h.sorted).1 (pair_at h.sorted).2
  · exact pair_mid (pair_out h.apart) (pair_at h.apart).1 (pair_at h.apart).2
/-- a link more: a node's -/
theorem SkSt.put1 (hp : PoolOk p) {x y : Nd} (h : SkSt p r gen hd (A ++ x :: B)) (hx : x.h < x.t) (hA : ∀ y ∈ A, y.h = y.t) (hl : lastN x.h A = some y) :
    ∃ p', storeF p (nh r gen y) ((5 + 8 * x.h : Nat) : Int) (ptrB (x.off, x.size)) = (0, p') ∧ SkSt p' r gen hd (A ++ x.up :: B) ∧ Kp r p p' ∧ countF p' = countF p := by
  obtain ⟨a0, c0, eA, hyh, hc0⟩ := lastN_some hl
  have hyA : y ∈ A := by rw [eA]; simp
  have hyN : y ∈ A ++ x :: B := List.mem_append_left _ hyA
  obtain ⟨y1, y2⟩ := h.node y hyN
  have hyt : x.h < y.t := by have := hA y hyA; omega
  have eN : A ++ x :: B = a0 ++ y :: (c0 ++ x :: B) := by rw [eA]; simp
  have hyl := h.ld a0 y _ eN
  have hysz := y1.sz
  obtain ⟨p', hs, hsz, hbl, htk, hln, hld, hk⟩ := store_pcs hp y2 (5 + 8 * x.h) (ptrB (x.off, x.size)) (by rw [ptrB_len]; omega)
  have hap := pair_at (eN ▸ h.apart)
  have hL : ∀ j, landAt p' j = landAt p j := fun j => by unfold landAt; rw [hln]
  have hpc : ∀ z ∈ A ++ x :: B, Pc p' (nh r gen z) r z.off z.size := fun z hz => (hk _ _ _ _ (h.node z hz).2).1
  have hsame : ∀ z ∈ A ++ x :: B, (Apt z y ∨ Apt y z) → loadF p' (nh r gen z) = loadF p (nh r gen z) := fun z hz ha => by
    refine (hk _ _ _ _ (h.node z hz).2).2 (.inr ?_)
    unfold Apt at ha
    omega
  have hnall : ¬ ∀ n ∈ A, n.h ≤ x.h := fun e => by have := e y hyA; omega
  refine ⟨p', hs, ⟨h.hr, by rw [hL]; exact h.there, by rw [hsz]; exact h.sz, fun k hk => ?_, fun z hz => ?_, fun a z b e => ?_, ?_, ?_⟩, ⟨hsz, hbl, fun j _ => hL j, by rw [hL], by rw [hL], fun z j o2 l hj hz => ?_⟩, by unfold countF; rw [htk]⟩
  · rw [put_link, if_neg (fun hh => hnall (fun n hn => by have := hh.2 n hn; omega))]
    exact h.heads k hk
  · rw [List.mem_append, List.mem_cons] at hz
    rcases hz with hz | rfl | hz
    · exact ⟨(h.node z (by simp [hz])).1, hpc z (by simp [hz])⟩
    · obtain ⟨q1, _⟩ := h.node x (by simp)
      exact ⟨⟨q1.t1, q1.t2, hx, q1.ok, q1.vl, q1.sz⟩, hpc x (by simp)⟩
    · exact ⟨(h.node z (by simp [hz])).1, hpc z (by simp [hz])⟩
  · rcases split3 e with ⟨c', e1, e2⟩ | ⟨e1, e2, e3⟩ | ⟨c', e1, e2⟩
    · have hzA : z ∈ A := by rw [e1]; simp
      have hz : z ∈ A ++ x :: B := List.mem_append_left _ hzA
      rcases split3 (eA ▸ e1 : a0 ++ y :: c0 = a ++ z :: c') with ⟨d, f1, f2⟩ | ⟨f1, f2, f3⟩ | ⟨d, f1, f2⟩
      · rw [hsame z hz (.inl (hap.1 z (by rw [f1]; simp))), h.ld a z (c' ++ x :: B) (by rw [e1]; simp), e2]
        simp only [Prod.mk.injEq, and_true]
        refine nodeB_congr _ (fun k _ => ?_)
        rw [put_link, if_neg (fun hh => by have := hh.2 y (by rw [f2]; simp); omega)]
      · subst f1 f2 f3
        rw [hld, hyl, nodeB_put _ _ hyt, e2]
        simp only [Prod.mk.injEq, and_true]
        refine nodeB_congr _ (fun k hk => ?_)
        rw [put_link]
        by_cases ek : k = x.h
        · rw [if_pos ek, if_pos ⟨ek, fun n hn => by rw [ek]; exact hc0 n hn⟩]
        · rw [if_neg ek, if_neg (fun hh => ek hh.1)]
      · rw [hsame z hz (.inr (hap.2 z (by rw [f1]; simp))), h.ld a z (c' ++ x :: B) (by rw [e1]; simp), e2]
        simp only [Prod.mk.injEq, and_true]
        refine nodeB_congr _ (fun k hk => ?_)
        rw [put_link, if_neg]
        exact all_other (by have h1 := hA z hzA; have h2 := hc0 z (by rw [f1]; simp); omega) hk
    · subst e1 e2 e3
      have := hsame x (by simp) (.inr (hap.2 x (by simp)))
      exact this.trans (h.ld A x B rfl)
    · have hz : z ∈ A ++ x :: B := by rw [e1]; simp
      rw [hsame z hz (.inr (hap.2 z (by rw [e1]; simp))), h.ld (A ++ x :: c') z b (by rw [e1]; simp)]
  · exact pair_mid (pair_out h.sorted) (pair_at h.sorted).1 (pair_at h.sorted).2
  · exact pair_mid (pair_out h.apart) (pair_at h.apart).1 (pair_at h.apart).2
  · obtain ⟨q3, q4⟩ := hk _ _ _ _ hz
    exact ⟨q3, q4 (.inl (fun e => hj e.symm))⟩
end
end Go.Proofs.YtpaogoehgkoaeaaGreatDoor
/- Layer 1 (region): grow walked. -/
namespace Go.Proofs.YtpaogoehgkoaeaaGreatDoor
set_option linter.unusedVariables false
set_option linter.unusedSimpArgs false
open Go.RowKit
/-- a slice of one new element of one cell -/
theorem src_cellr {P : Program} {u e' : TypeId} (w : World) (v : Value) (e : TypeId) (hv : v.oneCell' = true) (hu : P.underlying u = some (.slice e')) (gb : Nat) (hgb : gb = w.heap.size) : Src P u (w.alloc (.cells #[v] e)) 1 (.slice (some ⟨gb, 0, none⟩) 1 1) 1 [v] := by
  subst hgb
  refine ⟨rfl, fun x hx => by rw [List.mem_singleton] at hx; rw [hx]; exact hv, .inl ⟨_, _, e', rfl, ?_, hu⟩⟩
  exact Row.alloc w #[v] e (0, 0) [v] rfl
set_option maxRecDepth 100000 in
theorem grow_any (w : World) (S : Nat → Prop) (g : Nat) (p : PoolF) (i : Nat) (hi : i < 256) (h : PoolAt w S g p) (hp : PoolOk p) :
    Calls Tryz.prog 113 #[.pointer (some ⟨g, 0, none⟩), .pointer (some ⟨g, 3 + i * 4, none⟩)] w fun e w' =>
      match idleF p with
      | none => e = .returned (.bool false) ∧ w = w'
      | some s => e = .returned (.bool true) ∧ ∃ S', Moved S g (growAt p i s) w w' S' := by
  obtain ⟨ads, cs, adt, ct, A, C, bd, hx⟩ := h
  obtain ⟨c0, c1, c2⟩ := hx.head
  have hln := hp.ln
  have HIX := Lib.hid (Index_any w p adt ct hx.tak.row (by rw [hp.tk]; exact hp.n2))
  cases hs : idleF p with
  | none =>
    have e : idleI p = -1 := by unfold idleI; rw [hs]
    rw [e] at HIX
    clear hx hs e hp hln
    go_enter Tryz.func113, Tryz.ntmps113
    go_wp2_with (first
      | (go_at_call 152; refine HIX.out.mono ?_; rintro e w1 ⟨rfl, rfl⟩)
      | fail)
    go_ret
    exact ⟨rfl, rfl⟩
  | some s =>
    have e : idleI p = (s : Int) := by unfold idleI; rw [hs]
    rw [e] at HIX
    obtain ⟨hst, _, _⟩ := idleF_some hs
    have hsb : s < p.bytes.length := by rw [← hp.tk]; exact hst
    have hbl : (bytesAt p s).length = p.size := by
      unfold bytesAt
      rw [List.getD_eq_getElem?_getD, List.getElem?_eq_getElem hsb]
      exact hp.bl _ (List.getElem_mem hsb)
    have hsz := hp.s1
    have hcap := (hp.ld i hi).cap hp
    have hlen := Nat.le_trans (hp.ld i hi).len hp.n2
    have hsz2 := hp.s2
    obtain ⟨bt, rfl, _, hc1⟩ := hx.tak.at (taken_get _ s hst)
    have hf1 := hx.tak.unfrozen rfl (show s < p.taken.length * 1 by omega)
    have hx1 := hx.put_taken rfl hst true
    obtain ⟨d0, d1, d2⟩ := hx1.head
    have hrow : (slabV bd (setTaken p s true).size (setTaken p s true).bytes.length)[s]? = some (.slice (some ⟨bd s, 0, none⟩) p.size p.size) := by show (slabV bd p.size p.bytes.length)[s]? = _; simp [slabV, hsb]
    obtain ⟨b2, rfl, _, hc2⟩ := hx1.row.at hrow
    have HX1 := Lib.hid hx1
    have HP := Lib.hid hp
    clear hx hx1 hs e hp
    go_enter Tryz.func113, Tryz.ntmps113
    go_wp2_with (first
      | (go_at_call 152; refine HIX.out.mono ?_; rintro e w1 ⟨rfl, rfl⟩)
      | ((with_reducible show Go.wpList _ _ _ (Oper.mk _ (Op.call (Call.mk (Callee.builtin Builtin.clear) _ _)) _ _ _ _ :: _) _ _); go_must (refine wp_clear elemB rfl rfl rfl _ rfl rfl (HX1.out.slab s hsb) (by rw [bv_length]; exact hbl) (by omega) ?_); intro w2 q2 k2
         rw [bv_replicate] at q2
         have hx2 := HX1.out.put_bytes hsb (List.replicate p.size 0) q2 k2
         obtain ⟨e0, e1, e2⟩ := hx2.head
         obtain ⟨l0, l1, l2, l3⟩ := hx2.lcell hi
         have f3 := hx2.blk.frozen (3 + i * 4 + 3)
         have HX2 := Lib.hid hx2
         have HC2 := Lib.hid (Chg.trans (Chg.grown (grown_set w bt s (.bool true)) (HX1.out.stak _ rfl)) (Chg.grown k2 (HX1.out.sslab s hsb)) (fun j hj => .inl hj))
         clear hx2 q2 k2)
      | fail)
    have e0' : w2.cell? ⟨g, 0, none⟩ = some (.int .i64 (p.size : Int)) := e0
    have l2' : w2.cell? ⟨g, 3 + i * 4 + 2, none⟩ = some (.slice (A i) (landAt p i).slabs.length (C i)) := l2
    have l3' : w2.cell? ⟨g, 3 + i * 4 + 3, none⟩ = some (.int .i64 ((landAt p i).fill : Int)) := l3
    obtain ⟨m, hm⟩ : ∃ m, m = (landAt p i).slabs.length * p.size := ⟨_, rfl⟩
    have hmi : ((landAt p i).slabs.length : Int) * (p.size : Int) = (m : Int) := by rw [hm]; simp
    have hmm : m ≤ 268435456 := by rw [hm]; exact hcap
    have HM := Lib.hid hm
    have HHC := Lib.hid hcap
    clear e0 e1 e2 l0 l1 l2 l3 hm hcap c0 c1 c2 d0 d1 d2 hc1 hc2 hf1
    have hw : IntKind.i64.wrap (m : Int) = (m : Int) := by rw [IntKind.wrap_i64]; omega
    have hx3 : PX ((w2.setCell ⟨g, 3 + i * 4 + 3, none⟩ (.int .i64 (m : Int))).alloc (.cells #[.int .i64 (s : Int)] 3)).drew S g (fillAt (setBytes (setTaken p s true) s (List.replicate p.size 0)) i m) _ cs _ ct A C bd := ((HX2.out.put_fill hln hi m).gr (Gr.alloc _ _)).gr (Gr.drew _)
    have hA : landAt (fillAt (setBytes (setTaken p s true) s (List.replicate p.size 0)) i m) i = ⟨(landAt p i).there, (landAt p i).gen, (landAt p i).slabs, m⟩ := (landAt_set _ i i _ (by show i < p.lands.length; omega)).trans (if_pos rfl)
    have hlo := hx3.land i hi
    rw [hA] at hlo
    have HLO := Lib.hid hlo
    have HX3 := Lib.hid hx3
    have HA := Lib.hid hA
    have HC3 := Lib.hid (Chg.trans HC2.out (Chg.trans (Chg.grown (grown_set w2 g (3 + i * 4 + 3) (.int .i64 (m : Int))) HX2.out.sg) (((Gr.alloc _ (.cells #[.int .i64 (s : Int)] 3)).trans (Gr.drew _)).chg (S := S)) (fun j hj => .inl hj)) (fun j hj => .inl hj))
    clear hlo hx3 hA
    have hm1 : (landAt p i).slabs.length + 1 ≤ maxLen := by unfold maxLen; omega
    have hm2 : ((landAt p i).slabs.length + 1) * 8 ≤ 140737488355328 := by omega
    go_still_tail 13, (by kernel_rfl)
    clear hmi hw
    go_wp2_with (first
      | (at_builtin; go_must (refine wp_append elemI rfl _ _ rfl rfl HLO.out rfl ((src_cellr _ (.int .i64 (s : Int)) _ rfl Tryz.underlying23 _ (by simp)).gr (Gr.drew _)) hm1 hm2 (Nat.zero_le _) ?_); intro ad5 c5 w5 o5 k5 f5
         have b5 : Blk w5 g 119 _ := HX3.out.blk.grown k5 (fun e => by
           cases hAi : A i with
           | none => rw [hAi] at e; cases e
           | some x => rw [hAi] at e; exact HX3.out.blk.owns_ne (HX3.out.land i hi) (by decide) x hAi (Option.some.inj e).symm)
         have z5 := b5.cell (poolV_land (k := 2) hi (by decide))
         have q5 := b5.frozen (3 + i * 4 + 2)
         have hmv := HX3.out.put_slab (s := s) (by show (p.lands.set i _).length = 256; rw [List.length_set]; exact hln) hi k5 (by rw [HA.out]; simpa [iv] using o5) f5
         rw [HA.out] at hmv
         have HMV := Lib.hid hmv
         clear b5 hmv o5 k5 f5)
      | fail)
    go_ret
    obtain ⟨S', hmv⟩ := HMV.out
    have e : setLand (fillAt (setBytes (setTaken p s true) s (List.replicate p.size 0)) i m) i ⟨(landAt p i).there, (landAt p i).gen, (landAt p i).slabs ++ [s], m⟩ = growAt p i s := by
      have := HM.out
      subst this
      unfold setLand fillAt setBytes setTaken growAt
      simp only [List.set_set]
    rw [e] at hmv
    exact ⟨rfl, S', hmv.after HC3.out⟩
end Go.Proofs.YtpaogoehgkoaeaaGreatDoor
/- Layer 1 (region): Alloc walked, of what is in order. -/
namespace Go.Proofs.YtpaogoehgkoaeaaGreatDoor
set_option linter.unusedVariables false
set_option linter.unusedSimpArgs false
open Go.RowKit
theorem Blk.set4 {w : World} {g : Nat} {t : TypeId} {a b c d : Value} (h : Blk w g t [a, b, c, d]) (a' b' c' d' : Value) :
    Blk ((((w.setCell ⟨g, 0, none⟩ a').setCell ⟨g, 1, none⟩ b').setCell ⟨g, 2, none⟩ c').setCell ⟨g, 3, none⟩ d') g t [a', b', c', d'] := (((h.set_ 0 a').set_ 1 b').set_ 2 c').set_ 3 d'
theorem grown_set4 (w : World) (g : Nat) (a b c d : Value) : w.grownBy ((((w.setCell ⟨g, 0, none⟩ a).setCell ⟨g, 1, none⟩ b).setCell ⟨g, 2, none⟩ c).setCell ⟨g, 3, none⟩ d) (some g) :=
  grown_trans (grown_trans (grown_trans (grown_set _ _ _ _) (grown_set _ _ _ _)) (grown_set _ _ _ _)) (grown_set _ _ _ _)
set_option maxRecDepth 100000 in
set_option maxHeartbeats 4000000 in
theorem Alloc_good (w : World) (S : Nat → Prop) (g : Nat) (p : PoolF) (i : Nat) (n a : Int) (h : PoolAt w S g p) (hp : PoolOk p) (hl : landF p (i : Int) = some i) (h1 : ¬ n < 1) (h2 : ¬ n > (p.size : Int)) (h3 : ¬ a < 1) (h4 : ¬ a > 64) (e5 : bits .and .i64 a (a - 1) = 0) (hk : alignOk a = true) :
    Calls Tryz.prog 66 #[.pointer (some ⟨g, 0, none⟩), .int .i64 (i : Int), .int .i64 n, .int .i64 a] w fun e w' => e = .returned (.tuple #[hdv (allocF p (i : Int) n a).1, .int .i64 ((allocF p (i : Int) n a).2.1 : Int)]) ∧ ∃ S', Moved S g (allocF p (i : Int) n a).2.2 w w' S' := by
  have HP := Lib.hid h
  have HLA := Lib.hid (fun w' (k : Gr w w') => land_any w' S g p (i : Int) (h.gr k))
  have HOK := Lib.hid hp
  rw [hl] at HLA
  obtain ⟨_, hi, hth⟩ := landF_some hl
  obtain ⟨ads, cs, adt, ct, A, C, bd, hx⟩ := h
  have hlk := hp.ld i hi
  have hsz1 := hp.s1
  have hsz2 := hp.s2
  have hcap := hlk.cap hp
  have hfl := hlk.fill_le
  have hlen := Nat.le_trans hlk.len hp.n2
  have hfil := hlk.fill
  have hx1 := hx.gr (Gr.alloc w (.cells #[.int .i64 0, .int .i64 0, .int .i64 0, .int .i64 0] 58))
  obtain ⟨c0, _, _⟩ := hx1.head
  obtain ⟨_, l1, l2, l3⟩ := hx1.lcell hi
  have HX := Lib.hid hx
  obtain ⟨nn, rfl⟩ : ∃ nn : Nat, n = (nn : Int) := ⟨n.toNat, by omega⟩
  obtain ⟨m, hm⟩ : ∃ m, m = (landAt p i).slabs.length * p.size := ⟨_, rfl⟩
  have hmi : ((landAt p i).slabs.length : Int) * (p.size : Int) = (m : Int) := by rw [hm]; simp
  have hw : IntKind.i64.wrap (m : Int) = (m : Int) := by rw [IntKind.wrap_i64]; omega
  obtain ⟨t, ht⟩ : ∃ t, t = p.size - (m - (landAt p i).fill) := ⟨_, rfl⟩
  have hmf : m ≤ (landAt p i).fill + p.size := by
    rcases hfil with ⟨q1, q2⟩ | ⟨q1, q2, q3⟩
    · rw [hm, q1]; simp
    · have hpos : 0 < (landAt p i).slabs.length := by
        cases hsl : (landAt p i).slabs with
        | nil => exact absurd hsl q1
        | cons _ _ => simp
      rw [hm]
      obtain ⟨k, hk⟩ : ∃ k, (landAt p i).slabs.length = k + 1 := ⟨(landAt p i).slabs.length - 1, by omega⟩
      rw [hk] at q2 ⊢
      rw [Nat.add_mul]
      simp only [Nat.add_sub_cancel] at q2
      omega
  have hti : (p.size : Int) - ((m : Int) - ((landAt p i).fill : Int)) = (t : Int) := by rw [ht]; rw [← hm] at hfl; omega
  have htl : t ≤ 65536 := by omega
  obtain ⟨u, hu⟩ : ∃ u, u = upTo t a.toNat := ⟨_, rfl⟩
  have hui : bits .andNot .i64 ((t : Int) + a - 1) (a - 1) = (u : Int) := by rw [hu]; exact align_up hk (by omega)
  have hub := upTo_bounds (x := t) (a := a.toNat) (by omega)
  rw [← hu] at hub
  have hul : u ≤ 65600 := by omega
  rw [← hm] at hfl hcap
  have HIN := Lib.hid (show inF p i = t by unfold inF; rw [ht, hm])
  have HU := Lib.hid (show upTo (inF p i) a.toNat = u by rw [HIN.out, hu])
  have HM := Lib.hid hm
  have hnb : ¬ ((nn : Int) < 1 ∨ (nn : Int) > (p.size : Int) ∨ alignOk a = false) := by rw [hk]; simp; omega
  have HE := Lib.hid (show allocF p (i : Int) (nn : Int) a = if (landAt p i).slabs = [] ∨ p.size < u + nn then (match idleF p with
      | none => (noHd, 5, p)
      | some s => (⟨(i : Int), ((landAt p i).gen : Int), (m : Int), (nn : Int)⟩, 0, fillAt (growAt p i s) i (m + nn)))
    else (⟨(i : Int), ((landAt p i).gen : Int), ((((landAt p i).slabs.length - 1) * p.size + u : Nat) : Int), (nn : Int)⟩, 0, fillAt p i (((landAt p i).slabs.length - 1) * p.size + u + nn)) by
    unfold allocF; rw [hl]; simp only; rw [if_neg hnb, HU.out, Int.toNat_natCast, ← hm] <;> rfl)
  have HFIL := Lib.hid hfil
  have HLK := Lib.hid hlk
  clear hm ht hu hub hnb hfil hlk hx hx1 hp hl hk hmf
  by_cases hgr : (landAt p i).slabs = [] ∨ p.size < u + nn
  · rw [if_pos hgr] at HE
    have hgr2 : (landAt p i).slabs.length = 0 ∨ p.size < u + nn := by
      rcases hgr with h5 | h5
      · exact .inl (by rw [h5]; rfl)
      · exact .inr h5
    clear hgr
    have HGR := Lib.hid (fun w' h' => grow_any w' S g p i hi h' HOK.out)
    cases hid : idleF p with
    | none =>
      rw [hid] at HGR HE
      clear hid
      rcases hgr2 with h6 | h6
      · go_enter Tryz.func66, Tryz.ntmps66
        go_wp2_with (first
          | (go_at_call 112; refine (HLA.out _ (Gr.alloc _ _)).mono ?_; rintro e w1 ⟨rfl, rfl⟩)
          | fail)
        go_quiet (fail)
        have gV : Gr (w.alloc (.cells #[.int .i64 0, .int .i64 0, .int .i64 0, .int .i64 0] 58)) ((w.alloc (.cells #[.int .i64 0, .int .i64 0, .int .i64 0, .int .i64 0] 58)).drewN nq) := Gr.drewN _ nq
        have c0a := gV.cell c0
        have l1a := gV.cell l1
        have l2a := gV.cell l2
        have l3a := gV.cell l3
        have bVa := (Blk.new w 58 #[.int .i64 0, .int .i64 0, .int .i64 0, .int .i64 0]).gr gV
        have gWa : Gr w ((w.alloc (.cells #[.int .i64 0, .int .i64 0, .int .i64 0, .int .i64 0] 58)).drewN nq) := (Gr.alloc w _).trans gV
        clear gV c0 l1 l2 l3
        generalize (w.alloc (.cells #[.int .i64 0, .int .i64 0, .int .i64 0, .int .i64 0] 58)).drewN nq = V at *
        go_wp2
        go_quiet (fail)
        have gV : Gr V (V.drewN nq) := Gr.drewN V nq
        have c0 := gV.cell c0a
        have l1 := gV.cell l1a
        have l2 := gV.cell l2a
        have l3 := gV.cell l3a
        have bV := bVa.gr gV
        have gW := gWa.trans gV
        clear gV c0a l1a l2a l3a bVa gWa
        generalize V.drewN nq = W at *
        clear hmi hw
        obtain ⟨d0, d1, d2, d3, f0, f1, f2, f3⟩ := Blk.four bV
        go_wp2_with (first
          | (go_at_call 113; refine (HGR.out _ (HP.out.gr gW)).mono ?_; rintro e w1 ⟨rfl, rfl⟩)
          | fail)
        obtain ⟨e0, e1, e2, e3, _⟩ := Blk.four (bV.set4 (.int .i64 0) (.int .i64 0) (.int .i64 0) (.int .i64 0))
        refine bodyPost_ret (v := .tuple #[.agg #[.int .i64 0, .int .i64 0, .int .i64 0, .int .i64 0], .int .i64 5]) (by simp [results, Tryz.results66, go_sem, e0, e1, e2, e3]) rfl ?_
        rw [HE.out]
        exact ⟨rfl, S, (Moved.refl HP.out).gr (Gr.of_far gW (grown_set4 _ _ _ _ _ _) (Nat.le_refl _))⟩
      · by_cases h7 : (landAt p i).slabs.length = 0
        · clear h6
          go_enter Tryz.func66, Tryz.ntmps66
          go_wp2_with (first
            | (go_at_call 112; refine (HLA.out _ (Gr.alloc _ _)).mono ?_; rintro e w1 ⟨rfl, rfl⟩)
            | fail)
          go_quiet (fail)
          have gV : Gr (w.alloc (.cells #[.int .i64 0, .int .i64 0, .int .i64 0, .int .i64 0] 58)) ((w.alloc (.cells #[.int .i64 0, .int .i64 0, .int .i64 0, .int .i64 0] 58)).drewN nq) := Gr.drewN _ nq
          have c0a := gV.cell c0
          have l1a := gV.cell l1
          have l2a := gV.cell l2
          have l3a := gV.cell l3
          have bVa := (Blk.new w 58 #[.int .i64 0, .int .i64 0, .int .i64 0, .int .i64 0]).gr gV
          have gWa : Gr w ((w.alloc (.cells #[.int .i64 0, .int .i64 0, .int .i64 0, .int .i64 0] 58)).drewN nq) := (Gr.alloc w _).trans gV
          clear gV c0 l1 l2 l3
          generalize (w.alloc (.cells #[.int .i64 0, .int .i64 0, .int .i64 0, .int .i64 0] 58)).drewN nq = V at *
          go_wp2
          go_quiet (fail)
          have gV : Gr V (V.drewN nq) := Gr.drewN V nq
          have c0 := gV.cell c0a
          have l1 := gV.cell l1a
          have l2 := gV.cell l2a
          have l3 := gV.cell l3a
          have bV := bVa.gr gV
          have gW := gWa.trans gV
          clear gV c0a l1a l2a l3a bVa gWa
          generalize V.drewN nq = W at *
          clear hmi hw
          obtain ⟨d0, d1, d2, d3, f0, f1, f2, f3⟩ := Blk.four bV
          go_wp2_with (first
            | (go_at_call 113; refine (HGR.out _ (HP.out.gr gW)).mono ?_; rintro e w1 ⟨rfl, rfl⟩)
            | fail)
          obtain ⟨e0, e1, e2, e3, _⟩ := Blk.four (bV.set4 (.int .i64 0) (.int .i64 0) (.int .i64 0) (.int .i64 0))
          refine bodyPost_ret (v := .tuple #[.agg #[.int .i64 0, .int .i64 0, .int .i64 0, .int .i64 0], .int .i64 5]) (by simp [results, Tryz.results66, go_sem, e0, e1, e2, e3]) rfl ?_
          rw [HE.out]
          exact ⟨rfl, S, (Moved.refl HP.out).gr (Gr.of_far gW (grown_set4 _ _ _ _ _ _) (Nat.le_refl _))⟩
        · go_enter Tryz.func66, Tryz.ntmps66
          go_wp2_with (first
            | (go_at_call 112; refine (HLA.out _ (Gr.alloc _ _)).mono ?_; rintro e w1 ⟨rfl, rfl⟩)
            | fail)
          go_quiet (fail)
          have gV : Gr (w.alloc (.cells #[.int .i64 0, .int .i64 0, .int .i64 0, .int .i64 0] 58)) ((w.alloc (.cells #[.int .i64 0, .int .i64 0, .int .i64 0, .int .i64 0] 58)).drewN nq) := Gr.drewN _ nq
          have c0a := gV.cell c0
          have l1a := gV.cell l1
          have l2a := gV.cell l2
          have l3a := gV.cell l3
          have bVa := (Blk.new w 58 #[.int .i64 0, .int .i64 0, .int .i64 0, .int .i64 0]).gr gV
          have gWa : Gr w ((w.alloc (.cells #[.int .i64 0, .int .i64 0, .int .i64 0, .int .i64 0] 58)).drewN nq) := (Gr.alloc w _).trans gV
          clear gV c0 l1 l2 l3
          generalize (w.alloc (.cells #[.int .i64 0, .int .i64 0, .int .i64 0, .int .i64 0] 58)).drewN nq = V at *
          go_wp2
          go_quiet (fail)
          have gV : Gr V (V.drewN nq) := Gr.drewN V nq
          have c0 := gV.cell c0a
          have l1 := gV.cell l1a
          have l2 := gV.cell l2a
          have l3 := gV.cell l3a
          have bV := bVa.gr gV
          have gW := gWa.trans gV
          clear gV c0a l1a l2a l3a bVa gWa
          generalize V.drewN nq = W at *
          clear hmi hw
          obtain ⟨d0, d1, d2, d3, f0, f1, f2, f3⟩ := Blk.four bV
          go_wp2_with (first
            | (go_at_call 113; refine (HGR.out _ (HP.out.gr gW)).mono ?_; rintro e w1 ⟨rfl, rfl⟩)
            | fail)
          obtain ⟨e0, e1, e2, e3, _⟩ := Blk.four (bV.set4 (.int .i64 0) (.int .i64 0) (.int .i64 0) (.int .i64 0))
          refine bodyPost_ret (v := .tuple #[.agg #[.int .i64 0, .int .i64 0, .int .i64 0, .int .i64 0], .int .i64 5]) (by simp [results, Tryz.results66, go_sem, e0, e1, e2, e3]) rfl ?_
          rw [HE.out]
          exact ⟨rfl, S, (Moved.refl HP.out).gr (Gr.of_far gW (grown_set4 _ _ _ _ _ _) (Nat.le_refl _))⟩
    | some s =>
      rw [hid] at HGR HE
      obtain ⟨hst, _, _⟩ := idleF_some hid
      clear hid
      have hA : landAt (growAt p i s) i = ⟨(landAt p i).there, (landAt p i).gen, (landAt p i).slabs ++ [s], m⟩ := (landAt_set { p with bytes := p.bytes.set s (List.replicate p.size 0), taken := p.taken.set s true } i i _ (by show i < p.lands.length; rw [HOK.out.ln]; exact hi)).trans (by rw [if_pos rfl, HM.out])
      have hln2 : (growAt p i s).lands.length = 256 := by show (p.lands.set i _).length = 256; rw [List.length_set]; exact HOK.out.ln
      have HA := Lib.hid hA
      have HLN := Lib.hid hln2
      clear hA hln2
      obtain ⟨of, hof⟩ : ∃ of, of = m := ⟨_, rfl⟩
      rw [← hof] at HE
      rcases hgr2 with h6 | h6
      · go_enter Tryz.func66, Tryz.ntmps66
        go_wp2_with (first
          | (go_at_call 112; refine (HLA.out _ (Gr.alloc _ _)).mono ?_; rintro e w1 ⟨rfl, rfl⟩)
          | fail)
        go_quiet (fail)
        have gV : Gr (w.alloc (.cells #[.int .i64 0, .int .i64 0, .int .i64 0, .int .i64 0] 58)) ((w.alloc (.cells #[.int .i64 0, .int .i64 0, .int .i64 0, .int .i64 0] 58)).drewN nq) := Gr.drewN _ nq
        have c0a := gV.cell c0
        have l1a := gV.cell l1
        have l2a := gV.cell l2
        have l3a := gV.cell l3
        have bVa := (Blk.new w 58 #[.int .i64 0, .int .i64 0, .int .i64 0, .int .i64 0]).gr gV
        have gWa : Gr w ((w.alloc (.cells #[.int .i64 0, .int .i64 0, .int .i64 0, .int .i64 0] 58)).drewN nq) := (Gr.alloc w _).trans gV
        clear gV c0 l1 l2 l3
        generalize (w.alloc (.cells #[.int .i64 0, .int .i64 0, .int .i64 0, .int .i64 0] 58)).drewN nq = V at *
        go_wp2
        go_quiet (fail)
        have gV : Gr V (V.drewN nq) := Gr.drewN V nq
        have c0 := gV.cell c0a
        have l1 := gV.cell l1a
        have l2 := gV.cell l2a
        have l3 := gV.cell l3a
        have bV := bVa.gr gV
        have gW := gWa.trans gV
        clear gV c0a l1a l2a l3a bVa gWa
        generalize V.drewN nq = W at *
        clear hmi hw
        obtain ⟨d0, d1, d2, d3, f0, f1, f2, f3⟩ := Blk.four bV
        go_wp2_with (first
          | (go_at_call 113; refine (HGR.out _ (HP.out.gr gW)).mono ?_; rintro e w2 ⟨rfl, S2, hmv⟩)
          | fail)
        have hmvA := hmv.after (gW.chg (S := S))
        have hghS : ¬ S w.heap.size := fun e => Nat.lt_irrefl _ (HP.out.lt _ e)
        have hgh2 : ¬ S2 w.heap.size := fun e => by
          rcases hmv.sub _ e with h8 | h8
          · exact hghS h8
          · have := bV.lt; omega
        have b2 := hmv.chg.blk bV hghS
        obtain ⟨ads2, cs2, adt2, ct2, A2, C2, bd2, hx2⟩ := hmv.pool
        have z2 := hx2.lcell hi
        rw [HA.out] at z2
        obtain ⟨_, z1, z2, z3⟩ := z2
        have z0 : w2.cell? ⟨g, 0, none⟩ = some (.int .i64 (p.size : Int)) := hx2.head.1
        obtain ⟨L2, hL2⟩ : ∃ L2, L2 = ((landAt p i).slabs ++ [s]).length := ⟨_, rfl⟩
        have hL3 : L2 = (landAt p i).slabs.length + 1 := by rw [hL2]; simp
        have hL4 : L2 ≤ 4097 := by omega
        have hL5 : 1 ≤ L2 := by omega
        have hqi : ((L2 : Int) - 1) * (p.size : Int) = (of : Int) := by
          rw [hL3, hof, HM.out]; simp
        have hqw : IntKind.i64.wrap (of : Int) = (of : Int) := by rw [IntKind.wrap_i64]; omega
        have hol : of ≤ 268435456 := by omega
        simp only at z1 z2 z3
        rw [← hL2] at z2
        have HX2 := Lib.hid hx2
        have HMV := Lib.hid hmvA
        have hgg : w.heap.size ≠ g := fun e => hghS (e ▸ HX.out.sg)
        clear hx2 hmv hmvA hL2 hL3 hof bV gW d0 d1 d2 d3 f0 f1 f2 f3
        go_quiet (fail)
        have gV : Gr w2 (w2.drewN nq) := Gr.drewN w2 nq
        have y0 := gV.cell z0
        have y1 := gV.cell z1
        have y2 := gV.cell z2
        have y3 := gV.cell z3
        have b3 := b2.gr gV
        have HX3 := Lib.hid (HX2.out.gr gV)
        have HMV3 := Lib.hid (HMV.out.gr gV)
        have fg := HX3.out.blk.frozen (3 + i * 4 + 3)
        clear gV z0 z1 z2 z3 b2 hqi hqw
        generalize w2.drewN nq = W3 at *
        obtain ⟨d0, d1, d2, d3, f0, f1, f2, f3⟩ := Blk.four b3
        go_wp2
        have b5 : Blk (W3.setCell ⟨g, 3 + i * 4 + 3, none⟩ (.int .i64 ((of : Int) + (nn : Int)))) w.heap.size 58 _ := b3.far (p := ⟨g, 3 + i * 4 + 3, none⟩) hgg (.int .i64 ((of : Int) + (nn : Int)))
        obtain ⟨e0, e1, e2, e3, _⟩ := Blk.four (b5.set4 (.int .i64 (i : Int)) (.int .i64 ((landAt p i).gen : Int)) (.int .i64 (of : Int)) (.int .i64 (nn : Int)))
        refine bodyPost_ret (v := .tuple #[.agg #[.int .i64 (i : Int), .int .i64 ((landAt p i).gen : Int), .int .i64 (of : Int), .int .i64 (nn : Int)], .int .i64 0]) (by simp [results, Tryz.results66, go_sem, e0, e1, e2, e3]) rfl ?_
        rw [HE.out]
        exact ⟨rfl, S2, Moved.finish HMV3.out HX3.out HLN.out hi (of + nn) hgh2 (Nat.le_refl _) (grown_set4 _ _ _ _ _ _)⟩
      · by_cases h7 : (landAt p i).slabs.length = 0
        · clear h6
          go_enter Tryz.func66, Tryz.ntmps66
          go_wp2_with (first
            | (go_at_call 112; refine (HLA.out _ (Gr.alloc _ _)).mono ?_; rintro e w1 ⟨rfl, rfl⟩)
            | fail)
          go_quiet (fail)
          have gV : Gr (w.alloc (.cells #[.int .i64 0, .int .i64 0, .int .i64 0, .int .i64 0] 58)) ((w.alloc (.cells #[.int .i64 0, .int .i64 0, .int .i64 0, .int .i64 0] 58)).drewN nq) := Gr.drewN _ nq
          have c0a := gV.cell c0
          have l1a := gV.cell l1
          have l2a := gV.cell l2
          have l3a := gV.cell l3
          have bVa := (Blk.new w 58 #[.int .i64 0, .int .i64 0, .int .i64 0, .int .i64 0]).gr gV
          have gWa : Gr w ((w.alloc (.cells #[.int .i64 0, .int .i64 0, .int .i64 0, .int .i64 0] 58)).drewN nq) := (Gr.alloc w _).trans gV
          clear gV c0 l1 l2 l3
          generalize (w.alloc (.cells #[.int .i64 0, .int .i64 0, .int .i64 0, .int .i64 0] 58)).drewN nq = V at *
          go_wp2
          go_quiet (fail)
          have gV : Gr V (V.drewN nq) := Gr.drewN V nq
          have c0 := gV.cell c0a
          have l1 := gV.cell l1a
          have l2 := gV.cell l2a
          have l3 := gV.cell l3a
          have bV := bVa.gr gV
          have gW := gWa.trans gV
          clear gV c0a l1a l2a l3a bVa gWa
          generalize V.drewN nq = W at *
          clear hmi hw
          obtain ⟨d0, d1, d2, d3, f0, f1, f2, f3⟩ := Blk.four bV
          go_wp2_with (first
            | (go_at_call 113; refine (HGR.out _ (HP.out.gr gW)).mono ?_; rintro e w2 ⟨rfl, S2, hmv⟩)
            | fail)
          have hmvA := hmv.after (gW.chg (S := S))
          have hghS : ¬ S w.heap.size := fun e => Nat.lt_irrefl _ (HP.out.lt _ e)
          have hgh2 : ¬ S2 w.heap.size := fun e => by
            rcases hmv.sub _ e with h8 | h8
            · exact hghS h8
            · have := bV.lt; omega
          have b2 := hmv.chg.blk bV hghS
          obtain ⟨ads2, cs2, adt2, ct2, A2, C2, bd2, hx2⟩ := hmv.pool
          have z2 := hx2.lcell hi
          rw [HA.out] at z2
          obtain ⟨_, z1, z2, z3⟩ := z2
          have z0 : w2.cell? ⟨g, 0, none⟩ = some (.int .i64 (p.size : Int)) := hx2.head.1
          obtain ⟨L2, hL2⟩ : ∃ L2, L2 = ((landAt p i).slabs ++ [s]).length := ⟨_, rfl⟩
          have hL3 : L2 = (landAt p i).slabs.length + 1 := by rw [hL2]; simp
          have hL4 : L2 ≤ 4097 := by omega
          have hL5 : 1 ≤ L2 := by omega
          have hqi : ((L2 : Int) - 1) * (p.size : Int) = (of : Int) := by
            rw [hL3, hof, HM.out]; simp
          have hqw : IntKind.i64.wrap (of : Int) = (of : Int) := by rw [IntKind.wrap_i64]; omega
          have hol : of ≤ 268435456 := by omega
          simp only at z1 z2 z3
          rw [← hL2] at z2
          have HX2 := Lib.hid hx2
          have HMV := Lib.hid hmvA
          have hgg : w.heap.size ≠ g := fun e => hghS (e ▸ HX.out.sg)
          clear hx2 hmv hmvA hL2 hL3 hof bV gW d0 d1 d2 d3 f0 f1 f2 f3
          go_quiet (fail)
          have gV : Gr w2 (w2.drewN nq) := Gr.drewN w2 nq
          have y0 := gV.cell z0
          have y1 := gV.cell z1
          have y2 := gV.cell z2
          have y3 := gV.cell z3
          have b3 := b2.gr gV
          have HX3 := Lib.hid (HX2.out.gr gV)
          have HMV3 := Lib.hid (HMV.out.gr gV)
          have fg := HX3.out.blk.frozen (3 + i * 4 + 3)
          clear gV z0 z1 z2 z3 b2 hqi hqw
          generalize w2.drewN nq = W3 at *
          obtain ⟨d0, d1, d2, d3, f0, f1, f2, f3⟩ := Blk.four b3
          go_wp2
          have b5 : Blk (W3.setCell ⟨g, 3 + i * 4 + 3, none⟩ (.int .i64 ((of : Int) + (nn : Int)))) w.heap.size 58 _ := b3.far (p := ⟨g, 3 + i * 4 + 3, none⟩) hgg (.int .i64 ((of : Int) + (nn : Int)))
          obtain ⟨e0, e1, e2, e3, _⟩ := Blk.four (b5.set4 (.int .i64 (i : Int)) (.int .i64 ((landAt p i).gen : Int)) (.int .i64 (of : Int)) (.int .i64 (nn : Int)))
          refine bodyPost_ret (v := .tuple #[.agg #[.int .i64 (i : Int), .int .i64 ((landAt p i).gen : Int), .int .i64 (of : Int), .int .i64 (nn : Int)], .int .i64 0]) (by simp [results, Tryz.results66, go_sem, e0, e1, e2, e3]) rfl ?_
          rw [HE.out]
          exact ⟨rfl, S2, Moved.finish HMV3.out HX3.out HLN.out hi (of + nn) hgh2 (Nat.le_refl _) (grown_set4 _ _ _ _ _ _)⟩
        · go_enter Tryz.func66, Tryz.ntmps66
          go_wp2_with (first
            | (go_at_call 112; refine (HLA.out _ (Gr.alloc _ _)).mono ?_; rintro e w1 ⟨rfl, rfl⟩)
            | fail)
          go_quiet (fail)
          have gV : Gr (w.alloc (.cells #[.int .i64 0, .int .i64 0, .int .i64 0, .int .i64 0] 58)) ((w.alloc (.cells #[.int .i64 0, .int .i64 0, .int .i64 0, .int .i64 0] 58)).drewN nq) := Gr.drewN _ nq
          have c0a := gV.cell c0
          have l1a := gV.cell l1
          have l2a := gV.cell l2
          have l3a := gV.cell l3
          have bVa := (Blk.new w 58 #[.int .i64 0, .int .i64 0, .int .i64 0, .int .i64 0]).gr gV
          have gWa : Gr w ((w.alloc (.cells #[.int .i64 0, .int .i64 0, .int .i64 0, .int .i64 0] 58)).drewN nq) := (Gr.alloc w _).trans gV
          clear gV c0 l1 l2 l3
          generalize (w.alloc (.cells #[.int .i64 0, .int .i64 0, .int .i64 0, .int .i64 0] 58)).drewN nq = V at *
          go_wp2
          go_quiet (fail)
          have gV : Gr V (V.drewN nq) := Gr.drewN V nq
          have c0 := gV.cell c0a
          have l1 := gV.cell l1a
          have l2 := gV.cell l2a
          have l3 := gV.cell l3a
          have bV := bVa.gr gV
          have gW := gWa.trans gV
          clear gV c0a l1a l2a l3a bVa gWa
          generalize V.drewN nq = W at *
          clear hmi hw
          obtain ⟨d0, d1, d2, d3, f0, f1, f2, f3⟩ := Blk.four bV
          go_wp2_with (first
            | (go_at_call 113; refine (HGR.out _ (HP.out.gr gW)).mono ?_; rintro e w2 ⟨rfl, S2, hmv⟩)
            | fail)
          have hmvA := hmv.after (gW.chg (S := S))
          have hghS : ¬ S w.heap.size := fun e => Nat.lt_irrefl _ (HP.out.lt _ e)
          have hgh2 : ¬ S2 w.heap.size := fun e => by
            rcases hmv.sub _ e with h8 | h8
            · exact hghS h8
            · have := bV.lt; omega
          have b2 := hmv.chg.blk bV hghS
          obtain ⟨ads2, cs2, adt2, ct2, A2, C2, bd2, hx2⟩ := hmv.pool
          have z2 := hx2.lcell hi
          rw [HA.out] at z2
          obtain ⟨_, z1, z2, z3⟩ := z2
          have z0 : w2.cell? ⟨g, 0, none⟩ = some (.int .i64 (p.size : Int)) := hx2.head.1
          obtain ⟨L2, hL2⟩ : ∃ L2, L2 = ((landAt p i).slabs ++ [s]).length := ⟨_, rfl⟩
          have hL3 : L2 = (landAt p i).slabs.length + 1 := by rw [hL2]; simp
          have hL4 : L2 ≤ 4097 := by omega
          have hL5 : 1 ≤ L2 := by omega
          have hqi : ((L2 : Int) - 1) * (p.size : Int) = (of : Int) := by
            rw [hL3, hof, HM.out]; simp
          have hqw : IntKind.i64.wrap (of : Int) = (of : Int) := by rw [IntKind.wrap_i64]; omega
          have hol : of ≤ 268435456 := by omega
          simp only at z1 z2 z3
          rw [← hL2] at z2
          have HX2 := Lib.hid hx2
          have HMV := Lib.hid hmvA
          have hgg : w.heap.size ≠ g := fun e => hghS (e ▸ HX.out.sg)
          clear hx2 hmv hmvA hL2 hL3 hof bV gW d0 d1 d2 d3 f0 f1 f2 f3
          go_quiet (fail)
          have gV : Gr w2 (w2.drewN nq) := Gr.drewN w2 nq
          have y0 := gV.cell z0
          have y1 := gV.cell z1
          have y2 := gV.cell z2
          have y3 := gV.cell z3
          have b3 := b2.gr gV
          have HX3 := Lib.hid (HX2.out.gr gV)
          have HMV3 := Lib.hid (HMV.out.gr gV)
          have fg := HX3.out.blk.frozen (3 + i * 4 + 3)
          clear gV z0 z1 z2 z3 b2 hqi hqw
          generalize w2.drewN nq = W3 at *
          obtain ⟨d0, d1, d2, d3, f0, f1, f2, f3⟩ := Blk.four b3
          go_wp2
          have b5 : Blk (W3.setCell ⟨g, 3 + i * 4 + 3, none⟩ (.int .i64 ((of : Int) + (nn : Int)))) w.heap.size 58 _ := b3.far (p := ⟨g, 3 + i * 4 + 3, none⟩) hgg (.int .i64 ((of : Int) + (nn : Int)))
          obtain ⟨e0, e1, e2, e3, _⟩ := Blk.four (b5.set4 (.int .i64 (i : Int)) (.int .i64 ((landAt p i).gen : Int)) (.int .i64 (of : Int)) (.int .i64 (nn : Int)))
          refine bodyPost_ret (v := .tuple #[.agg #[.int .i64 (i : Int), .int .i64 ((landAt p i).gen : Int), .int .i64 (of : Int), .int .i64 (nn : Int)], .int .i64 0]) (by simp [results, Tryz.results66, go_sem, e0, e1, e2, e3]) rfl ?_
          rw [HE.out]
          exact ⟨rfl, S2, Moved.finish HMV3.out HX3.out HLN.out hi (of + nn) hgh2 (Nat.le_refl _) (grown_set4 _ _ _ _ _ _)⟩
  · rw [if_neg hgr] at HE
    have hpos : 0 < (landAt p i).slabs.length := by
      cases hsl : (landAt p i).slabs with
      | nil => exact absurd (.inl hsl) hgr
      | cons _ _ => simp
    have hfit : u + nn ≤ p.size := by
      have : ¬ p.size < u + nn := fun e => hgr (.inr e)
      omega
    clear hgr
    have hX := HX.out
    obtain ⟨of, hof⟩ : ∃ of, of = ((landAt p i).slabs.length - 1) * p.size + u := ⟨_, rfl⟩
    rw [← hof] at HE
    obtain ⟨q, hq⟩ : ∃ q, q = ((landAt p i).slabs.length - 1) * p.size := ⟨_, rfl⟩
    rw [← hq] at hof
    have hql : q ≤ 268435456 := by
      rw [hq]
      refine Nat.le_trans (Nat.mul_le_mul_right _ (Nat.sub_le _ 1)) ?_
      rw [← HM.out]; exact hcap
    have hqi : (((landAt p i).slabs.length : Int) - 1) * (p.size : Int) = (q : Int) := by
      rw [hq]
      obtain ⟨k, hk⟩ : ∃ k, (landAt p i).slabs.length = k + 1 := ⟨(landAt p i).slabs.length - 1, by omega⟩
      rw [hk]; simp
    have hol : of ≤ 268600000 := by omega
    have hqs : (q : Int) + (u : Int) = (of : Int) := by omega
    have hqw : IntKind.i64.wrap (q : Int) = (q : Int) := by rw [IntKind.wrap_i64]; omega
    have hb0 : (((landAt p i).slabs.length : Int) == 0) = false := beq_eq_false_iff_ne.2 (by omega)
    have HQ := Lib.hid (And.intro hqi (And.intro hqw hqs))
    have HLN := Lib.hid HOK.out.ln
    clear hqi hqw hqs hof hq
    go_enter Tryz.func66, Tryz.ntmps66
    go_wp2_with (first
      | (go_at_call 112; refine (HLA.out _ (Gr.alloc _ _)).mono ?_; rintro e w1 ⟨rfl, rfl⟩)
      | fail)
    go_quiet (fail)
    have gV : Gr (w.alloc (.cells #[.int .i64 0, .int .i64 0, .int .i64 0, .int .i64 0] 58)) ((w.alloc (.cells #[.int .i64 0, .int .i64 0, .int .i64 0, .int .i64 0] 58)).drewN nq) := Gr.drewN _ nq
    have c0a := gV.cell c0
    have l1a := gV.cell l1
    have l2a := gV.cell l2
    have l3a := gV.cell l3
    have bVa := (Blk.new w 58 #[.int .i64 0, .int .i64 0, .int .i64 0, .int .i64 0]).gr gV
    have gWa : Gr w ((w.alloc (.cells #[.int .i64 0, .int .i64 0, .int .i64 0, .int .i64 0] 58)).drewN nq) := (Gr.alloc w _).trans gV
    clear gV c0 l1 l2 l3
    generalize (w.alloc (.cells #[.int .i64 0, .int .i64 0, .int .i64 0, .int .i64 0] 58)).drewN nq = V at *
    go_wp2
    go_quiet (fail)
    have gV : Gr V (V.drewN nq) := Gr.drewN V nq
    have c0 := gV.cell c0a
    have l1 := gV.cell l1a
    have l2 := gV.cell l2a
    have l3 := gV.cell l3a
    have bV := bVa.gr gV
    have gW := gWa.trans gV
    clear gV c0a l1a l2a l3a bVa gWa
    generalize V.drewN nq = W at *
    clear hmi hw
    obtain ⟨d0, d1, d2, d3, f0, f1, f2, f3⟩ := Blk.four bV
    have hghS : ¬ S w.heap.size := fun e => Nat.lt_irrefl _ (HP.out.lt _ e)
    have HX2 := Lib.hid (HX.out.gr gW)
    have HMV := Lib.hid (show Moved S g p w W S from (Moved.refl HP.out).gr gW)
    have hgg : w.heap.size ≠ g := fun e => hghS (e ▸ HX.out.sg)
    clear gW d0 d1 d2 d3 f0 f1 f2 f3 hX
    go_wp2
    obtain ⟨hqi, hqw, hqs⟩ := HQ.out
    go_quiet (fail)
    have gV : Gr W (W.drewN nq) := Gr.drewN W nq
    have y0 := gV.cell c0
    have y1 := gV.cell l1
    have y2 := gV.cell l2
    have y3 := gV.cell l3
    have b3 := bV.gr gV
    have HX3 := Lib.hid (HX2.out.gr gV)
    have HMV3 := Lib.hid (HMV.out.gr gV)
    have fg := HX3.out.blk.frozen (3 + i * 4 + 3)
    clear gV c0 l1 l2 l3 bV hqi hqw hqs
    generalize W.drewN nq = W3 at *
    obtain ⟨d0, d1, d2, d3, f0, f1, f2, f3⟩ := Blk.four b3
    go_wp2
    have b5 : Blk (W3.setCell ⟨g, 3 + i * 4 + 3, none⟩ (.int .i64 ((of : Int) + (nn : Int)))) w.heap.size 58 _ := b3.far (p := ⟨g, 3 + i * 4 + 3, none⟩) hgg (.int .i64 ((of : Int) + (nn : Int)))
    obtain ⟨e0, e1, e2, e3, _⟩ := Blk.four (b5.set4 (.int .i64 (i : Int)) (.int .i64 ((landAt p i).gen : Int)) (.int .i64 (of : Int)) (.int .i64 (nn : Int)))
    refine bodyPost_ret (v := .tuple #[.agg #[.int .i64 (i : Int), .int .i64 ((landAt p i).gen : Int), .int .i64 (of : Int), .int .i64 (nn : Int)], .int .i64 0]) (by simp [results, Tryz.results66, go_sem, e0, e1, e2, e3]) rfl ?_
    rw [HE.out]
    exact ⟨rfl, S, Moved.finish HMV3.out HX3.out HLN.out hi (of + nn) hghS (Nat.le_refl _) (grown_set4 _ _ _ _ _ _)⟩
end Go.Proofs.YtpaogoehgkoaeaaGreatDoor
/- Layer 1 (region): Alloc walked. -/
namespace Go.Proofs.YtpaogoehgkoaeaaGreatDoor
set_option linter.unusedVariables false
set_option linter.unusedSimpArgs false
open Go.RowKit
set_option maxRecDepth 100000 in
set_option maxHeartbeats 4000000 in
theorem Alloc_any (w : World) (S : Nat → Prop) (g : Nat) (p : PoolF) (r n a : Int) (h : PoolAt w S g p) (hp : PoolOk p) :
    Calls Tryz.prog 66 #[.pointer (some ⟨g, 0, none⟩), .int .i64 r, .int .i64 n, .int .i64 a] w fun e w' => e = .returned (.tuple #[hdv (allocF p r n a).1, .int .i64 ((allocF p r n a).2.1 : Int)]) ∧ ∃ S', Moved S g (allocF p r n a).2.2 w w' S' := by
  have HP := Lib.hid h
  have HLA := Lib.hid (fun w' (k : Gr w w') => land_any w' S g p r (h.gr k))
  have HOK := Lib.hid hp
  cases hl : landF p r with
  | none =>
    rw [hl] at HLA
    have HE := Lib.hid (show allocF p r n a = (noHd, 7, p) by unfold allocF; rw [hl])
    clear h hp hl
    go_enter Tryz.func66, Tryz.ntmps66
    go_wp2_with (first
      | (go_at_call 112; refine (HLA.out _ (Gr.alloc _ _)).mono ?_; rintro e w1 ⟨rfl, rfl⟩)
      | fail)
    obtain ⟨d0, d1, d2, d3, _⟩ := Blk.four (Blk.new w 58 #[.int .i64 0, .int .i64 0, .int .i64 0, .int .i64 0])
    refine bodyPost_ret (v := .tuple #[.agg #[.int .i64 0, .int .i64 0, .int .i64 0, .int .i64 0], .int .i64 7]) (by simp [results, Tryz.results66, go_sem, d0, d1, d2, d3]) rfl ?_
    rw [HE.out]
    exact ⟨rfl, S, (Moved.refl HP.out).gr (Gr.alloc _ _)⟩
  | some i =>
    rw [hl] at HLA
    obtain ⟨rfl, hi, hth⟩ := landF_some hl
    obtain ⟨ads, cs, adt, ct, A, C, bd, hx⟩ := h
    have hlk := hp.ld i hi
    have hsz1 := hp.s1
    have hsz2 := hp.s2
    have hcap := hlk.cap hp
    have hfl := hlk.fill_le
    have hlen := Nat.le_trans hlk.len hp.n2
    have hfil := hlk.fill
    have hx1 := hx.gr (Gr.alloc w (.cells #[.int .i64 0, .int .i64 0, .int .i64 0, .int .i64 0] 58))
    obtain ⟨c0, _, _⟩ := hx1.head
    obtain ⟨_, l1, l2, l3⟩ := hx1.lcell hi
    have HX := Lib.hid hx
    by_cases h1 : n < 1
    · have hbad : n < 1 ∨ n > (p.size : Int) ∨ alignOk a = false := .inl h1
      have HE := Lib.hid (show allocF p (i : Int) n a = (noHd, 1, p) by unfold allocF; rw [hl]; simp only; rw [if_pos hbad])
      clear hp hl hx hx1 hlk hfil hbad
      go_enter Tryz.func66, Tryz.ntmps66
      go_wp2_with (first
        | (go_at_call 112; refine (HLA.out _ (Gr.alloc _ _)).mono ?_; rintro e w1 ⟨rfl, rfl⟩)
        | fail)
      obtain ⟨d0, d1, d2, d3, _⟩ := Blk.four (Blk.new w 58 #[.int .i64 0, .int .i64 0, .int .i64 0, .int .i64 0])
      refine bodyPost_ret (v := .tuple #[.agg #[.int .i64 0, .int .i64 0, .int .i64 0, .int .i64 0], .int .i64 1]) (by simp [results, Tryz.results66, go_sem, d0, d1, d2, d3]) rfl ?_
      rw [HE.out]
      exact ⟨rfl, S, (Moved.refl HP.out).gr (Gr.alloc _ _)⟩
    · by_cases h2 : n > (p.size : Int)
      · have hbad : n < 1 ∨ n > (p.size : Int) ∨ alignOk a = false := .inr (.inl h2)
        have HE := Lib.hid (show allocF p (i : Int) n a = (noHd, 1, p) by unfold allocF; rw [hl]; simp only; rw [if_pos hbad])
        clear hp hl hx hx1 hlk hfil hbad
        go_enter Tryz.func66, Tryz.ntmps66
        go_wp2_with (first
          | (go_at_call 112; refine (HLA.out _ (Gr.alloc _ _)).mono ?_; rintro e w1 ⟨rfl, rfl⟩)
          | fail)
        obtain ⟨d0, d1, d2, d3, _⟩ := Blk.four (Blk.new w 58 #[.int .i64 0, .int .i64 0, .int .i64 0, .int .i64 0])
        refine bodyPost_ret (v := .tuple #[.agg #[.int .i64 0, .int .i64 0, .int .i64 0, .int .i64 0], .int .i64 1]) (by simp [results, Tryz.results66, go_sem, d0, d1, d2, d3]) rfl ?_
        rw [HE.out]
        exact ⟨rfl, S, (Moved.refl HP.out).gr (Gr.alloc _ _)⟩
      · by_cases h3 : a < 1
        · have hbad : n < 1 ∨ n > (p.size : Int) ∨ alignOk a = false := .inr (.inr (by cases hk : alignOk a with | false => rfl | true => have := alignOk_range hk; omega))
          have HE := Lib.hid (show allocF p (i : Int) n a = (noHd, 1, p) by unfold allocF; rw [hl]; simp only; rw [if_pos hbad])
          clear hp hl hx hx1 hlk hfil hbad
          go_enter Tryz.func66, Tryz.ntmps66
          go_wp2_with (first
            | (go_at_call 112; refine (HLA.out _ (Gr.alloc _ _)).mono ?_; rintro e w1 ⟨rfl, rfl⟩)
            | fail)
          obtain ⟨d0, d1, d2, d3, _⟩ := Blk.four (Blk.new w 58 #[.int .i64 0, .int .i64 0, .int .i64 0, .int .i64 0])
          refine bodyPost_ret (v := .tuple #[.agg #[.int .i64 0, .int .i64 0, .int .i64 0, .int .i64 0], .int .i64 1]) (by simp [results, Tryz.results66, go_sem, d0, d1, d2, d3]) rfl ?_
          rw [HE.out]
          exact ⟨rfl, S, (Moved.refl HP.out).gr (Gr.alloc _ _)⟩
        · by_cases h4 : a > 64
          · have hbad : n < 1 ∨ n > (p.size : Int) ∨ alignOk a = false := .inr (.inr (by cases hk : alignOk a with | false => rfl | true => have := alignOk_range hk; omega))
            have HE := Lib.hid (show allocF p (i : Int) n a = (noHd, 1, p) by unfold allocF; rw [hl]; simp only; rw [if_pos hbad])
            clear hp hl hx hx1 hlk hfil hbad
            go_enter Tryz.func66, Tryz.ntmps66
            go_wp2_with (first
              | (go_at_call 112; refine (HLA.out _ (Gr.alloc _ _)).mono ?_; rintro e w1 ⟨rfl, rfl⟩)
              | fail)
            obtain ⟨d0, d1, d2, d3, _⟩ := Blk.four (Blk.new w 58 #[.int .i64 0, .int .i64 0, .int .i64 0, .int .i64 0])
            refine bodyPost_ret (v := .tuple #[.agg #[.int .i64 0, .int .i64 0, .int .i64 0, .int .i64 0], .int .i64 1]) (by simp [results, Tryz.results66, go_sem, d0, d1, d2, d3]) rfl ?_
            rw [HE.out]
            exact ⟨rfl, S, (Moved.refl HP.out).gr (Gr.alloc _ _)⟩
          · rcases align_check (a := a) (by omega) (by omega) with ⟨e5, hk⟩ | ⟨e5, hk⟩
            · exact Alloc_good w S g p i n a HP.out hp hl h1 h2 h3 h4 e5 hk
            · have hbad : n < 1 ∨ n > (p.size : Int) ∨ alignOk a = false := .inr (.inr hk)
              obtain ⟨xx, hxx⟩ : ∃ xx, bits .and .i64 a (a - 1) = xx := ⟨_, rfl⟩
              rw [hxx] at e5
              have e6 : (xx != 0) = true := by simpa using e5
              clear e5
              clear hk
              have HE := Lib.hid (show allocF p (i : Int) n a = (noHd, 1, p) by unfold allocF; rw [hl]; simp only; rw [if_pos hbad])
              clear hp hl hx hx1 hlk hfil hbad
              go_enter Tryz.func66, Tryz.ntmps66
              go_wp2_with (first
                | (go_at_call 112; refine (HLA.out _ (Gr.alloc _ _)).mono ?_; rintro e w1 ⟨rfl, rfl⟩)
                | fail)
              obtain ⟨d0, d1, d2, d3, _⟩ := Blk.four (Blk.new w 58 #[.int .i64 0, .int .i64 0, .int .i64 0, .int .i64 0])
              refine bodyPost_ret (v := .tuple #[.agg #[.int .i64 0, .int .i64 0, .int .i64 0, .int .i64 0], .int .i64 1]) (by simp [results, Tryz.results66, go_sem, d0, d1, d2, d3]) rfl ?_
              rw [HE.out]
              exact ⟨rfl, S, (Moved.refl HP.out).gr (Gr.alloc _ _)⟩
end Go.Proofs.YtpaogoehgkoaeaaGreatDoor
/- A region that draws its order, in which one operation (a store) ends a phase: what is needed ahead of it is known to be done in that phase. No program is in sight here. -/
namespace Go.Proofs.YtpaogoehgkoaeaaGreatDoor
set_option linter.unusedVariables false
set_option linter.unusedSimpArgs false
open Go.RowKit
section
variable {P : Program}
/-- a step, that keeps the phase if it is to -/
def LeP (Le : World → World → Prop) (Pre : World → Prop) (keep : Bool) (w w' : World) : Prop := Le w w' ∧ (keep = true → Pre w → Pre w')
/-- is done ahead of operation s, or is it -/
def preB (l : List Oper) (s i : Nat) : Bool := i == s || (match l[s]? with | some o => (depsOf o).contains i | none => false)
def ShownP (P : Program) (Le : World → World → Prop) (Pre : World → Prop) (ops : List Oper) (s : Nat) (R : Nat → Value → World → Prop) (a0 : Act) (w0 : World) (i : Nat) (o : Oper) : Prop :=
  ∀ ρ w, Ev ρ → (Le w0 w ∧ (preB ops s i = true → Pre w)) → KnownAll ops R a0 o ρ w (readsOf ops o) →
    if wantedBy ops o ρ then growUpon P (LeP Le Pre (i != s)) w (R i) ((execOp ρ o).run P w) else R i undef w
def AllShownP (P : Program) (Le : World → World → Prop) (Pre : World → Prop) (ops : List Oper) (s : Nat) (Rs : List (Value → World → Prop)) (a0 : Act) (w0 : World) : List Oper → Nat → Prop
  | [], _ => True
  | o :: r, i => ShownP P Le Pre ops s (nth Rs) a0 w0 i o ∧ AllShownP P Le Pre ops s Rs a0 w0 r (i + 1)
theorem AllShownP.get {Le : World → World → Prop} {Pre : World → Prop} {ops : List Oper} {s : Nat} {Rs : List (Value → World → Prop)} {a0 : Act} {w0 : World} : ∀ {l : List Oper} {k : Nat}, AllShownP P Le Pre ops s Rs a0 w0 l k → ∀ i o, l[i]? = some o → ShownP P Le Pre ops s (nth Rs) a0 w0 (k + i) o
  | [], _, _, i, o, hi => by simp at hi
  | x :: r, k, h, 0, o, hi => by simp at hi; subst hi; exact h.1
  | x :: r, k, h, i + 1, o, hi => by
    have := h.2.get i o (by simpa using hi)
    rwa [show k + 1 + i = k + (i + 1) by omega] at this
@[go_sem] theorem leP_same {Le : World → World → Prop} {Pre : World → Prop} {k : Bool} {w : World} (h : Le w w) : LeP Le Pre k w w ↔ True := ⟨fun _ => trivial, fun _ => ⟨h, fun _ x => x⟩⟩
/-- what is known stays known -/
def Keeping (A B C : World → Prop) (w w' : World) : Prop := (A w → A w') ∧ (B w → B w') ∧ (C w → C w')
@[go_sem] theorem keeping_refl (A B C : World → Prop) (w : World) : Keeping A B C w w ↔ True := ⟨fun _ => trivial, fun _ => ⟨id, id, id⟩⟩
def KnownB (A B C : World → Prop) : Value → World → Prop := fun _ w => B w
def KnownC (A B C : World → Prop) : Value → World → Prop := fun _ w => C w
theorem KnownB.stable (A B C : World → Prop) : Stable (Keeping A B C) (KnownB A B C) := fun _ _ _ h k => k.2.1 h
theorem KnownC.stable (A B C : World → Prop) : Stable (Keeping A B C) (KnownC A B C) := fun _ _ _ h k => k.2.2 h
end
end Go.Proofs.YtpaogoehgkoaeaaGreatDoor
/- A region that draws its order, in which a slice that the call owns is appended to, and then a cell of a block is stored. No program is in sight here. -/
namespace Go.Proofs.YtpaogoehgkoaeaaGreatDoor
set_option linter.unusedVariables false
set_option linter.unusedSimpArgs false
open Go.RowKit
section
variable {P : Program}
/-- THE STEP of such an append, by what it needs of the world -/
theorem append_once3 {t u e : TypeId} {z : Value} {size bytes : Nat} (E : Elem P t e z size bytes) {w0 w : World} {base : Nat} {ad : Option Addr} {cap n : Nat} {xs : List Value}
    (hown : Owns w0 base e size ad cap n xs) {x : Value} {m : Nat} {news : List Value} {row : Option Nat} (hrow : row = ad.map (·.block))
    {A B : Option Obj} (hA : ∀ g, row = some g → A = w0.heap[g]?) (hB : B = if n + m ≤ cap then appRow (n * size) news A else A)
    (hrc : ∀ g, row = some g → w.heap[g]? = w0.heap[g]? ∨ (w0.heap[g]? = A ∧ w.heap[g]? = B)) (hsz0 : w0.heap.size ≤ w.heap.size) (hx : Src P u w size x m news)
    (h63 : n + m ≤ maxLen) (hbytes : (n + m) * bytes ≤ 140737488355328) (hbase : base ≤ w0.heap.size) {ty : TypeId} :
    ∃ v w', (Builtin.append_ #[t, u] ty #[.slice ad n cap, x]).run P w = .ok v w' ∧ Once row A B w w' ∧ Apn row B base e size (n + m) (xs ++ news) w0.heap.size v w' := by
  have hwOwn : Owns w base e size ad cap n xs ∧ ∀ g, row = some g → n + m ≤ cap → appRow (n * size) news w.heap[g]? = B := by
    obtain ⟨h1, h2, h3, ⟨e1, e2, e3⟩ | ⟨g, cur, fr, e1, e2, hg, hfr, hs, ht⟩⟩ := hown
    · subst e1
      exact ⟨⟨h1, h2, h3, .inl ⟨rfl, e2, e3⟩⟩, fun g hg => by rw [hrow] at hg; cases hg⟩
    · subst e1
      have hr : row = some g := hrow
      have hAg := hA g hr
      rw [hg] at hAg
      rcases hrc g hr with h | ⟨_, h⟩
      · rw [hg] at h
        refine ⟨⟨h1, h2, h3, .inr ⟨g, cur, fr, rfl, e2, h, hfr, hs, ht⟩⟩, fun g' hg' hrm => ?_⟩
        rw [hr] at hg'; cases hg'
        rw [h, hB, if_pos hrm, hAg]
      · have hnc : n * size ≤ cur.size := by rw [hs]; exact Nat.mul_le_mul_right _ h2
        have hlen : (cur.toList.take (n * size)).length = n * size := by simp; omega
        have htk : (cur.toList.take (n * size) ++ news ++ cur.toList.drop (n * size + news.length)).take (n * size) = xs := by
          rw [List.append_assoc]
          have := List.take_left (l₁ := cur.toList.take (n * size)) (l₂ := news ++ cur.toList.drop (n * size + news.length))
          rw [hlen] at this
          rw [this, ht]
        by_cases hroom : n + m ≤ cap
        · rw [hB, if_pos hroom, hAg] at h
          have hfit : n * size + news.length ≤ cur.size := by rw [hx.1, hs, ← Nat.add_mul]; exact Nat.mul_le_mul_right _ hroom
          have hsz : (cur.toList.take (n * size) ++ news ++ cur.toList.drop (n * size + news.length)).toArray.size = cur.size := by simp; omega
          refine ⟨⟨h1, h2, h3, .inr ⟨g, _, fr, rfl, e2, h, by rw [hsz]; exact hfr, by rw [hsz]; exact hs, htk⟩⟩, fun g' hg' _ => ?_⟩
          rw [hr] at hg'; cases hg'
          rw [h, hB, if_pos hroom, hAg]
          exact appRow_idem _ _ _ _ _ hfit
        · rw [hB, if_neg hroom, hAg] at h
          exact ⟨⟨h1, h2, h3, .inr ⟨g, cur, fr, rfl, e2, h, hfr, hs, ht⟩⟩, fun g' hg' hrm => absurd hrm hroom⟩
  obtain ⟨ho, hBw⟩ := hwOwn
  obtain ⟨ad', cap', w', r1, r2, r3, r4, r5⟩ := run_append_at (u := u) (ty := ty) E ho hx h63 hbytes (Nat.le_trans hbase hsz0)
  refine ⟨_, w', r1, ⟨hrow ▸ r3, ?_⟩, ad', cap', rfl, r2, ?_, fun a ha => ?_⟩
  · intro g hg
    have had : ad = some ⟨g, 0, .none⟩ := by
      rw [hrow] at hg
      obtain ⟨_, _, _, ⟨e1, _⟩ | ⟨g', cur, fr, e1, _⟩⟩ := ho
      · rw [e1] at hg; cases hg
      · rw [e1] at hg ⊢; cases hg; rfl
    rcases r5 g had with ⟨hrm, h⟩ | ⟨h, _⟩
    · rw [hBw g hg hrm] at h
      rcases hrc g hg with h2 | ⟨_, h2⟩
      · exact .inr ⟨h2.trans (hA g hg).symm, h⟩
      · exact .inl (h.trans h2.symm)
    · exact .inl h
  · intro a ha hg
    have had : ad = some ⟨a.block, 0, .none⟩ := by
      rw [hrow] at hg
      obtain ⟨_, _, _, ⟨e1, _⟩ | ⟨g', cur, fr, e1, _⟩⟩ := ho
      · rw [e1] at hg; cases hg
      · rw [e1] at hg ⊢; cases hg; rfl
    rcases r5 a.block had with ⟨hrm, h⟩ | ⟨_, h⟩
    · rw [h]; exact hBw _ hg.symm hrm
    · exact absurd rfl (h a ha)
  · rcases r4 a ha with h | h
    · exact .inl (by rw [hrow, h]; rfl)
    · exact .inr (Nat.le_trans hsz0 h)
/-- a row becomes another one, just once; a block turns into something good -/
structure Duo (row : Option Nat) (A B : Option Obj) (g : Nat) (Good : World → Prop) (w w' : World) : Prop where
  os : w'.os = w.os
  tape : w'.tape = w.tape
  output : w'.output = w.output
  size : w.heap.size ≤ w'.heap.size
  block : ∀ k, k < w.heap.size → some k ≠ row → k ≠ g → w'.heap[k]? = w.heap[k]?
  row : ∀ r, row = some r → w'.heap[r]? = w.heap[r]? ∨ (w.heap[r]? = A ∧ w'.heap[r]? = B)
  turn : w'.heap[g]? = w.heap[g]? ∨ Good w'
  good : Good w → Good w'
variable {row : Option Nat} {A B : Option Obj} {g : Nat} {Good : World → Prop}
theorem Duo.refl (w : World) : Duo row A B g Good w w := ⟨rfl, rfl, rfl, Nat.le_refl _, fun _ _ _ _ => rfl, fun _ _ => .inl rfl, .inl rfl, id⟩
theorem Duo.trans {a b c : World} (h : Duo row A B g Good a b) (k : Duo row A B g Good b c) : Duo row A B g Good a c :=
  ⟨k.os.trans h.os, k.tape.trans h.tape, k.output.trans h.output, Nat.le_trans h.size k.size,
   fun j hj h1 h2 => (k.block j (Nat.lt_of_lt_of_le hj h.size) h1 h2).trans (h.block j hj h1 h2),
   fun r hr => by
    rcases h.row r hr with h1 | ⟨h1, h2⟩ <;> rcases k.row r hr with k1 | ⟨k1, k2⟩
    · exact .inl (k1.trans h1)
    · exact .inr ⟨h1 ▸ k1, k2⟩
    · exact .inr ⟨h1, k1.trans h2⟩
    · exact .inr ⟨h1, k2⟩,
   by
    rcases k.turn with k1 | k1
    · rcases h.turn with h1 | h1
      · exact .inl (k1.trans h1)
      · exact .inr (k.good h1)
    · exact .inr k1,
   fun x => k.good (h.good x)⟩
theorem Duo.drew (hd : ∀ w, Good w → Good w.drew) (w : World) : Duo row A B g Good w w.drew := ⟨rfl, rfl, rfl, Nat.le_refl _, fun _ _ _ _ => rfl, fun _ _ => .inl rfl, .inl rfl, hd w⟩
theorem Gr.duo {w w' : World} (h : Gr w w') (hr : ∀ r, row = some r → r < w.heap.size) (hg : g < w.heap.size) (hk : Good w → Good w') : Duo row A B g Good w w' :=
  ⟨h.os, h.tape, h.output, h.size, fun k hk _ _ => h.block k hk, fun r hr' => .inl (h.block r (hr r hr')), .inl (h.block g hg), hk⟩
theorem Once.duo {w w' : World} (h : Once row A B w w') (hg : g < w.heap.size) (hgr : some g ≠ row) (hk : Good w → Good w') : Duo row A B g Good w w' :=
  ⟨h.1.os, h.1.tape, h.1.output, h.1.size, fun k hk h1 _ => h.1.block k hk h1, h.2, .inl (h.1.block g hg hgr), hk⟩
@[go_sem] theorem duo_refl (w : World) : Duo row A B g Good w w ↔ True := ⟨fun _ => trivial, fun _ => Duo.refl w⟩
theorem Duo.cell {w w' : World} (h : Duo row A B g Good w w') {p : Addr} {v : Value} (hp : w.cell? p = some v) (hne : some p.block ≠ row) (hg : p.block ≠ g) : w'.cell? p = some v := by
  have := h.block p.block (World.block_lt_of_cell? w p hp) hne hg
  unfold World.cell? at hp ⊢
  rw [this]; exact hp
theorem Duo.far {w w' a : World} (h : Duo row A B g Good w w') (hr : ∀ r, row = some r → a.heap.size ≤ r) (k : a.grownBy w (some g)) : a.grownBy w' (some g) :=
  ⟨h.os.trans k.os, h.tape.trans k.tape, h.output.trans k.output, Nat.le_trans k.size h.size, fun j hj hne => by
    have hj2 := Nat.lt_of_lt_of_le hj k.size
    exact (h.block j hj2 (fun e => by have := hr j e.symm; omega) (fun e => hne (by rw [e]))).trans (k.block j hj hne)⟩
theorem Apn.duo {base : Nat} {e : TypeId} {size n : Nat} {xs : List Value} {N : Nat} {v : Value} {w1 w2 : World} (h : Apn row B base e size n xs N v w1) (hg : g < N) (hgr : some g ≠ row) (k : Duo row A B g Good w1 w2) : Apn row B base e size n xs N v w2 := by
  obtain ⟨ad, cap, rfl, ho, hb, hn⟩ := h
  have key : ∀ y, ad = some y → w2.heap[y.block]? = w1.heap[y.block]? := by
    intro y hy
    by_cases hr : some y.block = row
    · have h1 := hb _ hy hr
      rcases k.row y.block hr.symm with h2 | ⟨_, h2⟩
      · exact h2
      · rw [h2]; exact h1.symm
    · refine k.block y.block (ho.lt _ hy).2 hr (fun e => ?_)
      rcases hn y hy with h1 | h1
      · exact hr h1
      · omega
  exact ⟨ad, cap, rfl, ho.kept (fun g' hg' => key _ hg'), fun y hy hr => by rw [key y hy]; exact hb y hy hr, hn⟩
theorem Apn.dstable {base : Nat} {e : TypeId} {size n : Nat} {xs : List Value} {N : Nat} (hg : g < N) (hgr : some g ≠ row) : Stable (Duo row A B g Good) (Apn row B base e size n xs N) := fun _ _ _ h k => h.duo hg hgr k
/-- one element, in a block that was made since -/
def OneD (N : Nat) (xs : List Value) : Value → World → Prop := fun v w => ∃ g e fr, v = .slice (some ⟨g, 0, none⟩) 1 1 ∧ N ≤ g ∧ w.heap[g]? = some (.cells xs.toArray e fr)
theorem OneD.dstable {N : Nat} {xs : List Value} (hg : g < N) (hr : ∀ r, row = some r → r < N) : Stable (Duo row A B g Good) (OneD N xs) := by
  rintro v w1 w2 ⟨k, e, fr, rfl, hN, hk⟩ d
  exact ⟨k, e, fr, rfl, hN, (d.block k (Array.getElem?_eq_some_iff.1 hk).1 (fun e => by have := hr k e.symm; omega) (by omega)).trans hk⟩
/-- a block whose last cell is the slice of the append -/
def TailGood (row : Option Nat) (B : Option Obj) (base : Nat) (t e : TypeId) (size n : Nat) (xs : List Value) (N g : Nat) (cs : List Value) (w : World) : Prop := ∃ v, Blk w g t (cs ++ [v]) ∧ Apn row B base e size n xs N v w
theorem TailGood.duo {base : Nat} {t e : TypeId} {size n : Nat} {xs : List Value} {N : Nat} {cs : List Value} {w1 w2 : World} (h : TailGood row B base t e size n xs N g cs w1) (hg : g < N) (hgr : some g ≠ row) (k : Duo row A B g Good w1 w2) (hs : w2.heap[g]? = w1.heap[g]?) : TailGood row B base t e size n xs N g cs w2 := by
  obtain ⟨v, h1, h2⟩ := h
  exact ⟨v, hs.trans h1, h2.duo hg hgr k⟩
theorem TailGood.drew {base : Nat} {t e : TypeId} {size n : Nat} {xs : List Value} {N : Nat} {cs : List Value} (hg : g < N) (hgr : some g ≠ row) (w : World) (h : TailGood row B base t e size n xs N g cs w) : TailGood row B base t e size n xs N g cs w.drew :=
  h.duo (A := none) (Good := fun _ => True) hg hgr (Duo.drew (fun _ _ => trivial) w) rfl
/-- a good thing since -/
def SinceG (G : World → Prop) : Value → World → Prop := fun _ w => G w
theorem SinceG.stable : Stable (Duo row A B g Good) (SinceG Good) := fun _ _ _ h k => k.good h
end
end Go.Proofs.YtpaogoehgkoaeaaGreatDoor
namespace Go.Proofs.YtpaogoehgkoaeaaGreatDoor
set_option linter.unusedVariables false
set_option linter.unusedSimpArgs false
open Go.RowKit
section
variable {P : Program}
/-- a step, that keeps all phases but its own -/
def LePs (Le : World → World → Prop) (Pre : Nat → World → Prop) (i : Nat) (w w' : World) : Prop := Le w w' ∧ ∀ s, s ≠ i → Pre s w → Pre s w'
def ShownPs (P : Program) (Le : World → World → Prop) (Pre : Nat → World → Prop) (ops : List Oper) (R : Nat → Value → World → Prop) (a0 : Act) (w0 : World) (i : Nat) (o : Oper) : Prop :=
  ∀ ρ w, Ev ρ → (Le w0 w ∧ ∀ s, preB ops s i = true → Pre s w) → KnownAll ops R a0 o ρ w (readsOf ops o) →
    if wantedBy ops o ρ then growUpon P (LePs Le Pre i) w (R i) ((execOp ρ o).run P w) else R i undef w
def AllShownPs (P : Program) (Le : World → World → Prop) (Pre : Nat → World → Prop) (ops : List Oper) (Rs : List (Value → World → Prop)) (a0 : Act) (w0 : World) : List Oper → Nat → Prop
  | [], _ => True
  | o :: r, i => ShownPs P Le Pre ops (nth Rs) a0 w0 i o ∧ AllShownPs P Le Pre ops Rs a0 w0 r (i + 1)
theorem AllShownPs.get {Le : World → World → Prop} {Pre : Nat → World → Prop} {ops : List Oper} {Rs : List (Value → World → Prop)} {a0 : Act} {w0 : World} : ∀ {l : List Oper} {k : Nat}, AllShownPs P Le Pre ops Rs a0 w0 l k → ∀ i o, l[i]? = some o → ShownPs P Le Pre ops (nth Rs) a0 w0 (k + i) o
  | [], _, _, i, o, hi => by simp at hi
  | x :: r, k, h, 0, o, hi => by simp at hi; subst hi; exact h.1
  | x :: r, k, h, i + 1, o, hi => by
    have := h.2.get i o (by simpa using hi)
    rwa [show k + 1 + i = k + (i + 1) by omega] at this
@[go_sem] theorem lePs_same {Le : World → World → Prop} {Pre : Nat → World → Prop} {k : Nat} {w : World} (h : Le w w) : LePs Le Pre k w w ↔ True := ⟨fun _ => trivial, fun _ => ⟨h, fun _ _ x => x⟩⟩
/-- what holds on the way -/
structure OnWayPs (Pre : Nat → World → Prop) (Le : World → World → Prop) (ops : List Oper) (R : Nat → Value → World → Prop) (a0 : Act) (w0 : World) (listed : Array Bool) (a : Act) (w : World) : Prop where
  size : listed.size = ops.length
  le : Le w0 w
  defers : a.defers = a0.defers
  tmps : a.tmps.size = a0.tmps.size
  closed : ∀ j o, ops[j]? = some o → listed.getD j false = true → ∀ d ∈ depsOf o, listed.getD d false = true
  known : ∀ j o, ops[j]? = some o → listed.getD j false = true → ∃ v, R j v w ∧ ∀ d, o.dst = some d → a.tmps.getD d undef = v
  pre : ∀ s, listed.getD s false = false → Pre s w
  rest : ∀ t, (∀ j o, ops[j]? = some o → listed.getD j false = true → o.dst ≠ some t) → a.tmps.getD t undef = a0.tmps.getD t undef

theorem region_any_phases {Pre : Nat → World → Prop} {Le : World → World → Prop} (hrefl : ∀ w, Le w w) (htrans : ∀ a b c, Le a b → Le b c → Le a c) (hdrew : ∀ w, Le w w.drew) {id : Nat} {Q : Exit → Act → World → Prop} {a0 : Act} {w : World} {l : List Oper} (n : Nat) (R : Nat → Value → World → Prop)
    (hm : P.follows .mixedOrders = true) (hB : anyB l n = true) (hn : a0.tmps.size = n) (hst : ∀ i v w1 w2, R i v w1 → Le w1 w2 → R i v w2)
    (hp0 : ∀ s, Pre s w.drew) (hs : ∀ i o, l[i]? = some o → ShownPs P Le Pre l R a0 w i o)
    (hfin : ∀ w1 val, Le w w1 → (∀ i o, l[i]? = some o → ∃ v, R i v w1 ∧ (o.dst.isSome = true → val i = v)) → Q .normal (putAll val l 0 a0) w1) : (Code.region id l.toArray true).wp P Q a0 w := by
  have hsize : l.toArray.size = l.length := by simp
  have allL : ∀ (listed : Array Bool), listed.size = l.length → Region.ready .any l.toArray listed = [] → ∀ k, k < l.length → listed.getD k false = true := by
    intro listed hls hr k
    induction k using Nat.strongRecOn with
    | _ k ih =>
      intro hk
      cases hc : listed.getD k false with
      | true => rfl
      | false =>
        exfalso
        have hok := opOk_of hB (i := k) (o := l[k]) (by simp [hk])
        have hmem : k ∈ Region.ready .any l.toArray listed := by
          rw [mem_ready]
          refine ⟨?_, l[k], by simp [hk], fun e he hb => ?_⟩
          · have : k < listed.size := by omega
            simp [this] at hc ⊢; exact hc
          · have hd : e.on ∈ depsOf l[k] := by
              unfold depsOf
              rw [List.mem_filterMap]
              exact ⟨e, by simpa using he, by rw [hb]; rfl⟩
            simp only [opOk, Bool.and_eq_true, List.all_eq_true, decide_eq_true_eq] at hok
            have hlt := hok.1.1.2 _ hd
            exact ih _ hlt (by omega)
        rw [hr] at hmem
        cases hmem
  have fin : ∀ (listed : Array Bool) (a : Act) (w1 : World), OnWayPs Pre Le l R a0 w listed a w1 → (∀ k, k < l.length → listed.getD k false = true) → Q .normal a w1 := by
    intro listed a w1 inv hall
    have hval := hfin w1 (fun j => match dstOf l j with | some d => a.tmps.getD d undef | none => undef) inv.le (fun i o hi => by
      obtain ⟨v, hv, he⟩ := inv.known i o hi (hall i (List.getElem?_eq_some_iff.1 hi).1)
      refine ⟨v, hv, fun hd => ?_⟩
      obtain ⟨d, hd⟩ := Option.isSome_iff_exists.1 hd
      have : dstOf l i = some d := by simp [dstOf, hi, hd]
      simp only [this]
      exact he d hd)
    have e : a = putAll (fun j => match dstOf l j with | some d => a.tmps.getD d undef | none => undef) l 0 a0 := by
      refine act_ext (by rw [putAll_size, inv.tmps]) (by rw [putAll_defers, inv.defers]) fun t => ?_
      by_cases ht : ∃ (j : Nat) (o : Oper), l[j]? = some o ∧ o.dst = some t
      · obtain ⟨j, o, hj, hd⟩ := ht
        have hok := opOk_of hB hj
        have htn : t < n := by
          simp only [opOk, hd, Bool.and_eq_true, decide_eq_true_eq] at hok
          exact hok.1.1.1.2.1
        rw [putAll_at _ t l 0 a0 j o hj hd (by rw [hn]; exact htn) (fun j' o' hj' hne hd' => by
          have hok' := opOk_of hB hj'
          simp only [opOk, Bool.and_eq_true, List.all_eq_true] at hok'
          have h2 := hok'.2 j (List.mem_range.2 (List.getElem?_eq_some_iff.1 hj).1)
          have hdj : dstOf l j = some t := by simp [dstOf, hj, hd]
          simp [hdj, hd', Ne.symm hne] at h2)]
        have hdj : dstOf l (0 + j) = some t := by simp [dstOf, hj, hd]
        simp only [hdj]
      · rw [putAll_other _ t l 0 a0 (fun o ho hd => ht (by
          obtain ⟨j, hj, e⟩ := List.getElem_of_mem ho
          exact ⟨j, o, by simp [hj, e], hd⟩))]
        exact inv.rest t (fun j o hj _ hd => ht ⟨j, o, hj, hd⟩)
    rw [e]; exact hval
  have key : ∀ (fuel : Nat) (listed : Array Bool) (a : Act) (w1 : World), OnWayPs Pre Le l R a0 w listed a w1 → cnt (fun k => listed.getD k false) l.length ≤ fuel → wpAny P .any l.toArray Q fuel listed a w1 := by
    intro fuel
    induction fuel with
    | zero =>
      intro listed a w1 inv hc
      have hall := cnt_zero (by omega : cnt (fun k => listed.getD k false) l.length = 0)
      refine ⟨?_, fin listed a w1 inv hall⟩
      rw [List.eq_nil_iff_forall_not_mem]
      intro j hj
      obtain ⟨h1, o, ho, _⟩ := mem_ready.1 hj
      have hlt : j < l.length := by
        have := (Array.getElem?_eq_some_iff.1 ho).1
        simpa using this
      have h2 := hall j hlt
      have : j < listed.size := by rw [inv.size]; exact hlt
      simp [this] at h1 h2
      rw [h1] at h2; cases h2
    | succ fuel ih =>
      intro listed a w1 inv hc
      refine ⟨fun hr => fin listed a w1 inv (allL listed inv.size hr), fun i hi => ?_⟩
      obtain ⟨h1, o, ho, hdeps⟩ := mem_ready.1 hi
      have hio : l[i]? = some o := by simpa using ho
      have hlt : i < l.length := (List.getElem?_eq_some_iff.1 hio).1
      have hls : i < listed.size := by rw [inv.size]; exact hlt
      have hun : listed.getD i false = false := by simp [hls] at h1 ⊢; exact h1
      have hok := opOk_of hB hio
      have hdl : ∀ d ∈ depsOf o, listed.getD d false = true := by
        intro d hd
        unfold depsOf at hd
        obtain ⟨e, he, hb⟩ := List.mem_filterMap.1 hd
        split at hb
        · rename_i hbb
          cases hb
          exact hdeps e (by simpa using he) hbb
        · cases hb
      have hcnt : cnt (fun k => (listed.setIfInBounds i true).getD k false) l.length ≤ fuel := by
        have := cnt_set (f := fun k => listed.getD k false) (g := fun k => (listed.setIfInBounds i true).getD k false) (i := i) (n := l.length) hlt hun (fun k => by
          by_cases hk : i = k
          · subst hk; simp [hls]
          · have hk' : (k == i) = false := by simp; omega
            simp only [getD_set_ne false hk, hk', Bool.or_false])
        omega
      have hkn : ∀ t ∈ readsOf l o, knownOf l R a0 o t (a.eval (.tmp t)) w1 := by
        intro t ht
        show knownOf l R a0 o t (a.tmps.getD t undef) w1
        unfold knownOf
        cases hsrc : srcOf l o t with
        | some j =>
          have hj := List.mem_of_find?_eq_some hsrc
          have hjt := List.find?_some hsrc
          have hjd : dstOf l j = some t := by simpa using hjt
          unfold dstOf at hjd
          cases hlj : l[j]? with
          | none => simp [hlj] at hjd
          | some oj =>
            simp [hlj] at hjd
            obtain ⟨v, hv, he⟩ := inv.known j oj hlj (hdl j hj)
            show R j (a.tmps.getD t undef) w1
            rw [he t hjd]; exact hv
        | none =>
          refine inv.rest t (fun j oj hlj hll hd => ?_)
          have hdj : dstOf l j = some t := by simp [dstOf, hlj, hd]
          have hne : j ≠ i := fun e => by subst e; rw [hun] at hll; cases hll
          simp only [opOk, Bool.and_eq_true, List.all_eq_true] at hok
          have h2 := hok.2 j (List.mem_range.2 (List.getElem?_eq_some_iff.1 hlj).1)
          simp only [hdj, hlj] at h2
          have ht' : (readsOf l o).contains t = true := by simpa using ht
          simp [hne, ht] at h2
          rcases h2.2 with h3 | h3
          · have := List.find?_eq_none.1 hsrc j h3
            simp [hdj] at this
          · have := inv.closed j oj hlj hll i h3
            rw [hun] at this; cases this
      have hpre : ∀ s, preB l s i = true → Pre s w1 := by
        intro s hb
        refine inv.pre s ?_
        cases hc : listed.getD s false with
        | false => rfl
        | true =>
          exfalso
          simp only [preB, Bool.or_eq_true, beq_iff_eq] at hb
          rcases hb with rfl | hb
          · rw [hun] at hc; cases hc
          · cases hos : l[s]? with
            | none => rw [hos] at hb; cases hb
            | some os =>
              rw [hos] at hb
              have := inv.closed s os hos hc i (by simpa using hb)
              rw [hun] at this; cases this
      have hsh := hs i o hio a.eval w1 ⟨fun _ => rfl, fun _ => rfl, fun _ => rfl⟩ ⟨inv.le, hpre⟩ (KnownAll.of hkn)
      have hwant : Region.wanted o (yielded l.toArray a.tmps) = wantedBy l o a.eval := by
        unfold Region.wanted wantedBy
        cases o.guard with
        | none => rfl
        | some g => simp only [yielded_eq]; rfl
      have step : ∀ v w2, LePs Le Pre i w1 w2 → R i v w2 → wpAny P .any l.toArray Q fuel (listed.setIfInBounds i true) (a.put o.dst v) w2 := by
        intro v w2 hle2 hv
        have hle := hle2.1
        refine ih _ _ _ ⟨by simp [inv.size], htrans _ _ _ inv.le hle, by rw [put_defers, inv.defers], by rw [put_size, inv.tmps], ?_, ?_, ?_, ?_⟩ hcnt
        · intro j oj hj hl d hd
          rcases listed_set hl with rfl | hl
          · rw [hio] at hj; cases hj
            exact getD_set_true (hdl d hd)
          · exact getD_set_true (inv.closed j oj hj hl d hd)
        · intro j oj hj hl
          rcases listed_set hl with rfl | hl2
          · rw [hio] at hj; cases hj
            refine ⟨v, hv, fun d hd => ?_⟩
            have hdn : d < n := by
              simp only [opOk, hd, Bool.and_eq_true, decide_eq_true_eq] at hok
              exact hok.1.1.1.2.1
            rw [hd, put_same _ _ _ (by rw [inv.tmps, hn]; exact hdn)]
          · by_cases hji : j = i
            · subst hji; rw [hun] at hl2; cases hl2
            · obtain ⟨v', hv', he'⟩ := inv.known j oj hj hl2
              refine ⟨v', hst j _ _ _ hv' hle, fun d hd => ?_⟩
              rw [put_other _ _ _ _ (fun hd' => by
                simp only [opOk, Bool.and_eq_true, List.all_eq_true] at hok
                have h2 := hok.2 j (List.mem_range.2 (List.getElem?_eq_some_iff.1 hj).1)
                have hdj : dstOf l j = some d := by simp [dstOf, hj, hd]
                simp [hdj, hd', hji] at h2)]
              exact he' d hd
        · intro s hns
          by_cases his : i = s
          · subst his; simp [hls] at hns
          · have hns2 : listed.getD s false = false := by
              rw [getD_set_ne false his] at hns; exact hns
            exact hle2.2 s (fun e => his e.symm) (inv.pre s hns2)
        · intro t ht
          have h1 : o.dst ≠ some t := ht i o hio (by simp [hls])
          rw [put_other _ _ _ _ h1]
          exact inv.rest t (fun j oj hj hl => ht j oj hj (getD_set_true hl))
      unfold wpOp
      simp only [ho, hwant]
      split
      · rename_i hw
        rw [hw] at hsh
        simp only [if_true] at hsh
        left
        unfold Oper.wp
        generalize (execOp a.eval o).run P w1 = r at hsh
        cases r with
        | halt x w' => exact hsh.elim
        | ok nx w' =>
          cases nx with
          | value v => exact step v w' hsh.1 hsh.2
          | skip => exact step undef w' hsh.1 hsh.2
          | enter f args =>
            obtain ⟨h2, h3⟩ := hsh
            exact h3.mono fun e w'' ⟨v, he, hle, hv⟩ => by subst he; exact step v w'' ⟨htrans _ _ _ h2.1 hle.1, fun s hb hp => hle.2 s hb (h2.2 s hb hp)⟩ hv
          | _ => exact hsh.elim
      · rename_i hw
        simp only [Bool.not_eq_true] at hw
        rw [hw] at hsh
        exact step undef w1 ⟨hrefl _, fun _ _ h => h⟩ (by simpa using hsh)
  refine wp_region_any hm ?_
  refine key l.toArray.size (Array.replicate l.toArray.size false) a0 w.drew ⟨by rw [Array.size_replicate, hsize], hdrew w, rfl, rfl, ?_, ?_, fun s _ => hp0 s, ?_⟩ ?_
  · intro j o _ hl; rw [getD_replicate_false'] at hl; cases hl
  · intro j o _ hl; rw [getD_replicate_false'] at hl; cases hl
  · intro t _; rfl
  · show cnt _ l.length ≤ l.toArray.size
    rw [hsize]; exact cnt_le _ _

theorem region_phases {Le : World → World → Prop} (Pre : Nat → World → Prop) (hrefl : ∀ w, Le w w) (htrans : ∀ a b c, Le a b → Le b c → Le a c) (hdrew : ∀ w, Le w w.drew) {id : Nat} {Q : Exit → Act → World → Prop} {a0 : Act} {w : World} (hp0 : ∀ s, Pre s w.drew) {l : List Oper} (n : Nat) (Rs : List (Value → World → Prop))
    (hm : P.follows .mixedOrders = true) (hB : anyB l n = true) (_ : true = true) (hlen : Rs.length = l.length) (hn : a0.tmps.size = n) (hst : AllStable Le Rs)
    (hs : AllShownPs P Le Pre l Rs a0 w l 0) (hfin : ∀ w1 val, Le w w1 → Holds val w1 Rs 0 → Q .normal (putAll val l 0 a0) w1) : (Code.region id l.toArray true).wp P Q a0 w :=
  region_any_phases hrefl htrans hdrew n (nth Rs) hm hB hn (fun i v w1 w2 => hst.get i v w1 w2) hp0 (fun i o hi => by simpa using hs.get i o hi)
    (fun w1 val hg h => by
      have hex : ∀ i, ∃ v, (i < l.length → nth Rs i v w1) ∧ ∀ o, l[i]? = some o → o.dst.isSome = true → val i = v := by
        intro i
        by_cases hi : i < l.length
        · obtain ⟨v, hv, he⟩ := h i l[i] (by simp [hi])
          exact ⟨v, fun _ => hv, fun o ho hd => by rw [List.getElem?_eq_getElem hi] at ho; cases ho; exact he hd⟩
        · exact ⟨undef, fun h => absurd h hi, fun o ho => by rw [List.getElem?_eq_none (by omega)] at ho; cases ho⟩
      obtain ⟨val2, h2⟩ := Classical.axiomOfChoice hex
      rw [putAll_congr (f := val) (g := val2) l 0 a0 fun i o hi hd => by rw [Nat.zero_add]; exact (h2 i).2 o hi hd]
      exact hfin w1 val2 hg (Holds.of fun i hi => by rw [Nat.zero_add]; exact (h2 i).1 (by omega)))
/-- a block in which one cell is the slice of the append -/
def GoodF (row : Option Nat) (B : Option Obj) (base : Nat) (t e : TypeId) (size n : Nat) (xs : List Value) (N g : Nat) (F : Value → List Value) (w : World) : Prop := ∃ v, Blk w g t (F v) ∧ Apn row B base e size n xs N v w
section
variable {row : Option Nat} {A B : Option Obj} {g : Nat} {Good : World → Prop} {base : Nat} {t e : TypeId} {size n : Nat} {xs : List Value} {N : Nat} {F : Value → List Value}
theorem GoodF.duo {w1 w2 : World} (h : GoodF row B base t e size n xs N g F w1) (hg : g < N) (hgr : some g ≠ row) (k : Duo row A B g Good w1 w2) (hs : w2.heap[g]? = w1.heap[g]?) : GoodF row B base t e size n xs N g F w2 := by
  obtain ⟨v, h1, h2⟩ := h
  exact ⟨v, hs.trans h1, h2.duo hg hgr k⟩
theorem GoodF.drew (hg : g < N) (hgr : some g ≠ row) (w : World) (h : GoodF row B base t e size n xs N g F w) : GoodF row B base t e size n xs N g F w.drew :=
  h.duo (A := none) (Good := fun _ => True) hg hgr (Duo.drew (fun _ _ => trivial) w) rfl
theorem duo_setF {v : Value} {w : World} {i : Nat} (hB : Blk (w.setCell ⟨g, i, none⟩ v) g t (F v)) (ha : Apn row B base e size n xs N v w) (hg : g < N) (hgr : some g ≠ row) :
    Duo row A B g (GoodF row B base t e size n xs N g F) w (w.setCell ⟨g, i, none⟩ v) ∧ GoodF row B base t e size n xs N g F (w.setCell ⟨g, i, none⟩ v) := by
  have hf := grown_set w g i v
  have k : Duo row A B g (fun _ => True) w (w.setCell ⟨g, i, none⟩ v) :=
    ⟨hf.os, hf.tape, hf.output, hf.size, fun k hk _ h => hf.block k hk (fun e => h (Option.some.inj e)), fun r hr => .inl (Below.heap_setCell w _ v r (fun e => hgr (by rw [hr, e]))), .inr trivial, fun _ => trivial⟩
  have good : GoodF row B base t e size n xs N g F (w.setCell ⟨g, i, none⟩ v) := ⟨v, hB, ha.duo hg hgr k⟩
  exact ⟨⟨k.os, k.tape, k.output, k.size, k.block, k.row, .inr good, fun _ => good⟩, good⟩
end
end
end Go.Proofs.YtpaogoehgkoaeaaGreatDoor
